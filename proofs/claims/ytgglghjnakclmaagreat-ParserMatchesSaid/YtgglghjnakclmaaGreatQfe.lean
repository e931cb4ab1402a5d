/- Texts packed together by program; spaces struck by program. Conditions: as each theorem states. -/
import Derived.Carry
import Derived.OpenShut
import Derived.ProofKit
import Derived.SizedLaws
import Derived.Test.YtgglghjnakclmaaGreatQfd
set_option linter.unusedSimpArgs false
set_option linter.unusedVariables false
set_option maxRecDepth 20000
namespace Go.Vc
open Go Go.RowKit Go.ChangeShapes Go.WideShapes
section
variable {H:Type} {enc:TypeId×Value→H} {P:Program} {W:World}
def cX (enc:TypeId×Value→H) (P:Program) (W:World) (t:TypeId) (cs:List Value):Prop:= ∃fuel x,DataW.trod enc P W 0 (fun _=>true) true fuel t cs=some x
theorem cX.int {t:TypeId} {k:IntKind} {cs:List Value} (h:cX enc P W t cs) (ht:P.underlying t=some (.int k)): ∃n,cs= [.int k n]∧(Lit.int k n).wf=true:=by
 obtain ⟨m,x,h⟩:=h
 obtain ⟨n,h1,_,h2⟩:=DataW.trod_int ht h
 exact ⟨n,h1,h2⟩
theorem cX.bool {t:TypeId} {cs:List Value} (h:cX enc P W t cs) (ht:P.underlying t=some .bool): ∃b,cs= [.bool b]:=by
 obtain ⟨m,x,h⟩:=h
 obtain ⟨n,h1,_⟩:=DataW.trod_bool ht h
 exact ⟨n,h1⟩
theorem cX.string {t:TypeId} {cs:List Value} (h:cX enc P W t cs) (ht:P.underlying t=some .string): ∃s:ByteArray,cs= [.string s]∧s.size≤maxLen:=by
 obtain ⟨m,x,h⟩:=h
 obtain ⟨n,h1,_,h2⟩:=DataW.trod_string ht h
 exact ⟨n,h1,h2⟩
theorem pB {a:Addr} {n:Nat} {cs:List Value} (h:W.cells? 0 a n=some cs):cs.length=n∧∀i (hi:i<cs.length),W.cell? (a.add i)=some cs[i]:=by
 unfold World.cells? at h
 rw [if_pos (Nat.zero_le _)] at h
 have hl:cs.length=n:=by simpa using mapM_some_length h
 refine ⟨hl,fun i hi=> ?_⟩
 have:=mapM_some_get h i i (List.getElem?_range (by omega))
 rw [this,List.getElem?_eq_getElem hi]
theorem mW {α:Type} {sz:Nat}: ∀{xs:List (List α)} (_: ∀x∈xs,x.length=sz) (i j:Nat) (hi:i<xs.length) (_:j<sz),xs.flatten[i*sz+j]? =xs[i][j]?
 |x::xs,h,0,j,_,hj=>by
  have hx:=h x (by simp)
  rw [List.flatten_cons,List.getElem?_append_left (by omega),Nat.zero_mul,Nat.zero_add];rfl
 |x::xs,h,i+1,j,hi,hj=>by
  have hx:=h x (by simp)
  rw [List.flatten_cons,List.getElem?_append_right (by rw [hx,Nat.succ_mul];omega),hx,show (i+1)*sz+j - sz=i*sz+j by rw [Nat.succ_mul];omega,
   mW (fun y hy=>h y (List.mem_cons_of_mem _ hy)) i j (by simpa using hi) hj]
  rfl
theorem mZ {α:Type} {sz:Nat}: ∀{xs:List (List α)} (_: ∀x∈xs,x.length=sz),xs.flatten.length=xs.length*sz
 | [],_=>by simp
 |x::xs,h=>by
  rw [List.flatten_cons,List.length_append,h x (by simp),mZ (fun y hy=>h y (List.mem_cons_of_mem _ hy)),List.length_cons,Nat.succ_mul];omega
theorem cX.slice {t e:TypeId} {cs:List Value} (h:cX enc P W t cs) (ht:P.underlying t=some (.slice e)):
  ∃(s:Sl) (xs:List (List Value)),cs= [.slice s.base s.len s.cap]∧s.len≤s.cap∧s.cap≤maxLen∧xs.length=s.len∧(∀x∈xs,cX enc P W e x)∧(∀x∈xs,x.length=P.cellsOf e)∧aR (P.cellsOf e) s xs.flatten W:=by
 obtain ⟨m,x,h⟩:=h
 rcases DataW.trod_slice ht h with ⟨h1,_⟩|⟨a,len,cap,elems,rest,n,rfl,h1,_,_,hlc,hcm,hel,hget,_⟩
 ·exact ⟨⟨none,0,0⟩,[],h1,Nat.le_refl _,Nat.zero_le _,rfl,by simp,by simp,by simp,by simp⟩
 ·have hx: ∀i,i<len→∃cs,W.cells? 0 (a.add (i*P.cellsOf e)) (P.cellsOf e)=some cs∧cX enc P W e cs:=by
   intro i hi
   have:=hget i hi
   rw [List.getElem?_eq_getElem (by omega)] at this
   obtain ⟨cs,h2,h3⟩:=Option.bind_eq_some_iff.1 this
   exact ⟨cs,h2,n,_,h3⟩
  have key: ∀k,k≤len→∃xs:List (List Value),xs.length=k∧∀i (hi:i<xs.length),W.cells? 0 (a.add (i*P.cellsOf e)) (P.cellsOf e)=some xs[i]∧cX enc P W e xs[i]:=by
   intro k
   induction k with
   |zero=>exact fun _=>⟨[],rfl,fun i hi=>by simp at hi⟩
   |succ k ih=>
    intro hk
    obtain ⟨xs,hl,hxs⟩:=ih (by omega)
    obtain ⟨cs,h2,h3⟩:=hx k (by omega)
    refine ⟨xs++ [cs],by simp [hl],fun i hi=> ?_⟩
    by_cases hik:i<xs.length
    ·rw [List.getElem_append_left hik];exact hxs i hik
    ·have:i=k:=by simp [hl] at hi;omega
     subst this
     rw [List.getElem_append_right (by omega)]
     simp only [hl,Nat.sub_self,List.getElem_cons_zero]
     exact ⟨h2,h3⟩
  obtain ⟨xs,hl,hxs⟩:=key len (Nat.le_refl _)
  have hsz: ∀x∈xs,x.length=P.cellsOf e:=by
   intro x hx
   obtain ⟨i,hi,rfl⟩:=List.getElem_of_mem hx
   exact (pB (hxs i hi).1).1
  refine ⟨⟨some a,len,cap⟩,xs,h1,hlc,hcm,hl,fun x hx=> ?_,hsz,?_,fun i hi=>⟨a,rfl,?_⟩⟩
  ·obtain ⟨i,hi,rfl⟩:=List.getElem_of_mem hx
   exact (hxs i hi).2
  ·rw [mZ hsz,hl]
  ·rw [mZ hsz,hl] at hi
   have hz:0<P.cellsOf e:=by
    rcases Nat.eq_zero_or_pos (P.cellsOf e) with h0|h0
    ·rw [h0] at hi;simp at hi
    ·exact h0
   have e1:i/P.cellsOf e*P.cellsOf e+i % P.cellsOf e=i:=by rw [Nat.mul_comm];exact Nat.div_add_mod i _
   have hq:i/P.cellsOf e<xs.length:=by rw [hl];exact (Nat.div_lt_iff_lt_mul hz).2 hi
   have hr:=Nat.mod_lt i hz
   obtain ⟨c1,c2⟩:=pB (hxs _ hq).1
   have c3:=c2 (i % P.cellsOf e) (by omega)
   have c4:=mW hsz _ _ hq hr
   have c5:(a.add (i/P.cellsOf e*P.cellsOf e)).add (i % P.cellsOf e)=a.add i:=by
    conv=>rhs;rw [←e1]
    unfold Addr.add
    by_cases e1:i/P.cellsOf e*P.cellsOf e=0<;>by_cases e2:i % P.cellsOf e=0<;>simp [e1,e2,Nat.add_assoc]
   rw [c5] at c3
   rw [c3,←List.getElem?_eq_getElem,←c4]
   simp only [e1]
   exact List.getElem?_eq_getElem _
theorem cX.struct {t:TypeId} {fs:Array Field} {cs:List Value} (h:cX enc P W t cs) (ht:P.underlying t=some (.struct fs)):cs.length=P.cellsOf t∧∀(i:Nat) (f:Field),fs[i]? =some f→cX enc P W f.type ((cs.drop f.offset).take (P.cellsOf f.type)):=by
 obtain ⟨m,x,h⟩:=h
 obtain ⟨xs,n,_,_,h2,h3,h4⟩:=DataW.trod_struct ht h
 refine ⟨h2,fun i f hf=> ?_⟩
 have hi:i<fs.size:=by
  rcases Nat.lt_or_ge i fs.size with hh|hh
  ·exact hh
  ·rw [Array.getElem?_eq_none hh] at hf;cases hf
 have:=h4 i f hf
 rw [List.getElem?_eq_getElem (by omega)] at this
 exact ⟨n,_,this⟩
def wK (P:Program) (t:TypeId) (i:Nat) (ft:TypeId) (off n:Nat):Bool:=match P.underlying t with
 |some (.struct fs)=>match fs[i]? with
  |some f=>f.type==ft&&f.offset==off&&P.cellsOf ft==n
  |none=>false
 |_=>false
def tV (P:Program) (t:TypeId) (n:Nat):Bool:=match P.underlying t with
 |some (.struct _)=>P.cellsOf t==n
 |_=>false
theorem cX.field {t:TypeId} {cs:List Value} (h:cX enc P W t cs) (i:Nat) (ft:TypeId) (off n:Nat) (hf:wK P t i ft off n=true):cX enc P W ft ((cs.drop off).take n):=by
 unfold wK at hf
 split at hf
 ·rename_i fs ht
  split at hf
  ·rename_i f hfi
   simp only [Bool.and_eq_true,beq_iff_eq] at hf
   obtain ⟨⟨rfl,rfl⟩,rfl⟩:=hf
   exact (h.struct ht).2 i f hfi
  ·cases hf
 ·cases hf
theorem cX.Dr {t:TypeId} {cs:List Value} (h:cX enc P W t cs) (n:Nat) (hf:tV P t n=true):cs.length=n:=by
 unfold tV at hf
 split at hf
 ·rename_i fs ht
  have:=(h.struct ht).1
  simp only [beq_iff_eq] at hf
  rw [this,hf]
 ·cases hf
theorem cX.array {t e:TypeId} {n:Nat} {cs:List Value} (h:cX enc P W t cs) (ht:P.underlying t=some (.array n e)):cs.length=P.cellsOf t∧∀i,i<n→cX enc P W e ((cs.drop (i*P.cellsOf e)).take (P.cellsOf e)):=by
 obtain ⟨m,x,h⟩:=h
 obtain ⟨xs,n',_,_,h2,h3,h4⟩:=DataW.trod_array ht h
 refine ⟨h2,fun i hi=> ?_⟩
 have:=h4 i hi
 rw [List.getElem?_eq_getElem (by omega)] at this
 exact ⟨n',_,this⟩
theorem mw {α β:Type} {g:α→β} {Good:α→Prop}: ∀{xs:List β} (_: ∀x∈xs,∃a,x=g a∧Good a),∃l:List α,xs=l.map g∧∀a∈l,Good a
 | [],_=>⟨[],rfl,by simp⟩
 |x::xs,h=>by
  obtain ⟨a,rfl,ha⟩:=h x (by simp)
  obtain ⟨l,rfl,hl⟩:=mw (fun y hy=>h y (List.mem_cons_of_mem _ hy))
  exact ⟨a::l,rfl,by simpa using ⟨ha,hl⟩⟩
theorem lR {α β:Type} {g:α→β} (l:List α):(l.map fun a=> [g a]).flatten=l.map g:=by
 induction l with
 |nil=>rfl
 |cons a l ih=>simp [ih]
theorem wf_u8 {n:Int} (h:(Lit.int .u8 n).wf=true):0≤n∧n≤255:=by
 simp [Lit.wf,IntKind.min,IntKind.max,IntKind.signed,IntKind.bits] at h
 exact h
def l5 (W:World) (s:Sl) (b:List Nat):Prop:=aR 1 s (b.map vB) W∧(∀y∈b,y<256)∧s.len≤s.cap∧s.cap≤maxLen
theorem cX.bytes {t e:TypeId} {cs:List Value} (h:cX enc P W t cs) (ht:P.underlying t=some (.slice e)) (he:P.underlying e=some (.int .u8)) (hc:P.cellsOf e=1): ∃s b,cs= [.slice s.base s.len s.cap]∧l5 W s b:=by
 obtain ⟨s,xs,h1,h2,h3,h4,h5,h6,h7⟩:=h.slice ht
 obtain ⟨l,rfl,hl⟩:=mw (g:=fun y:Nat=> [vB y]) (Good:=fun y=>y<256) (xs:=xs) fun x hx=>by
  obtain ⟨n,rfl,hn⟩:=(h5 x hx).int he
  have:=wf_u8 hn
  obtain ⟨m,rfl⟩:=Int.eq_ofNat_of_zero_le this.1
  exact ⟨m,rfl,by omega⟩
 rw [lR,hc] at h7
 exact ⟨s,l,h1,h7,hl,h2,h3⟩
theorem cX.ints {t e:TypeId} {k:IntKind} {cs:List Value} (h:cX enc P W t cs) (ht:P.underlying t=some (.slice e)) (he:P.underlying e=some (.int k)) (hc:P.cellsOf e=1):
  ∃s,∃l:List Int,cs= [.slice s.base s.len s.cap]∧aR 1 s (l.map (.int k)) W∧(∀y∈l,(Lit.int k y).wf=true)∧s.len≤s.cap∧s.cap≤maxLen:=by
 obtain ⟨s,xs,h1,h2,h3,h4,h5,h6,h7⟩:=h.slice ht
 obtain ⟨l,rfl,hl⟩:=mw (g:=fun y:Int=> [Value.int k y]) (Good:=fun y=>(Lit.int k y).wf=true) (xs:=xs) fun x hx=>by
  obtain ⟨n,rfl,hn⟩:=(h5 x hx).int he
  exact ⟨n,rfl,hn⟩
 rw [lR,hc] at h7
 exact ⟨s,l,h1,h7,hl,h2,h3⟩
def Arg (enc:TypeId×Value→H) (P:Program) (W:World) (t:TypeId) (v:Value):Prop:=(∃base,Value.okWide P W .any base t v)∧cX enc P W t v.cells.toList
def uB (enc:TypeId×Value→H) (P:Program) (W:World):List TypeId→List Value→Prop
 | [],vs=>vs= []
 |t::ts,vs=> ∃v vs',vs=v::vs'∧Arg enc P W t v∧uB enc P W ts vs'
theorem Arg.one {t:TypeId} {v:Value} (h:Arg enc P W t v) (hv:v.cells.toList= [v]):cX enc P W t [v]:=by
 have:=h.2
 rwa [hv] at this
theorem Arg.slice {t e:TypeId} {v:Value} (h:Arg enc P W t v) (ht:P.underlying t=some (.slice e)):cX enc P W t [v]:=by
 obtain ⟨base,hb⟩:=h.1
 obtain ⟨a,l,c,rfl⟩:=okWide_slice ht hb
 exact h.one rfl
theorem Arg.bytes {t e:TypeId} {v:Value} (h:Arg enc P W t v) (ht:P.underlying t=some (.slice e)) (he:P.underlying e=some (.int .u8)) (hc:P.cellsOf e=1): ∃s b,v= .slice s.base s.len s.cap∧l5 W s b:=by
 obtain ⟨s,b,h1,h2⟩:=(h.slice ht).bytes ht he hc
 exact ⟨s,b,by simpa using h1,h2⟩
theorem Arg.ints {t e:TypeId} {k:IntKind} {v:Value} (h:Arg enc P W t v) (ht:P.underlying t=some (.slice e)) (he:P.underlying e=some (.int k)) (hc:P.cellsOf e=1):
  ∃s,∃l:List Int,v= .slice s.base s.len s.cap∧aR 1 s (l.map (.int k)) W∧(∀y∈l,(Lit.int k y).wf=true)∧s.len≤s.cap∧s.cap≤maxLen:=by
 obtain ⟨s,l,h1,h2⟩:=(h.slice ht).ints ht he hc
 exact ⟨s,l,by simpa using h1,h2⟩
theorem Arg.int {t:TypeId} {k:IntKind} {v:Value} (h:Arg enc P W t v) (ht:P.underlying t=some (.int k)): ∃n,v= .int k n∧(Lit.int k n).wf=true:=by
 obtain ⟨base,hb⟩:=h.1
 obtain ⟨n,rfl⟩:=okWide_int ht hb
 obtain ⟨m,h1,h2⟩:=(h.one rfl).int ht
 cases h1
 exact ⟨n,rfl,h2⟩
theorem Arg.string {t:TypeId} {v:Value} (h:Arg enc P W t v) (ht:P.underlying t=some .string): ∃s:ByteArray,v= .string s∧s.size≤maxLen:=by
 obtain ⟨base,hb⟩:=h.1
 obtain ⟨n,rfl⟩:=okWide_string ht hb
 obtain ⟨m,h1,h2⟩:=(h.one rfl).string ht
 cases h1
 exact ⟨n,rfl,h2⟩
theorem Arg.struct {t:TypeId} {fs:Array Field} {v:Value} (h:Arg enc P W t v) (ht:P.underlying t=some (.struct fs)): ∃cs,v= .agg cs∧cX enc P W t cs.toList:=by
 obtain ⟨base,hb⟩:=h.1
 obtain ⟨cs,rfl,_⟩:=okWide_struct ht hb
 exact ⟨cs,rfl,h.2⟩
theorem uk: ∀{ts:List TypeId} {vs:List Value} {ds:List (DataW H)} {ps:List MemPlace},DataW.TrodAll enc P W 0 (fun _=>true) true ts vs ds ps→(∀(j:Nat) t v,ts[j]? =some t→vs[j]? =some v→∃base,Value.okWide P W .any base t v)→uB enc P W ts vs
 | [],[],[],_,_,_=>rfl
 |t::ts,v::vs,d::ds,ps,h,hv=>by
  obtain ⟨p,q,⟨fuel,h1⟩,h2,_⟩:=h
  exact ⟨v,vs,rfl,⟨hv 0 t v rfl rfl,fuel,_,h1⟩,uk h2 fun j t' v' a b=>hv (j+1) t' v' a b⟩
theorem mL: ∀{ts:List TypeId} {vs:List Value} {ds:List (DataW H)} {ps:List MemPlace},DataW.TrodAll enc P W 0 (fun _=>true) true ts vs ds ps→ds.length=ts.length
 | [],[],[],_,_=>rfl
 |_::_,_::_,_::_,_,h=>by
  obtain ⟨p,q,_,h2,_⟩:=h
  simp [mL h2]
theorem kX (hl:laidOutB P=true) {W':World} (hb:Below W.heap.size W W'): ∀{ts:List TypeId} {vs:List Value} {ds:List (DataW H)} {ps:List MemPlace},DataW.TrodAll enc P W 0 (fun _=>true) true ts vs ds ps→
  (∀t∈ts,P.readableRec t=true∧t<P.types.size)→∃qs,DataW.TrodAll enc P W' 0 (fun b=>decide (b<W.heap.size)) true ts vs ds qs
 | [],[],[],_,_,_=>⟨[],rfl⟩
 |t::ts,v::vs,d::ds,ps,h,hr=>by
  obtain ⟨p,q,h1,h2,_⟩:=h
  obtain ⟨qs,h3⟩:=kX hl hb h2 fun t ht=>hr t (List.mem_cons_of_mem _ ht)
  obtain ⟨ht1,ht2⟩:=hr t (by simp)
  have hlt: ∀x∈p,x.block<W.heap.size:=by obtain ⟨m,hm⟩:=h1;exact DataW.trod_lt m _ _ _ hm
  exact ⟨_,p,qs,Below.trod hl ht1 ht2 h1 hb hlt,h3,rfl⟩
theorem xZ {C:Checked} {os:Os} {f:FuncId} {fn:Func} {s:ChangeSpec} {conds:List PathCond} {tb:TypeId}
  (own:ownKnob C.prog.godebug=none) (started:os.Started) (noInit:C.prog.inits.idxOf? f=none) (hfn:C.prog.funcs[f]? =some fn)
  (witness: ∃(w:World) (tape:Tape) (i:Input),w.os=os∧(w.forCall tape i).Shaped C.prog∧i.vars= []∧Input.okWide C.prog (w.forCall tape i) .any w.heap.size f i∧
   s.pre6 enc C.prog fn conds false (w.forCall tape i).memory i.args∧({}:Assume).holds C.prog (lone (Frame.enter C.prog f i.args .normal) [] (w.forCall tape i)))
  (hvars:s.vars= []) (hres:fn.resultTypes= #[tb]) (htb:C.prog.underlying tb=some .bool)
  (hspec: ∀ds:List (DataW H),ds.length=fn.params.toList.length→s.fn H ds={results:= [.lit (.bool true)],args:=ds})
  (laid:laidOutB C.prog=true) (hr:fn.params.toList.all (fun t=>C.prog.readableRec t&&decide (t<C.prog.types.size))=true)
  (contract: ∀(W:World) (args:Array Value) (ds:List (DataW H)),uB enc C.prog W fn.params.toList args.toList→(DataW.weightsEach C.prog fn.params.toList ds).all (·≤reachBytes)=true→
   Cl C.prog [kB] f args W (fun b w'=>b=true∧Below W.heap.size W w')):
  ReturnsInHanded {} C os f .any (s.pre6 enc C.prog fn conds false) (s.post enc C.prog fn false true false false):=by
 refine returnsInHanded_of_change_sized own started noInit hfn witness ?_
 intro W base args ds gs before hval hW _ hz _
 have hW':=hW
 obtain ⟨p,q,hA,hV,rfl,hfz,hnd⟩:=hW
 rw [hvars] at hV
 obtain ⟨rfl,rfl⟩:=trodVars_none hV
 have hlen:=mL hA
 have hz':(DataW.weightsEach C.prog fn.params.toList ds).all (·≤reachBytes)=true:=by
  have e:s.plain.varTypes C.prog= []:=by
   simp [DataSpec.varTypes,ChangeSpec.plain,hvars]
  rw [e,List.append_nil,List.append_nil] at hz
  exact hz
 have hargs:=uk (vs:=args.toList) hA fun j t v ht hv=>⟨base,hval j t v (by simpa using ht) (by simpa using hv)⟩
 refine Calls.mono (contract W args ds hargs hz') fun e W' hp=> ?_
 cases e with
 |returned v=>
  obtain ⟨b,hv,hb,bel⟩:=Ki.cj (k:=kB) hp
  subst hb
  have hv:v= .bool true:=hv
  subst hv
  have hsp:=hspec ds hlen
  obtain ⟨qs,hq⟩:=kX laid bel hA fun t ht=>by
   have:=List.all_eq_true.1 hr t ht
   simpa using this
  refine ⟨_,rfl,ds,[],_,[],qs,[],hW',?_,?_,?_,bel.frame _,fun h=>by cases h⟩
  ·rw [List.append_nil,hsp,hres]
   exact trodAll_mk1 (shut_bool htb _)
  ·rw [List.append_nil,hsp];exact hq
  ·rw [hvars]
   have:(s.fn H (ds++ [])).vars= []:=by rw [List.append_nil,hsp]
   rw [this];rfl
 |_=>exact absurd hp (by intro h;exact h)
end
end Go.Vc
set_option maxRecDepth 20000
namespace Go.Vc
open Go Go.RowKit Go.ChangeShapes Go.WideShapes
section
variable {H:Type} {enc:TypeId×Value→H} {P:Program} {W:World}
theorem Arg.agg {t e:TypeId} {n:Nat} {v:Value} (h:Arg enc P W t v) (ht:P.underlying t=some (.array n e)): ∃cs,v= .agg cs∧cX enc P W t cs.toList:=by
 obtain ⟨base,hb⟩:=h.1
 simp only [Value.okWide,ht] at hb
 obtain ⟨cs,rfl,_⟩:=hb
 exact ⟨cs,rfl,h.2⟩
end
end Go.Vc
set_option maxRecDepth 20000
namespace Go.Proofs.YtgglghjnakclmaaGreat
open Go Go.Vc Go.RowKit Go.ChangeShapes Go.WideShapes
theorem yY {H:Type} {enc:TypeId×Value→H} {W:World} {v:Value} (a:Arg enc Tryz.prog W 29 v): ∃(x:eg) (t:List Nat),v= .agg ⟨bK eJ x⟩∧l5 W x.2.2.2.2.2.1 t:=by
 obtain ⟨cs,rfl,e⟩:=a.struct (fs:=Tryz.prog.fieldsOf 29) (by kernel_rfl)
 have hl:=e.Dr 7 (by kernel_rfl)
 have g0:=e.field 0 5 0 1 (by kernel_rfl)
 have g1:=e.field 1 3 1 1 (by kernel_rfl)
 have g2:=e.field 2 25 2 3 (by kernel_rfl)
 have g3:=e.field 3 26 5 1 (by kernel_rfl)
 have g4:=e.field 4 27 6 1 (by kernel_rfl)
 have k0:=g2.field 0 3 0 1 (by kernel_rfl)
 have k1:=g2.field 1 3 1 1 (by kernel_rfl)
 have k2:=g2.field 2 23 2 1 (by kernel_rfl)
 obtain ⟨x0,h0,_⟩:=g0.int (k:= .u8) (by kernel_rfl)
 obtain ⟨x1,h1,_⟩:=g1.int (k:= .i64) (by kernel_rfl)
 obtain ⟨x2,h2,_⟩:=k0.int (k:= .i64) (by kernel_rfl)
 obtain ⟨x3,h3,_⟩:=k1.int (k:= .i64) (by kernel_rfl)
 obtain ⟨x4,h4,_⟩:=k2.int (k:= .u32) (by kernel_rfl)
 obtain ⟨sl,t,h5,hby⟩:=g3.bytes (e:=5) (by kernel_rfl) (by kernel_rfl) (by kernel_rfl)
 obtain ⟨x6,h6,_⟩:=g4.int (k:= .i64) (by kernel_rfl)
 obtain ⟨l⟩:=cs
 dsimp only at hl h0 h1 h2 h3 h4 h5 h6
 match l,hl with
 | [a0,a1,a2,a3,a4,a5,a6],_=>
  simp only [List.drop_zero,List.take_succ_cons,List.take_zero,List.cons.injEq,and_true,List.drop_succ_cons,List.take_nil,List.drop_nil] at h0 h1 h2 h3 h4 h5 h6
  refine ⟨(x0,x1,x2,x3,x4,sl,x6,()),t,?_,hby⟩
  subst h0 h1 h2 h3 h4 h5 h6
  rfl
end Go.Proofs.YtgglghjnakclmaaGreat
