/- Texts packed together by program; spaces struck by program. Conditions: as each theorem states. -/
import Derived.Laws.AppendOwn
import Derived.Laws.BytesArg
import Derived.Laws.IdiomStrings
import Derived.Lib.BytesEntry
import Derived.Test.YtcdpblipagajiaaGreatQob
set_option linter.unusedSimpArgs false
set_option linter.unusedVariables false
namespace Go.Proofs.YtcdpblipagajiaaGreat
open Go Go.Vc
set_option maxRecDepth 100000 in
def mtf_Put.E (l1:(Array Value)) (c2:Int) (R:(Array Value)→Int→World→Prop) (w:World):Prop:=
 Nw 108 l1 w fun (b4:Nat) (w_3:World)=>
 Nw 108 ⟨List.replicate 256 (.int .u8 0)⟩ w_3 fun (b6:Nat) (w_5:World)=>
 Slc (⟨some (⟨b4,0,none⟩:Addr),256,256⟩:Sl) 0 256 256 1 fun (s7:Sl)=>
 Cl Tryz.prog [kI] n_bytes_IndexByte ⟨[(.slice s7.base s7.len s7.cap),(.int .u8 c2)]⟩ w_5 fun (r9:Int) (w_8:World)=>
 Ld (.arr 256) (⟨b4,0,none⟩:Addr) w_8 fun (x10:(Array Value))=>
 Cl Tryz.prog [(.arr 256),(kInt .u8),kB] n_mtf_Take ⟨[(.agg x10),(.int .i64 r9)]⟩ w_8 fun (r12:(Array Value)) (r13:Int) (r14:Bool) (w_11:World)=>
 StA 256 (⟨b6,0,none⟩:Addr) r12 w_11 fun (w_15:World)=>
 Ld (.arr 256) (⟨b6,0,none⟩:Addr) w_15 fun (x16:(Array Value))=>
 StA 256 (⟨b6,0,none⟩:Addr) x16 w_15 fun (w_17:World)=>
 Ld (.arr 256) (⟨b6,0,none⟩:Addr) w_17 fun (res18:(Array Value))=>
 R (res18) (r9) w_17
set_option maxRecDepth 100000 in
theorem mtf_Put.ok (l1:(Array Value)) (c2:Int) (R:(Array Value)→Int→World→Prop) (w:World) (h:mtf_Put.E l1 c2 R w):Cl Tryz.prog [(.arr 256),kI] n_mtf_Put ⟨[(.agg l1),(.int .u8 c2)]⟩ w R:=
 calls_of_eq Tryz.mix Tryz.f134 [(.agg l1),(.int .u8 c2)] [(.arr 256),kI] R 18 [.cell 4 108,.tmp 5] (by kernel_rfl) (by kernel_rfl) (by kernel_rfl) (by kernel_rfl) (by kernel_rfl)
  (.s .o (.s .o (.s .o (.s .o .o))))
  (by kernel_rfl) h
set_option maxRecDepth 100000 in
def mtf_New.E (R:(Array Value)→World→Prop) (w:World):Prop:=
 Nw 108 ⟨List.replicate 256 (.int .u8 0)⟩ w fun (b2:Nat) (w_1:World)=>
 ∃(I_3:Int→World→Prop) (m_4:Int→World→Nat),I_3 (0) w_1∧
 ∀(t2_5:Int),∀(w_6:World),I_3 t2_5 w_6→
 IfB (decide ((t2_5:Int)<(256:Int)))
 (IdxP (⟨b2,0,none⟩:Addr) 256 t2_5 1 fun (q7:Addr)=>
 St q7 (.int .u8 (u8 t2_5)) w_6 fun (w_8:World)=>
 I_3 ((i64 ((t2_5:Int)+(1:Int)))) w_8∧m_4 ((i64 ((t2_5:Int)+(1:Int)))) w_8<m_4 t2_5 w_6)
 (Ld (.arr 256) (⟨b2,0,none⟩:Addr) w_6 fun (x9:(Array Value))=>
 StA 256 (⟨b2,0,none⟩:Addr) x9 w_6 fun (w_10:World)=>
 Ld (.arr 256) (⟨b2,0,none⟩:Addr) w_10 fun (res11:(Array Value))=>
 R (res11) w_10)
set_option maxRecDepth 100000 in
theorem mtf_New.ok (R:(Array Value)→World→Prop) (w:World) (h:mtf_New.E R w):Cl Tryz.prog [(.arr 256)] n_mtf_New ⟨[]⟩ w R:=
 calls_of_eq Tryz.mix Tryz.f136 [] [(.arr 256)] R 11 [.cell 0 108] (by kernel_rfl) (by kernel_rfl) (by kernel_rfl) (by kernel_rfl) (by kernel_rfl)
  (.s .o (.s (.s .o (.b (.l [(2,kI)] (.s .o (.s (.c .o .o) (.s (.b (.s .o .o)) .o)))))) (.s .o .o)))
  (by kernel_rfl) h
set_option maxRecDepth 100000 in
def mtf_Valid.E (l1:(Array Value)) (R:Bool→World→Prop) (w:World):Prop:=
 Nw 108 l1 w fun (b3:Nat) (w_2:World)=>
 Nw 171 ⟨List.replicate 256 (.int .i64 0)⟩ w_2 fun (b5:Nat) (w_4:World)=>
 Ld (.arr 256) (⟨b3,0,none⟩:Addr) w_4 fun (x6:(Array Value))=>
 ∃(I_7:Int→World→Prop) (m_8:Int→World→Nat),I_7 (0) w_4∧
 ∀(t7_9:Int),∀(w_10:World),I_7 t7_9 w_10→
 IfB (decide ((t7_9:Int)<(256:Int)))
 (IdxV (.int .u8) x6 256 t7_9 fun (e11:Int)=>
 IdxP (⟨b5,0,none⟩:Addr) 256 e11 1 fun (q12:Addr)=>
 St q12 (.int .i64 1) w_10 fun (w_13:World)=>
 I_7 ((i64 ((t7_9:Int)+(1:Int)))) w_13∧m_8 ((i64 ((t7_9:Int)+(1:Int)))) w_13<m_8 t7_9 w_10)
 (Held w_10 fun (S14:World→Prop) (w_15:World)=>
 LdS (.arr 256) (⟨b5,0,none⟩:Addr) S14 fun (x16:(Array Value))=>
 Cl Tryz.prog [(.arr 256)] n_mtf_ones ⟨[]⟩ w_15 fun (r18:(Array Value)) (w_17:World)=>
 S14 w_17∧
 EqA .i64 256 x16 r18 fun (eq19:Bool)=>
 R (eq19) w_17)
set_option maxRecDepth 100000 in
theorem mtf_Valid.ok (l1:(Array Value)) (R:Bool→World→Prop) (w:World) (h:mtf_Valid.E l1 R w):Cl Tryz.prog [kB] n_mtf_Valid ⟨[(.agg l1)]⟩ w R:=
 calls_of_eq Tryz.mix Tryz.f173 [(.agg l1)] [kB] R 16 [.tmp 2] (by kernel_rfl) (by kernel_rfl) (by kernel_rfl) (by kernel_rfl) (by kernel_rfl)
  (.s .o (.s .o (.s (.s .o (.b (.l [(7,kI)] (.s .o (.s (.c .o .o) (.s (.b (.s .o .o)) .o)))))) (.s .o .o))))
  (by kernel_rfl) h
set_option maxRecDepth 100000 in
def mtf_Take.E (l1:(Array Value)) (place2:Int) (R:(Array Value)→Int→Bool→World→Prop) (w:World):Prop:=
 Nw 108 l1 w fun (b4:Nat) (w_3:World)=>
 Nw 108 ⟨List.replicate 256 (.int .u8 0)⟩ w_3 fun (b6:Nat) (w_5:World)=>
 IfB (decide ((place2:Int)<(0:Int)))
 (Ld (.arr 256) (⟨b4,0,none⟩:Addr) w_5 fun (x7:(Array Value))=>
 StA 256 (⟨b6,0,none⟩:Addr) x7 w_5 fun (w_8:World)=>
 Ld (.arr 256) (⟨b6,0,none⟩:Addr) w_8 fun (res9:(Array Value))=>
 R (res9) (0) (false) w_8)
 (IfB (decide ((place2:Int)≥(256:Int)))
 (Ld (.arr 256) (⟨b4,0,none⟩:Addr) w_5 fun (x10:(Array Value))=>
 StA 256 (⟨b6,0,none⟩:Addr) x10 w_5 fun (w_11:World)=>
 Ld (.arr 256) (⟨b6,0,none⟩:Addr) w_11 fun (res12:(Array Value))=>
 R (res12) (0) (false) w_11)
 (Drw w_5 fun (w_13:World)=>
 Ld (.arr 256) (⟨b4,0,none⟩:Addr) w_13 fun (x14:(Array Value))=>
 IdxP (⟨b4,0,none⟩:Addr) 256 place2 1 fun (q15:Addr)=>
 Ld (kInt .u8) q15 w_13 fun (x16:Int)=>
 StA 256 (⟨b6,0,none⟩:Addr) x14 w_13 fun (w_17:World)=>
 Drw w_17 fun (w_18:World)=>
 Slc (⟨some (⟨b6,0,none⟩:Addr),256,256⟩:Sl) 1 (i64 ((place2:Int)+(1:Int))) 256 1 fun (s19:Sl)=>
 Slc (⟨some (⟨b4,0,none⟩:Addr),256,256⟩:Sl) 0 place2 256 1 fun (s20:Sl)=>
 Run Tryz.prog (Builtin.copy_ #[22,22] 3 ⟨[(.slice s19.base s19.len s19.cap),(.slice s20.base s20.len s20.cap)]⟩) kI w_18 fun (n22:Int) (w_21:World)=>
 IdxP (⟨b6,0,none⟩:Addr) 256 0 1 fun (q23:Addr)=>
 St q23 (.int .u8 x16) w_21 fun (w_24:World)=>
 Ld (.arr 256) (⟨b6,0,none⟩:Addr) w_24 fun (x25:(Array Value))=>
 StA 256 (⟨b6,0,none⟩:Addr) x25 w_24 fun (w_26:World)=>
 Ld (.arr 256) (⟨b6,0,none⟩:Addr) w_26 fun (res27:(Array Value))=>
 R (res27) (x16) (true) w_26))
set_option maxRecDepth 100000 in
theorem mtf_Take.ok (l1:(Array Value)) (place2:Int) (R:(Array Value)→Int→Bool→World→Prop) (w:World) (h:mtf_Take.E l1 place2 R w):Cl Tryz.prog [(.arr 256),(kInt .u8),kB] n_mtf_Take ⟨[(.agg l1),(.int .i64 place2)]⟩ w R:=
 calls_of_eq Tryz.mix Tryz.f175 [(.agg l1),(.int .i64 place2)] [(.arr 256),(kInt .u8),kB] R 28 [.cell 4 108,.tmp 5,.tmp 6] (by kernel_rfl) (by kernel_rfl) (by kernel_rfl) (by kernel_rfl) (by kernel_rfl)
  (.s .o (.s (.s .o (.c (.s .o .o) .o)) (.s .o (.s .o (.s .o (.s .o .o))))))
  (by kernel_rfl) h
set_option maxRecDepth 100000 in
def mtf_ones.E (R:(Array Value)→World→Prop) (w:World):Prop:=
 Nw 171 ⟨List.replicate 256 (.int .i64 0)⟩ w fun (b2:Nat) (w_1:World)=>
 ∃(I_3:Int→World→Prop) (m_4:Int→World→Nat),I_3 (0) w_1∧
 ∀(t2_5:Int),∀(w_6:World),I_3 t2_5 w_6→
 IfB (decide ((t2_5:Int)<(256:Int)))
 (IdxP (⟨b2,0,none⟩:Addr) 256 t2_5 1 fun (q7:Addr)=>
 St q7 (.int .i64 1) w_6 fun (w_8:World)=>
 I_3 ((i64 ((t2_5:Int)+(1:Int)))) w_8∧m_4 ((i64 ((t2_5:Int)+(1:Int)))) w_8<m_4 t2_5 w_6)
 (Ld (.arr 256) (⟨b2,0,none⟩:Addr) w_6 fun (x9:(Array Value))=>
 StA 256 (⟨b2,0,none⟩:Addr) x9 w_6 fun (w_10:World)=>
 Ld (.arr 256) (⟨b2,0,none⟩:Addr) w_10 fun (res11:(Array Value))=>
 R (res11) w_10)
set_option maxRecDepth 100000 in
theorem mtf_ones.ok (R:(Array Value)→World→Prop) (w:World) (h:mtf_ones.E R w):Cl Tryz.prog [(.arr 256)] n_mtf_ones ⟨[]⟩ w R:=
 calls_of_eq Tryz.mix Tryz.f198 [] [(.arr 256)] R 9 [.cell 0 171] (by kernel_rfl) (by kernel_rfl) (by kernel_rfl) (by kernel_rfl) (by kernel_rfl)
  (.s .o (.s (.s .o (.b (.l [(2,kI)] (.s .o (.s (.c .o .o) (.s (.b (.s .o .o)) .o)))))) (.s .o .o)))
  (by kernel_rfl) h
end Go.Proofs.YtcdpblipagajiaaGreat
namespace Go.Proofs.YtcdpblipagajiaaGreat
open Go Go.Vc
set_option maxRecDepth 100000 in
def zerorun_Digits.E (n1:Int) (R:Sl→Int→World→Prop) (w:World):Prop:=
 Nw 33 ⟨[(.slice none 0 0)]⟩ w fun (b3:Nat) (w_2:World)=>
 IfB (decide ((n1:Int)<(0:Int)))
 (St (⟨b3,0,none⟩:Addr) (.slice none 0 0) w_2 fun (w_4:World)=>
 Ld kS (⟨b3,0,none⟩:Addr) w_4 fun (res5:Sl)=>
 R (res5) (2) w_4)
 (IfB (decide ((n1:Int)>(2147483647:Int)))
 (St (⟨b3,0,none⟩:Addr) (.slice none 0 0) w_2 fun (w_6:World)=>
 Ld kS (⟨b3,0,none⟩:Addr) w_6 fun (res7:Sl)=>
 R (res7) (2) w_6)
 (Cl Tryz.prog [kV] n_zerorun_down ⟨[(.int .i64 n1)]⟩ w_2 fun (r9:Value) (w_8:World)=>
 Rng Tryz.prog r9 [kI] w_8 (fun (l10:Nat) (rec_11:Nat→Obj) (y15:Int) (w_12:World) (Kt13 Kf14:World→Prop)=>
 Beg l10 rec_11 w_12 fun (w_16:World)=>
 Ld kS (⟨b3,0,none⟩:Addr) w_16 fun (x17:Sl)=>
 Nw 3 ⟨[(.int .i64 y15)]⟩ w_16 fun (b19:Nat) (w_18:World)=>
 Run Tryz.prog (Builtin.append_ #[33,33] 33 ⟨[(.slice x17.base x17.len x17.cap),(.slice (⟨some ⟨b19,0,none⟩,1,1⟩:Sl).base (⟨some ⟨b19,0,none⟩,1,1⟩:Sl).len (⟨some ⟨b19,0,none⟩,1,1⟩:Sl).cap)]⟩) kS w_18 fun (s21:Sl) (w_20:World)=>
 St (⟨b3,0,none⟩:Addr) (.slice s21.base s21.len s21.cap) w_20 fun (w_22:World)=>
 EndT l10 rec_11 w_22 Kt13)
 (fun (D23:Nat) (w_24:World)=>
 Ld kS (⟨b3,0,none⟩:Addr) w_24 fun (x25:Sl)=>
 St (⟨b3,0,none⟩:Addr) (.slice x25.base x25.len x25.cap) w_24 fun (w_26:World)=>
 Dfr (D23:: []:List Nat) w_26 fun (w_27:World)=>
 Ld kS (⟨b3,0,none⟩:Addr) w_27 fun (res28:Sl)=>
 R (res28) (0) w_27)
 (fun (D29:Nat) (w_30:World)=>
 Dfr (D29:: []:List Nat) w_30 fun (w_31:World)=>
 Ld kS (⟨b3,0,none⟩:Addr) w_31 fun (res32:Sl)=>
 R (res32) (0) w_31)))
set_option maxRecDepth 100000 in
theorem zerorun_Digits.ok (n1:Int) (R:Sl→Int→World→Prop) (w:World) (h:zerorun_Digits.E n1 R w):Cl Tryz.prog [kS,kI] n_zerorun_Digits ⟨[(.int .i64 n1)]⟩ w R:=
 calls_of_eqR Tryz.mix Tryz.f135 [(.int .i64 n1)] [kS,kI] R 19 [.cell 2 33,.tmp 3] (by kernel_rfl) (by kernel_rfl) (by kernel_rfl) (by kernel_rfl) (by kernel_rfl)
  (.s .o (.s (.s .o (.c (.s .o .o) .o)) (.s (.s .o (.b (.r [kI] .o (.b .o)))) (.s .o .o))))
  (by kernel_rfl) h
def zerorun_down.E (n1:Int) (R:Value→World→Prop) (w:World):Prop:=
 Nw 3 ⟨[(.int .i64 n1)]⟩ w fun (b3:Nat) (w_2:World)=>
 R ((.func (.func 200) ⟨[]⟩ ⟨[(.pointer (some (⟨b3,0,none⟩:Addr)))]⟩)) w_2
theorem zerorun_down.ok (n1:Int) (R:Value→World→Prop) (w:World) (h:zerorun_down.E n1 R w):Cl Tryz.prog [kV] n_zerorun_down ⟨[(.int .i64 n1)]⟩ w R:=
 calls_of_eq Tryz.mix Tryz.f176 [(.int .i64 n1)] [kV] R 4 [.tmp 2] (by kernel_rfl) (by kernel_rfl) (by kernel_rfl) (by kernel_rfl) (by kernel_rfl)
  (.s .o (.s .o .o))
  (by kernel_rfl) h
def zerorun_Add.E (n1:Int) (many2:Int) (digit3:Int) (R:Int→Int→World→Prop) (w:World):Prop:=
 Join (fun (w_5:World)=>
 0≤(many2:Int)∧
 IfB (decide (((i64 ((n1:Int)+((ishl .i64 ((i64 ((1:Int)+(digit3:Int))):Int) (many2:Int)):Int))):Int)>(2147483647:Int)))
 (R (0) (2) w_5)
 (R ((i64 ((n1:Int)+((ishl .i64 ((i64 ((1:Int)+(digit3:Int))):Int) (many2:Int)):Int)))) (0) w_5)) fun (K_4:World→Prop)=>
 IfB (decide ((n1:Int)<(0:Int)))
 (R (0) (2) w)
 (IfB (decide ((n1:Int)>(2147483647:Int)))
 (R (0) (2) w)
 (IfB (decide ((many2:Int)<(0:Int)))
 (R (0) (2) w)
 (IfB (decide ((many2:Int)>(30:Int)))
 (R (0) (2) w)
 (IfB ((digit3:Int) !=(0:Int))
 (IfB ((digit3:Int) !=(1:Int))
 (R (0) (2) w)
 (K_4 w))
 (K_4 w)))))
theorem zerorun_Add.ok (n1:Int) (many2:Int) (digit3:Int) (R:Int→Int→World→Prop) (w:World) (h:zerorun_Add.E n1 many2 digit3 R w):Cl Tryz.prog [kI,kI] n_zerorun_Add ⟨[(.int .i64 n1),(.int .i64 many2),(.int .i64 digit3)]⟩ w R:=
 calls_of_eq Tryz.mix Tryz.f193 [(.int .i64 n1),(.int .i64 many2),(.int .i64 digit3)] [kI,kI] R 39 [.tmp 6,.tmp 7] (by kernel_rfl) (by kernel_rfl) (by kernel_rfl) (by kernel_rfl) (by kernel_rfl)
  (.s .o (.j [] (.s .o (.c (.s .o .o) .o)) (.s (.s .o (.s .o (.c (.s .o .o) .o))) (.s .o .o))))
  (by kernel_rfl) h
def zerorun_down_1.E (yield1:Value) (c2:Addr) (R:World→Prop) (w:World):Prop:=
 ∃(I_3:World→Prop) (m_4:World→Nat),I_3 w∧
 ∀(w_5:World),I_3 w_5→
 Ld kI c2 w_5 fun (x6:Int)=>
 IfB (decide ((x6:Int)>(0:Int)))
 (Ld kI c2 w_5 fun (x7:Int)=>
 ClY Tryz.prog yield1 [kB] [(.int .i64 (iand .i64 ((i64 ((x7:Int) - (1:Int))):Int) (1:Int)))] w_5 fun (r9:Bool) (w_8:World)=>
 IfB (!r9)
 (R w_8)
 (Ld kI c2 w_8 fun (x10:Int)=>
 0≤(1:Int)∧
 St c2 (.int .i64 (ishr .i64 ((i64 ((x10:Int) - (1:Int))):Int) (1:Int))) w_8 fun (w_11:World)=>
 ([]:List Nat)=([]:List Nat)∧I_3 w_11∧m_4 w_11<m_4 w_5))
 (R w_5)
theorem zerorun_down_1.ok (yield1:Value) (c2:Addr) (R:World→Prop) (w:World) (h:zerorun_down_1.E yield1 c2 R w):Cl Tryz.prog [] n_zerorun_down_1 ⟨[yield1,(.pointer (some c2))]⟩ w R:=
 calls_of_eqR Tryz.mix Tryz.f200 [yield1,(.pointer (some c2))] [] R 14 [] (by kernel_rfl) (by kernel_rfl) (by kernel_rfl) (by kernel_rfl) (by kernel_rfl)
  (.b (.l [] (.s (.s .o (.c .o .o)) (.s (.b (.s .o (.c .o .o))) .o))))
  (by kernel_rfl) h
end Go.Proofs.YtcdpblipagajiaaGreat
set_option maxRecDepth 20000
namespace Go.Rk
section
variable {α:Type} {lt:α→α→Bool}
structure SO (lt:α→α→Bool):Prop where
 irr: ∀a,lt a a=false
 trans: ∀a b c,lt a b=true→lt b c=true→lt a c=true
 ntrans: ∀a b c,lt a b=false→lt b c=false→lt a c=false
theorem SO.asym (h:SO lt) {a b:α} (hab:lt a b=true):lt b a=false:=by
 cases hb:lt b a with
 |false=>rfl
 |true=>have:=h.trans _ _ _ hab hb;rw [h.irr] at this;cases this
theorem countP_lt {p q:α→Bool}: ∀{l:List α},(∀z∈l,p z=true→q z=true)→(∃x,x∈l∧q x=true∧p x=false)→l.countP p<l.countP q
 | [],_,⟨x,hx,_⟩=>by cases hx
 |a::l,h,⟨x,hx,hq,hp⟩=>by
  have hle:l.countP p≤l.countP q:=List.countP_mono_left fun z hz=>h z (List.mem_cons_of_mem _ hz)
  rw [List.countP_cons,List.countP_cons]
  rcases List.mem_cons.1 hx with rfl|hx
  ·rw [hq,hp];simp;omega
  ·have ih:=countP_lt (fun z hz=>h z (List.mem_cons_of_mem _ hz)) ⟨x,hx,hq,hp⟩
   cases hpa:p a with
   |false=>simp;split<;>omega
   |true=>rw [h a (by simp) hpa];simp;omega
theorem rank_at (h:SO lt): ∀{S:List α},S.Pairwise (fun a b=>lt a b=true)→∀(j:Nat) (hj:j<S.length),S.countP (fun x=>lt x S[j])=j
 | [],_,j,hj=>by simp at hj
 |a::S,hp,0,_=>by
  rw [List.pairwise_cons] at hp
  rw [List.countP_cons,List.getElem_cons_zero,h.irr,List.countP_eq_zero.2 fun x hx=>by rw [h.asym (hp.1 x hx)];decide]
  rfl
 |a::S,hp,j+1,hj=>by
  rw [List.pairwise_cons] at hp
  have hj':j<S.length:=by simpa using hj
  rw [List.countP_cons,List.getElem_cons_succ,rank_at h hp.2 j hj',hp.1 _ (List.getElem_mem hj')]
  rfl
theorem rank_of (h:SO lt) {S:List α} (hp:S.Pairwise (fun a b=>lt a b=true)) {x:α} (hx:x∈S): ∃hj:S.countP (fun y=>lt y x)<S.length,S[S.countP (fun y=>lt y x)]=x:=by
 obtain ⟨j,hj,rfl⟩:=List.getElem_of_mem hx
 have:=rank_at h hp j hj
 exact ⟨by omega,by simp only [this]⟩
theorem sorted_eq (h:SO lt) {S T:List α} (hpm:S.Perm T) (hS:S.Pairwise (fun a b=>lt a b=true)) (hT:T.Pairwise (fun a b=>lt a b=true)):S=T:=by
 apply List.ext_getElem hpm.length_eq
 intro r h1 h3
 have hr:=rank_at h hS r h1
 rw [hpm.countP_eq] at hr
 obtain ⟨h4,h5⟩:=rank_of h hT (hpm.mem_iff.1 (List.getElem_mem h1))
 rw [←h5]
 simp only [hr]
def rk (lt:α→α→Bool) (dom:List α) (x:α):Nat:=dom.countP fun y=>lt y x
theorem rk_lt (h:SO lt) {dom:List α} {x y:α} (hx:x∈dom) (hl:lt x y=true):rk lt dom x<rk lt dom y:=
 countP_lt (fun _ _ hz=>h.trans _ _ _ hz hl) ⟨x,hx,hl,h.irr x⟩
def Tot (lt:α→α→Bool) (dom:List α):Prop:= ∀x∈dom,∀y∈dom,x≠y→lt x y=true∨lt y x=true
theorem rk_iff (h:SO lt) {dom:List α} (ht:Tot lt dom) {x y:α} (hx:x∈dom) (hy:y∈dom):rk lt dom x<rk lt dom y↔lt x y=true:=by
 constructor
 ·intro hlt
  by_cases e:x=y
  ·subst e;omega
  ·rcases ht x hx y hy e with h1|h1
   ·exact h1
   ·have:=rk_lt h hy h1;omega
 ·exact rk_lt h hx
theorem rk_inj (h:SO lt) {dom:List α} (ht:Tot lt dom) {x y:α} (hx:x∈dom) (hy:y∈dom) (he:rk lt dom x=rk lt dom y):x=y:=by
 by_cases e:x=y
 ·exact e
 ·rcases ht x hx y hy e with h1|h1
  ·have:=rk_lt h hx h1;omega
  ·have:=rk_lt h hy h1;omega
def srt (lt:α→α→Bool) (dom:List α):List α:=dom.mergeSort fun a b=> !lt b a
theorem srt_perm (dom:List α):(srt lt dom).Perm dom:=List.mergeSort_perm ..
theorem srt_len (dom:List α):(srt lt dom).length=dom.length:=(srt_perm dom).length_eq
theorem srt_sorted (h:SO lt) {dom:List α} (hn:dom.Nodup) (ht:Tot lt dom):(srt lt dom).Pairwise fun a b=>lt a b=true:=by
 have h1:=List.pairwise_mergeSort (le:=fun a b=> !lt b a) (fun a b c h1 h2=>by
   simp only [Bool.not_eq_true'] at*;exact h.ntrans _ _ _ h2 h1) (fun a b=>by
   cases hab:lt a b with
   |true=>simp [h.asym hab]
   |false=>simp) dom
 have h2:(srt lt dom).Nodup:=(srt_perm dom).nodup_iff.2 hn
 have h3:(srt lt dom).Pairwise fun a b=>a∈dom∧b∈dom:=List.Pairwise.imp_of_mem (fun {a b} ha hb _=>⟨(srt_perm dom).mem_iff.1 ha,(srt_perm dom).mem_iff.1 hb⟩) h2
 exact ((h1.and h2).and h3).imp fun {a b} hh=>by
  rcases ht a hh.2.1 b hh.2.2 hh.1.2 with h4|h4
  ·exact h4
  ·have:=hh.1.1;simp [h4] at this
theorem srt_at (h:SO lt) {dom:List α} (hn:dom.Nodup) (ht:Tot lt dom) {x:α} (hx:x∈dom): ∃hj:rk lt dom x<(srt lt dom).length,(srt lt dom)[rk lt dom x]=x:=by
 have:=rank_of h (srt_sorted h hn ht) ((srt_perm dom).mem_iff.2 hx)
 rw [(srt_perm dom).countP_eq] at this
 exact this
theorem rk_at (h:SO lt) {dom:List α} (hn:dom.Nodup) (ht:Tot lt dom) {r:Nat} (hr:r<(srt lt dom).length):rk lt dom (srt lt dom)[r]=r:=by
 have:=rank_at h (srt_sorted h hn ht) r hr
 rwa [(srt_perm dom).countP_eq] at this
theorem rk_lt_len (h:SO lt) {dom:List α} (hn:dom.Nodup) (ht:Tot lt dom) {x:α} (hx:x∈dom):rk lt dom x<dom.length:=by
 obtain ⟨hj,_⟩:=srt_at h hn ht hx
 rwa [srt_len] at hj
end
end Go.Rk
set_option maxRecDepth 20000
namespace Go.Inc
inductive Stp (σ β ε:Type) where
 |more (s:σ)|fin (b:β)|bad (e:ε)
inductive Ran (α σ β ε:Type) where
 |short (s:σ)|fin (b:β) (rest:List α)|bad (e:ε)
def run {α σ β ε:Type} (f:σ→α→Stp σ β ε):σ→List α→Ran α σ β ε
 |s,[]=> .short s
 |s,c::l=>match f s c with
  | .more s'=>run f s' l
  | .fin b=> .fin b l
  | .bad e=> .bad e
section
variable {α σ β ε:Type} {f:σ→α→Stp σ β ε}
theorem run_cons (s:σ) (c:α) (l:List α):run f s (c::l)=match f s c with
  | .more s'=>run f s' l
  | .fin b=> .fin b l
  | .bad e=> .bad e:=rfl
theorem run_more {s s':σ} {c:α} {l:List α} (h:f s c= .more s'):run f s (c::l)=run f s' l:=by rw [run_cons,h]
theorem run_fin {s:σ} {b:β} {c:α} {l:List α} (h:f s c= .fin b):run f s (c::l)= .fin b l:=by rw [run_cons,h]
theorem run_bad {s:σ} {e:ε} {c:α} {l:List α} (h:f s c= .bad e):run f s (c::l)= .bad e:=by rw [run_cons,h]
theorem run_app: ∀(a:List α) (s:σ) (l:List α),run f s (a++l)=match run f s a with
  | .short s'=>run f s' l
  | .fin b r=> .fin b (r++l)
  | .bad e=> .bad e
 | [],s,l=>rfl
 |c::a,s,l=>by
  rw [List.cons_append,run_cons,run_cons]
  cases f s c with
  |more s'=>exact run_app a s' l
  |fin b=>rfl
  |bad e=>rfl
theorem run_short {s s':σ} {a:List α} (h:run f s a= .short s') (l:List α):run f s (a++l)=run f s' l:=by rw [run_app,h]
theorem run_split: ∀{l:List α} {s:σ} {b:β} {r:List α},run f s l= .fin b r→∃a c s',l=a++c::r∧run f s a= .short s'∧f s' c= .fin b
 | [],s,b,r,h=>by cases h
 |c::l,s,b,r,h=>by
  rw [run_cons] at h
  cases hc:f s c with
  |more s'=>
   rw [hc] at h
   obtain ⟨a,c',s'',rfl,h1,h2⟩:=run_split h
   exact ⟨c::a,c',s'',rfl,by rw [run_more hc,h1],h2⟩
  |fin b'=>
   rw [hc] at h
   cases h
   exact ⟨[],c,s,rfl,rfl,hc⟩
  |bad e=>rw [hc] at h;cases h
theorem run_pre {a l:List α} {s s':σ} (h:run f s (a++l)= .short s'): ∃s'',run f s a= .short s'':=by
 rw [run_app] at h
 cases ha:run f s a with
 |short s''=>exact ⟨s'',rfl⟩
 |fin b r=>rw [ha] at h;cases h
 |bad e=>rw [ha] at h;cases h
theorem run_cut {l r:List α} {s:σ} {b:β} (h:run f s (l++r)= .fin b r) {k:Nat} (hk:k<l.length): ∃s',run f s (l.take k)= .short s':=by
 obtain ⟨a,c,s',e,h1,h2⟩:=run_split h
 have e:l=a++ [c]:=List.append_cancel_right (bs:=r) (by rw [e];simp)
 subst e
 rw [List.length_append] at hk
 have:((a++ [c]).take k)=a.take k:=by rw [List.take_append_of_le_length (by simp at hk;omega)]
 rw [this]
 refine run_pre (l:=a.drop k) (s':=s') ?_
 rw [List.take_append_drop];exact h1
end
end Go.Inc
set_option maxRecDepth 20000
namespace Go.Sym
open Go.Inc
def mtake (L:List Nat) (p:Nat):List Nat:=L.getD p 0::L.eraseIdx p
theorem mtake_perm {L:List Nat} {p:Nat} (hp:p<L.length):(mtake L p).Perm L:=by
 unfold mtake
 have e:L.getD p 0=L[p]:=by simp [List.getD,hp]
 rw [e]
 rw [List.eraseIdx_eq_take_drop_succ]
 have h2:L.take p++L[p]::L.drop (p+1)=L:=by rw [List.getElem_cons_drop,List.take_append_drop]
 exact List.perm_middle.symm.trans (List.Perm.of_eq h2)
theorem mtake_len {L:List Nat} {p:Nat} (hp:p<L.length):(mtake L p).length=L.length:=(mtake_perm hp).length_eq
def All256 (L:List Nat):Prop:=L.Perm (List.range 256)
theorem All256.len {L:List Nat} (h:All256 L):L.length=256:=by rw [h.length_eq,List.length_range]
theorem All256.mem {L:List Nat} (h:All256 L) {c:Nat}:c∈L↔c<256:=by rw [h.mem_iff,List.mem_range]
theorem All256.nodup {L:List Nat} (h:All256 L):L.Nodup:=h.nodup_iff.2 List.nodup_range
theorem All256.take {L:List Nat} (h:All256 L) {p:Nat} (hp:p<256):All256 (mtake L p):=(mtake_perm (by rw [h.len];exact hp)).trans h
theorem All256.range:All256 (List.range 256):=List.Perm.refl _
theorem All256.get {L:List Nat} (h:All256 L) {p:Nat} (hp:p<256):L.getD p 0<256:=by
 have hl:=h.len
 have:L.getD p 0=L[p]:=by simp [List.getD,hl,hp]
 rw [this]
 exact h.mem.1 (List.getElem_mem _)
theorem All256.idx {L:List Nat} (h:All256 L) {c:Nat} (hc:c<256):L.idxOf c<256∧L.getD (L.idxOf c) 0=c:=by
 have hm:=h.mem.2 hc
 have hl:=h.len
 have h1:=List.idxOf_lt_length_of_mem hm
 refine ⟨by omega,?_⟩
 rw [List.getD,List.getElem?_eq_getElem h1,List.getElem_idxOf h1];rfl
theorem All256.idx_at {L:List Nat} (h:All256 L) {p:Nat} (hp:p<256):L.idxOf (L.getD p 0)=p:=by
 have hl:=h.len
 have e:L.getD p 0=L[p]:=by simp [List.getD,hl,hp]
 have h1:=h.idx (h.get hp)
 have e2:L[L.idxOf (L.getD p 0)]'(by omega)=L[p]:=by
  have:=h1.2
  rw [List.getD,List.getElem?_eq_getElem (by omega)] at this
  exact this.trans e
 exact (List.getElem_inj h.nodup).1 e2
def dig (n:Nat):List Nat:=if _h:n=0 then [] else (n - 1) % 2::dig ((n - 1)/2)
termination_by n
decreasing_by omega
theorem dig_zero:dig 0= []:=by rw [dig];simp
theorem dig_pos {n:Nat} (h:0<n):dig n=(n - 1) % 2::dig ((n - 1)/2):=by rw [dig,dif_neg (by omega)]
theorem dig_two (n:Nat): ∀d∈dig n,d<2:=by
 induction n using Nat.strongRecOn with
 |ind n ih=>
  rcases Nat.eq_zero_or_pos n with e|e
  ·rw [e,dig_zero];simp
  ·rw [dig_pos e]
   intro d hd
   rcases List.mem_cons.1 hd with h|h
   ·omega
   ·exact ih _ (by omega) d h
def encS:List Nat→Nat→List Nat→List Nat×List Nat×Nat
 |L,r,[]=>([],L,r)
 |L,r,c::b=>
  if L.idxOf c=0 then encS (mtake L 0) (r+1) b
  else
   let x:=encS (mtake L (L.idxOf c)) 0 b
   (dig r++(L.idxOf c+1)::x.1,x.2)
def symsFrom (L:List Nat) (r:Nat) (b:List Nat):List Nat:=(encS L r b).1++dig (encS L r b).2.2++ [257]
def syms (b:List Nat):List Nat:=symsFrom (List.range 256) 0 b
theorem symsFrom_nil (L:List Nat) (r:Nat):symsFrom L r []=dig r++ [257]:=by simp [symsFrom,encS]
theorem symsFrom_zero {L:List Nat} {r c:Nat} {b:List Nat} (h:L.idxOf c=0):symsFrom L r (c::b)=symsFrom (mtake L 0) (r+1) b:=by
 unfold symsFrom;rw [encS,if_pos h]
theorem symsFrom_pos {L:List Nat} {r c:Nat} {b:List Nat} (h:L.idxOf c≠0):symsFrom L r (c::b)=dig r++(L.idxOf c+1)::symsFrom (mtake L (L.idxOf c)) 0 b:=by
 unfold symsFrom;rw [encS,if_neg h];simp
structure DS where
 L:List Nat
 left:Nat
 run:Nat
 digits:Nat
def dsym (d:DS) (s:Nat):Option (DS×List Nat×Bool):=
 if s<2 then
  if d.run+(1+s)*2^d.digits≤d.left then some (⟨d.L,d.left,d.run+(1+s)*2^d.digits,d.digits+1⟩,[],false) else none
 else if s=257 then
  if d.run=d.left then some (⟨d.L,0,0,0⟩,List.replicate d.run (d.L.getD 0 0),true) else none
 else if d.run=d.left then none
 else some (⟨mtake d.L (s - 1),d.left - (d.run+1),0,0⟩,List.replicate d.run (d.L.getD 0 0)++ [d.L.getD (s - 1) 0],false)
def sstep (d:DS×List Nat) (s:Nat):Stp (DS×List Nat) (List Nat) Nat:=match dsym d.1 s with
 |none=> .bad 160
 |some (_,t,true)=> .fin (d.2++t)
 |some (d',t,false)=> .more (d',d.2++t)
theorem sst_more {d d':DS} {acc t:List Nat} {s:Nat} (h:dsym d s=some (d',t,false)):sstep (d,acc) s= .more (d',acc++t):=by unfold sstep;rw [h]
theorem sst_fin {d d':DS} {acc t:List Nat} {s:Nat} (h:dsym d s=some (d',t,true)):sstep (d,acc) s= .fin (acc++t):=by unfold sstep;rw [h]
theorem sst_bad {d:DS} {acc:List Nat} {s:Nat} (h:dsym d s=none):sstep (d,acc) s= .bad 160:=by unfold sstep;rw [h]
theorem decS_dig (L:List Nat) (left:Nat) (acc rest:List Nat): ∀(n q k:Nat),q+n*2^k≤left→∃k',run sstep (⟨L,left,q,k⟩,acc) (dig n++rest)=run sstep (⟨L,left,q+n*2^k,k'⟩,acc) rest:=by
 intro n
 induction n using Nat.strongRecOn with
 |ind n ih=>
  intro q k hle
  rcases Nat.eq_zero_or_pos n with e|e
  ·subst e
   exact ⟨k,by rw [dig_zero];simp⟩
  ·rw [dig_pos e]
   have hs:(1+(n - 1) % 2)*2^k+(n - 1)/2*2^(k+1)=n*2^k:=by
    rw [Nat.pow_succ,Nat.mul_comm (2^k) 2,←Nat.mul_assoc,←Nat.add_mul]
    congr 1;omega
   obtain ⟨k',h⟩:=ih ((n - 1)/2) (by omega) (q+(1+(n - 1) % 2)*2^k) (k+1) (by omega)
   refine ⟨k',?_⟩
   have h1:dsym ⟨L,left,q,k⟩ ((n - 1) % 2)=some (⟨L,left,q+(1+(n - 1) % 2)*2^k,k+1⟩,[],false):=by
    unfold dsym
    simp only
    rw [if_pos (by omega),if_pos (by omega)]
   rw [List.cons_append,run_more (sst_more h1),List.append_nil,h]
   congr 3
   omega
theorem replicate_zero_front {L:List Nat} (hL:All256 L) {c:Nat} (hc:c<256) (h:L.idxOf c=0):L.getD 0 0=c∧mtake L 0=L:=by
 have:=(hL.idx hc).2
 rw [h] at this
 refine ⟨this,?_⟩
 unfold mtake
 cases L with
 |nil=>have:=hL.len;simp at this
 |cons x L=>rfl
theorem decS_from: ∀(b L:List Nat) (r left:Nat) (acc rest:List Nat),All256 L→(∀x∈b,x<256)→left=r+b.length→
  run sstep (⟨L,left,0,0⟩,acc) (symsFrom L r b++rest)= .fin (acc++List.replicate r (L.getD 0 0)++b) rest
 | [],L,r,left,acc,rest,hL,_,hl=>by
  rw [symsFrom_nil,List.append_assoc]
  obtain ⟨k',h⟩:=decS_dig L left acc ([257]++rest) r 0 0 (by simp at hl;omega)
  rw [h]
  have h1:dsym ⟨L,left,0+r*2^0,k'⟩ 257=some (⟨L,0,0,0⟩,List.replicate r (L.getD 0 0),true):=by
   unfold dsym
   simp only [Nat.zero_add,Nat.pow_zero,Nat.mul_one]
   rw [if_neg (by decide),if_pos trivial,if_pos (by simp at hl;omega)]
  show run sstep _ (257::rest)=_
  rw [run_fin (sst_fin h1)]
  simp
 |c::b,L,r,left,acc,rest,hL,hb,hl=>by
  have hc:=hb c List.mem_cons_self
  have hb': ∀x∈b,x<256:=fun x hx=>hb x (List.mem_cons_of_mem _ hx)
  simp only [List.length_cons] at hl
  by_cases h0:L.idxOf c=0
  ·obtain ⟨e1,e2⟩:=replicate_zero_front hL hc h0
   rw [symsFrom_zero h0,e2,decS_from b L (r+1) left acc rest hL hb' (by omega),e1,List.replicate_succ']
   simp
  ·obtain ⟨i1,i2⟩:=hL.idx hc
   rw [symsFrom_pos h0,List.append_assoc]
   obtain ⟨k',h⟩:=decS_dig L left acc ((L.idxOf c+1)::symsFrom (mtake L (L.idxOf c)) 0 b++rest) r 0 0 (by omega)
   rw [h]
   have h1:dsym ⟨L,left,0+r*2^0,k'⟩ (L.idxOf c+1)=some (⟨mtake L (L.idxOf c),left - (r+1),0,0⟩,List.replicate r (L.getD 0 0)++ [c],false):=by
    unfold dsym
    simp only [Nat.zero_add,Nat.pow_zero,Nat.mul_one,Nat.add_sub_cancel,i2]
    rw [if_neg (by omega),if_neg (by omega),if_neg (by omega)]
   rw [List.cons_append,run_more (sst_more h1)]
   rw [decS_from b (mtake L (L.idxOf c)) 0 (left - (r+1)) _ rest (hL.take i1) hb' (by omega)]
   simp
theorem syms_back {b:List Nat} (hb: ∀x∈b,x<256) (rest:List Nat):run sstep (⟨List.range 256,b.length,0,0⟩,[]) (syms b++rest)= .fin b rest:=by
 unfold syms
 rw [decS_from b _ 0 b.length [] rest All256.range hb (by omega)]
 simp
theorem symsFrom_le: ∀(b L:List Nat) (r:Nat),All256 L→(∀x∈b,x<256)→∀s∈symsFrom L r b,s≤257
 | [],L,r,_,_=>fun s hs=>by
  rw [symsFrom_nil] at hs
  rcases List.mem_append.1 hs with h|h
  ·have:=dig_two _ s h;omega
  ·rw [List.mem_singleton] at h;omega
 |c::b,L,r,hL,hb=>fun s hs=>by
  have hc:=hb c List.mem_cons_self
  have hb': ∀x∈b,x<256:=fun x hx=>hb x (List.mem_cons_of_mem _ hx)
  obtain ⟨i1,_⟩:=hL.idx hc
  by_cases h0:L.idxOf c=0
  ·rw [symsFrom_zero h0] at hs
   exact symsFrom_le b _ (r+1) (hL.take (by decide)) hb' s hs
  ·rw [symsFrom_pos h0] at hs
   rcases List.mem_append.1 hs with h|h
   ·have:=dig_two _ s h;omega
   ·rcases List.mem_cons.1 h with h|h
    ·omega
    ·exact symsFrom_le b _ 0 (hL.take i1) hb' s h
theorem syms_le {b:List Nat} (hb: ∀x∈b,x<256): ∀s∈syms b,s≤257:=symsFrom_le b _ 0 All256.range hb
end Go.Sym
namespace Go.Vc
theorem rowI_scalar {n:Nat} {f:Nat→Int}:(rowI n f).toList.all scalarB=true:=by
 unfold rowI
 rw [List.all_map]
 exact List.all_eq_true.2 fun _ _=>rfl
theorem rowI_zero {n:Nat}:rowI n (fun _=>0)=⟨List.replicate n (.int .i64 0)⟩:=by
 unfold rowI
 rw [List.map_const',List.length_range]
theorem EqA.row {n:Nat} {f g:Nat→Int} {K:Bool→Prop} (hK:K (((List.range n).map f)==((List.range n).map g))):EqA .i64 n (rowI n f) (rowI n g) K:=
 ⟨(List.range n).map f,(List.range n).map g,by simp [rowI],by simp [rowI],by simp,by simp,hK⟩
end Go.Vc
namespace Go.Proofs.YtcdpblipagajiaaGreat
open Go Go.Vc Go.Inc Go.Sym
abbrev byV (l:List Nat):List Value:=l.map fun (n:Nat)=>Value.int .u8 (n:Int)
theorem byV_len {L:List Nat} (h:L.length=256):(byV L).length=256:=by simp [h]
theorem byV_scalar {l:List Nat}:(byV l).all scalarB=true:=by
 unfold byV
 rw [List.all_map]
 exact List.all_eq_true.2 fun _ _=>rfl
section
variable {E w:World} {F:List HP}
theorem mtf_und:Tryz.prog.underlying 22=some (.slice 5):=by kernel_rfl
theorem mtf_sz:(Tryz.prog.info? 5).map (·.size)=some 1:=by kernel_rfl
set_option maxRecDepth 20000
theorem mnew_c {K:Array Value→World→Prop} (h:Hp E w F) (hK: ∀w',Hp E w' F→K ⟨byV (List.range 256)⟩ w'):Cl Tryz.prog [.arr 256] n_mtf_New ⟨[]⟩ w K:=by
 refine mtf_New.ok _ _ ?_
 unfold mtf_New.E
 (try simp only [Join_eq,NilCk_some,add_mk,Nat.zero_add,Nat.add_zero,Nat.reduceAdd,Bool.not_true,Bool.not_false,IfB_t,IfB_f,Option.isNone])
 refine Nw.mk h fun b2 w h=> ?_
 have hlen: ∀k,k≤256→(byV (List.range k++List.replicate (256 - k) 0)).length=256:=fun k hk=>by simp;omega
 refine ⟨fun i w'=> ∃k:Nat,i=(k:Int)∧k≤256∧Hp E w' (Blk b2 (.cells ⟨byV (List.range k++List.replicate (256 - k) 0)⟩ 108 (0,0))::F),fun i _=>256 - i.toNat,⟨0,rfl,by omega,by
  have:(⟨byV (List.range 0++List.replicate (256 - 0) 0)⟩:Array Value)=⟨List.replicate 256 (.int .u8 0)⟩:=by simp
  rw [this];exact h⟩,?_⟩
 rintro i w ⟨k,rfl,hk,h⟩
 (first|refine IfB.dm (fun hb=> ?_) (fun hb=> ?_)|refine IfB.em (fun hb=> ?_) (fun hb=> ?_)|refine IfB.nm (fun hb=> ?_) (fun hb=> ?_)|refine IfB.mk (fun hb=> ?_) (fun hb=> ?_))
 ·refine ⟨by omega,by omega,?_⟩
  rw [show ((k:Int)).toNat*1=k by omega]
  (try simp only [Join_eq,NilCk_some,add_mk,Nat.zero_add,Nat.add_zero,Nat.reduceAdd,Bool.not_true,Bool.not_false,IfB_t,IfB_f,Option.isNone])
  have hk:=hlen k (by omega)
  refine St.xb h (by simp;omega) rfl fun w h=> ?_
  rw [i64_id (by omega)]
  refine ⟨⟨k+1,rfl,by omega,?_⟩,by omega⟩
  have e:(⟨byV (List.range k++List.replicate (256 - k) 0)⟩:Array Value).setIfInBounds k (.int .u8 (u8 (k:Int)))=⟨byV (List.range (k+1)++List.replicate (256 - (k+1)) 0)⟩:=by
   rw [u8_id (by omega)]
   apply Array.ext'
   rw [Array.toList_setIfInBounds]
   have:(byV (List.range k++List.replicate (256 - k) 0)).set k (.int .u8 (k:Int))=byV ((List.range k++List.replicate (256 - k) 0).set k k):=by rw [byV,byV,List.map_set]
   rw [this,List.set_append_right _ _ (by simp),List.length_range,Nat.sub_self]
   obtain ⟨m,hm⟩: ∃m,256 - k=m+1:=⟨255 - k,by omega⟩
   rw [hm,List.replicate_succ,List.set_cons_zero,List.range_succ,show 256 - (k+1)=m by omega]
   simp
  rw [e] at h
  exact h
 ·have hk2:k=256:=by omega
  subst hk2
  have e:(⟨byV (List.range 256++List.replicate (256 - 256) 0)⟩:Array Value)=⟨byV (List.range 256)⟩:=by simp
  rw [e] at h
  have hn:(⟨byV (List.range 256)⟩:Array Value).size=256:=by simp
  refine Ld.xw h hn ?_
  refine StA.q h hn hn byV_scalar fun w h=> ?_
  exact Ld.xw h hn (hK _ h.tl)
theorem ones_c {K:Array Value→World→Prop} (h:Hp E w F) (hK: ∀w',Hp E w' F→K (rowI 256 fun _=>1) w'):Cl Tryz.prog [.arr 256] n_mtf_ones ⟨[]⟩ w K:=by
 refine mtf_ones.ok _ _ ?_
 unfold mtf_ones.E
 (try simp only [Join_eq,NilCk_some,add_mk,Nat.zero_add,Nat.add_zero,Nat.reduceAdd,Bool.not_true,Bool.not_false,IfB_t,IfB_f,Option.isNone])
 refine Nw.mk h fun b2 w h=> ?_
 refine ⟨fun i w'=> ∃k:Nat,i=(k:Int)∧k≤256∧Hp E w' (Blk b2 (.cells (rowI 256 fun j=>if j<k then 1 else 0) 171 (0,0))::F),fun i _=>256 - i.toNat,⟨0,rfl,by omega,by
  rw [rowI_ext (g:=fun _=>0) (fun i _=>by simp),rowI_zero];exact h⟩,?_⟩
 rintro i w ⟨k,rfl,hk,h⟩
 (first|refine IfB.dm (fun hb=> ?_) (fun hb=> ?_)|refine IfB.em (fun hb=> ?_) (fun hb=> ?_)|refine IfB.nm (fun hb=> ?_) (fun hb=> ?_)|refine IfB.mk (fun hb=> ?_) (fun hb=> ?_))
 ·refine ⟨by omega,by omega,?_⟩
  rw [show ((k:Int)).toNat*1=k by omega]
  (try simp only [Join_eq,NilCk_some,add_mk,Nat.zero_add,Nat.add_zero,Nat.reduceAdd,Bool.not_true,Bool.not_false,IfB_t,IfB_f,Option.isNone])
  refine St.xb h (by rw [rowI_size];omega) rfl fun w h=> ?_
  rw [i64_id (by omega)]
  refine ⟨⟨k+1,rfl,by omega,?_⟩,by omega⟩
  rw [rowI_set] at h
  rw [rowI_ext (g:=fun j=>if j<k+1 then 1 else 0) (fun i _=>by
   by_cases h1:i=k
   ·subst h1;simp
   ·by_cases h2:i<k
    ·simp [h1,h2];omega
    ·simp [h1,h2];omega)] at h
  exact h
 ·have hk2:k=256:=by omega
  subst hk2
  rw [rowI_ext (g:=fun _=>1) (fun i hi=>by simp [hi])] at h
  refine Ld.xw h rowI_size ?_
  refine StA.q h rowI_size rowI_size rowI_scalar fun w h=> ?_
  exact Ld.xw h rowI_size (hK _ h.tl)
theorem mvalidL_c {L:List Nat} {K:Bool→World→Prop} (h:Hp E w F) (hL:All256 L) (hK: ∀w',Hp E w' F→K true w'):Cl Tryz.prog [kB] n_mtf_Valid ⟨[.agg ⟨byV L⟩]⟩ w K:=by
 have hl:=hL.len
 have hlt: ∀x∈L,x<256:=fun x hx=>by simpa using hL.mem_iff.1 hx
 refine mtf_Valid.ok _ _ _ ?_
 unfold mtf_Valid.E
 (try simp only [Join_eq,NilCk_some,add_mk,Nat.zero_add,Nat.add_zero,Nat.reduceAdd,Bool.not_true,Bool.not_false,IfB_t,IfB_f,Option.isNone])
 have hn:(⟨byV L⟩:Array Value).size=256:=by simp [hl]
 refine Nw.mk h fun b3 w h=>Nw.mk h fun b5 w h=>Ld.xw h hn ?_
 refine ⟨fun i w'=> ∃k:Nat,i=(k:Int)∧k≤256∧Hp E w' (Blk b5 (.cells (rowI 256 fun j=>if j∈L.take k then 1 else 0) 171 (0,0))::Blk b3 (.cells ⟨byV L⟩ 108 (0,0))::F),fun i _=>256 - i.toNat,⟨0,rfl,by omega,by
  rw [rowI_ext (g:=fun _=>0) (fun i _=>by simp),rowI_zero];exact h⟩,?_⟩
 rintro i w ⟨k,rfl,hk,h⟩
 (first|refine IfB.dm (fun hb=> ?_) (fun hb=> ?_)|refine IfB.em (fun hb=> ?_) (fun hb=> ?_)|refine IfB.nm (fun hb=> ?_) (fun hb=> ?_)|refine IfB.mk (fun hb=> ?_) (fun hb=> ?_))
 ·have hkl:k<L.length:=by omega
  refine IdxV.rd (s:= .int .u8) (by omega) (by omega) (L[k]:Int) ?_ ?_
  ·simp [hkl]
  have hx:=hlt _ (List.getElem_mem hkl)
  refine ⟨by omega,by omega,?_⟩
  rw [show ((L[k]:Int)).toNat*1=L[k] by omega]
  (try simp only [Join_eq,NilCk_some,add_mk,Nat.zero_add,Nat.add_zero,Nat.reduceAdd,Bool.not_true,Bool.not_false,IfB_t,IfB_f,Option.isNone])
  refine St.xb h (by rw [rowI_size];omega) rfl fun w h=> ?_
  rw [i64_id (by omega)]
  refine ⟨⟨k+1,rfl,by omega,?_⟩,by omega⟩
  rw [rowI_set] at h
  rw [rowI_ext (g:=fun j=>if j∈L.take (k+1) then 1 else 0) (fun i _=>by
   have hmem:i∈L.take (k+1)↔i∈L.take k∨i=L[k]:=by
    rw [List.take_add_one,List.getElem?_eq_getElem hkl,List.mem_append]
    exact or_congr Iff.rfl List.mem_singleton
   by_cases h1:i=L[k]
   ·rw [if_pos h1,if_pos (hmem.2 (.inr h1))]
   ·rw [if_neg h1]
    by_cases h2:i∈L.take k
    ·rw [if_pos h2,if_pos (hmem.2 (.inl h2))]
    ·rw [if_neg h2,if_neg (fun hh=>(hmem.1 hh).elim h2 h1)])] at h
  exact h
 ·have hk2:k=256:=by omega
  subst hk2
  rw [rowI_ext (g:=fun _=>1) (fun i hi=>by
   rw [List.take_of_length_le (by omega),if_pos]
   exact hL.mem_iff.2 (by simpa using hi))] at h
  have h:=h.drew (n:=w.drawn+1)
  refine ⟨HoldB b5 _ _ _,h.hb,?_⟩
  dsimp only
  refine LdS.xw (fun _ h=>h) rowI_size ?_
  refine ones_c h fun w h=>⟨h.hb,?_⟩
  refine EqA.row ?_
  rw [beq_self_eq_true]
  exact hK _ h.tl
theorem take_row {L:List Nat} {p:Nat} (hl:L.length=256) (hp:p<256):((byV L).take 1++((byV (L.take p)).take p++(byV L).drop (1+min (byV (L.take p)).length p))).set 0 (.int .u8 (L.getD p 0:Int))=byV (mtake L p):=by
 have e1:(byV (L.take p)).length=p:=by simp;omega
 rw [e1,Nat.min_self,List.take_of_length_le (l:=byV (L.take p)) (by omega),Nat.add_comm 1 p]
 unfold mtake
 rw [List.eraseIdx_eq_take_drop_succ]
 cases L with
 |nil=>simp at hl
 |cons a L=>simp [byV,List.map_take,List.map_drop]
theorem mtake_c {L:List Nat} {p:Nat} {K:Array Value→Int→Bool→World→Prop} (h:Hp E w F) (hl:L.length=256) (hp:p<256) (hK: ∀w',Hp E w' F→K ⟨byV (mtake L p)⟩ (L.getD p 0:Int) true w'):
  Cl Tryz.prog [.arr 256,kInt .u8,kB] n_mtf_Take ⟨[.agg ⟨byV L⟩,.int .i64 (p:Int)]⟩ w K:=by
 refine mtf_Take.ok _ _ _ _ ?_
 unfold mtf_Take.E
 (try simp only [Join_eq,NilCk_some,add_mk,Nat.zero_add,Nat.add_zero,Nat.reduceAdd,Bool.not_true,Bool.not_false,IfB_t,IfB_f,Option.isNone])
 have hn:(⟨byV L⟩:Array Value).size=256:=by simp [hl]
 have hz:(⟨List.replicate 256 (.int .u8 0)⟩:Array Value).size=256:=by simp
 have hpl:p<L.length:=by omega
 refine Nw.mk h fun b4 w h=>Nw.mk h fun b6 w h=> ?_
 (with_reducible repeat first|refine Nw.mk h fun b w h=> ?_|refine Drw.mk h fun w h=> ?_|refine Ld.q h hL rfl rfl ?_|refine LdS.q (fun _ h=>h) hL rfl rfl ?_|refine Ld.p h hL ?_|refine LdS.p (fun _ h=>h) hL ?_|refine Ld.qw h hL rfl ?_|refine LdS.qw (fun _ h=>h) hL rfl ?_|refine ⟨h.hb,?_⟩|(refine St.q h hL rfl rfl rfl fun w h=> ?_;dsimp only [spl,over] at h)|refine IfB.yes ?_|refine IfB.no ?_|refine ⟨by first|omega|decide,?_⟩)
 refine Ld.xw h hn ?_
 refine ⟨by omega,by omega,?_⟩
 rw [show ((p:Int)).toNat*1=p by omega]
 (try simp only [Join_eq,NilCk_some,add_mk,Nat.zero_add,Nat.add_zero,Nat.reduceAdd,Bool.not_true,Bool.not_false,IfB_t,IfB_f,Option.isNone])
 refine Ld.xb (x:=(L.getD p 0:Int)) h ?_ ?_
 ·simp [List.getD_eq_getElem?_getD,hpl]
 refine StA.q h hz hn byV_scalar fun w h=>Drw.mk h fun w h=> ?_
 rw [i64_id (by omega)]
 refine ⟨by omega,by omega,by omega,by simp,?_⟩
 rw [if_neg (by simp),show (1:Int).toNat*1=1 by decide,show ((p:Int)+1).toNat - (1:Int).toNat=p by omega,show (256:Int).toNat - (1:Int).toNat=255 by decide]
 refine ⟨by omega,by omega,by omega,by simp,?_⟩
 rw [if_neg (by decide),show (0:Int).toNat*1=0 by decide,show ((p:Int)).toNat - (0:Int).toNat=p by omega,show (256:Int).toNat - (0:Int).toNat=256 by decide]
 simp only [Option.map_some,add_mk,Nat.zero_add]
 have hsrc:SlT 1 ⟨some ⟨b4,0,none⟩,p,256⟩ (byV (L.take p)) w:=by
  refine ⟨by simp;omega,fun i hi=>⟨⟨b4,0,none⟩,rfl,?_⟩⟩
  rw [add_mk,h.fc]
  simp at hi⊢
  simp [show i<L.length by omega]
 refine run_copyB (ys:=byV (L.take p)) mtf_und mtf_sz h hsrc (List.all_eq_true.1 byV_scalar) (by rw [hn];omega) fun w h=> ?_
 refine ⟨by omega,by omega,?_⟩
 rw [show ((0:Int)).toNat*1=0 by decide]
 (try simp only [Join_eq,NilCk_some,add_mk,Nat.zero_add,Nat.add_zero,Nat.reduceAdd,Bool.not_true,Bool.not_false,IfB_t,IfB_f,Option.isNone])
 refine St.xb h (by simp;omega) rfl fun w h=> ?_
 have e:(⟨(⟨byV L⟩:Array Value).toList.take 1++((byV (L.take p)).take p++(⟨byV L⟩:Array Value).toList.drop (1+min (byV (L.take p)).length p))⟩:Array Value).setIfInBounds 0 (.int .u8 (L.getD p 0:Int))=⟨byV (mtake L p)⟩:=by
  apply Array.ext'
  rw [Array.toList_setIfInBounds]
  exact take_row hl hp
 rw [e] at h
 have hm:(⟨byV (mtake L p)⟩:Array Value).size=256:=by
  have:(mtake L p).length=256:=by unfold mtake;simp [List.length_eraseIdx,hpl];omega
  simp [this]
 refine Ld.xw h hm ?_
 refine StA.q h hm hm byV_scalar fun w h=> ?_
 exact Ld.xw h hm (hK _ h.tl)
theorem zadd_c {n many d:Nat} {K:Int→Int→World→Prop} (hn:n≤65536) (hm:many≤16) (hd:d≤1) (hK:K ((n+(1+d)*2^many:Nat):Int) 0 w):
  Cl Tryz.prog [kI,kI] n_zerorun_Add ⟨[.int .i64 (n:Int),.int .i64 (many:Int),.int .i64 (d:Int)]⟩ w K:=by
 have hp:2^many≤65536:=Nat.pow_le_pow_right (n:=2) (by decide) hm
 have hpp:=Nat.two_pow_pos many
 have hb:(1+d)*2^many≤131072:=by
  have:=Nat.mul_le_mul (show 1+d≤2 by omega) hp
  omega
 refine zerorun_Add.ok _ _ _ _ _ ?_
 unfold zerorun_Add.E
 have fin:0≤(many:Int)∧IfB (decide (i64 ((n:Int)+ishl .i64 (i64 (1+(d:Int))) (many:Int))>2147483647)) (K 0 2 w) (K (i64 ((n:Int)+ishl .i64 (i64 (1+(d:Int))) (many:Int))) 0 w):=by
  refine ⟨by omega,?_⟩
  have hmx:IntKind.max .i64=9223372036854775807:=rfl
  rw [i64_id (x:=1+(d:Int)) (by omega),show 1+(d:Int)=((1+d:Nat):Int) by omega,ishl_nat (k:= .i64) (by have:IntKind.bits .i64=64:=rfl;omega) (by rw [hmx];omega),i64_id (by omega)]
  exact IfB.df (by omega) (by rw [←Int.natCast_add];exact hK)
 (try simp only [Join_eq,NilCk_some,add_mk,Nat.zero_add,Nat.add_zero,Nat.reduceAdd,Bool.not_true,Bool.not_false,IfB_t,IfB_f,Option.isNone])
 refine IfB.df (by omega) (IfB.df (by omega) (IfB.df (by omega) (IfB.df (by omega) ?_)))
 by_cases h0:d=0
 ·exact IfB.nf (by omega) fin
 ·exact IfB.nt (by omega) (IfB.nf (by omega) fin)
end
end Go.Proofs.YtcdpblipagajiaaGreat
namespace Go.Sym
def DsOk (d:DS):Prop:=All256 d.L∧d.left≤65536∧d.run≤d.left∧2^d.digits - 1≤d.run∧d.run≤2*(2^d.digits - 1)
theorem DsOk.dig {d:DS} (h:DsOk d):d.digits≤16:=by
 obtain ⟨_,h2,h3,h4,_⟩:=h
 rcases Nat.lt_or_ge d.digits 17 with hh|hh
 ·omega
 ·have:2^17≤2^d.digits:=Nat.pow_le_pow_right (by decide) hh
  omega
set_option maxRecDepth 20000 in
theorem DsOk.zero {m:Nat} (hm:m≤65536):DsOk ⟨List.range 256,m,0,0⟩:=⟨.range,hm,by simp,by simp,by simp⟩
theorem dsym_ok {d d':DS} {s:Nat} {t:List Nat} (h:DsOk d) (hs:s<258) (he:dsym d s=some (d',t,false)):DsOk d'∧(∀x∈t,x<256)∧t.length+d'.left≤d.left:=by
 obtain ⟨L,left,run,digits⟩:=d
 obtain ⟨h1,h2,h3,h4,h5⟩:=h
 unfold dsym at he
 dsimp only at h1 h2 h3 h4 h5 he
 split at he
 ·split at he
  ·rename_i hs2 hle
   simp only [Option.some.injEq,Prod.mk.injEq] at he
   obtain ⟨rfl,rfl,_⟩:=he
   have hp:=Nat.two_pow_pos digits
   refine ⟨⟨h1,h2,hle,?_,?_⟩,by simp,by simp⟩
   ·dsimp only
    rw [Nat.pow_succ]
    have:=Nat.mul_le_mul_right (2^digits) (show 1≤1+s by omega)
    omega
   ·dsimp only
    rw [Nat.pow_succ]
    have:=Nat.mul_le_mul_right (2^digits) (show 1+s≤2 by omega)
    omega
  ·cases he
 ·split at he
  ·split at he
   ·simp at he
   ·cases he
  ·split at he
   ·cases he
   ·rename_i hs2 hs3 hne
    simp only [Option.some.injEq,Prod.mk.injEq] at he
    obtain ⟨rfl,rfl,_⟩:=he
    refine ⟨⟨h1.take (by omega),by dsimp only;omega,by simp,by simp,by simp⟩,?_,?_⟩
    ·intro x hx
     rcases List.mem_append.1 hx with hx|hx
     ·rw [(List.mem_replicate.1 hx).2];exact h1.get (by omega)
     ·rw [List.mem_singleton] at hx;rw [hx];exact h1.get (by omega)
    ·simp;omega
theorem dsym_end {d d':DS} {s:Nat} {t:List Nat} (h:DsOk d) (he:dsym d s=some (d',t,true)):(∀x∈t,x<256)∧t.length≤d.left:=by
 obtain ⟨L,left,run,digits⟩:=d
 obtain ⟨h1,h2,h3,h4,h5⟩:=h
 unfold dsym at he
 dsimp only at h1 h2 h3 h4 h5 he
 split at he
 ·split at he
  ·simp at he
  ·cases he
 ·split at he
  ·split at he
   ·simp only [Option.some.injEq,Prod.mk.injEq] at he
    obtain ⟨rfl,rfl,_⟩:=he
    refine ⟨fun x hx=> ?_,by simp;omega⟩
    rw [(List.mem_replicate.1 hx).2];exact h1.get (by omega)
   ·cases he
  ·split at he
   ·cases he
   ·simp at he
end Go.Sym
namespace Go.Proofs.YtcdpblipagajiaaGreat
open Go Go.Vc Go.Inc Go.Sym
abbrev dsA (L:List Nat) (left run digits:Int) (d:Bool):Array Value:=⟨byV L++ [.int .i64 left,.int .i64 run,.int .i64 digits,.bool d]⟩
theorem dsA_scalar {L:List Nat} {a b c:Int} {d:Bool}:(dsA L a b c d).toList.all scalarB=true:=by
 unfold dsA
 rw [List.all_append,byV_scalar]
 rfl
theorem dsA_size {L:List Nat} {a b c:Int} {d:Bool} (h:L.length=256):(dsA L a b c d).size=260:=by simp [h]
section
variable {E w:World} {F:List HP}
theorem ty_bytes2:ElemT Tryz.prog 22 5 1 1:=ElemT.of (by kernel_rfl) (by kernel_rfl)
abbrev dsP:Nat→Option (Nat×Nat):=(#[(0,256),(256,1),(257,1),(258,1),(259,1)][·]?)
theorem built_ds (ps:List (Nat×Value)):Tryz.prog.built 149 ps=Instr.fill dsP ⟨List.replicate 256 (.int .u8 0)++ [.int .i64 0,.int .i64 0,.int .i64 0,.bool false]⟩ ps:=by kernel_rfl
theorem fill_ds0 {L:List Nat} (hl:L.length=256) (rest:List (Nat×Value)):Instr.fill dsP ⟨List.replicate 256 (.int .u8 0)++ [.int .i64 0,.int .i64 0,.int .i64 0,.bool false]⟩ ((0,.agg ⟨byV L⟩)::rest)=Instr.fill dsP (dsA L 0 0 0 false) rest:=by
 have:=fill_step (place:=dsP) (i:=0) (v:= .agg ⟨byV L⟩) (rest:=rest) (pre:= []) (mid:=List.replicate 256 (.int .u8 0)) (post:= [.int .i64 0,.int .i64 0,.int .i64 0,.bool false]) rfl rfl List.length_replicate (by show (⟨byV L⟩:Array Value).size=_;simp [hl])
 exact this
theorem Bld.ds1 {L:List Nat} {m:Int} {K:Array Value→Prop} (hl:L.length=256) (hK:K (dsA L m 0 0 false)):Bld Tryz.prog 149 [(0,.agg ⟨byV L⟩),(1,.int .i64 m)] K:=by
 refine ⟨_,?_,hK⟩
 rw [built_ds,fill_ds0 hl]
 have:=fill_step (place:=dsP) (i:=1) (v:= .int .i64 m) (rest:= []) (pre:=byV L) (mid:= [.int .i64 0]) (post:= [.int .i64 0,.int .i64 0,.bool false]) rfl (by simp [hl]) rfl rfl
 unfold dsA
 rw [show byV L++ [.int .i64 (0:Int),.int .i64 0,.int .i64 0,.bool false]=byV L++ [.int .i64 0]++ [.int .i64 0,.int .i64 0,.bool false] by simp,this]
 simp [Value.cells,Instr.fill]
theorem Bld.ds4 {L:List Nat} {K:Array Value→Prop} (hl:L.length=256) (hK:K (dsA L 0 0 0 true)):Bld Tryz.prog 149 [(0,.agg ⟨byV L⟩),(4,.bool true)] K:=by
 refine ⟨_,?_,hK⟩
 rw [built_ds,fill_ds0 hl]
 have:=fill_step (place:=dsP) (i:=4) (v:= .bool true) (rest:= []) (pre:=byV L++ [.int .i64 0,.int .i64 0,.int .i64 0]) (mid:= [.bool false]) (post:= []) rfl (by simp [hl]) rfl rfl
 unfold dsA
 rw [show byV L++ [.int .i64 (0:Int),.int .i64 0,.int .i64 0,.bool false]=byV L++ [.int .i64 0,.int .i64 0,.int .i64 0]++ [.bool false]++ [] by simp,this]
 simp [Value.cells,Instr.fill]
set_option maxRecDepth 20000
theorem sdnew_c {m:Nat} {K:Array Value→World→Prop} (h:Hp E w F) (hm:1≤m) (hm2:m≤65536) (hK: ∀w',Hp E w' F→K (dsA (List.range 256) (m:Int) 0 0 false) w'):Cl Tryz.prog [.arr 260] n_symdec_New ⟨[.int .i64 (m:Int)]⟩ w K:=by
 refine symdec_New.ok _ _ _ ?_
 unfold symdec_New.E
 (try simp only [Join_eq,NilCk_some,add_mk,Nat.zero_add,Nat.add_zero,Nat.reduceAdd,Bool.not_true,Bool.not_false,IfB_t,IfB_f,Option.isNone])
 refine Nw.mk h fun b3 w h=>IfB.df (by omega) (IfB.df (by omega) ?_)
 refine mnew_c h fun w h=>Bld.ds1 (by simp) ?_
 have hz:(⟨List.replicate 256 (.int .u8 0)++ [.int .i64 0,.int .i64 0,.int .i64 0,.bool false]⟩:Array Value).size=260:=by simp
 have hd:(dsA (List.range 256) (m:Int) 0 0 false).size=260:=dsA_size (by simp)
 refine StA.q h hz hd dsA_scalar fun w h=> ?_
 exact Ld.xw h hd (hK _ h.tl)
theorem sdvalid_c {d:DS} {K:Bool→World→Prop} (h:Hp E w F) (hd:DsOk d) (hK: ∀w',Hp E w' F→K true w'):Cl Tryz.prog [kB] n_symdec_Valid ⟨[.agg (dsA d.L (d.left:Int) (d.run:Int) (d.digits:Int) false)]⟩ w K:=by
 have hdig:=hd.dig
 obtain ⟨L,left,run,digits⟩:=d
 obtain ⟨h1,h2,h3,h4,h5⟩:=hd
 dsimp only at h1 h2 h3 h4 h5 hdig⊢
 have hL:=byV_len h1.len
 refine symdec_Valid.ok _ _ _ ?_
 unfold symdec_Valid.E
 have hp:2^digits≤65536:=Nat.pow_le_pow_right (n:=2) (by decide) hdig
 have hpp:=Nat.two_pow_pos digits
 have e1:i64 (ishl .i64 1 (digits:Int) - 1)=((2^digits - 1:Nat):Int):=by
  have hmx:IntKind.max .i64=9223372036854775807:=rfl
  have:=ishl_nat (k:= .i64) (a:=1) (b:=digits) (by have:IntKind.bits .i64=64:=rfl;omega) (by rw [hmx];omega)
  have e0:ishl .i64 1 (digits:Int)=((2^digits:Nat):Int):=by simpa using this
  rw [e0,i64_id (by omega)];omega
 (try simp only [Join_eq,NilCk_some,add_mk,Nat.zero_add,Nat.add_zero,Nat.reduceAdd,Bool.not_true,Bool.not_false,IfB_t,IfB_f,Option.isNone])
 (with_reducible repeat first|refine Nw.mk h fun b w h=> ?_|refine Drw.mk h fun w h=> ?_|refine Ld.q h hL rfl rfl ?_|refine LdS.q (fun _ h=>h) hL rfl rfl ?_|refine Ld.p h hL ?_|refine LdS.p (fun _ h=>h) hL ?_|refine Ld.qw h hL rfl ?_|refine LdS.qw (fun _ h=>h) hL rfl ?_|refine ⟨h.hb,?_⟩|(refine St.q h hL rfl rfl rfl fun w h=> ?_;dsimp only [spl,over] at h)|refine IfB.yes ?_|refine IfB.no ?_|refine ⟨by first|omega|decide,?_⟩)
 refine mvalidL_c h h1 fun w h=> ?_
 (with_reducible repeat first|refine Nw.mk h fun b w h=> ?_|refine Drw.mk h fun w h=> ?_|refine Ld.q h hL rfl rfl ?_|refine LdS.q (fun _ h=>h) hL rfl rfl ?_|refine Ld.p h hL ?_|refine LdS.p (fun _ h=>h) hL ?_|refine Ld.qw h hL rfl ?_|refine LdS.qw (fun _ h=>h) hL rfl ?_|refine ⟨h.hb,?_⟩|(refine St.q h hL rfl rfl rfl fun w h=> ?_;dsimp only [spl,over] at h)|refine IfB.yes ?_|refine IfB.no ?_|refine ⟨by first|omega|decide,?_⟩)
 rw [e1]
 (with_reducible repeat first|refine Nw.mk h fun b w h=> ?_|refine Drw.mk h fun w h=> ?_|refine Ld.q h hL rfl rfl ?_|refine LdS.q (fun _ h=>h) hL rfl rfl ?_|refine Ld.p h hL ?_|refine LdS.p (fun _ h=>h) hL ?_|refine Ld.qw h hL rfl ?_|refine LdS.qw (fun _ h=>h) hL rfl ?_|refine ⟨h.hb,?_⟩|(refine St.q h hL rfl rfl rfl fun w h=> ?_;dsimp only [spl,over] at h)|refine IfB.yes ?_|refine IfB.no ?_|refine ⟨by first|omega|decide,?_⟩)
 rw [i64_id (by omega)]
 (with_reducible repeat first|refine Nw.mk h fun b w h=> ?_|refine Drw.mk h fun w h=> ?_|refine Ld.q h hL rfl rfl ?_|refine LdS.q (fun _ h=>h) hL rfl rfl ?_|refine Ld.p h hL ?_|refine LdS.p (fun _ h=>h) hL ?_|refine Ld.qw h hL rfl ?_|refine LdS.qw (fun _ h=>h) hL rfl ?_|refine ⟨h.hb,?_⟩|(refine St.q h hL rfl rfl rfl fun w h=> ?_;dsimp only [spl,over] at h)|refine IfB.yes ?_|refine IfB.no ?_|refine ⟨by first|omega|decide,?_⟩)
 exact hK _ h.tl
theorem sdrun_c {L:List Nat} {left digits:Int} {run:Nat} {d:Bool} {K:Sl→World→Prop} (h:Hp E w F) (hl:L.length=256) (hr:run≤65536) (hK: ∀s' w',Hp E w' (OwnS 1 s' ((List.replicate run (L.getD 0 0)).map vB)::F)→K s' w'):
  Cl Tryz.prog [kS] n_symdec_run ⟨[.agg (dsA L left (run:Int) digits d)]⟩ w K:=by
 have hL:=byV_len hl
 refine symdec_run.ok _ _ _ ?_
 unfold symdec_run.E
 (try simp only [Join_eq,NilCk_some,add_mk,Nat.zero_add,Nat.add_zero,Nat.reduceAdd,Bool.not_true,Bool.not_false,IfB_t,IfB_f,Option.isNone])
 (with_reducible repeat first|refine Nw.mk h fun b w h=> ?_|refine Drw.mk h fun w h=> ?_|refine Ld.q h hL rfl rfl ?_|refine LdS.q (fun _ h=>h) hL rfl rfl ?_|refine Ld.p h hL ?_|refine LdS.p (fun _ h=>h) hL ?_|refine Ld.qw h hL rfl ?_|refine LdS.qw (fun _ h=>h) hL rfl ?_|refine ⟨h.hb,?_⟩|(refine St.q h hL rfl rfl rfl fun w h=> ?_;dsimp only [spl,over] at h)|refine IfB.yes ?_|refine IfB.no ?_|refine ⟨by first|omega|decide,?_⟩)
 refine ⟨by omega,by omega,by omega,by simp,?_⟩
 rw [if_neg (by decide)]
 simp only [Option.map_some,add_mk,show (0:Int).toNat=0 from rfl,Nat.zero_mul,Nat.zero_add,show (1:Int).toNat=1 from rfl,show (256:Int).toNat=256 from rfl,Nat.sub_zero]
 (with_reducible repeat first|refine Nw.mk h fun b w h=> ?_|refine Drw.mk h fun w h=> ?_|refine Ld.q h hL rfl rfl ?_|refine LdS.q (fun _ h=>h) hL rfl rfl ?_|refine Ld.p h hL ?_|refine LdS.p (fun _ h=>h) hL ?_|refine Ld.qw h hL rfl ?_|refine LdS.qw (fun _ h=>h) hL rfl ?_|refine ⟨h.hb,?_⟩|(refine St.q h hL rfl rfl rfl fun w h=> ?_;dsimp only [spl,over] at h)|refine IfB.yes ?_|refine IfB.no ?_|refine ⟨by first|omega|decide,?_⟩)
 refine repeat_c (s:=⟨some ⟨b,0,none⟩,1,256⟩) (c:=L.getD 0 0) h ?_ hr fun s' w h=>hK _ _ (h.at 1).drop
 rintro w' f a ⟨g,k,hd,rfl,rfl,h2⟩
 refine ⟨rfl,fun i hi=>⟨⟨b,0,none⟩,rfl,?_⟩⟩
 have:w'.heap[b]? =some (.cells (dsA L left (run:Int) digits d) 149 (0,0)):=a b _ (by simp [Frag.add,Frag.one])
 simp only [List.length_singleton] at hi
 have hi0:i=0:=by omega
 subst hi0
 rw [add_mk]
 simp only [World.cell?,this]
 simp [List.getElem?_append,hl,List.getD_eq_getElem?_getD]
theorem sdstep_c {d:DS} {s:Nat} {K:Array Value→Sl→Bool→World→Prop} (h:Hp E w F) (hd:DsOk d) (hs:s<258)
  (hn: ∀o sl w',dsym d s=none→o.size=260→o.toList.all scalarB=true→Hp E w' F→K o sl false w')
  (hm: ∀d' t sl w',dsym d s=some (d',t,false)→Hp E w' (OwnS 1 sl (t.map vB)::F)→K (dsA d'.L (d'.left:Int) (d'.run:Int) (d'.digits:Int) false) sl true w')
  (he: ∀d' t sl w',dsym d s=some (d',t,true)→Hp E w' (OwnS 1 sl (t.map vB)::F)→K (dsA d.L 0 0 0 true) sl true w'):
  Cl Tryz.prog [.arr 260,kS,kB] n_symdec_step ⟨[.agg (dsA d.L (d.left:Int) (d.run:Int) (d.digits:Int) false),.int .i64 (s:Int)]⟩ w K:=by
 have hdig:=hd.dig
 obtain ⟨L,left,run,digits⟩:=d
 obtain ⟨h1,h2,h3,h4,h5⟩:=hd
 unfold dsym at hn hm he
 dsimp only at h1 h2 h3 h4 h5 hdig hn hm he⊢
 have hl:=h1.len
 have hL:=byV_len hl
 have hz:(⟨List.replicate 256 (.int .u8 0)++ [.int .i64 0,.int .i64 0,.int .i64 0,.bool false]⟩:Array Value).size=260:=by simp
 have hp:2^digits≤65536:=Nat.pow_le_pow_right (n:=2) (by decide) hdig
 refine symdec_step.ok _ _ _ _ ?_
 unfold symdec_step.E
 (try simp only [Join_eq,NilCk_some,add_mk,Nat.zero_add,Nat.add_zero,Nat.reduceAdd,Bool.not_true,Bool.not_false,IfB_t,IfB_f,Option.isNone])
 refine Nw.mk h fun b4 w h=>Nw.mk h fun b6 w h=> ?_
 by_cases hs2:s<2
 ·simp only [if_pos hs2] at hn hm he
  have hb:(1+s)*2^digits≤131072:=by
   have:=Nat.mul_le_mul (show 1+s≤2 by omega) hp
   omega
  have fin: ∀w,Hp E w (Blk b6 (.cells ⟨List.replicate 256 (.int .u8 0)++ [.int .i64 0,.int .i64 0,.int .i64 0,.bool false]⟩ 149 (0,0))::Blk b4 (.cells (dsA L (left:Int) (run:Int) (digits:Int) false) 149 (0,0))::F)→
   Ld kI ⟨b4,257,none⟩ w fun (Run10:Int)=>Ld kI ⟨b4,258,none⟩ w fun (Digits11:Int)=>
   Cl Tryz.prog [kI,kI] n_zerorun_Add ⟨[.int .i64 Run10,.int .i64 Digits11,.int .i64 (s:Int)]⟩ w fun r13 _ w_12=>
   St ⟨b4,257,none⟩ (.int .i64 r13) w_12 fun w_15=>Ld kI ⟨b4,258,none⟩ w_15 fun (Digits16:Int)=>St ⟨b4,258,none⟩ (.int .i64 (i64 (Digits16+1))) w_15 fun w_17=>
   Held w_17 fun S18 w_19=>LdS (.arr 260) ⟨b4,0,none⟩ S18 fun x20=>LdS kI ⟨b4,257,none⟩ S18 fun (Run21:Int)=>LdS kI ⟨b4,256,none⟩ S18 fun (Left22:Int)=>
   StA 260 ⟨b6,0,none⟩ x20 w_19 fun w_23=>S18 w_23∧Ld (.arr 260) ⟨b6,0,none⟩ w_23 fun res24=>K res24 ⟨none,0,0⟩ (decide (Run21≤Left22)) w_23:=by
   intro w h
   (with_reducible repeat first|refine Nw.mk h fun b w h=> ?_|refine Drw.mk h fun w h=> ?_|refine Ld.q h hL rfl rfl ?_|refine LdS.q (fun _ h=>h) hL rfl rfl ?_|refine Ld.p h hL ?_|refine LdS.p (fun _ h=>h) hL ?_|refine Ld.qw h hL rfl ?_|refine LdS.qw (fun _ h=>h) hL rfl ?_|refine ⟨h.hb,?_⟩|(refine St.q h hL rfl rfl rfl fun w h=> ?_;dsimp only [spl,over] at h)|refine IfB.yes ?_|refine IfB.no ?_|refine ⟨by first|omega|decide,?_⟩)
   refine zadd_c (by omega) hdig (by omega) ?_
   generalize (1+s)*2^digits=q at hb hm hn⊢
   (with_reducible repeat first|refine Nw.mk h fun b w h=> ?_|refine Drw.mk h fun w h=> ?_|refine Ld.q h hL rfl rfl ?_|refine LdS.q (fun _ h=>h) hL rfl rfl ?_|refine Ld.p h hL ?_|refine LdS.p (fun _ h=>h) hL ?_|refine Ld.qw h hL rfl ?_|refine LdS.qw (fun _ h=>h) hL rfl ?_|refine ⟨h.hb,?_⟩|(refine St.q h hL rfl rfl rfl fun w h=> ?_;dsimp only [spl,over] at h)|refine IfB.yes ?_|refine IfB.no ?_|refine ⟨by first|omega|decide,?_⟩)
   rw [i64_id (by omega)] at h
   have h:=h.drew (n:=w.drawn+1)
   refine ⟨HoldB b4 _ _ _,h.hb,?_⟩
   dsimp only
   (with_reducible repeat first|refine Nw.mk h fun b w h=> ?_|refine Drw.mk h fun w h=> ?_|refine Ld.q h hL rfl rfl ?_|refine LdS.q (fun _ h=>h) hL rfl rfl ?_|refine Ld.p h hL ?_|refine LdS.p (fun _ h=>h) hL ?_|refine Ld.qw h hL rfl ?_|refine LdS.qw (fun _ h=>h) hL rfl ?_|refine ⟨h.hb,?_⟩|(refine St.q h hL rfl rfl rfl fun w h=> ?_;dsimp only [spl,over] at h)|refine IfB.yes ?_|refine IfB.no ?_|refine ⟨by first|omega|decide,?_⟩)
   refine StA.q h hz (dsA_size hl) dsA_scalar fun w h=>⟨h.hb,?_⟩
   (with_reducible repeat first|refine Nw.mk h fun b w h=> ?_|refine Drw.mk h fun w h=> ?_|refine Ld.q h hL rfl rfl ?_|refine LdS.q (fun _ h=>h) hL rfl rfl ?_|refine Ld.p h hL ?_|refine LdS.p (fun _ h=>h) hL ?_|refine Ld.qw h hL rfl ?_|refine LdS.qw (fun _ h=>h) hL rfl ?_|refine ⟨h.hb,?_⟩|(refine St.q h hL rfl rfl rfl fun w h=> ?_;dsimp only [spl,over] at h)|refine IfB.yes ?_|refine IfB.no ?_|refine ⟨by first|omega|decide,?_⟩)
   by_cases hle:run+q≤left
   ·rw [if_pos hle] at hm
    exact as1 (K:=fun b w=>K _ _ b w) (decide_eq_true (by omega)) (hm ⟨L,left,run+q,digits+1⟩ [] _ _ rfl (h.tl.ownNil 1))
   ·rw [if_neg hle] at hn
    exact as1 (K:=fun b w=>K _ _ b w) (decide_eq_false (by omega)) (hn _ _ _ rfl (dsA_size hl) dsA_scalar h.tl)
  by_cases h0:s=0
  ·exact IfB.et (by omega) (fin _ h)
  ·refine IfB.ef (by omega) ?_
   exact IfB.et (by omega) (fin _ h)
 ·simp only [if_neg hs2] at hn hm he
  refine IfB.ef (by omega) (IfB.ef (by omega) ?_)
  by_cases hs3:s=257
  ·simp only [if_pos hs3] at hn hm he
   refine IfB.et (by omega) ?_
   have h:=h.drew (n:=w.drawn+1)
   refine ⟨HoldB b4 _ _ _,h.hb,?_⟩
   dsimp only
   (with_reducible repeat first|refine Nw.mk h fun b w h=> ?_|refine Drw.mk h fun w h=> ?_|refine Ld.q h hL rfl rfl ?_|refine LdS.q (fun _ h=>h) hL rfl rfl ?_|refine Ld.p h hL ?_|refine LdS.p (fun _ h=>h) hL ?_|refine Ld.qw h hL rfl ?_|refine LdS.qw (fun _ h=>h) hL rfl ?_|refine ⟨h.hb,?_⟩|(refine St.q h hL rfl rfl rfl fun w h=> ?_;dsimp only [spl,over] at h)|refine IfB.yes ?_|refine IfB.no ?_|refine ⟨by first|omega|decide,?_⟩)
   refine Bld.ds4 hl ?_
   (with_reducible repeat first|refine Nw.mk h fun b w h=> ?_|refine Drw.mk h fun w h=> ?_|refine Ld.q h hL rfl rfl ?_|refine LdS.q (fun _ h=>h) hL rfl rfl ?_|refine Ld.p h hL ?_|refine LdS.p (fun _ h=>h) hL ?_|refine Ld.qw h hL rfl ?_|refine LdS.qw (fun _ h=>h) hL rfl ?_|refine ⟨h.hb,?_⟩|(refine St.q h hL rfl rfl rfl fun w h=> ?_;dsimp only [spl,over] at h)|refine IfB.yes ?_|refine IfB.no ?_|refine ⟨by first|omega|decide,?_⟩)
   refine sdrun_c h hl (by omega) fun sl w h=>⟨h.hb,?_⟩
   refine StA.q h hz (dsA_size hl) dsA_scalar fun w h=>⟨h.hb,?_⟩
   refine Ld.xw h (dsA_size hl) ?_
   by_cases hrl:run=left
   ·rw [if_pos hrl] at he
    exact as1 (K:=fun b w=>K _ _ b w) (beq_iff_eq.2 (by omega)) (he _ _ _ _ rfl ((h.no 1).no 1))
   ·rw [if_neg hrl] at hn
    exact as1 (K:=fun b w=>K _ _ b w) (beq_eq_false_iff_ne.2 (by omega)) (hn _ _ _ rfl (dsA_size hl) dsA_scalar h.tl)
  ·simp only [if_neg hs3] at hn hm he
   refine IfB.ef (by omega) ?_
   (with_reducible repeat first|refine Nw.mk h fun b w h=> ?_|refine Drw.mk h fun w h=> ?_|refine Ld.q h hL rfl rfl ?_|refine LdS.q (fun _ h=>h) hL rfl rfl ?_|refine Ld.p h hL ?_|refine LdS.p (fun _ h=>h) hL ?_|refine Ld.qw h hL rfl ?_|refine LdS.qw (fun _ h=>h) hL rfl ?_|refine ⟨h.hb,?_⟩|(refine St.q h hL rfl rfl rfl fun w h=> ?_;dsimp only [spl,over] at h)|refine IfB.yes ?_|refine IfB.no ?_|refine ⟨by first|omega|decide,?_⟩)
   by_cases hrl:run=left
   ·rw [if_pos hrl] at hn
    refine IfB.et (by omega) ?_
    (with_reducible repeat first|refine Nw.mk h fun b w h=> ?_|refine Drw.mk h fun w h=> ?_|refine Ld.q h hL rfl rfl ?_|refine LdS.q (fun _ h=>h) hL rfl rfl ?_|refine Ld.p h hL ?_|refine LdS.p (fun _ h=>h) hL ?_|refine Ld.qw h hL rfl ?_|refine LdS.qw (fun _ h=>h) hL rfl ?_|refine ⟨h.hb,?_⟩|(refine St.q h hL rfl rfl rfl fun w h=> ?_;dsimp only [spl,over] at h)|refine IfB.yes ?_|refine IfB.no ?_|refine ⟨by first|omega|decide,?_⟩)
    refine StA.q h hz (dsA_size hl) dsA_scalar fun w h=> ?_
    (with_reducible repeat first|refine Nw.mk h fun b w h=> ?_|refine Drw.mk h fun w h=> ?_|refine Ld.q h hL rfl rfl ?_|refine LdS.q (fun _ h=>h) hL rfl rfl ?_|refine Ld.p h hL ?_|refine LdS.p (fun _ h=>h) hL ?_|refine Ld.qw h hL rfl ?_|refine LdS.qw (fun _ h=>h) hL rfl ?_|refine ⟨h.hb,?_⟩|(refine St.q h hL rfl rfl rfl fun w h=> ?_;dsimp only [spl,over] at h)|refine IfB.yes ?_|refine IfB.no ?_|refine ⟨by first|omega|decide,?_⟩)
    exact hn _ _ _ rfl (dsA_size hl) dsA_scalar h.tl
   ·rw [if_neg hrl] at hm
    refine IfB.ef (by omega) ?_
    (with_reducible repeat first|refine Nw.mk h fun b w h=> ?_|refine Drw.mk h fun w h=> ?_|refine Ld.q h hL rfl rfl ?_|refine LdS.q (fun _ h=>h) hL rfl rfl ?_|refine Ld.p h hL ?_|refine LdS.p (fun _ h=>h) hL ?_|refine Ld.qw h hL rfl ?_|refine LdS.qw (fun _ h=>h) hL rfl ?_|refine ⟨h.hb,?_⟩|(refine St.q h hL rfl rfl rfl fun w h=> ?_;dsimp only [spl,over] at h)|refine IfB.yes ?_|refine IfB.no ?_|refine ⟨by first|omega|decide,?_⟩)
    rw [i64_id (by omega),show (s:Int) - 1=((s - 1:Nat):Int) by omega]
    refine mtake_c h hl (by omega) fun w h=> ?_
    have hml:(mtake L (s - 1)).length=256:=by rw [mtake_len (by omega)];exact hl
    have hM:(⟨byV (mtake L (s - 1))⟩:Array Value).size=256:=by simp [hml]
    refine Nw.mk h fun b47 w h=> ?_
    refine StA.q h (by simp) hM byV_scalar fun w h=> ?_
    (with_reducible repeat first|refine Nw.mk h fun b w h=> ?_|refine Drw.mk h fun w h=> ?_|refine Ld.q h hL rfl rfl ?_|refine LdS.q (fun _ h=>h) hL rfl rfl ?_|refine Ld.p h hL ?_|refine LdS.p (fun _ h=>h) hL ?_|refine Ld.qw h hL rfl ?_|refine LdS.qw (fun _ h=>h) hL rfl ?_|refine ⟨h.hb,?_⟩|(refine St.q h hL rfl rfl rfl fun w h=> ?_;dsimp only [spl,over] at h)|refine IfB.yes ?_|refine IfB.no ?_|refine ⟨by first|omega|decide,?_⟩)
    refine sdrun_c h hl (by omega) fun sl w h=> ?_
    refine Nw.mk h fun b53 w h=> ?_
    have hsl:=(h.at 1).ownLen
    simp only [List.length_map,List.length_replicate,Nat.mul_one] at hsl
    refine run_append (ys:= [vB (L.getD (s - 1) 0)]) (n:=1) ty_bytes2 (by decide) (.inl ⟨5,by kernel_rfl⟩) (h.at 1) (.inl ⟨some ⟨b53,0,none⟩,1,1,rfl,rfl,h.tells (Tells.blk rfl rfl)⟩) rfl (fun y hy=>by simp at hy;subst hy;rfl) (by omega) (by omega) fun s' w h hs'=> ?_
    refine Ld.xw h hM ?_
    (with_reducible repeat first|refine Nw.mk h fun b w h=> ?_|refine Drw.mk h fun w h=> ?_|refine Ld.q h hL rfl rfl ?_|refine LdS.q (fun _ h=>h) hL rfl rfl ?_|refine Ld.p h hL ?_|refine LdS.p (fun _ h=>h) hL ?_|refine Ld.qw h hL rfl ?_|refine LdS.qw (fun _ h=>h) hL rfl ?_|refine ⟨h.hb,?_⟩|(refine St.q h hL rfl rfl rfl fun w h=> ?_;dsimp only [spl,over] at h)|refine IfB.yes ?_|refine IfB.no ?_|refine ⟨by first|omega|decide,?_⟩)
    rw [hs',i64_id (by omega),show (left:Int) - ((sl.len+1:Nat):Int)=((left - (run+1):Nat):Int) by omega]
    refine Bld.ds1 hml ?_
    refine StA.q h hz (dsA_size hml) dsA_scalar fun w h=> ?_
    refine Ld.xw h (dsA_size hml) ?_
    refine hm ⟨mtake L (s - 1),left - (run+1),0,0⟩ _ _ _ rfl ?_
    have e:(List.replicate run (L.getD 0 0)).map vB++ [vB (L.getD (s - 1) 0)]=(List.replicate run (L.getD 0 0)++ [L.getD (s - 1) 0]).map vB:=by simp
    rw [e] at h
    exact (((h.no 1).no 1).no 1).no 1
theorem sdStep_c {d:DS} {s:Nat} {K:Array Value→Sl→Bool→Int→World→Prop} (h:Hp E w F) (hd:DsOk d) (hs:s<258)
  (hn: ∀o w',dsym d s=none→o.size=260→o.toList.all scalarB=true→Hp E w' F→K o ⟨none,0,0⟩ false 160 w')
  (hm: ∀d' t sl w',dsym d s=some (d',t,false)→Hp E w' (OwnS 1 sl (t.map vB)::F)→K (dsA d'.L (d'.left:Int) (d'.run:Int) (d'.digits:Int) false) sl false 0 w')
  (he: ∀d' t sl w',dsym d s=some (d',t,true)→Hp E w' (OwnS 1 sl (t.map vB)::F)→K (dsA d.L 0 0 0 true) sl true 0 w'):
  Cl Tryz.prog [.arr 260,kS,kB,kI] n_symdec_Step ⟨[.agg (dsA d.L (d.left:Int) (d.run:Int) (d.digits:Int) false),.int .i64 (s:Int)]⟩ w K:=by
 have hl:=hd.1.len
 have hL:=byV_len hl
 have hz:(⟨List.replicate 256 (.int .u8 0)++ [.int .i64 0,.int .i64 0,.int .i64 0,.bool false]⟩:Array Value).size=260:=by simp
 refine symdec_Step.ok _ _ _ _ ?_
 unfold symdec_Step.E
 (try simp only [Join_eq,NilCk_some,add_mk,Nat.zero_add,Nat.add_zero,Nat.reduceAdd,Bool.not_true,Bool.not_false,IfB_t,IfB_f,Option.isNone])
 refine Nw.mk h fun b4 w h=>Nw.mk h fun b6 w h=> ?_
 (with_reducible repeat first|refine Nw.mk h fun b w h=> ?_|refine Drw.mk h fun w h=> ?_|refine Ld.q h hL rfl rfl ?_|refine LdS.q (fun _ h=>h) hL rfl rfl ?_|refine Ld.p h hL ?_|refine LdS.p (fun _ h=>h) hL ?_|refine Ld.qw h hL rfl ?_|refine LdS.qw (fun _ h=>h) hL rfl ?_|refine ⟨h.hb,?_⟩|(refine St.q h hL rfl rfl rfl fun w h=> ?_;dsimp only [spl,over] at h)|refine IfB.yes ?_|refine IfB.no ?_|refine ⟨by first|omega|decide,?_⟩)
 refine sdvalid_c h hd fun w h=> ?_
 (with_reducible repeat first|refine Nw.mk h fun b w h=> ?_|refine Drw.mk h fun w h=> ?_|refine Ld.q h hL rfl rfl ?_|refine LdS.q (fun _ h=>h) hL rfl rfl ?_|refine Ld.p h hL ?_|refine LdS.p (fun _ h=>h) hL ?_|refine Ld.qw h hL rfl ?_|refine LdS.qw (fun _ h=>h) hL rfl ?_|refine ⟨h.hb,?_⟩|(refine St.q h hL rfl rfl rfl fun w h=> ?_;dsimp only [spl,over] at h)|refine IfB.yes ?_|refine IfB.no ?_|refine ⟨by first|omega|decide,?_⟩)
 refine sdstep_c h hd hs (fun o sl w hq ho hos h=> ?_) (fun d' t sl w hq h=> ?_) (fun d' t sl w hq h=> ?_)
 ·refine StA.q h hz ho hos fun w h=> ?_
  (with_reducible repeat first|refine Nw.mk h fun b w h=> ?_|refine Drw.mk h fun w h=> ?_|refine Ld.q h hL rfl rfl ?_|refine LdS.q (fun _ h=>h) hL rfl rfl ?_|refine Ld.p h hL ?_|refine LdS.p (fun _ h=>h) hL ?_|refine Ld.qw h hL rfl ?_|refine LdS.qw (fun _ h=>h) hL rfl ?_|refine ⟨h.hb,?_⟩|(refine St.q h hL rfl rfl rfl fun w h=> ?_;dsimp only [spl,over] at h)|refine IfB.yes ?_|refine IfB.no ?_|refine ⟨by first|omega|decide,?_⟩)
  refine StA.q h ho (dsA_size hl) dsA_scalar fun w h=> ?_
  refine Ld.xw h (dsA_size hl) ?_
  exact hn _ _ hq (dsA_size hl) dsA_scalar h.tl
 ·have hl':=(dsym_ok hd hs hq).1.1.len
  have hL:=byV_len hl'
  refine StA.q h hz (dsA_size hl') dsA_scalar fun w h=> ?_
  (with_reducible repeat first|refine Nw.mk h fun b w h=> ?_|refine Drw.mk h fun w h=> ?_|refine Ld.q h hL rfl rfl ?_|refine LdS.q (fun _ h=>h) hL rfl rfl ?_|refine Ld.p h hL ?_|refine LdS.p (fun _ h=>h) hL ?_|refine Ld.qw h hL rfl ?_|refine LdS.qw (fun _ h=>h) hL rfl ?_|refine ⟨h.hb,?_⟩|(refine St.q h hL rfl rfl rfl fun w h=> ?_;dsimp only [spl,over] at h)|refine IfB.yes ?_|refine IfB.no ?_|refine ⟨by first|omega|decide,?_⟩)
  refine StA.q h (dsA_size hl') (dsA_size hl') dsA_scalar fun w h=> ?_
  refine Ld.xw h (dsA_size hl') ?_
  exact hm _ _ _ _ hq ((h.no 1).no 1)
 ·refine StA.q h hz (dsA_size hl) dsA_scalar fun w h=> ?_
  (with_reducible repeat first|refine Nw.mk h fun b w h=> ?_|refine Drw.mk h fun w h=> ?_|refine Ld.q h hL rfl rfl ?_|refine LdS.q (fun _ h=>h) hL rfl rfl ?_|refine Ld.p h hL ?_|refine LdS.p (fun _ h=>h) hL ?_|refine Ld.qw h hL rfl ?_|refine LdS.qw (fun _ h=>h) hL rfl ?_|refine ⟨h.hb,?_⟩|(refine St.q h hL rfl rfl rfl fun w h=> ?_;dsimp only [spl,over] at h)|refine IfB.yes ?_|refine IfB.no ?_|refine ⟨by first|omega|decide,?_⟩)
  refine StA.q h (dsA_size hl) (dsA_size hl) dsA_scalar fun w h=> ?_
  refine Ld.xw h (dsA_size hl) ?_
  exact he _ _ _ _ hq ((h.no 1).no 1)
end
end Go.Proofs.YtcdpblipagajiaaGreat
set_option maxRecDepth 20000
namespace Go.Blk
open Go.Inc Go.Srt Go.Sym Go.Bits
structure CS where
 c:Nat
 n:Nat
 d:DS
 acc:List Nat
def cstep (l:List Nat) (s:CS) (x:Nat):Stp CS (List Nat) Nat:=match findS l (2*s.c+x) (s.n+1) with
 |none=> .more ⟨2*s.c+x,s.n+1,s.d,s.acc⟩
 |some y=>match dsym s.d y with
  |none=> .bad 160
  |some (_,t,true)=> .fin (s.acc++t)
  |some (d',t,false)=> .more ⟨0,0,d',s.acc++t⟩
theorem cs_none {l:List Nat} {s:CS} {x:Nat} (h:findS l (2*s.c+x) (s.n+1)=none):cstep l s x= .more ⟨2*s.c+x,s.n+1,s.d,s.acc⟩:=by unfold cstep;rw [h]
theorem cs_some {l:List Nat} {s:CS} {x y:Nat} (h:findS l (2*s.c+x) (s.n+1)=some y):cstep l s x=match dsym s.d y with
  |none=> .bad 160
  |some (_,t,true)=> .fin (s.acc++t)
  |some (d',t,false)=> .more ⟨0,0,d',s.acc++t⟩:=by unfold cstep;rw [h]
section
variable {l:List Nat}
theorem cs_tail (hl:l.length=258) (hv:ksum l≤32768) {s:Nat} (hs:goodS l s) (rest acc:List Nat) (d:DS): ∀k m,m+k=l.getD s 0→0<k→
  run (cstep l) ⟨code l s/2^(l.getD s 0 - m),m,d,acc⟩ ((bn (l.getD s 0) (code l s)).drop m++rest)=match dsym d s with
   |none=> .bad 160
   |some (_,t,true)=> .fin (acc++t) rest
   |some (d',t,false)=>run (cstep l) ⟨0,0,d',acc++t⟩ rest
 |0,_,_,h=>by omega
 |k+1,m,hm,_=>by
  have h15:=len15 hv s
  have hlen:=bn_len (l.getD s 0) (code l s)
  have hlt:m<(bn (l.getD s 0) (code l s)).length:=by omega
  rw [List.drop_eq_getElem_cons hlt,List.cons_append]
  have hx:(bn (l.getD s 0) (code l s))[m]=code l s/2^(l.getD s 0 - 1 - m) % 2:=by
   rw [←bn_get _ _ _ (by omega),getD_get hlt]
  have hc:2*(code l s/2^(l.getD s 0 - m))+(bn (l.getD s 0) (code l s))[m]=code l s/2^(l.getD s 0 - (m+1)):=by
   rw [hx,show l.getD s 0 - m=(l.getD s 0 - 1 - m)+1 by omega,Nat.pow_succ,←Nat.div_div_eq_div_mul,show l.getD s 0 - (m+1)=l.getD s 0 - 1 - m by omega]
   omega
  by_cases e:k=0
  ·subst e
   have e1:m+1=l.getD s 0:=by omega
   have hf:findS l (2*(code l s/2^(l.getD s 0 - m))+(bn (l.getD s 0) (code l s))[m]) (m+1)=some s:=by
    rw [hc,e1,Nat.sub_self,Nat.pow_zero,Nat.div_one,findS_self hl hs]
   have hcs:=cs_some (s:=⟨code l s/2^(l.getD s 0 - m),m,d,acc⟩) hf
   rw [run_cons,hcs,List.drop_of_length_le (by omega),List.nil_append]
   cases hd:dsym d s with
   |none=>rfl
   |some p=>
    obtain ⟨d',t,b⟩:=p
    cases b<;>rfl
  ·have hf:findS l (2*(code l s/2^(l.getD s 0 - m))+(bn (l.getD s 0) (code l s))[m]) (m+1)=none:=by
    rw [hc,findS_pre hl hv hs (by omega)]
   have hcs:=cs_none (s:=⟨code l s/2^(l.getD s 0 - m),m,d,acc⟩) hf
   rw [run_more hcs]
   simp only
   rw [hc]
   exact cs_tail hl hv hs rest acc d k (m+1) (by omega) (by omega)
theorem cs_one (hl:l.length=258) (hv:ksum l≤32768) {s:Nat} (hs:goodS l s) (rest acc:List Nat) (d:DS):run (cstep l) ⟨0,0,d,acc⟩ (encB l s++rest)=match dsym d s with
   |none=> .bad 160
   |some (_,t,true)=> .fin (acc++t) rest
   |some (d',t,false)=>run (cstep l) ⟨0,0,d',acc++t⟩ rest:=by
 have h:=cs_tail hl hv hs rest acc d (l.getD s 0) 0 (by omega) hs.2
 have hc:=code_lt hl hv hs.1 hs.2
 rw [Nat.sub_zero,Nat.div_eq_of_lt hc,List.drop_zero] at h
 exact h
theorem cs_enc (hl:l.length=258) (hv:ksum l≤32768): ∀(ss rest acc:List Nat) (d:DS),(∀s∈ss,goodS l s)→run (cstep l) ⟨0,0,d,acc⟩ (enc l ss++rest)=match run sstep (d,acc) ss with
   | .bad e=> .bad e
   | .fin t r=> .fin t (enc l r++rest)
   | .short (d',acc')=>run (cstep l) ⟨0,0,d',acc'⟩ rest
 | [],rest,acc,d,_=>rfl
 |s::ss,rest,acc,d,h=>by
  rw [enc_cons,List.append_assoc,cs_one hl hv (h s (by simp)),run_cons]
  cases hd:dsym d s with
  |none=>rw [sst_bad hd]
  |some p=>
   obtain ⟨d',t,b⟩:=p
   cases b with
   |true=>rw [sst_fin hd]
   |false=>
    rw [sst_more hd]
    exact cs_enc hl hv ss rest _ d' fun t ht=>h t (by simp [ht])
end
end Go.Blk
set_option maxRecDepth 20000
namespace Go.Tab
open Go.Inc
structure TS where
 l:List Nat
 bits:Nat
 now:Nat
 way:Nat
def t0:TS:=⟨[],0,0,0⟩
def tstep (ok:List Nat→Bool) (s:TS) (b:Nat):Stp TS (List Nat) Nat:=
 if s.bits<4 then .more ⟨s.l,s.bits+1,2*s.now+b,s.way⟩
 else if s.bits=4 then
  if b=0 then
   if s.l.length+1<258 then .more ⟨s.l++ [s.now],4,s.now,0⟩
   else if ok (s.l++ [s.now]) then .fin (s.l++ [s.now]) else .bad 100
  else .more ⟨s.l,5,s.now,s.way⟩
 else if b=0 then
  if s.way≠2∧s.now<15 then .more ⟨s.l,4,s.now+1,1⟩ else .bad 100
 else if s.way≠1∧0<s.now then .more ⟨s.l,4,s.now - 1,2⟩ else .bad 100
def ups:Nat→List Nat
 |0=> []
 |k+1=>1::0::ups k
def downs:Nat→List Nat
 |0=> []
 |k+1=>1::1::downs k
def chg (was now:Nat):List Nat:=(if now<was then downs (was - now) else ups (now - was))++ [0]
def tabs:Nat→List Nat→List Nat
 |_,[]=> []
 |was,n::l=>chg was n++tabs n l
def four (n:Nat):List Nat:= [n/8 % 2,n/4 % 2,n/2 % 2,n % 2]
def tput (l:List Nat):List Nat:=four (l.headD 0)++tabs (l.headD 0) l
section
variable {ok:List Nat→Bool}
theorem run_ups: ∀(k:Nat) (l:List Nat) (now way:Nat) (r:List Nat),way≠2→now+k≤15→∃way',run (tstep ok) ⟨l,4,now,way⟩ (ups k++r)=run (tstep ok) ⟨l,4,now+k,way'⟩ r
 |0,l,now,way,r,_,_=>⟨way,rfl⟩
 |k+1,l,now,way,r,hw,hk=>by
  obtain ⟨way',h⟩:=run_ups k l (now+1) 1 r (by decide) (by omega)
  refine ⟨way',?_⟩
  have h1:tstep ok ⟨l,4,now,way⟩ 1= .more ⟨l,5,now,way⟩:=rfl
  have h2:tstep ok ⟨l,5,now,way⟩ 0= .more ⟨l,4,now+1,1⟩:=by
   simp only [tstep]
   rw [if_neg (by decide),if_neg (by decide),if_pos trivial,if_pos ⟨hw,by omega⟩]
  show run (tstep ok) ⟨l,4,now,way⟩ (1::0::(ups k++r))=_
  rw [run_more h1,run_more h2,h,show now+1+k=now+(k+1) by omega]
theorem run_downs: ∀(k:Nat) (l:List Nat) (now way:Nat) (r:List Nat),way≠1→k≤now→∃way',run (tstep ok) ⟨l,4,now,way⟩ (downs k++r)=run (tstep ok) ⟨l,4,now - k,way'⟩ r
 |0,l,now,way,r,_,_=>⟨way,rfl⟩
 |k+1,l,now,way,r,hw,hk=>by
  obtain ⟨way',h⟩:=run_downs k l (now - 1) 2 r (by decide) (by omega)
  refine ⟨way',?_⟩
  have h1:tstep ok ⟨l,4,now,way⟩ 1= .more ⟨l,5,now,way⟩:=rfl
  have h2:tstep ok ⟨l,5,now,way⟩ 1= .more ⟨l,4,now - 1,2⟩:=by
   simp only [tstep]
   rw [if_neg (by decide),if_neg (by decide),if_neg (by decide),if_pos ⟨hw,by omega⟩]
  show run (tstep ok) ⟨l,4,now,way⟩ (1::1::(downs k++r))=_
  rw [run_more h1,run_more h2,h,show now - 1 - k=now - (k+1) by omega]
theorem run_chg (l:List Nat) (was n:Nat) (r:List Nat) (h1:was≤15) (h2:n≤15): ∃way,run (tstep ok) ⟨l,4,was,0⟩ (chg was n++r)=run (tstep ok) ⟨l,4,n,way⟩ (0::r):=by
 unfold chg
 rw [List.append_assoc]
 split
 ·obtain ⟨way,h⟩:=run_downs (ok:=ok) (was - n) l was 0 ([0]++r) (by decide) (by omega)
  exact ⟨way,by rw [h,show was - (was - n)=n by omega];rfl⟩
 ·obtain ⟨way,h⟩:=run_ups (ok:=ok) (n - was) l was 0 ([0]++r) (by decide) (by omega)
  exact ⟨way,by rw [h,show was+(n - was)=n by omega];rfl⟩
theorem run_tabs: ∀(m:List Nat) (l:List Nat) (was:Nat) (r:List Nat),m≠ []→was≤15→(∀x∈m,x≤15)→l.length+m.length=258→ok (l++m)=true→run (tstep ok) ⟨l,4,was,0⟩ (tabs was m++r)= .fin (l++m) r
 | [],_,_,_,h,_,_,_,_=>absurd rfl h
 |n::m,l,was,r,_,hw,hm,hl,hok=>by
  rw [tabs,List.append_assoc]
  obtain ⟨way,h⟩:=run_chg (ok:=ok) l was n (tabs n m++r) hw (hm n List.mem_cons_self)
  rw [h]
  cases m with
  |nil=>
   refine run_fin ?_
   simp only [List.length_cons,List.length_nil] at hl
   simp only [tstep]
   rw [if_neg (by decide),if_pos trivial,if_pos trivial,if_neg (by omega),if_pos hok]
  |cons x m=>
   simp only [List.length_cons] at hl
   have h1:tstep ok ⟨l,4,n,way⟩ 0= .more ⟨l++ [n],4,n,0⟩:=by
    simp only [tstep]
    rw [if_neg (by decide),if_pos trivial,if_pos trivial,if_pos (by omega)]
   rw [run_more h1,run_tabs (x::m) (l++ [n]) n r (by simp) (hm n List.mem_cons_self) (fun y hy=>hm y (List.mem_cons_of_mem _ hy)) (by simp;omega) (by rw [List.append_assoc];exact hok),List.append_assoc]
   rfl
theorem tput_back {l:List Nat} (r:List Nat) (hl:l.length=258) (hm: ∀x∈l,x≤15) (hok:ok l=true):run (tstep ok) t0 (tput l++r)= .fin l r:=by
 unfold tput
 rw [List.append_assoc]
 have hh:l.headD 0≤15:=by
  cases l with
  |nil=>simp at hl
  |cons x l=>exact hm x List.mem_cons_self
 have h4:run (tstep ok) t0 (four (l.headD 0)++(tabs (l.headD 0) l++r))=run (tstep ok) ⟨[],4,l.headD 0,0⟩ (tabs (l.headD 0) l++r):=by
  generalize l.headD 0=n at hh⊢
  have e:2*(2*(2*(2*0+n/8 % 2)+n/4 % 2)+n/2 % 2)+n % 2=n:=by omega
  show run (tstep ok) ⟨[],4,2*(2*(2*(2*0+n/8 % 2)+n/4 % 2)+n/2 % 2)+n % 2,0⟩ _=_
  rw [e];rfl
 rw [h4]
 exact run_tabs l [] (l.headD 0) r (by intro e;rw [e] at hl;simp at hl) hh hm (by simpa using hl) hok
end
end Go.Tab
set_option maxRecDepth 20000
namespace Go.Hd
open Go.Inc
def vgr (n:Nat):List Nat:=if _h:n=0 then [] else vgr (n/128)++ [128+n % 128]
termination_by n
decreasing_by omega
def vput (n:Nat):List Nat:=vgr (n/128)++ [n % 128]
theorem vgr_zero:vgr 0= []:=by rw [vgr];simp
theorem vgr_pos {n:Nat} (h:0<n):vgr n=vgr (n/128)++ [128+n % 128]:=by rw [vgr,dif_neg (by omega)]
theorem vgr_b (n:Nat): ∀x∈vgr n,x<256:=by
 induction n using Nat.strongRecOn with
 |ind n ih=>
  rcases Nat.eq_zero_or_pos n with e|e
  ·rw [e,vgr_zero];simp
  ·rw [vgr_pos e]
   intro x hx
   rcases List.mem_append.1 hx with h|h
   ·exact ih (n/128) (by omega) x h
   ·rw [List.mem_singleton] at h;omega
theorem vput_b (n:Nat): ∀x∈vput n,x<256:=by
 intro x hx
 rcases List.mem_append.1 hx with h|h
 ·exact vgr_b _ x h
 ·rw [List.mem_singleton] at h;omega
def grow (most v c:Nat):Option (Nat×Bool):=
 if v=0∧c=128 then none else
 if 128*v+c % 128≤most∧(c<128→0<128*v+c % 128) then some (128*v+c % 128,decide (c<128)) else none
theorem grow_on {most n:Nat} (h0:0<n) (h:n≤most):grow most (n/128) (128+n % 128)=some (n,false):=by
 unfold grow
 have e:128*(n/128)+(128+n % 128) % 128=n:=by omega
 rw [if_neg (by omega),e,if_pos ⟨h,fun _=>h0⟩,decide_eq_false (by omega)]
theorem grow_end {most n:Nat} (h0:0<n) (h:n≤most):grow most (n/128) (n % 128)=some (n,true):=by
 unfold grow
 have e:128*(n/128)+n % 128 % 128=n:=by omega
 rw [if_neg (by omega),e,if_pos ⟨h,fun _=>h0⟩,decide_eq_true (by omega)]
theorem grow_le {most v c n:Nat} {d:Bool} (hc:c<256) (h:grow most v c=some (n,d)):n≤most∧0<n∧n=128*v+c % 128∧d=decide (c<128):=by
 unfold grow at h
 split at h
 ·cases h
 ·split at h
  ·rename_i h1 h2
   cases h
   refine ⟨h2.1,?_,rfl,rfl⟩
   by_cases hc:c<128
   ·exact h2.2 hc
   ·omega
  ·cases h
structure HS where
 at_:Nat
 v:Nat
deriving DecidableEq
structure MS where
 at_:Nat
 v:Nat
 M:Nat
 P:Nat
 sum:Nat
 many:Nat
deriving DecidableEq
inductive Mk where
 |blk (M P sum:Nat)|tail (sum:Nat)
deriving DecidableEq
def ms0:MS:=⟨0,0,0,0,0,0⟩
def mstep (n:Nat) (s:MS) (c:Nat):Stp MS Mk Nat:=
 if s.at_=0 then
  if c=0 then .more ⟨5,0,0,0,0,0⟩ else if c=1 then .more ⟨1,0,0,0,0,0⟩ else .bad 242
 else if s.at_=1 then
  match grow n s.v c with
  |none=> .bad 242
  |some (m,true)=> .more ⟨2,0,m,0,0,0⟩
  |some (m,false)=> .more ⟨1,m,0,0,0,0⟩
 else if s.at_=2 then
  match grow s.M s.v c with
  |none=> .bad 242
  |some (p,true)=> .more ⟨3,0,s.M,p,0,0⟩
  |some (p,false)=> .more ⟨2,p,s.M,0,0,0⟩
 else if s.many=3 then
  if s.at_=3 then .fin (.blk s.M s.P (256*s.sum+c)) else .fin (.tail (256*s.sum+c))
 else .more {s with sum:=256*s.sum+c,many:=s.many+1}
def be4 (s:Nat):List Nat:= [s/16777216 % 256,s/65536 % 256,s/256 % 256,s % 256]
theorem be4_b (s:Nat): ∀x∈be4 s,x<256:=by
 intro x hx
 simp [be4] at hx
 omega
def mblk (M P sum:Nat):List Nat:=1::(vput M++vput P++be4 sum)
theorem m1_gr {n v:Nat} (h:v≤n):run (mstep n) ⟨1,0,0,0,0,0⟩ (vgr v)= .short ⟨1,v,0,0,0,0⟩:=by
 induction v using Nat.strongRecOn with
 |ind v ih=>
  rcases Nat.eq_zero_or_pos v with e|e
  ·rw [e,vgr_zero];rfl
  ·rw [vgr_pos e,run_short (ih (v/128) (by omega) (by omega))]
   refine run_more ?_
   simp only [mstep]
   rw [if_neg (by decide),if_pos trivial,grow_on e h]
theorem m2_gr {n M v:Nat} (h:v≤M):run (mstep n) ⟨2,0,M,0,0,0⟩ (vgr v)= .short ⟨2,v,M,0,0,0⟩:=by
 induction v using Nat.strongRecOn with
 |ind v ih=>
  rcases Nat.eq_zero_or_pos v with e|e
  ·rw [e,vgr_zero];rfl
  ·rw [vgr_pos e,run_short (ih (v/128) (by omega) (by omega))]
   refine run_more ?_
   simp only [mstep]
   rw [if_neg (by decide),if_neg (by decide),if_pos trivial,grow_on e h]
theorem m1_put {n M:Nat} (h0:0<M) (h:M≤n) (r:List Nat):run (mstep n) ⟨1,0,0,0,0,0⟩ (vput M++r)=run (mstep n) ⟨2,0,M,0,0,0⟩ r:=by
 unfold vput
 rw [List.append_assoc,run_short (m1_gr (by omega))]
 refine run_more ?_
 simp only [mstep]
 rw [if_neg (by decide),if_pos trivial,grow_end h0 h]
theorem m2_put {n M P:Nat} (h0:0<P) (h:P≤M) (r:List Nat):run (mstep n) ⟨2,0,M,0,0,0⟩ (vput P++r)=run (mstep n) ⟨3,0,M,P,0,0⟩ r:=by
 unfold vput
 rw [List.append_assoc,run_short (m2_gr (by omega))]
 refine run_more ?_
 simp only [mstep]
 rw [if_neg (by decide),if_neg (by decide),if_pos trivial,grow_end h0 h]
theorem be4_eq {s:Nat} (h:s<4294967296):256*(256*(256*(256*0+s/16777216 % 256)+s/65536 % 256)+s/256 % 256)+s % 256=s:=by omega
theorem m3_put {n M P s:Nat} (h:s<4294967296) (r:List Nat):run (mstep n) ⟨3,0,M,P,0,0⟩ (be4 s++r)= .fin (.blk M P s) r:=by
 show Ran.fin (Mk.blk M P (256*(256*(256*(256*0+s/16777216 % 256)+s/65536 % 256)+s/256 % 256)+s % 256)) r=_
 rw [be4_eq h]
theorem mblk_back {n M P s:Nat} (h0:0<M) (h1:M≤n) (h2:0<P) (h3:P≤M) (h4:s<4294967296) (r:List Nat):run (mstep n) ms0 (mblk M P s++r)= .fin (.blk M P s) r:=by
 show run (mstep n) ⟨1,0,0,0,0,0⟩ (vput M++vput P++be4 s++r)=_
 rw [List.append_assoc,List.append_assoc,m1_put h0 h1,m2_put h2 h3,m3_put h4]
end Go.Hd
set_option maxRecDepth 20000
namespace Go.Crc
def half (c:Nat):Nat:=(c/2)^^^(if c % 2=1 then 3988292384 else 0)
def row (c:Nat):Nat:=half (half (half (half (half (half (half (half c)))))))
def step (c b:Nat):Nat:=row ((c % 256)^^^b)^^^(c/256)
def feed (c:Nat) (b:List Nat):Nat:=b.foldl step c
def crc (b:List Nat):Nat:=feed 4294967295 b^^^4294967295
theorem half_lt {c:Nat} (h:c<4294967296):half c<4294967296:=by
 unfold half
 exact Nat.xor_lt_two_pow (n:=32) (by omega) (by split<;>decide)
theorem row_lt {c:Nat} (h:c<4294967296):row c<4294967296:=half_lt (half_lt (half_lt (half_lt (half_lt (half_lt (half_lt (half_lt h)))))))
theorem step_lt {c b:Nat} (h:c<4294967296) (hb:b<256):step c b<4294967296:=by
 unfold step
 have h1:(c % 256)^^^b<256:=Nat.xor_lt_two_pow (n:=8) (by omega) hb
 exact Nat.xor_lt_two_pow (n:=32) (row_lt (by omega)) (by omega)
theorem feed_lt: ∀(b:List Nat) (c:Nat),c<4294967296→(∀x∈b,x<256)→feed c b<4294967296
 | [],_,h,_=>h
 |x::b,c,h,hb=>by
  rw [feed,List.foldl_cons]
  exact feed_lt b _ (step_lt h (hb x List.mem_cons_self)) fun y hy=>hb y (List.mem_cons_of_mem _ hy)
theorem feed_app (a b:List Nat) (c:Nat):feed c (a++b)=feed (feed c a) b:=List.foldl_append
theorem crc_lt {b:List Nat} (hb: ∀x∈b,x<256):crc b<4294967296:=Nat.xor_lt_two_pow (n:=32) (feed_lt b _ (by decide) hb) (by decide)
end Go.Crc
set_option maxRecDepth 20000
namespace Go.Vc
open Go
def lxb:List Nat→List Nat→Bool
 |_,[]=>false
 | [],_::_=>true
 |a::x,b::y=>decide (a<b)||(a==b&&lxb x y)
def strOf (b:List Nat):ByteArray:=strOfNums (b.map fun (x:Nat)=>(x:Int))
theorem run_toStr {P:Program} {src e dst:TypeId} {s:Sl} {b:List Nat} {w:World} {K:ByteArray→World→Prop} (hs:P.underlying src=some (.slice e)) (he:P.underlying e=some (.int .u8)) (hd:P.underlying dst=some .string)
  (hh:SlT 1 s (b.map vB) w) (hK:K (strOf b) w):Run P (convert src dst (.slice s.base s.len s.cap)) kStr w K:=by
 have hl:=hh.1
 simp only [List.length_map,Nat.mul_one] at hl
 have key:(convert src dst (.slice s.base s.len s.cap)).run P w= .ok (.string (strOf b)) w:=by
  cases hb:s.base with
  |none=>
   have:b= []:=by
    cases b with
    |nil=>rfl
    |cons x b=>
     obtain ⟨p,hp,_⟩:=hh.2 0 (by simp)
     rw [hb] at hp;cases hp
   subst this
   rw [run_convert_bytes_nil w src e hs he _ _ dst hd];rfl
  |some p=>
   have hc:(loadCells p s.len).run P w= .ok ((b.map fun (x:Nat)=>(x:Int)).map (Value.int .u8)).toArray w:=by
    have:=run_cells (P:=P) (w:=w) (vs:=b.map vB) (p:=p) (fun i hi=>by
     obtain ⟨q,hq,hc⟩:=hh.2 i hi
     rw [hb] at hq
     cases hq
     exact hc)
    rw [List.length_map,hl] at this
    rw [this,List.map_map];rfl
   rw [run_convert_bytes_string w src dst e _ _ _ hs he hd,run_bytesToString w _ _ _ _ hc,foldl_push_bytes]
   unfold strOf strOfNums
   simp [ByteArray.empty,ByteArray.emptyWithCapacity]
   rfl
 unfold Run
 rw [key]
 exact hK
theorem strOf_list (b:List Nat):(strOf b).toList=b.map UInt8.ofNat:=by
 unfold strOf strOfNums
 rw [ByteArray.toList_mk,List.map_map]
 refine List.map_congr_left fun x _=> ?_
 simp
theorem strOf_data (b:List Nat):(strOf b).data.toList=b.map UInt8.ofNat:=by rw [←ByteArray.toList_eq,strOf_list]
section
variable {E w:World} {F:List HP}
end
end Go.Vc
set_option maxRecDepth 20000
namespace Go.Bw
open Go.Rk
abbrev lx:List Nat→List Nat→Bool:=Go.Vc.lxb
theorem lx_nil (x:List Nat):lx x []=false:=by cases x<;>rfl
theorem lx_cons (a b:Nat) (x y:List Nat):lx (a::x) (b::y)=(decide (a<b)||(a==b&&lx x y)):=rfl
theorem lx_irr: ∀x,lx x x=false
 | []=>rfl
 |a::x=>by rw [lx_cons,lx_irr x];simp
theorem lx_trans: ∀x y z,lx x y=true→lx y z=true→lx x z=true
 |_,[],_,h,_=>by rw [lx_nil] at h;cases h
 |_,_::_,[],_,h=>by rw [lx_nil] at h;cases h
 | [],_::_,_::_,_,_=>rfl
 |a::x,b::y,c::z,h1,h2=>by
  rw [lx_cons] at*
  simp only [Bool.or_eq_true,Bool.and_eq_true,decide_eq_true_eq,beq_iff_eq] at*
  rcases h1 with h1|⟨h1,h3⟩<;>rcases h2 with h2|⟨h2,h4⟩
  ·left;omega
  ·left;omega
  ·left;omega
  ·exact .inr ⟨by omega,lx_trans x y z h3 h4⟩
theorem lx_total: ∀x y,lx x y=false→lx y x=false→x=y
 | [],[],_,_=>rfl
 | [],_::_,h,_=>by cases h
 |_::_,[],_,h=>by cases h
 |a::x,b::y,h1,h2=>by
  rw [lx_cons] at*
  simp only [Bool.or_eq_false_iff,Bool.and_eq_false_iff,decide_eq_false_iff_not,beq_eq_false_iff_ne] at*
  have hab:a=b:=by omega
  subst hab
  rw [lx_total x y (by rcases h1.2 with h|h;exact absurd rfl h;exact h) (by rcases h2.2 with h|h;exact absurd rfl h;exact h)]
theorem lx_ntrans (x y z:List Nat) (h1:lx x y=false) (h2:lx y z=false):lx x z=false:=by
 cases h:lx x z with
 |false=>rfl
 |true=>
  by_cases e:x=y
  ·subst e;rw [h] at h2;cases h2
  ·have hyx:lx y x=true:=by
    cases hh:lx y x with
    |true=>rfl
    |false=>exact absurd (lx_total x y h1 hh) e
   have:=lx_trans _ _ _ hyx h
   rw [h2] at this;cases this
theorem lx_app: ∀(k c d:List Nat),lx (k++c) (k++d)=lx c d
 | [],_,_=>rfl
 |a::k,c,d=>by rw [List.cons_append,List.cons_append,lx_cons,lx_app k];simp
theorem lx_pre: ∀(a b c d:List Nat),a≠b→(a.length<b.length→c= [])→(b.length<a.length→d= [])→lx (a++c) (b++d)=lx a b
 | [],[],_,_,h,_,_=>absurd rfl h
 | [],y::b,c,d,_,h1,_=>by rw [h1 (by simp)];rfl
 |x::a,[],c,d,_,_,h2=>by rw [h2 (by simp)];rfl
 |x::a,y::b,c,d,h,h1,h2=>by
  rw [List.cons_append,List.cons_append,lx_cons,lx_cons]
  by_cases e:x=y
  ·subst e
   rw [lx_pre a b c d (fun e=>h (by rw [e])) (fun hl=>h1 (by simpa using hl)) (fun hl=>h2 (by simpa using hl))]
  ·rw [beq_eq_false_iff_ne.2 e,Bool.false_and,Bool.false_and]
def sl (t:List Nat) (i k:Nat):Bool:=lx (t.drop i) (t.drop k)
theorem sl_so (t:List Nat):SO (sl t):=⟨fun _=>lx_irr _,fun _ _ _=>lx_trans _ _ _,fun _ _ _=>lx_ntrans _ _ _⟩
theorem drop_inj {t:List Nat} {i k:Nat} (hi:i≤t.length) (hk:k≤t.length) (h:t.drop i=t.drop k):i=k:=by
 have:=congrArg List.length h
 simp only [List.length_drop] at this
 omega
def rows (t:List Nat):List Nat:=List.range (t.length+1)
theorem rows_mem {t:List Nat} {i:Nat}:i∈rows t↔i≤t.length:=by unfold rows;rw [List.mem_range];omega
theorem rows_nodup (t:List Nat):(rows t).Nodup:=List.nodup_range
theorem rows_len (t:List Nat):(rows t).length=t.length+1:=List.length_range
theorem sl_tot (t:List Nat):Tot (sl t) (rows t):=fun x hx y hy e=>by
 rw [rows_mem] at hx hy
 cases h1:sl t x y with
 |true=>exact .inl rfl
 |false=>
  right
  cases h2:sl t y x with
  |true=>rfl
  |false=>exact absurd (drop_inj hx hy (lx_total _ _ h1 h2)) e
def ordB (t:List Nat):List Nat:=srt (sl t) (rows t)
def rkB (t:List Nat) (i:Nat):Nat:=rk (sl t) (rows t) i
theorem ordB_len (t:List Nat):(ordB t).length=t.length+1:=by unfold ordB;rw [srt_len,rows_len]
theorem ordB_mem {t:List Nat} {i:Nat}:i∈ordB t↔i≤t.length:=by unfold ordB;rw [(srt_perm _).mem_iff,rows_mem]
theorem rkB_lt {t:List Nat} {i:Nat} (hi:i≤t.length):rkB t i<t.length+1:=by
 have:=rk_lt_len (sl_so t) (rows_nodup t) (sl_tot t) (rows_mem.2 hi)
 rwa [rows_len] at this
theorem ordB_rk {t:List Nat} {i:Nat} (hi:i≤t.length): ∃h:rkB t i<(ordB t).length,(ordB t)[rkB t i]=i:=srt_at (sl_so t) (rows_nodup t) (sl_tot t) (rows_mem.2 hi)
theorem rk_ordB {t:List Nat} {r:Nat} (hr:r<(ordB t).length):rkB t (ordB t)[r]=r:=rk_at (sl_so t) (rows_nodup t) (sl_tot t) hr
theorem rkB_inj {t:List Nat} {i k:Nat} (hi:i≤t.length) (hk:k≤t.length) (h:rkB t i=rkB t k):i=k:=rk_inj (sl_so t) (sl_tot t) (rows_mem.2 hi) (rows_mem.2 hk) h
theorem ordB_sorted (t:List Nat):(ordB t).Pairwise fun a b=>sl t a b=true:=srt_sorted (sl_so t) (rows_nodup t) (sl_tot t)
theorem drop_get {t:List Nat} {j:Nat} (hj:j<t.length):t.drop j=t.getD j 0::t.drop (j+1):=by
 rw [List.drop_eq_getElem_cons hj];simp [List.getD,hj]
theorem sl_step {t:List Nat} {i k:Nat} (hi:i<t.length) (hk:k<t.length):sl t i k=(decide (t.getD i 0<t.getD k 0)||(t.getD i 0==t.getD k 0&&sl t (i+1) (k+1))):=by
 unfold sl
 rw [drop_get hi,drop_get hk,lx_cons]
theorem rkB_end (t:List Nat):rkB t t.length=0:=by
 unfold rkB rk
 rw [List.countP_eq_zero]
 intro x _
 unfold sl
 rw [List.drop_length,lx_nil];decide
def idxB (t:List Nat):Nat:=rkB t 0
def colE (t:List Nat):List Nat:=(ordB t).filter fun i=>i !=0
def lastB (t:List Nat):List Nat:=(colE t).map fun i=>t.getD (i - 1) 0
def atB (index row:Nat):Nat:=if row>index then row - 1 else row
theorem idxB_le (t:List Nat):idxB t≤t.length:=by have:=rkB_lt (t:=t) (i:=0) (by omega);unfold idxB;omega
theorem ordB_idx (t:List Nat) {r:Nat} (hr:r<(ordB t).length):(ordB t)[r]=0↔r=idxB t:=by
 constructor
 ·intro h
  have:=rk_ordB hr
  rw [h] at this;exact this.symm
 ·rintro rfl
  exact (ordB_rk (t:=t) (i:=0) (by omega)).2
theorem filter_at: ∀(l:List Nat) (ix:Nat),(∀r (hr:r<l.length),l[r]=0↔r=ix)→∀r (hr:r<l.length),r≠ix→(l.filter fun i=>i !=0)[atB ix r]? =some l[r]
 | [],_,_,r,hr,_=>by simp at hr
 |a::l,0,h,r,hr,hne=>by
  have ha:a=0:=(h 0 (by simp)).2 rfl
  subst ha
  have hall: ∀x∈l,x≠0:=fun x hx e=>by
   obtain ⟨i,hi,rfl⟩:=List.getElem_of_mem hx
   have:=(h (i+1) (by simpa using hi)).1 (by simpa using e)
   omega
  obtain ⟨r,rfl⟩: ∃r',r=r'+1:=⟨r - 1,by omega⟩
  have hr':r<l.length:=by simpa using hr
  rw [List.filter_cons,if_neg (by simp),List.filter_eq_self.2 fun x hx=>by simpa using hall x hx]
  unfold atB
  rw [if_pos (by omega)]
  simp [hr']
 |a::l,ix+1,h,r,hr,hne=>by
  have ha:a≠0:=fun e=>by have:=(h 0 (by simp)).1 e;omega
  have ih:=filter_at l ix fun r hr=>by
   have:=h (r+1) (by simpa using hr)
   simp only [List.getElem_cons_succ] at this
   omega
  rw [List.filter_cons,if_pos (by simpa using ha)]
  cases r with
  |zero=>
   have:atB (ix+1) 0=0:=by unfold atB;rw [if_neg (by omega)]
   rw [this];rfl
  |succ r=>
   have hr':r<l.length:=by simpa using hr
   have h2:=ih r hr' (by omega)
   have:atB (ix+1) (r+1)=atB ix r+1:=by unfold atB;split<;>split<;>omega
   rw [this,List.getElem?_cons_succ,h2];simp
theorem colE_at {t:List Nat} {r:Nat} (hr:r<(ordB t).length) (hne:r≠idxB t):(colE t)[atB (idxB t) r]? =some (ordB t)[r]:=filter_at _ _ (fun _ hr=>ordB_idx t hr) r hr hne
theorem colE_perm (t:List Nat):(colE t).Perm ((List.range t.length).map (·+1)):=by
 have h:=(srt_perm (lt:=sl t) (rows t)).filter fun i=>i !=0
 have e:(rows t).filter (fun i=>i !=0)=(List.range t.length).map (·+1):=by
  unfold rows
  rw [List.range_succ_eq_map,List.filter_cons,if_neg (by simp),List.filter_eq_self.2 fun x hx=>by obtain ⟨y,_,rfl⟩:=List.mem_map.1 hx;simp]
 rw [e] at h
 exact h
theorem colE_len (t:List Nat):(colE t).length=t.length:=by rw [(colE_perm t).length_eq];simp
theorem lastB_len (t:List Nat):(lastB t).length=t.length:=by unfold lastB;rw [List.length_map,colE_len]
theorem lastB_perm (t:List Nat):(lastB t).Perm t:=by
 have h:=(colE_perm t).map fun i=>t.getD (i - 1) 0
 have e:((List.range t.length).map (·+1)).map (fun i=>t.getD (i - 1) 0)=t:=by
  apply List.ext_getElem
  ·simp
  ·intro i h1 h2
   simp [List.getD,h2]
 rw [e] at h
 exact h
theorem lastB_b {t:List Nat} (hb: ∀x∈t,x<256): ∀x∈lastB t,x<256:=fun x hx=>hb x ((lastB_perm t).mem_iff.1 hx)
theorem colE_sorted (t:List Nat):(colE t).Pairwise fun a b=>sl t a b=true:=(ordB_sorted t).filter _
theorem lastB_rk {t:List Nat} {j:Nat} (h0:0<j) (hj:j≤t.length):(lastB t).getD (atB (idxB t) (rkB t j)) 0=t.getD (j - 1) 0:=by
 obtain ⟨h1,h2⟩:=ordB_rk hj
 have hne:rkB t j≠idxB t:=fun e=>by have:=rkB_inj hj (by omega) e;omega
 have:=colE_at h1 hne
 rw [h2] at this
 unfold lastB
 simp [List.getD,this]
def pl (last:List Nat) (a b:Nat):Bool:=decide (last.getD a 0<last.getD b 0)||(last.getD a 0==last.getD b 0&&decide (a<b))
theorem pl_iff {last:List Nat} {a b:Nat}:pl last a b=true↔last.getD a 0<last.getD b 0∨(last.getD a 0=last.getD b 0∧a<b):=by simp [pl]
theorem pl_f {last:List Nat} {a b:Nat}:pl last a b=false↔¬(last.getD a 0<last.getD b 0∨(last.getD a 0=last.getD b 0∧a<b)):=by rw [←pl_iff,Bool.not_eq_true]
theorem pl_so (last:List Nat):SO (pl last):=⟨fun a=>by rw [pl_f];omega,fun a b c h1 h2=>by rw [pl_iff] at*;omega,fun a b c h1 h2=>by rw [pl_f] at*;omega⟩
theorem pl_tot (last dom:List Nat):Tot (pl last) dom:=fun x _ y _ e=>by rw [pl_iff,pl_iff];omega
def nx (last:List Nat) (a:Nat):Nat:=1+rk (pl last) (List.range last.length) a
theorem nx_le {last:List Nat} {a:Nat} (ha:a<last.length):nx last a≤last.length:=by
 have:=rk_lt_len (pl_so last) List.nodup_range (pl_tot last _) (List.mem_range.2 ha)
 rw [List.length_range] at this
 unfold nx;omega
theorem nx_rk {t:List Nat} {j:Nat} (h0:0<j) (hj:j≤t.length):nx (lastB t) (atB (idxB t) (rkB t j))=rkB t (j - 1):=by
 obtain ⟨h1,h2⟩:=ordB_rk hj
 have hne:rkB t j≠idxB t:=fun e=>by have:=rkB_inj hj (by omega) e;omega
 have hat:=colE_at h1 hne
 rw [h2] at hat
 obtain ⟨k,hk⟩: ∃k,atB (idxB t) (rkB t j)=k:=⟨_,rfl⟩
 rw [hk] at hat⊢
 obtain ⟨hkl,hke⟩:=List.getElem?_eq_some_iff.1 hat
 have hcl:=colE_len t
 have hlast: ∀i (hi:i<(colE t).length),(lastB t).getD i 0=t.getD ((colE t)[i] - 1) 0:=fun i hi=>by
  unfold lastB
  simp [List.getD,hi]
 have hin: ∀i (hi:i<(colE t).length),0<(colE t)[i]∧(colE t)[i]≤t.length:=fun i hi=>by
  have:=(colE_perm t).mem_iff.1 (List.getElem_mem hi)
  obtain ⟨x,hx,e⟩:=List.mem_map.1 this
  rw [List.mem_range] at hx
  omega
 have e1:rk (pl (lastB t)) (List.range (lastB t).length) k=(colE t).countP fun x=>sl t (x - 1) (j - 1):=by
  have:(colE t)=(List.range (lastB t).length).map fun i=>(colE t).getD i 0:=by
   apply List.ext_getElem
   ·rw [List.length_map,List.length_range,lastB_len,hcl]
   ·intro i h1 h2
    simp [List.getD,h1]
  unfold rk
  conv=>rhs;rw [this,List.countP_map]
  apply List.countP_congr
  intro i hi
  have hi:i<(colE t).length:=by rw [List.mem_range,lastB_len] at hi;omega
  obtain ⟨a1,a2⟩:=hin i hi
  have b1:=hin k hkl
  have hci:(colE t).getD i 0=(colE t)[i]:=by simp [List.getD,hi]
  have hs:=sl_step (t:=t) (i:=(colE t)[i] - 1) (k:=j - 1) (by omega) (by omega)
  rw [show (colE t)[i] - 1+1=(colE t)[i] by omega,show j - 1+1=j by omega] at hs
  simp only [Function.comp]
  rw [hci,hs]
  unfold pl
  rw [hlast i hi,hlast k hkl,hke]
  have hord:decide (i<k)=true↔sl t (colE t)[i] j=true:=by
   rw [decide_eq_true_iff,←hke]
   constructor
   ·intro hik
    exact List.pairwise_iff_getElem.1 (colE_sorted t) i k hi hkl hik
   ·intro hsl
    rcases Nat.lt_trichotomy i k with h|h|h
    ·exact h
    ·subst h;rw [(sl_so t).irr] at hsl;cases hsl
    ·have:=List.pairwise_iff_getElem.1 (colE_sorted t) k i hkl hi h
     rw [(sl_so t).asym hsl] at this;cases this
  simp only [Bool.or_eq_true,Bool.and_eq_true,hord]
 have e2:(colE t).countP (fun x=>sl t (x - 1) (j - 1))=(List.range t.length).countP fun x=>sl t x (j - 1):=by
  rw [(colE_perm t).countP_eq,List.countP_map]
  rfl
 have e3:rkB t (j - 1)=1+(List.range t.length).countP fun x=>sl t x (j - 1):=by
  unfold rkB rk rows
  rw [List.range_succ,List.countP_append,List.countP_cons,List.countP_nil]
  have:sl t t.length (j - 1)=true:=by
   unfold sl
   rw [List.drop_length,drop_get (by omega)];rfl
  rw [this];simp;omega
 unfold nx
 rw [e1,e2,e3]
def wk (last:List Nat) (index:Nat):Nat→Nat
 |0=>0
 |k+1=>nx last (atB index (wk last index k))
def okB (last:List Nat) (index:Nat):Prop:=index≤last.length∧(∀k,k<last.length→wk last index k≠index)∧wk last index last.length=index
instance (last:List Nat) (index:Nat):Decidable (okB last index):=by unfold okB;infer_instance
def textB (last:List Nat) (index:Nat):List Nat:=((List.range last.length).map fun k=>last.getD (atB index (wk last index k)) 0).reverse
theorem textB_len (last:List Nat) (index:Nat):(textB last index).length=last.length:=by simp [textB]
theorem textB_get {last:List Nat} {index k:Nat} (hk:k<last.length):(textB last index).getD (last.length - 1 - k) 0=last.getD (atB index (wk last index k)) 0:=by
 unfold textB
 rw [List.getD,List.getElem?_reverse (by simp;omega)]
 simp only [List.length_map,List.length_range]
 rw [show last.length - 1 - (last.length - 1 - k)=k by omega]
 simp [hk]
theorem back_turn (t:List Nat):okB (lastB t) (idxB t)∧textB (lastB t) (idxB t)=t:=by
 have hw: ∀k,k≤t.length→wk (lastB t) (idxB t) k=rkB t (t.length - k):=by
  intro k
  induction k with
  |zero=>intro _;rw [wk,Nat.sub_zero,rkB_end]
  |succ k ih=>
   intro hk
   rw [wk,ih (by omega),nx_rk (by omega) (by omega)]
   congr 1
 have hl:=lastB_len t
 refine ⟨⟨by rw [hl];exact idxB_le t,fun k hk e=> ?_,?_⟩,?_⟩
 ·rw [hl] at hk
  rw [hw k (by omega)] at e
  have:=rkB_inj (by omega) (by omega) e
  omega
 ·rw [hl,hw _ (Nat.le_refl _),Nat.sub_self];rfl
 ·apply List.ext_getElem (by rw [textB_len,hl])
  intro i h1 h2
  have e:=textB_get (last:=lastB t) (index:=idxB t) (k:=t.length - 1 - i) (by rw [hl];omega)
  rw [hl,show t.length - 1 - (t.length - 1 - i)=i by omega,hw _ (by omega),show t.length - (t.length - 1 - i)=i+1 by omega,lastB_rk (by omega) (by omega)] at e
  rw [show i+1 - 1=i by omega] at e
  simpa [List.getD,h1,h2] using e
theorem atB_in {last:List Nat} {index row:Nat} (hi:index≤last.length) (hr:row≤last.length) (hne:row≠index):atB index row<last.length:=by unfold atB;split<;>omega
theorem wk_le {last:List Nat} {index:Nat} (hi:index≤last.length): ∀k,(∀j,j<k→wk last index j≠index)→wk last index k≤last.length
 |0,_=>by rw [wk];omega
 |k+1,h=>by
  rw [wk]
  exact nx_le (atB_in hi (wk_le hi k fun j hj=>h j (by omega)) (h k (by omega)))
end Go.Bw
set_option maxRecDepth 20000
namespace Go.Blk
open Go.Inc Go.Srt Go.Sym Go.Bits Go.Tab Go.Hd Go.Crc Go.Bw
def allBits (b:List Nat):List Nat:=bitsOf b (8*b.length)
theorem allBits_len (b:List Nat):(allBits b).length=8*b.length:=bitsOf_len _ _
theorem allBits_app (a b:List Nat):allBits (a++b)=allBits a++allBits b:=by
 unfold allBits bitsOf
 rw [List.length_append,Nat.mul_add,List.range_add,List.map_append]
 congr 1
 ·refine List.map_congr_left fun i hi=> ?_
  rw [List.mem_range] at hi
  unfold bitAt
  rw [List.getD,List.getD,List.getElem?_append_left (by omega)]
 ·rw [List.map_map]
  refine List.map_congr_left fun i hi=> ?_
  simp only [Function.comp]
  unfold bitAt
  rw [List.getD,List.getD,List.getElem?_append_right (by omega),show (8*a.length+i)/8 - a.length=i/8 by omega,show (8*a.length+i) % 8=i % 8 by omega]
theorem allBits_take (b:List Nat) (k:Nat):allBits (b.take k)=(allBits b).take (8*k):=by
 rcases Nat.le_total k b.length with h|h
 ·have:=allBits_app (b.take k) (b.drop k)
  rw [List.take_append_drop] at this
  have h1:(allBits (b.take k)).length=8*k:=by rw [allBits_len,List.length_take];omega
  rw [this,List.take_append_of_le_length (Nat.le_of_eq h1.symm),List.take_of_length_le (l:=allBits (b.take k)) (Nat.le_of_eq h1)]
 ·rw [List.take_of_length_le h,List.take_of_length_le (by rw [allBits_len];omega)]
def padN (b:List Nat):Nat:=8*((b.length+7)/8) - b.length
theorem padN_lt (b:List Nat):padN b<8:=by unfold padN;omega
theorem allBits_pack {b:List Nat} (h:Bits b):allBits (pack b)=b++List.replicate (padN b) 0:=by
 unfold allBits bitsOf padN
 rw [pack_len]
 refine List.ext_getElem? fun i=> ?_
 rw [List.getElem?_map]
 by_cases hi:i<8*((b.length+7)/8)
 ·rw [List.getElem?_range hi,Option.map_some]
  unfold pack
  rw [bitAt_packTo h hi]
  by_cases hb:i<b.length
  ·rw [List.getElem?_append_left hb,List.getD,List.getElem?_eq_getElem hb];rfl
  ·rw [List.getElem?_append_right (by omega),List.getElem?_replicate,if_pos (by omega),getD_ge (by omega)]
 ·rw [List.getElem?_eq_none (by simp;omega),List.getElem?_eq_none (by simp;omega)];rfl
def body (l last:List Nat):List Nat:=tput l++enc l (syms last)
def blkL (l x:List Nat):List Nat:=mblk x.length (idxB x.reverse) (crc x)++pack (body l (lastB x.reverse))
def padOk (left:List Nat):Bool:=(left.take (left.length % 8)).all (·==0)
def colB (M:Nat) (bits:List Nat):Except Nat (List Nat×List Nat):=match run (tstep okT) t0 bits with
 | .short _=> .error 50
 | .bad e=> .error e
 | .fin l more=>match run (cstep l) ⟨0,0,⟨List.range 256,M,0,0⟩,[]⟩ more with
  | .short _=> .error 50
  | .bad e=> .error e
  | .fin last left=> .ok (last,left)
def textOf (P sum:Nat) (last:List Nat):Except Nat (List Nat):=
 if okB last P then (if crc (textB last P).reverse=sum then .ok (textB last P).reverse else .error 250) else .error 170
def unpackB (n:Nat) (b:List Nat):Except Nat (List Nat×List Nat):=match run (mstep n) ms0 b with
 | .short _=> .error 50
 | .bad e=> .error e
 | .fin (.tail _) _=> .error 242
 | .fin (.blk M P sum) rest=>match colB M (allBits rest) with
  | .error e=> .error e
  | .ok (last,left)=>if padOk left then (match textOf P sum last with
    | .error e=> .error e
    | .ok x=> .ok (x,rest.drop (rest.length - left.length/8)))
   else .error 160
theorem ups_bits: ∀k,Bits (ups k)
 |0=>fun x hx=>by cases hx
 |k+1=>fun x hx=>by
  rcases List.mem_cons.1 hx with h|h
  ·omega
  ·rcases List.mem_cons.1 h with h|h
   ·omega
   ·exact ups_bits k x h
theorem downs_bits: ∀k,Bits (downs k)
 |0=>fun x hx=>by cases hx
 |k+1=>fun x hx=>by
  rcases List.mem_cons.1 hx with h|h
  ·omega
  ·rcases List.mem_cons.1 h with h|h
   ·omega
   ·exact downs_bits k x h
theorem chg_bits (a b:Nat):Bits (chg a b):=by
 unfold chg
 refine Bits.app ?_ (fun x hx=>by rw [List.mem_singleton] at hx;omega)
 split
 ·exact downs_bits _
 ·exact ups_bits _
theorem tabs_bits: ∀(m:List Nat) (was:Nat),Bits (tabs was m)
 | [],_=>fun x hx=>by cases hx
 |n::m,was=>Bits.app (chg_bits was n) (tabs_bits m n)
theorem tput_bits (l:List Nat):Bits (tput l):=Bits.app (fun x hx=>by simp [four] at hx;omega) (tabs_bits _ _)
theorem body_bits (l last:List Nat):Bits (body l last):=Bits.app (tput_bits l) (enc_bits _ _)
section
variable {l:List Nat}
structure Lens (l last:List Nat):Prop where
 len:l.length=258
 ok:okT l=true
 good: ∀s∈syms last,goodS l s
theorem Lens.v {last:List Nat} (h:Lens l last):ksum l≤32768:=by rw [(okT_iff.1 h.ok).1];decide
theorem okT_15 (h:okT l=true): ∀x∈l,x≤15:=fun x hx=>by
 obtain ⟨i,hi,rfl⟩:=List.mem_iff_getElem.1 hx
 have:=len15 (l:=l) (by rw [(okT_iff.1 h).1];decide) i
 rwa [getD_get hi] at this
theorem col_run {last:List Nat} (hL:Lens l last) (hb: ∀x∈last,x<256) (r:List Nat):run (cstep l) ⟨0,0,⟨List.range 256,last.length,0,0⟩,[]⟩ (enc l (syms last)++r)= .fin last r:=by
 rw [cs_enc hL.len hL.v _ _ _ _ hL.good]
 have:=syms_back hb []
 rw [List.append_nil] at this
 rw [this]
 simp [enc]
theorem colB_back {last:List Nat} (hL:Lens l last) (hb: ∀x∈last,x<256) (r:List Nat):colB last.length (body l last++r)= .ok (last,r):=by
 unfold colB body
 rw [List.append_assoc,tput_back _ hL.len (okT_15 hL.ok) hL.ok]
 simp only
 rw [col_run hL hb]
theorem colB_cut {last:List Nat} (hL:Lens l last) (hb: ∀x∈last,x<256) {k:Nat} (hk:k<(body l last).length):colB last.length ((body l last).take k)= .error 50:=by
 unfold colB body
 unfold body at hk
 rw [List.length_append] at hk
 rcases Nat.lt_or_ge k (tput l).length with h|h
 ·rw [List.take_append_of_le_length (by omega)]
  obtain ⟨s',e⟩:=run_cut (tput_back (ok:=okT) [] hL.len (okT_15 hL.ok) hL.ok) h
  rw [e]
 ·rw [List.take_append,List.take_of_length_le h,tput_back _ hL.len (okT_15 hL.ok) hL.ok]
  simp only
  obtain ⟨s',e⟩:=run_cut (col_run hL hb []) (k:=k - (tput l).length) (by omega)
  rw [e]
theorem unpack_head {n M P sum:Nat} (h0:0<M) (h1:M≤n) (h2:0<P) (h3:P≤M) (h4:sum<4294967296) (rest:List Nat):
  unpackB n (mblk M P sum++rest)=match colB M (allBits rest) with
  | .error e=> .error e
  | .ok (last,left)=>if padOk left then (match textOf P sum last with
    | .error e=> .error e
    | .ok x=> .ok (x,rest.drop (rest.length - left.length/8)))
   else .error 160:=by
 unfold unpackB
 rw [mblk_back h0 h1 h2 h3 h4]
theorem padOk_pad (b:List Nat) (z:List Nat):padOk (List.replicate (padN b) 0++allBits z)=true:=by
 unfold padOk
 have:=padN_lt b
 rw [List.length_append,List.length_replicate,allBits_len,show (padN b+8*z.length) % 8=padN b by omega,List.take_append_of_le_length (by simp),List.take_of_length_le (by simp)]
 simp
theorem unpack_body {n P sum:Nat} {last:List Nat} (hL:Lens l last) (hb: ∀x∈last,x<256) (h0:0<last.length) (h1:last.length≤n) (h2:0<P) (h3:P≤last.length) (h4:sum<4294967296) (z:List Nat):
  unpackB n (mblk last.length P sum++pack (body l last)++z)=match textOf P sum last with
    | .error e=> .error e
    | .ok x=> .ok (x,z):=by
 rw [List.append_assoc,unpack_head h0 h1 h2 h3 h4,allBits_app,allBits_pack (body_bits _ _),List.append_assoc,colB_back hL hb]
 simp only
 rw [if_pos (padOk_pad _ z)]
 have:=padN_lt (body l last)
 have e:(pack (body l last)++z).drop ((pack (body l last)++z).length - (List.replicate (padN (body l last)) 0++allBits z).length/8)=z:=by
  rw [List.length_append,List.length_append,List.length_replicate,allBits_len,show (padN (body l last)+8*z.length)/8=z.length by omega,Nat.add_sub_cancel,List.drop_left]
 rw [e]
theorem idx_in {t:List Nat} (h:0<t.length):0<idxB t∧idxB t≤t.length:=by
 refine ⟨?_,idxB_le t⟩
 rcases Nat.eq_zero_or_pos (idxB t) with e|e
 ·have:=rkB_inj (t:=t) (i:=0) (k:=t.length) (by omega) (by omega) (by rw [rkB_end];exact e)
  omega
 ·exact e
theorem textOf_self (x:List Nat):textOf (idxB x.reverse) (crc x) (lastB x.reverse)= .ok x:=by
 obtain ⟨h1,h2⟩:=back_turn x.reverse
 unfold textOf
 rw [if_pos h1,h2,List.reverse_reverse,if_pos rfl]
theorem unpack_blk {n:Nat} {x:List Nat} (hL:Lens l (lastB x.reverse)) (hb: ∀y∈lastB x.reverse,y<256) (hx: ∀y∈x,y<256) (h0:0<x.length) (h1:x.length≤n) (z:List Nat):unpackB n (blkL l x++z)= .ok (x,z):=by
 have hl:(lastB x.reverse).length=x.length:=by rw [lastB_len,List.length_reverse]
 have hi:=idx_in (t:=x.reverse) (by rw [List.length_reverse];exact h0)
 rw [List.length_reverse] at hi
 have:=unpack_body (n:=n) (P:=idxB x.reverse) (sum:=crc x) hL hb (by omega) (by omega) hi.1 (by omega) (crc_lt hx) z
 rw [hl,textOf_self] at this
 exact this
theorem unpack_cut {n:Nat} {x:List Nat} (hL:Lens l (lastB x.reverse)) (hb: ∀y∈lastB x.reverse,y<256) (hx: ∀y∈x,y<256) (h0:0<x.length) (h1:x.length≤n) {k:Nat} (hk:k<(blkL l x).length):unpackB n ((blkL l x).take k)= .error 50:=by
 have hl:(lastB x.reverse).length=x.length:=by rw [lastB_len,List.length_reverse]
 have hi:=idx_in (t:=x.reverse) (by rw [List.length_reverse];exact h0)
 rw [List.length_reverse] at hi
 unfold blkL at hk⊢
 rw [List.length_append] at hk
 rcases Nat.lt_or_ge k (mblk x.length (idxB x.reverse) (crc x)).length with h|h
 ·rw [List.take_append_of_le_length (by omega)]
  obtain ⟨s',e⟩:=run_cut (mblk_back (n:=n) h0 h1 hi.1 hi.2 (crc_lt hx) []) h
  unfold unpackB
  rw [e]
 ·rw [List.take_append,List.take_of_length_le h,unpack_head h0 h1 hi.1 hi.2 (crc_lt hx)]
  generalize hj:k - (mblk x.length (idxB x.reverse) (crc x)).length=j
  have hpl:=pack_len (body l (lastB x.reverse))
  rw [allBits_take,allBits_pack (body_bits _ _),List.take_append_of_le_length (by omega),←hl,colB_cut hL hb (by omega)]
end
end Go.Blk
set_option maxRecDepth 20000
namespace Go.Vc
open Go
theorem run_convMark {P:Program} {E w:World} {F:List HP} {t e:TypeId} {C:Array Value} {b n c:Nat} {K:Sl→World→Prop} (ht:P.underlying t=some (.slice e)) (he:P.underlying e=some (.int .u8))
  (h:Hp E w (Blk b (.cells C e (0,0))::F)) (hK: ∀w',Hp E w' (Blk b (.cells C e (C.size,C.size+1))::F)→K ⟨some ⟨b,0,none⟩,n,c⟩ w'):Run P (convert t t (.slice (some ⟨b,0,none⟩) n c)) kS w K:=by
 have hb:=h.blk
 have hlt:b<w.heap.size:=by
  rcases Nat.lt_or_ge b w.heap.size with hh|hh
  ·exact hh
  ·simp [Array.getElem?_eq_none hh] at hb
 have hsh:w.shape? b=some (e,C.size):=by unfold World.shape?;rw [hb]
 have key:(convert t t (.slice (some ⟨b,0,none⟩) n c)).run P w= .ok (.slice (some ⟨b,0,none⟩) n c) (w.freeze ⟨b,C.size,none⟩ 1):=by
  simp [convert,run_underlying ht,run_underlying he,markStringish,hsh]
 unfold Run;rw [key]
 refine hK _ (h.setObj ?_ rfl rfl rfl)
 unfold World.freeze
 rw [if_neg (by decide)]
 have hg:w.heap[b]= .cells C e (0,0):=by rw [Array.getElem?_eq_getElem hlt] at hb;exact Option.some.inj hb
 apply Array.ext_getElem?
 intro i
 rw [Array.set!_eq_setIfInBounds]
 by_cases hi:b=i
 ·subst hi
  simp [hlt]
  rw [Array.getElem_modify_self,hg]
  simp
 ·rw [Array.getElem?_setIfInBounds_ne hi,Array.getElem?_modify]
  simp [hi]
section
variable {E w:World} {F:List HP} {sz:Nat} {s:Sl} {xs ys:List Value}
theorem Hp.keep1 {A:HP} {l F:List HP} [h2:TailOf l F] (h:Hp E w (A::l)):Hp E w (A::F):=by
 obtain ⟨p,e⟩:=h2.sub
 subst e
 exact (h.perm List.perm_middle.symm).dropL
theorem Hp.keep2 {A B:HP} {l F:List HP} [h2:TailOf l F] (h:Hp E w (A::B::l)):Hp E w (A::B::F):=by
 obtain ⟨p,e⟩:=h2.sub
 subst e
 exact (h.perm ((List.Perm.cons A List.perm_middle.symm).trans List.perm_middle.symm)).dropL
end
end Go.Vc
namespace Go.Proofs.YtcdpblipagajiaaGreat
open Go Go.Vc
section
variable {E w:World} {F:List HP}
set_option maxRecDepth 200000 in
theorem marked_c {C:Array Value} {b n c:Nat} {K:Sl→World→Prop} (h:Hp E w (Blk b (.cells C 5 (0,0))::F)) (hK: ∀w',Hp E w' (Blk b (.cells C 5 (C.size,C.size+1))::F)→K ⟨some ⟨b,0,none⟩,n,c⟩ w'):
  Run Tryz.prog (convert 22 22 (.slice (some ⟨b,0,none⟩) n c)) kS w K:=run_convMark (by kernel_rfl) (by kernel_rfl) h hK
end
end Go.Proofs.YtcdpblipagajiaaGreat
namespace Go.Proofs.YtcdpblipagajiaaGreat
open Go Go.Vc
set_option maxRecDepth 100000 in
def canonical_Codes.E (l1:(Array Value)) (R:(Array Value)→Int→World→Prop) (w:World):Prop:=
 Nw 36 l1 w fun (b3:Nat) (w_2:World)=>
 Nw 101 ⟨List.replicate 258 (.int .u32 0)⟩ w_2 fun (b5:Nat) (w_4:World)=>
 Ld (.arr 258) (⟨b3,0,none⟩:Addr) w_4 fun (x6:(Array Value))=>
 Cl Tryz.prog [kB] n_canonical_Valid ⟨[(.agg x6)]⟩ w_4 fun (r8:Bool) (w_7:World)=>
 IfB (!r8)
 (Ld (.arr 258) (⟨b5,0,none⟩:Addr) w_7 fun (x9:(Array Value))=>
 StA 258 (⟨b5,0,none⟩:Addr) x9 w_7 fun (w_10:World)=>
 Ld (.arr 258) (⟨b5,0,none⟩:Addr) w_10 fun (res11:(Array Value))=>
 R (res11) (2) w_10)
 (Ld (.arr 258) (⟨b3,0,none⟩:Addr) w_7 fun (x12:(Array Value))=>
 Cl Tryz.prog [kS] n_canonical_Order ⟨[(.agg x12)]⟩ w_7 fun (r14:Sl) (w_13:World)=>
 ∃(I_15:Int→Int→Int→World→Prop) (m_16:Int→Int→Int→World→Nat),I_15 (0) (0) (0) w_13∧
 ∀(next17:Int) (last18:Int) (t15_19:Int),∀(w_20:World),I_15 next17 last18 t15_19 w_20→
 IfB (decide ((t15_19:Int)<((r14.len:Int):Int)))
 (Idx r14 t15_19 1 fun (q21:Addr)=>
 Ld kI q21 w_20 fun (x22:Int)=>
 IdxP (⟨b3,0,none⟩:Addr) 258 x22 1 fun (q23:Addr)=>
 Ld (kInt .u8) q23 w_20 fun (x24:Int)=>
 0≤((u8 ((x24:Int) - (last18:Int))):Int)∧
 Held w_20 fun (S25:World→Prop) (w_26:World)=>
 IdxP (⟨b3,0,none⟩:Addr) 258 x22 1 fun (q27:Addr)=>
 LdS (kInt .u8) q27 S25 fun (x28:Int)=>
 IdxP (⟨b5,0,none⟩:Addr) 258 x22 1 fun (q29:Addr)=>
 St q29 (.int .u32 (ishl .u32 (next17:Int) ((u8 ((x24:Int) - (last18:Int))):Int))) w_26 fun (w_30:World)=>
 S25 w_30∧
 I_15 ((u32 (((ishl .u32 (next17:Int) ((u8 ((x24:Int) - (last18:Int))):Int)):Int)+(1:Int)))) (x28) ((i64 ((t15_19:Int)+(1:Int)))) w_30∧m_16 ((u32 (((ishl .u32 (next17:Int) ((u8 ((x24:Int) - (last18:Int))):Int)):Int)+(1:Int)))) (x28) ((i64 ((t15_19:Int)+(1:Int)))) w_30<m_16 next17 last18 t15_19 w_20)
 (Ld (.arr 258) (⟨b5,0,none⟩:Addr) w_20 fun (x31:(Array Value))=>
 StA 258 (⟨b5,0,none⟩:Addr) x31 w_20 fun (w_32:World)=>
 Ld (.arr 258) (⟨b5,0,none⟩:Addr) w_32 fun (res33:(Array Value))=>
 R (res33) (0) w_32))
set_option maxRecDepth 100000 in
theorem canonical_Codes.ok (l1:(Array Value)) (R:(Array Value)→Int→World→Prop) (w:World) (h:canonical_Codes.E l1 R w):Cl Tryz.prog [(.arr 258),kI] n_canonical_Codes ⟨[(.agg l1)]⟩ w R:=
 calls_of_eq Tryz.mix Tryz.f97 [(.agg l1)] [(.arr 258),kI] R 36 [.cell 2 101,.tmp 3] (by kernel_rfl) (by kernel_rfl) (by kernel_rfl) (by kernel_rfl) (by kernel_rfl)
  (.s .o (.s (.s .o (.c (.s .o .o) .o)) (.s .o (.s (.s .o (.b (.l [(4,(kInt .u32)),(5,(kInt .u8)),(15,kI)] (.s .o (.s (.c .o .o) (.s (.b (.s .o (.s .o (.s .o .o)))) .o)))))) (.s .o .o)))))
  (by kernel_rfl) h
def canonical_Valid.E (l1:(Array Value)) (R:Bool→World→Prop) (w:World):Prop:=
 Nw 36 l1 w fun (b3:Nat) (w_2:World)=>
 Ld (.arr 258) (⟨b3,0,none⟩:Addr) w_2 fun (x4:(Array Value))=>
 Cl Tryz.prog [kB] n_kraft_Fits ⟨[(.agg x4)]⟩ w_2 fun (r6:Bool) (w_5:World)=>
 R (r6) w_5
theorem canonical_Valid.ok (l1:(Array Value)) (R:Bool→World→Prop) (w:World) (h:canonical_Valid.E l1 R w):Cl Tryz.prog [kB] n_canonical_Valid ⟨[(.agg l1)]⟩ w R:=
 calls_of_eq Tryz.mix Tryz.f147 [(.agg l1)] [kB] R 5 [.tmp 2] (by kernel_rfl) (by kernel_rfl) (by kernel_rfl) (by kernel_rfl) (by kernel_rfl)
  (.s .o (.s .o .o))
  (by kernel_rfl) h
set_option maxRecDepth 100000 in
def canonical_Order.E (l1:(Array Value)) (R:Sl→World→Prop) (w:World):Prop:=
 Nw 36 l1 w fun (b3:Nat) (w_2:World)=>
 Ld (.arr 258) (⟨b3,0,none⟩:Addr) w_2 fun (x4:(Array Value))=>
 Cl Tryz.prog [kB] n_canonical_Valid ⟨[(.agg x4)]⟩ w_2 fun (r6:Bool) (w_5:World)=>
 IfB (!r6)
 (R ((⟨none,0,0⟩:Sl)) w_5)
 (Ld (.arr 258) (⟨b3,0,none⟩:Addr) w_5 fun (x7:(Array Value))=>
 ∃(I_8:Sl→Int→World→Prop) (m_9:Sl→Int→World→Nat),I_8 ((⟨none,0,0⟩:Sl)) (0) w_5∧
 ∀(out10:Sl) (t9_11:Int),∀(w_12:World),I_8 out10 t9_11 w_12→
 IfB (decide ((t9_11:Int)<(258:Int)))
 (IdxV (.int .u8) x7 258 t9_11 fun (e13:Int)=>
 IfB (decide ((e13:Int)>(0:Int)))
 (Nw 3 ⟨[(.int .i64 t9_11)]⟩ w_12 fun (b15:Nat) (w_14:World)=>
 Run Tryz.prog (Builtin.append_ #[33,33] 33 ⟨[(.slice out10.base out10.len out10.cap),(.slice (⟨some ⟨b15,0,none⟩,1,1⟩:Sl).base (⟨some ⟨b15,0,none⟩,1,1⟩:Sl).len (⟨some ⟨b15,0,none⟩,1,1⟩:Sl).cap)]⟩) kS w_14 fun (s17:Sl) (w_16:World)=>
 I_8 (s17) ((i64 ((t9_11:Int)+(1:Int)))) w_16∧m_9 (s17) ((i64 ((t9_11:Int)+(1:Int)))) w_16<m_9 out10 t9_11 w_12)
 (I_8 (out10) ((i64 ((t9_11:Int)+(1:Int)))) w_12∧m_9 (out10) ((i64 ((t9_11:Int)+(1:Int)))) w_12<m_9 out10 t9_11 w_12))
 (Cl Tryz.prog [] n_slices_SortStableFunc_int_int ⟨[(.slice out10.base out10.len out10.cap),(.func (.func 188) ⟨[]⟩ ⟨[(.pointer (some (⟨b3,0,none⟩:Addr)))]⟩)]⟩ w_12 fun (w_18:World)=>
 R (out10) w_18))
set_option maxRecDepth 100000 in
theorem canonical_Order.ok (l1:(Array Value)) (R:Sl→World→Prop) (w:World) (h:canonical_Order.E l1 R w):Cl Tryz.prog [kS] n_canonical_Order ⟨[(.agg l1)]⟩ w R:=
 calls_of_eq Tryz.mix Tryz.f148 [(.agg l1)] [kS] R 24 [.tmp 2] (by kernel_rfl) (by kernel_rfl) (by kernel_rfl) (by kernel_rfl) (by kernel_rfl)
  (.s .o (.s (.s .o (.c (.s .o .o) .o)) (.s (.s .o (.b (.l [(2,kS),(9,kI)] (.s .o (.s (.c .o .o) (.s (.b (.s .o (.s .o (.c .o .o)))) .o)))))) (.s .o (.s .o .o)))))
  (by kernel_rfl) h
def canonical_Order_1.E (a1:Int) (b2:Int) (c3:Addr) (R:Int→World→Prop) (w:World):Prop:=
 Drw w fun (w_4:World)=>
 IdxP c3 258 a1 1 fun (q5:Addr)=>
 Ld (kInt .u8) q5 w_4 fun (x6:Int)=>
 IdxP c3 258 b2 1 fun (q7:Addr)=>
 Ld (kInt .u8) q7 w_4 fun (x8:Int)=>
 Cl Tryz.prog [kI] n_cmp_Compare_uint8 ⟨[(.int .u8 x6),(.int .u8 x8)]⟩ w_4 fun (r10:Int) (w_9:World)=>
 R (r10) w_9
theorem canonical_Order_1.ok (a1:Int) (b2:Int) (c3:Addr) (R:Int→World→Prop) (w:World) (h:canonical_Order_1.E a1 b2 c3 R w):Cl Tryz.prog [kI] n_canonical_Order_1 ⟨[(.int .i64 a1),(.int .i64 b2),(.pointer (some c3))]⟩ w R:=
 calls_of_eq Tryz.mix Tryz.f188 [(.int .i64 a1),(.int .i64 b2),(.pointer (some c3))] [kI] R 13 [.tmp 5] (by kernel_rfl) (by kernel_rfl) (by kernel_rfl) (by kernel_rfl) (by kernel_rfl)
  (.s .o (.s .o .o))
  (by kernel_rfl) h
end Go.Proofs.YtcdpblipagajiaaGreat
namespace Go.Proofs.YtcdpblipagajiaaGreat
open Go Go.Vc
def cmp_Compare_int.E (x1:Int) (y2:Int) (R:Int→World→Prop) (w:World):Prop:=
 Cl Tryz.prog [kB] n_cmp_isNaN_int ⟨[(.int .i64 x1)]⟩ w fun (r4:Bool) (w_3:World)=>
 Cl Tryz.prog [kB] n_cmp_isNaN_int ⟨[(.int .i64 y2)]⟩ w_3 fun (r6:Bool) (w_5:World)=>
 IfB r4
 (IfB r6
 (R (0) w_5)
 (R ((-1)) w_5))
 (IfB r6
 (R (1) w_5)
 (IfB (decide ((x1:Int)<(y2:Int)))
 (R ((-1)) w_5)
 (IfB (decide ((x1:Int)>(y2:Int)))
 (R (1) w_5)
 (R (0) w_5))))
theorem cmp_Compare_int.ok (x1:Int) (y2:Int) (R:Int→World→Prop) (w:World) (h:cmp_Compare_int.E x1 y2 R w):Cl Tryz.prog [kI] n_cmp_Compare_int ⟨[(.int .i64 x1),(.int .i64 y2)]⟩ w R:=
 calls_of_eq Tryz.mix Tryz.f181 [(.int .i64 x1),(.int .i64 y2)] [kI] R 20 [.tmp 4] (by kernel_rfl) (by kernel_rfl) (by kernel_rfl) (by kernel_rfl) (by kernel_rfl)
  (.s .o (.s .o (.s .o (.s (.s .o (.c (.s (.s .o (.c (.s .o .o) .o)) (.s .o .o)) .o)) (.s (.s .o (.c (.s .o .o) .o)) (.s (.s .o (.c (.s .o .o) .o)) (.s (.s .o (.c (.s .o .o) .o)) (.s .o .o))))))))
  (by kernel_rfl) h
def cmp_Compare_uint8.E (x1:Int) (y2:Int) (R:Int→World→Prop) (w:World):Prop:=
 Cl Tryz.prog [kB] n_cmp_isNaN_uint8 ⟨[(.int .u8 x1)]⟩ w fun (r4:Bool) (w_3:World)=>
 Cl Tryz.prog [kB] n_cmp_isNaN_uint8 ⟨[(.int .u8 y2)]⟩ w_3 fun (r6:Bool) (w_5:World)=>
 IfB r4
 (IfB r6
 (R (0) w_5)
 (R ((-1)) w_5))
 (IfB r6
 (R (1) w_5)
 (IfB (decide ((x1:Int)<(y2:Int)))
 (R ((-1)) w_5)
 (IfB (decide ((x1:Int)>(y2:Int)))
 (R (1) w_5)
 (R (0) w_5))))
theorem cmp_Compare_uint8.ok (x1:Int) (y2:Int) (R:Int→World→Prop) (w:World) (h:cmp_Compare_uint8.E x1 y2 R w):Cl Tryz.prog [kI] n_cmp_Compare_uint8 ⟨[(.int .u8 x1),(.int .u8 y2)]⟩ w R:=
 calls_of_eq Tryz.mix Tryz.f189 [(.int .u8 x1),(.int .u8 y2)] [kI] R 20 [.tmp 4] (by kernel_rfl) (by kernel_rfl) (by kernel_rfl) (by kernel_rfl) (by kernel_rfl)
  (.s .o (.s .o (.s .o (.s (.s .o (.c (.s (.s .o (.c (.s .o .o) .o)) (.s .o .o)) .o)) (.s (.s .o (.c (.s .o .o) .o)) (.s (.s .o (.c (.s .o .o) .o)) (.s (.s .o (.c (.s .o .o) .o)) (.s .o .o))))))))
  (by kernel_rfl) h
def cmp_isNaN_int.E (x1:Int) (R:Bool→World→Prop) (w:World):Prop:=
 R (((x1:Int) !=(x1:Int))) w
theorem cmp_isNaN_int.ok (x1:Int) (R:Bool→World→Prop) (w:World) (h:cmp_isNaN_int.E x1 R w):Cl Tryz.prog [kB] n_cmp_isNaN_int ⟨[(.int .i64 x1)]⟩ w R:=
 calls_of_eq Tryz.mix Tryz.f202 [(.int .i64 x1)] [kB] R 6 [.tmp 2] (by kernel_rfl) (by kernel_rfl) (by kernel_rfl) (by kernel_rfl) (by kernel_rfl)
  (.s .o (.s .o .o))
  (by kernel_rfl) h
def cmp_isNaN_uint8.E (x1:Int) (R:Bool→World→Prop) (w:World):Prop:=
 R (((x1:Int) !=(x1:Int))) w
theorem cmp_isNaN_uint8.ok (x1:Int) (R:Bool→World→Prop) (w:World) (h:cmp_isNaN_uint8.E x1 R w):Cl Tryz.prog [kB] n_cmp_isNaN_uint8 ⟨[(.int .u8 x1)]⟩ w R:=
 calls_of_eq Tryz.mix Tryz.f205 [(.int .u8 x1)] [kB] R 6 [.tmp 2] (by kernel_rfl) (by kernel_rfl) (by kernel_rfl) (by kernel_rfl) (by kernel_rfl)
  (.s .o (.s .o .o))
  (by kernel_rfl) h
def cmp_Or_int.E (vals1:Sl) (R:Int→World→Prop) (w:World):Prop:=
 ∃(I_2:Int→World→Prop) (m_3:Int→World→Nat),I_2 (0) w∧
 ∀(t8_4:Int),∀(w_5:World),I_2 t8_4 w_5→
 IfB (decide ((t8_4:Int)<((vals1.len:Int):Int)))
 (Idx vals1 t8_4 1 fun (q6:Addr)=>
 Ld kI q6 w_5 fun (x7:Int)=>
 IfB ((x7:Int) !=(0:Int))
 (R (x7) w_5)
 (I_2 ((i64 ((t8_4:Int)+(1:Int)))) w_5∧m_3 ((i64 ((t8_4:Int)+(1:Int)))) w_5<m_3 t8_4 w_5))
 (R (0) w_5)
theorem cmp_Or_int.ok (vals1:Sl) (R:Int→World→Prop) (w:World) (h:cmp_Or_int.E vals1 R w):Cl Tryz.prog [kI] n_cmp_Or_int ⟨[(.slice vals1.base vals1.len vals1.cap)]⟩ w R:=
 calls_of_eq Tryz.mix Tryz.f211 [(.slice vals1.base vals1.len vals1.cap)] [kI] R 18 [.tmp 2] (by kernel_rfl) (by kernel_rfl) (by kernel_rfl) (by kernel_rfl) (by kernel_rfl)
  (.s .o (.s .o (.s (.s .o (.b (.l [(8,kI)] (.s .o (.s (.c .o .o) (.s (.b (.s .o (.s .o (.c (.s .o .o) .o)))) .o)))))) (.s .o .o))))
  (by kernel_rfl) h
end Go.Proofs.YtcdpblipagajiaaGreat
set_option maxRecDepth 20000
namespace Go.Srt
def Ky (key:Int→Int) (x y:Int):Prop:=key x<key y∨(key x=key y∧x<y)
theorem Ky.trans {key:Int→Int} {x y z:Int} (h:Ky key x y) (h2:Ky key y z):Ky key x z:=by
 unfold Ky at*;omega
abbrev Sd (key:Int→Int) (l:List Int):Prop:=l.Pairwise (Ky key)
theorem set_at {α:Type} (P Q:List α) (x y:α):(P++x::Q).set P.length y=P++y::Q:=by
 rw [List.set_append_right _ _ (Nat.le_refl _)];simp
theorem gat {α:Type} (P Q:List α) (x:α) (h:P.length<(P++x::Q).length):(P++x::Q)[P.length]=x:=by
 rw [List.getElem_append_right (Nat.le_refl _)];simp
end Go.Srt
namespace Go.Proofs.YtcdpblipagajiaaGreat
open Go Go.Vc Go.Srt
section
variable {E w:World} {F:List HP}
theorem exch {s:Sl} {xs:List Int} {i j:Int} {K:World→Prop} (h:Hp E w (OwnS 1 s (xs.map vI)::F)) (hi0:0≤i) (hi:i.toNat<xs.length) (hj0:0≤j) (hj:j.toNat<xs.length)
  (hK: ∀w',Hp E w' (OwnS 1 s (((xs.set i.toNat xs[j.toNat]).set j.toNat xs[i.toNat]).map vI)::F)→K w'):
  Idx s j 1 fun q=>Ld kI q w fun x=>Idx s i 1 fun q'=>Ld kI q' w fun y=>Idx s i 1 fun q2=>St q2 (.int .i64 x) w fun w1=>Idx s j 1 fun q3=>St q3 (.int .i64 y) w1 K:=by
 have hl:=h.ownLen
 simp only [List.length_map,Nat.mul_one] at hl
 refine Idx.rd (h.tells Tells.own) hj0 (by omega) fun q hq hc=> ?_
 refine Ld.sc (s:= .int .i64) xs[j.toNat] (by rw [hc];simp [vI]) ?_
 refine Idx.rd (h.tells Tells.own) hi0 (by omega) fun q' hq' hc'=> ?_
 refine Ld.sc (s:= .int .i64) xs[i.toNat] (by rw [hc'];simp [vI]) ?_
 refine St.own h hi0 (by omega) rfl fun w1 h1=> ?_
 refine St.own h1 hj0 (by omega) rfl fun w2 h2=>hK _ ?_
 rw [List.map_set,List.map_set]
 exact h2
theorem exch_up {s:Sl} {P Q:List Int} {x y:Int} {i j:Int} {K:World→Prop} (h:Hp E w (OwnS 1 s ((P++x::y::Q).map vI)::F)) (hi:i=(P.length:Int)) (hj:j=(P.length:Int)+1)
  (hK: ∀w',Hp E w' (OwnS 1 s ((P++y::x::Q).map vI)::F)→K w'):
  Idx s j 1 fun q=>Ld kI q w fun x=>Idx s i 1 fun q'=>Ld kI q' w fun y=>Idx s i 1 fun q2=>St q2 (.int .i64 x) w fun w1=>Idx s j 1 fun q3=>St q3 (.int .i64 y) w1 K:=by
 refine exch h (by omega) (by simp;omega) (by omega) (by simp;omega) fun w' h'=>hK _ ?_
 have e1:i.toNat=P.length:=by omega
 have e2:j.toNat=(P++ [x]).length:=by simp;omega
 have g1:(P++x::y::Q)[i.toNat]'(by simp;omega)=x:=by simp only [e1];exact gat _ _ _ _
 have g2:(P++x::y::Q)[j.toNat]'(by simp;omega)=y:=by
  have:=gat (P++ [x]) Q y (by simp)
  simp only [e2];simp
 rw [g1,g2,e1,set_at,e2,show (P++y::y::Q)=(P++ [y])++y::Q by simp,show (P++ [x]).length=(P++ [y]).length by simp,set_at] at h'
 simpa using h'
theorem exch_dn {s:Sl} {P Q:List Int} {x y:Int} {i j:Int} {K:World→Prop} (h:Hp E w (OwnS 1 s ((P++x::y::Q).map vI)::F)) (hi:i=(P.length:Int)) (hj:j=(P.length:Int)+1)
  (hK: ∀w',Hp E w' (OwnS 1 s ((P++y::x::Q).map vI)::F)→K w'):
  Idx s i 1 fun q=>Ld kI q w fun x=>Idx s j 1 fun q'=>Ld kI q' w fun y=>Idx s j 1 fun q2=>St q2 (.int .i64 x) w fun w1=>Idx s i 1 fun q3=>St q3 (.int .i64 y) w1 K:=by
 refine exch h (by omega) (by simp;omega) (by omega) (by simp;omega) fun w' h'=>hK _ ?_
 have e1:i.toNat=P.length:=by omega
 have e2:j.toNat=(P++ [x]).length:=by simp;omega
 have g1:(P++x::y::Q)[i.toNat]'(by simp;omega)=x:=by simp only [e1];exact gat _ _ _ _
 have g2:(P++x::y::Q)[j.toNat]'(by simp;omega)=y:=by
  have:=gat (P++ [x]) Q y (by simp)
  simp only [e2];simp
 rw [g1,g2,e2,show (P++x::y::Q)=(P++ [x])++y::Q by simp,set_at,e1,show (P++ [x])++x::Q=P++x::x::Q by simp,set_at] at h'
 simpa using h'
theorem swap_c {s:Sl} {P A C B Q:List Int} {fv:Value} {a b n:Int} {K:World→Prop} (h:Hp E w (OwnS 1 s ((P++A++C++B++Q).map vI)::F)) (hab:A.length=B.length) (hbig:(P++A++C++B++Q).length≤big)
  (ha:a=(P.length:Int)) (hb:b=((P++A++C).length:Int)) (hn:n=(A.length:Int)) (hK: ∀w',Hp E w' (OwnS 1 s ((P++B++C++A++Q).map vI)::F)→K w'):
  Cl Tryz.prog [] n_slices_swapRangeCmpFunc_int ⟨[.slice s.base s.len s.cap,.int .i64 a,.int .i64 b,.int .i64 n,fv]⟩ w K:=by
 subst ha;subst hb;subst hn
 refine slices_swapRangeCmpFunc_int.ok _ _ _ _ _ _ _ ?_
 unfold slices_swapRangeCmpFunc_int.E
 rw [big_eq] at hbig
 simp only [List.length_append] at hbig
 refine ⟨fun i w'=> ∃k:Nat,i=(k:Int)∧k≤A.length∧Hp E w' (OwnS 1 s ((P++(B.take k++A.drop k)++C++(A.take k++B.drop k)++Q).map vI)::F),fun i _=>A.length - i.toNat,⟨0,rfl,by omega,by simpa using h⟩,?_⟩
 rintro i w' ⟨k,rfl,hk,hh⟩
 refine IfB.mk (fun hlt=> ?_) (fun hge=> ?_)
 ·have hlt:k<A.length:=by have:=of_decide_eq_true hlt;omega
  refine Drw.mk hh fun w1 h1=> ?_
  simp only [List.length_append]
  rw [i64_id (x:=((P.length+A.length+C.length:Nat):Int)+(k:Int)) (by omega),i64_id (x:=(P.length:Int)+(k:Int)) (by omega)]
  have hkB:k<B.length:=by omega
  refine exch h1 (by omega) (by simp;omega) (by omega) (by simp;omega) fun w2 h2=> ?_
  rw [i64_id (by omega)]
  refine ⟨⟨k+1,rfl,by omega,?_⟩,by omega⟩
  have e1:((P.length:Int)+(k:Int)).toNat=P.length+k:=by omega
  have e2:(((P.length+A.length+C.length:Nat):Int)+(k:Int)).toNat=P.length+A.length+C.length+k:=by omega
  have dA:A.drop k=A[k]::A.drop (k+1):=(List.drop_eq_getElem_cons hlt)
  have dB:B.drop k=B[k]::B.drop (k+1):=(List.drop_eq_getElem_cons hkB)
  have tA:A.take (k+1)=A.take k++ [A[k]]:=by rw [List.take_add_one,List.getElem?_eq_getElem hlt];rfl
  have tB:B.take (k+1)=B.take k++ [B[k]]:=by rw [List.take_add_one,List.getElem?_eq_getElem hkB];rfl
  have X:P++(B.take k++A.drop k)++C++(A.take k++B.drop k)++Q=(P++B.take k)++A[k]::(A.drop (k+1)++C++A.take k++B[k]::(B.drop (k+1)++Q)):=by rw [dA,dB];simp only [List.append_assoc,List.cons_append,List.nil_append]
  have l1:(P++B.take k).length=P.length+k:=by simp;omega
  have X2: ∀z,(P++B.take k)++z::(A.drop (k+1)++C++A.take k++B[k]::(B.drop (k+1)++Q))=(P++B.take k++z::(A.drop (k+1)++C++A.take k))++B[k]::(B.drop (k+1)++Q):=by intro z;simp only [List.append_assoc,List.cons_append,List.nil_append]
  have l2: ∀z:Int,(P++B.take k++z::(A.drop (k+1)++C++A.take k)).length=P.length+A.length+C.length+k:=by intro z;simp;omega
  have g1:(P++(B.take k++A.drop k)++C++(A.take k++B.drop k)++Q)[((P.length:Int)+(k:Int)).toNat]? =some A[k]:=by
   rw [X,e1,←l1,List.getElem?_append_right (Nat.le_refl _)];simp
  have g2:(P++(B.take k++A.drop k)++C++(A.take k++B.drop k)++Q)[(((P.length+A.length+C.length:Nat):Int)+(k:Int)).toNat]? =some B[k]:=by
   rw [X,X2,e2,←l2 A[k],List.getElem?_append_right (Nat.le_refl _)];simp
  have g1':=(List.getElem?_eq_some_iff.1 g1).2
  have g2':=(List.getElem?_eq_some_iff.1 g2).2
  rw [g1',g2',e1,e2,X] at h2
  rw [←l1,set_at,X2,←l2 B[k],set_at] at h2
  have Y:P++B.take k++B[k]::(A.drop (k+1)++C++A.take k)++A[k]::(B.drop (k+1)++Q)=P++(B.take (k+1)++A.drop (k+1))++C++(A.take (k+1)++B.drop (k+1))++Q:=by rw [tA,tB];simp only [List.append_assoc,List.cons_append,List.nil_append]
  rw [Y] at h2
  exact h2
 ·have hge:k=A.length:=by have:=of_decide_eq_false hge;omega
  subst hge
  refine hK _ ?_
  rw [List.drop_eq_nil_of_le (Nat.le_refl _),List.take_length,List.take_of_length_le (by omega),List.drop_eq_nil_of_le (by omega)] at hh
  simpa using hh
theorem rotate_c {s:Sl} {P A B Q:List Int} {fv:Value} {a m b:Int} {K:World→Prop} (h:Hp E w (OwnS 1 s ((P++A++B++Q).map vI)::F)) (hA:A≠ []) (hB:B≠ []) (hbig:(P++A++B++Q).length≤big)
  (ha:a=(P.length:Int)) (hm:m=((P++A).length:Int)) (hb:b=((P++A++B).length:Int)) (hK: ∀w',Hp E w' (OwnS 1 s ((P++B++A++Q).map vI)::F)→K w'):
  Cl Tryz.prog [] n_slices_rotateCmpFunc_int ⟨[.slice s.base s.len s.cap,.int .i64 a,.int .i64 m,.int .i64 b,fv]⟩ w K:=by
 subst ha;subst hm;subst hb
 refine slices_rotateCmpFunc_int.ok _ _ _ _ _ _ _ ?_
 unfold slices_rotateCmpFunc_int.E
 have hbg:=hbig
 rw [big_eq] at hbig
 simp only [List.length_append] at hbig
 have hA1:=List.length_pos_iff.2 hA
 have hB1:=List.length_pos_iff.2 hB
 refine ⟨fun i j w'=> ∃P' A' B' Q':List Int,i=(A'.length:Int)∧j=(B'.length:Int)∧A'≠ []∧B'≠ []∧(P'++A').length=(P++A).length∧P'++B'++A'++Q'=P++B++A++Q∧Hp E w' (OwnS 1 s ((P'++A'++B'++Q').map vI)::F),
  fun i j _=>i.toNat+j.toNat,⟨P,A,B,Q,?_,?_,hA,hB,rfl,rfl,h⟩,?_⟩
 ·simp only [List.length_append];rw [i64_id (by omega)];omega
 ·simp only [List.length_append];rw [i64_id (by omega)];omega
 ·rintro i j w' ⟨P',A',B',Q',rfl,rfl,hA',hB',hm',htot,hh⟩
  have hA2:=List.length_pos_iff.2 hA'
  have hB2:=List.length_pos_iff.2 hB'
  have hlen:=congrArg List.length htot
  simp only [List.length_append] at hlen hm'⊢
  refine IfB.mk (fun hne=>IfB.mk (fun hgt=> ?_) (fun hle=> ?_)) (fun heq=> ?_)
  ·have hgt:=of_decide_eq_true hgt
   have hsp:A'.take B'.length++A'.drop B'.length=A':=List.take_append_drop _ _
   have ht:(A'.take B'.length).length=B'.length:=by simp;omega
   generalize A'.take B'.length=A1 at hsp ht
   generalize A'.drop B'.length=A2 at hsp
   subst hsp
   simp only [List.length_append] at hgt hlen hm' hA2⊢
   rw [i64_id (by omega),i64_id (by omega)]
   refine swap_c (P:=P') (A:=A1) (C:=A2) (B:=B') (Q:=Q') (by simpa using hh) ht (by rw [big_eq];simp only [List.length_append];omega) (by omega) (by simp only [List.length_append];omega) (by omega) fun w2 h2=> ?_
   refine ⟨⟨P'++B',A2,A1,Q',by omega,by omega,?_,?_,by simp only [List.length_append];omega,by rw [←htot];simp only [List.append_assoc],by simpa using h2⟩,by omega⟩
   ·intro h0;rw [h0] at hgt;simp at hgt;omega
   ·intro h0;rw [h0] at ht;simp at ht;omega
  ·have hle:=of_decide_eq_false hle
   have hne: ¬(A'.length:Int)=(B'.length:Int):=by simpa using hne
   have hsp:B'.take (B'.length - A'.length)++B'.drop (B'.length - A'.length)=B':=List.take_append_drop _ _
   have ht:(B'.drop (B'.length - A'.length)).length=A'.length:=by simp;omega
   generalize B'.take (B'.length - A'.length)=B1 at hsp
   generalize B'.drop (B'.length - A'.length)=B2 at hsp ht
   subst hsp
   simp only [List.length_append] at hle hlen hne hB2⊢
   simp (disch:=omega) only [i64_id]
   refine swap_c (P:=P') (A:=A') (C:=B1) (B:=B2) (Q:=Q') (by simpa using hh) ht.symm (by rw [big_eq];simp only [List.length_append];omega) (by omega) (by simp only [List.length_append];omega) rfl fun w2 h2=> ?_
   refine ⟨⟨P',B2,B1,A'++Q',by omega,by omega,?_,?_,by omega,by rw [←htot];simp only [List.append_assoc],by simpa using h2⟩,by omega⟩
   ·intro h0;rw [h0] at ht;simp at ht;omega
   ·intro h0;rw [h0] at hne;simp at hne;omega
  ·have heq:(A'.length:Int)=(B'.length:Int):=by simpa using heq
   rw [i64_id (by omega)]
   refine swap_c (P:=P') (A:=A') (C:= []) (B:=B') (Q:=Q') (by simpa using hh) (by omega) (by rw [big_eq];simp;omega) (by omega) (by simp;omega) rfl fun w2 h2=>hK _ ?_
   rw [←htot]
   simpa using h2
def CmpOk (E:World) (F:List HP) (fv:Value) (key:Int→Int) (D:Int→Prop):Prop:=
 ∀(A:List HP) (w:World) (y x:Int) (K:Int→World→Prop),Hp E w (A++F)→D x→D y→(∀z w',(z<0↔key y<key x)→Hp E w' (A++F)→K z w')→ClX Tryz.prog fv [kI] [.int .i64 y,.int .i64 x] w K
theorem ord_of {key:Int→Int} {x y:Int} (h:x<y):(key y<key x↔Ky key y x)∧(¬key y<key x↔Ky key x y):=by
 unfold Ky;constructor<;>constructor<;>intro h2<;>omega
theorem sd_snoc {key:Int→Int} {S:List Int} {y x:Int} (h:Sd key (S++ [y])) (hy:Ky key y x): ∀z∈S++ [y],Ky key z x:=by
 intro z hz
 rcases List.mem_append.1 hz with hz|hz
 ·have:=(List.pairwise_append.1 h).2.2 z hz y (by simp)
  exact this.trans hy
 ·have:z=y:=by simpa using hz
  subst this;exact hy
theorem insertion_c {s:Sl} {P L Q:List Int} {fv:Value} {key:Int→Int} {D:Int→Prop} {a b:Int} {K:World→Prop} (h:Hp E w (OwnS 1 s ((P++L++Q).map vI)::F)) (hbig:(P++L++Q).length≤big)
  (hc:CmpOk E F fv key D) (hD: ∀x∈L,D x) (hL:L.Pairwise (·< ·)) (ha:a=(P.length:Int)) (hb:b=((P++L).length:Int))
  (hK: ∀M w',M.Perm L→Sd key M→Hp E w' (OwnS 1 s ((P++M++Q).map vI)::F)→K w'):
  Cl Tryz.prog [] n_slices_insertionSortCmpFunc_int ⟨[.slice s.base s.len s.cap,.int .i64 a,.int .i64 b,fv]⟩ w K:=by
 subst ha;subst hb
 refine slices_insertionSortCmpFunc_int.ok _ _ _ _ _ _ ?_
 unfold slices_insertionSortCmpFunc_int.E
 rw [big_eq] at hbig
 simp only [List.length_append] at hbig⊢
 refine ⟨fun i w'=> ∃(k:Nat) (S:List Int),i=((P.length+k:Nat):Int)∧1≤k∧S.Perm (L.take k)∧Sd key S∧Hp E w' (OwnS 1 s ((P++S++L.drop k++Q).map vI)::F),fun i _=>P.length+L.length - i.toNat,⟨1,L.take 1,?_,by omega,List.Perm.refl _,?_,by rw [List.append_assoc P,List.take_append_drop];exact h⟩,?_⟩
 ·rw [i64_id (by omega)];omega
 ·cases L<;>simp
 rintro i w' ⟨k,S,rfl,hk1,hS,hsd,hh⟩
 refine IfB.mk (fun hlt=> ?_) (fun hge=> ?_)
 ·have hlt:k<L.length:=by have:=of_decide_eq_true hlt;omega
  have hSl:S.length=k:=by have:=hS.length_eq;rw [List.length_take] at this;omega
  have dL:L.drop k=L[k]::L.drop (k+1):=List.drop_eq_getElem_cons hlt
  have tL:L.take (k+1)=L.take k++ [L[k]]:=by rw [List.take_add_one,List.getElem?_eq_getElem hlt];rfl
  have hxin:L[k]∈L:=List.getElem_mem hlt
  have hless: ∀y∈S,y<L[k]:=by
   intro y hy
   have hy':y∈L.take k:=hS.mem_iff.1 hy
   rw [←List.take_append_drop k L,List.pairwise_append] at hL
   exact hL.2.2 y hy' L[k] (by rw [dL];exact List.mem_cons_self ..)
  have hSin: ∀y∈S,y∈L:=fun y hy=>List.mem_of_mem_take (hS.mem_iff.1 hy)
  generalize L[k]=x at*
  refine ⟨fun j w'=> ∃S1 S2:List Int,j=((P.length+S1.length:Nat):Int)∧S=S1++S2∧(∀y∈S2,Ky key x y)∧Hp E w' (OwnS 1 s ((P++S1++x::S2++L.drop (k+1)++Q).map vI)::F),fun j _=>j.toNat - P.length,⟨S,[],by omega,by simp,by simp,?_⟩,?_⟩
  ·rw [dL] at hh;simpa using hh
  rintro j w' ⟨S1,S2,rfl,rfl,hS2,hh⟩
  have fin: ∀w',(∀y∈S1,Ky key y x)→Hp E w' (OwnS 1 s ((P++S1++x::S2++L.drop (k+1)++Q).map vI)::F)→
    (∃(k_1:Nat) (S:List Int),i64 (((P.length+k:Nat):Int)+1)=((P.length+k_1:Nat):Int)∧1≤k_1∧S.Perm (L.take k_1)∧Sd key S∧Hp E w' (OwnS 1 s ((P++S++L.drop k_1++Q).map vI)::F))∧P.length+L.length - (i64 (((P.length+k:Nat):Int)+1)).toNat<P.length+L.length - (((P.length+k:Nat):Int)).toNat:=by
   intro w' hS1 hh
   rw [i64_id (by omega)]
   refine ⟨⟨k+1,S1++x::S2,by omega,by omega,?_,?_,by simpa using hh⟩,by omega⟩
   ·rw [tL]
    refine List.perm_middle.trans ?_
    exact (List.Perm.cons x hS).trans (List.perm_append_comm (l₁:= [x]))
   ·obtain ⟨p1,p2,p3⟩:=List.pairwise_append.1 hsd
    refine List.pairwise_append.2 ⟨p1,List.pairwise_cons.2 ⟨hS2,p2⟩,fun y hy z hz=> ?_⟩
    rcases List.mem_cons.1 hz with rfl|hz
    ·exact hS1 y hy
    ·exact p3 y hy z hz
  refine Drw.mk hh fun w1 h1=>IfB.mk (fun hgt=> ?_) (fun hle=> ?_)
  ·have hgt:=of_decide_eq_true hgt
   rcases List.eq_nil_or_concat S1 with rfl|⟨S1',y,rfl⟩
   ·simp at hgt
   ·rw [List.concat_eq_append] at*
    simp only [List.length_append,List.length_cons,List.length_nil] at*
    have hln:=h1.ownLen
    simp only [List.length_map,List.length_append,List.length_cons,List.length_nil,Nat.mul_one] at hln
    rw [i64_id (by omega)]
    have hform:P++(S1'++ [y])++x::S2++L.drop (k+1)++Q=(P++S1')++y::x::(S2++L.drop (k+1)++Q):=by simp
    have gx:(P++(S1'++ [y])++x::S2++L.drop (k+1)++Q)[P.length+S1'.length+1]? =some x:=by
     rw [hform,show P.length+S1'.length+1=(P++S1').length+1 by simp,List.getElem?_append_right (by omega)];simp
    have gy:(P++(S1'++ [y])++x::S2++L.drop (k+1)++Q)[P.length+S1'.length]? =some y:=by
     rw [hform,show P.length+S1'.length=(P++S1').length by simp,List.getElem?_append_right (by omega)];simp
    refine Idx.rd (h1.tells Tells.own) (by omega) (by omega) fun q hq hc1=> ?_
    refine Ld.sc (s:= .int .i64) x (by
     rw [hc1,←List.getElem?_eq_getElem,List.getElem?_map,show (((P.length+(S1'.length+(0+1)):Nat):Int)).toNat=P.length+S1'.length+1 by omega,gx];rfl) ?_
    refine Idx.rd (h1.tells Tells.own) (by omega) (by omega) fun q2 hq2 hc2=> ?_
    refine Ld.sc (s:= .int .i64) y (by
     rw [hc2,←List.getElem?_eq_getElem,List.getElem?_map,show (((P.length+(S1'.length+(0+1)):Nat):Int) - 1).toNat=P.length+S1'.length by omega,gy];rfl) ?_
    refine hc [_] w1 x y _ h1 (hD y (hSin y (by simp))) (hD x hxin) fun z w2 hz h2=> ?_
    have hyx:=ord_of (key:=key) (hless y (by simp))
    refine IfB.mk (fun hneg=> ?_) (fun hpos=> ?_)
    ·have hneg:=hyx.1.1 (hz.1 (of_decide_eq_true hneg))
     refine Drw.mk h2 fun w3 h3=> ?_
     refine exch_dn (P:=P++S1') (Q:=S2++L.drop (k+1)++Q) (x:=y) (y:=x) (by rw [←hform];exact h3) (by simp;omega) (by simp;omega) fun w4 h4=> ?_
     refine ⟨⟨S1',y::S2,by omega,by simp,?_,by simpa using h4⟩,by omega⟩
     intro z hz
     rcases List.mem_cons.1 hz with rfl|hz
     ·exact hneg
     ·exact hS2 z hz
    ·have hpos:=hyx.2.1 (fun hk=>(of_decide_eq_false hpos) (hz.2 hk))
     exact fin w2 (sd_snoc (List.pairwise_append.1 hsd).1 hpos) h2
  ·have hle:=of_decide_eq_false hle
   have:S1= []:=List.length_eq_zero_iff.1 (by omega)
   subst this
   exact fin w1 (by simp) h1
 ·have hge:L.length≤k:=by have:=of_decide_eq_false hge;omega
  rw [List.take_of_length_le hge] at hS
  rw [List.drop_eq_nil_of_le hge] at hh
  exact hK S _ hS hsd (by simpa using hh)
end
end Go.Proofs.YtcdpblipagajiaaGreat
set_option maxRecDepth 20000
namespace Go.Proofs.YtcdpblipagajiaaGreat
open Go Go.Vc Go.Srt
section
variable {E w:World} {F:List HP}
theorem rdI {s:Sl} {xs:List Int} {i:Int} {x:Int} {K:Int→Prop} (h:Hp E w (OwnS 1 s (xs.map vI)::F)) (h0:0≤i) (hx:xs[i.toNat]? =some x) (hK:K x):Idx s i 1 fun q=>Ld kI q w K:=by
 have hl:=h.ownLen
 simp only [List.length_map,Nat.mul_one] at hl
 have hi:=(List.getElem?_eq_some_iff.1 hx).1
 refine Idx.rd (h.tells Tells.own) h0 (by omega) fun q hq hc=> ?_
 refine Ld.sc (s:= .int .i64) x (by rw [hc,←List.getElem?_eq_getElem,List.getElem?_map,hx];rfl) hK
theorem ifs {c1 c2:Bool} {X Y:Prop} (h1:c1=true→c2=true→Y) (h2:c1=false∨c2=false→X):IfB c1 (IfB c2 Y X) X:=by
 cases c1<;>cases c2<;>simp [IfB]<;>first|exact h1 rfl rfl|exact h2 (.inl rfl)|exact h2 (.inr rfl)
theorem Join_use {α:Type} {r:α} {k:α→Prop} (C:α→Prop) (h1:C r) (h2: ∀K,C K→k K):Join r k:=h2 r h1
theorem halfS {a b:Int} {k:Nat} (h:a+b=(k:Int)) (hk:k≤4*big):i64 (ishr .u64 (u64 (i64 (a+b))) 1)=((k/2:Nat):Int):=by
 rw [big_eq] at hk
 rw [h,i64_id (x:=(k:Int)) (by omega),u64_id (x:=(k:Int)) (by omega)]
 have:=ishr_nat (k:= .u64) (a:=k) (b:=1) (by decide)
 rw [show (1:Int)=((1:Nat):Int) from rfl,this,i64_id (by omega)]
theorem sd_le {key:Int→Int} {R:List Int} (h:Sd key R) {t u:Nat} (hu:u<R.length) (ht:t≤u) {x:Int} (hx:Ky key R[u] x):Ky key (R[t]'(by omega)) x:=by
 by_cases e:t=u
 ·subst e;exact hx
 ·exact ((List.pairwise_iff_getElem.1 h) t u (by omega) hu (by omega)).trans hx
theorem sd_ge {key:Int→Int} {R:List Int} (h:Sd key R) {t u:Nat} (hu:u<R.length) (ht:t≤u) {x:Int} (hx:Ky key x (R[t]'(by omega))):Ky key x R[u]:=by
 by_cases e:t=u
 ·subst e;exact hx
 ·exact hx.trans ((List.pairwise_iff_getElem.1 h) t u (by omega) hu (by omega))
theorem sd_mid {key:Int→Int} {A B:List Int} {x:Int} (h:Sd key (A++B)) (h1: ∀y∈A,Ky key y x) (h2: ∀y∈B,Ky key x y):Sd key (A++x::B):=by
 obtain ⟨p1,p2,p3⟩:=List.pairwise_append.1 h
 refine List.pairwise_append.2 ⟨p1,List.pairwise_cons.2 ⟨h2,p2⟩,fun y hy z hz=> ?_⟩
 rcases List.mem_cons.1 hz with rfl|hz
 ·exact h1 y hy
 ·exact p3 y hy z hz
theorem symmerge_c {s:Sl} {fv:Value} {key:Int→Int} {D:Int→Prop} (hc:CmpOk E F fv key D):
  ∀(N:Nat) {P L R Q:List Int} {w:World} {a m b:Int} {K:World→Prop},L.length+R.length≤N→Hp E w (OwnS 1 s ((P++L++R++Q).map vI)::F)→(P++L++R++Q).length≤big→
  L≠ []→R≠ []→Sd key L→Sd key R→(∀x∈L,∀y∈R,x<y)→(∀x∈L,D x)→(∀x∈R,D x)→a=(P.length:Int)→m=((P.length+L.length:Nat):Int)→b=((P.length+L.length+R.length:Nat):Int)→
  (∀M w',M.Perm (L++R)→Sd key M→Hp E w' (OwnS 1 s ((P++M++Q).map vI)::F)→K w')→
  Cl Tryz.prog [] n_slices_symMergeCmpFunc_int ⟨[.slice s.base s.len s.cap,.int .i64 a,.int .i64 m,.int .i64 b,fv]⟩ w K
 |0,P,L,R,Q,w,a,m,b,K,hN,_,_,hL,_,_,_,_,_,_,_,_,_,_=>absurd (List.length_eq_zero_iff.1 (by omega:L.length=0)) hL
 |N+1,P,L,R,Q,w,a,m,b,K,hN,h,hbig,hL,hR,hsL,hsR,hLR,hDL,hDR,ha,hm,hb,hK=>by
  subst ha;subst hm;subst hb
  refine slices_symMergeCmpFunc_int.ok _ _ _ _ _ _ _ ?_
  unfold slices_symMergeCmpFunc_int.E
  have hbg:=hbig
  rw [big_eq] at hbig
  simp only [List.length_append] at hbig
  have hL1:=List.length_pos_iff.2 hL
  have hR1:=List.length_pos_iff.2 hR
  refine IfB.mk (fun h1=> ?_) (fun h1=>IfB.mk (fun h2=> ?_) (fun h2=> ?_))
  ·have h1:L.length=1:=by
    rw [i64_id (by omega)] at h1
    have:=of_decide_eq_true h1;omega
   obtain ⟨x,rfl⟩:=List.length_eq_one_iff.1 h1
   simp only [List.length_cons,List.length_nil,Nat.zero_add] at hbig⊢
   have gR: ∀t (ht:t<R.length),(P++ [x]++R++Q)[P.length+1+t]? =some R[t]:=by
    intro t ht
    rw [List.append_assoc (P++ [x]),List.getElem?_append_right (by simp<;>omega),List.getElem?_append_left (by simp<;>omega)]
    simp only [List.length_append,List.length_cons,List.length_nil]
    rw [show P.length+1+t - (P.length+(0+1))=t by omega,List.getElem?_eq_getElem ht]
   have gx:(P++ [x]++R++Q)[P.length]? =some x:=by
    rw [show P++ [x]++R++Q=P++x::(R++Q) by simp,List.getElem?_append_right (Nat.le_refl _)];simp
   refine ⟨fun i j w'=> ∃u v:Nat,i=((P.length+1+u:Nat):Int)∧j=((P.length+1+v:Nat):Int)∧u≤v∧v≤R.length∧(∀t (_:t<u) (h:t<R.length),Ky key R[t] x)∧(∀t (_:v≤t) (h:t<R.length),Ky key x R[t])∧Hp E w' (OwnS 1 s ((P++ [x]++R++Q).map vI)::F),
    fun i j _=>j.toNat - i.toNat,⟨0,R.length,rfl,by omega,by omega,Nat.le_refl _,fun t ht=>by omega,fun t ht h=>by omega,h⟩,?_⟩
   rintro i j w' ⟨u,v,rfl,rfl,huv,hv,hlo,hhi,hh⟩
   refine IfB.mk (fun hlt=> ?_) (fun hge=> ?_)
   ·have hlt:=of_decide_eq_true hlt
    have hlt:u<v:=by omega
    refine ⟨by decide,Drw.mk hh fun w1 h1=> ?_⟩
    rw [halfS (k:=P.length+1+u+(P.length+1+v)) (by omega) (by rw [big_eq];omega)]
    obtain ⟨t,ht⟩: ∃t,(P.length+1+u+(P.length+1+v))/2=P.length+1+t:=⟨(u+v)/2,by omega⟩
    rw [ht]
    have htu:u≤t:=by omega
    have htv:t<v:=by omega
    have htR:t<R.length:=by omega
    refine rdI h1 (by omega) (x:=R[t]) (by rw [Int.toNat_natCast];exact gR t htR) ?_
    refine rdI h1 (by omega) (x:=x) (by rw [Int.toNat_natCast];exact gx) ?_
    have hxy:=hLR x (by simp) R[t] (List.getElem_mem htR)
    have hyx:=ord_of (key:=key) hxy
    refine hc [_] w1 R[t] x _ h1 (hDL x (by simp)) (hDR _ (List.getElem_mem htR)) fun z w2 hz h2=> ?_
    refine IfB.mk (fun hneg=> ?_) (fun hpos=> ?_)
    ·have hneg:=hyx.1.1 (hz.1 (of_decide_eq_true hneg))
     rw [i64_id (by omega)]
     exact ⟨⟨t+1,v,by omega,rfl,by omega,hv,fun t' h' hl=>sd_le hsR htR (by omega) hneg,hhi,h2⟩,by dsimp only;omega⟩
    ·have hpos:=hyx.2.1 (fun hk=>(of_decide_eq_false hpos) (hz.2 hk))
     exact ⟨⟨u,t,rfl,rfl,htu,by omega,hlo,fun t' h' hl=>sd_ge hsR hl h' hpos,h2⟩,by dsimp only;omega⟩
   ·have hge:u=v:=by have:=of_decide_eq_false hge;omega
    subst hge
    refine ⟨fun k w'=> ∃t:Nat,k=((P.length+t:Nat):Int)∧t≤u∧Hp E w' (OwnS 1 s ((P++R.take t++x::R.drop t++Q).map vI)::F),fun k _=>P.length+u - k.toNat,⟨0,rfl,by omega,by simpa using hh⟩,?_⟩
    rintro k w' ⟨t,rfl,htu,hh⟩
    rw [i64_id (by omega)]
    refine IfB.mk (fun hlt=> ?_) (fun hge=> ?_)
    ·have hlt:t<u:=by have:=of_decide_eq_true hlt;omega
     have htR:t<R.length:=by omega
     have dR:R.drop t=R[t]::R.drop (t+1):=List.drop_eq_getElem_cons htR
     have tR:R.take (t+1)=R.take t++ [R[t]]:=by rw [List.take_add_one,List.getElem?_eq_getElem htR];rfl
     refine Drw.mk hh fun w1 h1=> ?_
     rw [i64_id (x:=((P.length+t:Nat):Int)+1) (by omega)]
     refine exch_up (P:=P++R.take t) (Q:=R.drop (t+1)++Q) (x:=x) (y:=R[t]) (by rw [dR] at h1;simpa only [List.append_assoc,List.cons_append] using h1) (by simp;omega) (by simp;omega) fun w2 h2=> ?_
     exact ⟨⟨t+1,by omega,by omega,by rw [tR];simpa only [List.append_assoc,List.cons_append,List.nil_append] using h2⟩,by dsimp only;omega⟩
    ·have hge:t=u:=by have:=of_decide_eq_false hge;omega
     subst hge
     refine hK (R.take t++x::R.drop t) _ ?_ ?_ (by simpa only [List.append_assoc,List.cons_append] using hh)
     ·refine List.perm_middle.trans ?_
      rw [List.take_append_drop];exact List.Perm.refl _
     ·refine sd_mid (by rw [List.take_append_drop];exact hsR) (fun y hy=> ?_) (fun y hy=> ?_)
      ·obtain ⟨i,hi,rfl⟩:=List.getElem_of_mem hy
       rw [List.getElem_take]
       exact hlo i (by simp at hi;omega) _
      ·obtain ⟨i,hi,rfl⟩:=List.getElem_of_mem hy
       rw [List.getElem_drop]
       exact hhi _ (by omega) _
  ·have h2:R.length=1:=by
    rw [i64_id (by omega)] at h2
    have:=of_decide_eq_true h2;omega
   obtain ⟨y,rfl⟩:=List.length_eq_one_iff.1 h2
   simp only [List.length_cons,List.length_nil,Nat.zero_add] at hbig⊢
   have gL: ∀t (ht:t<L.length),(P++L++ [y]++Q)[P.length+t]? =some L[t]:=by
    intro t ht
    rw [List.append_assoc (P++L),List.append_assoc P,List.getElem?_append_right (by omega),List.getElem?_append_left (by omega)]
    rw [show P.length+t - P.length=t by omega,List.getElem?_eq_getElem ht]
   have gy:(P++L++ [y]++Q)[P.length+L.length]? =some y:=by
    rw [show P++L++ [y]++Q=(P++L)++y::Q by simp,List.getElem?_append_right (by simp)];simp
   refine ⟨fun i j w'=> ∃u v:Nat,i=((P.length+u:Nat):Int)∧j=((P.length+v:Nat):Int)∧u≤v∧v≤L.length∧(∀t (_:t<u) (h:t<L.length),Ky key L[t] y)∧(∀t (_:v≤t) (h:t<L.length),Ky key y L[t])∧Hp E w' (OwnS 1 s ((P++L++ [y]++Q).map vI)::F),
    fun i j _=>j.toNat - i.toNat,⟨0,L.length,rfl,rfl,by omega,Nat.le_refl _,fun t ht=>by omega,fun t ht h=>by omega,h⟩,?_⟩
   rintro i j w' ⟨u,v,rfl,rfl,huv,hv,hlo,hhi,hh⟩
   refine IfB.mk (fun hlt=> ?_) (fun hge=> ?_)
   ·have hlt:=of_decide_eq_true hlt
    have hlt:u<v:=by omega
    refine ⟨by decide,Drw.mk hh fun w1 h1=> ?_⟩
    rw [halfS (k:=P.length+u+(P.length+v)) (by omega) (by rw [big_eq];omega)]
    obtain ⟨t,ht⟩: ∃t,(P.length+u+(P.length+v))/2=P.length+t:=⟨(u+v)/2,by omega⟩
    rw [ht]
    have htu:u≤t:=by omega
    have htv:t<v:=by omega
    have htL:t<L.length:=by omega
    refine rdI h1 (by omega) (x:=y) (by rw [Int.toNat_natCast];exact gy) ?_
    refine rdI h1 (by omega) (x:=L[t]) (by rw [Int.toNat_natCast];exact gL t htL) ?_
    have hxy:=hLR L[t] (List.getElem_mem htL) y (by simp)
    have hyx:=ord_of (key:=key) hxy
    refine hc [_] w1 y L[t] _ h1 (hDL _ (List.getElem_mem htL)) (hDR y (by simp)) fun z w2 hz h2=> ?_
    refine IfB.mk (fun hneg=> ?_) (fun hpos=> ?_)
    ·have hneg: ¬z<0:=by simpa using hneg
     have hneg:=hyx.2.1 (fun hk=>hneg (hz.2 hk))
     rw [i64_id (by omega)]
     exact ⟨⟨t+1,v,by omega,rfl,by omega,hv,fun t' h' hl=>sd_le hsL htL (by omega) hneg,hhi,h2⟩,by dsimp only;omega⟩
    ·have hpos:z<0:=by simpa using hpos
     have hpos:=hyx.1.1 (hz.1 hpos)
     exact ⟨⟨u,t,rfl,rfl,htu,by omega,hlo,fun t' h' hl=>sd_ge hsL hl h' hpos,h2⟩,by dsimp only;omega⟩
   ·have hge:u=v:=by have:=of_decide_eq_false hge;omega
    subst hge
    refine ⟨fun k w'=> ∃t:Nat,k=((P.length+t:Nat):Int)∧u≤t∧t≤L.length∧Hp E w' (OwnS 1 s ((P++L.take t++y::L.drop t++Q).map vI)::F),fun k _=>k.toNat,⟨L.length,rfl,by omega,Nat.le_refl _,by simpa using hh⟩,?_⟩
    rintro k w' ⟨t,rfl,htu,htl,hh⟩
    refine IfB.mk (fun hlt=> ?_) (fun hge=> ?_)
    ·have hlt:u<t:=by have:=of_decide_eq_true hlt;omega
     obtain ⟨t,rfl⟩: ∃t',t=t'+1:=⟨t - 1,by omega⟩
     have htL:t<L.length:=by omega
     have dL:L.drop t=L[t]::L.drop (t+1):=List.drop_eq_getElem_cons htL
     have tL:L.take (t+1)=L.take t++ [L[t]]:=by rw [List.take_add_one,List.getElem?_eq_getElem htL];rfl
     refine Drw.mk hh fun w1 h1=> ?_
     rw [i64_id (x:=((P.length+(t+1):Nat):Int) - 1) (by omega)]
     refine exch_dn (P:=P++L.take t) (Q:=L.drop (t+1)++Q) (x:=L[t]) (y:=y) (by rw [tL] at h1;simpa only [List.append_assoc,List.cons_append,List.nil_append] using h1) (by simp;omega) (by simp;omega) fun w2 h2=> ?_
     exact ⟨⟨t,by omega,by omega,by omega,by rw [dL];simpa only [List.append_assoc,List.cons_append,List.nil_append] using h2⟩,by dsimp only;omega⟩
    ·have hge:t=u:=by have:=of_decide_eq_false hge;omega
     subst hge
     refine hK (L.take t++y::L.drop t) _ ?_ ?_ (by simpa only [List.append_assoc,List.cons_append] using hh)
     ·refine List.perm_middle.trans ?_
      rw [List.take_append_drop];exact List.perm_append_comm (l₁:= [y])
     ·refine sd_mid (by rw [List.take_append_drop];exact hsL) (fun y hy=> ?_) (fun y hy=> ?_)
      ·obtain ⟨i,hi,rfl⟩:=List.getElem_of_mem hy
       rw [List.getElem_take]
       exact hlo i (by simp at hi;omega) _
      ·obtain ⟨i,hi,rfl⟩:=List.getElem_of_mem hy
       rw [List.getElem_drop]
       exact hhi _ (by omega) _
  ·have h1:L.length≠1:=by
    intro h0
    rw [i64_id (by omega)] at h1
    have h1:=of_decide_eq_false h1;omega
   have h2:R.length≠1:=by
    intro h0
    rw [i64_id (by omega)] at h2
    have h2:=of_decide_eq_false h2;omega
   have hmid:i64 (ishr .u64 (u64 (i64 ((P.length:Int)+((P.length+L.length+R.length:Nat):Int)))) 1)=((P.length+(L.length+R.length)/2:Nat):Int):=by
    rw [halfS (k:=P.length+(P.length+L.length+R.length)) (by omega) (by rw [big_eq];omega)]
    omega
   simp only [hmid]
   refine ⟨by decide,?_⟩
   obtain ⟨hf,hfe⟩: ∃hf,(L.length+R.length)/2=hf:=⟨_,rfl⟩
   rw [hfe]
   have gL: ∀t (ht:t<L.length),(P++L++R++Q)[P.length+t]? =some L[t]:=by
    intro t ht
    rw [List.append_assoc (P++L),List.append_assoc P,List.getElem?_append_right (by omega),List.getElem?_append_left (by omega)]
    rw [show P.length+t - P.length=t by omega,List.getElem?_eq_getElem ht]
   have gR: ∀t (ht:t<R.length),(P++L++R++Q)[P.length+L.length+t]? =some R[t]:=by
    intro t ht
    rw [List.append_assoc (P++L),List.getElem?_append_right (by simp),List.getElem?_append_left (by simp;omega)]
    rw [List.length_append,show P.length+L.length+t - (P.length+L.length)=t by omega,List.getElem?_eq_getElem ht]
   refine Join_use (fun K2=> ∀(u0 v0:Nat) (i j:Int),i=((P.length+u0:Nat):Int)→j=((P.length+v0:Nat):Int)→u0≤v0→v0≤hf→v0≤L.length→hf≤u0+R.length→(u0=0∨hf=u0+R.length)→(v0=hf∨v0=L.length)→K2 i j w) ?_ fun K2 hK2=> ?_
   ·rintro u0 v0 i j rfl rfl huv0 hv1 hv2 hu1 hu2 hv3
    refine ⟨fun i j w'=> ∃u v:Nat,i=((P.length+u:Nat):Int)∧j=((P.length+v:Nat):Int)∧u0≤u∧u≤v∧v≤v0∧(u=u0∨∃x y,L[u - 1]? =some x∧R[hf - u]? =some y∧Ky key x y)∧(v=v0∨∃x y,L[v]? =some x∧R[hf - 1 - v]? =some y∧Ky key y x)∧Hp E w' (OwnS 1 s ((P++L++R++Q).map vI)::F),
     fun i j _=>j.toNat - i.toNat,⟨u0,v0,rfl,rfl,by omega,huv0,by omega,.inl rfl,.inl rfl,h⟩,?_⟩
    rintro i j w' ⟨u,v,rfl,rfl,hu0,huv,hv0,hlo,hhi,hh⟩
    refine IfB.mk (fun hlt=> ?_) (fun hge=> ?_)
    ·have hlt:=of_decide_eq_true hlt
     have hlt:u<v:=by omega
     refine ⟨by decide,Drw.mk hh fun w1 h1=> ?_⟩
     rw [halfS (k:=P.length+u+(P.length+v)) (by omega) (by rw [big_eq];omega)]
     obtain ⟨t,ht⟩: ∃t,(P.length+u+(P.length+v))/2=P.length+t:=⟨(u+v)/2,by omega⟩
     rw [ht]
     have htu:u≤t:=by omega
     have htv:t<v:=by omega
     have htL:t<L.length:=by omega
     have htR:hf - 1 - t<R.length:=by omega
     simp (disch:=omega) only [i64_id]
     refine rdI h1 (by omega) (x:=R[hf - 1 - t]) (by
      rw [show (((P.length+hf:Nat):Int)+((P.length+L.length:Nat):Int) - 1 - ((P.length+t:Nat):Int)).toNat=P.length+L.length+(hf - 1 - t) by omega];exact gR _ htR) ?_
     refine rdI h1 (by omega) (x:=L[t]) (by rw [Int.toNat_natCast];exact gL t htL) ?_
     have hxy:=hLR L[t] (List.getElem_mem htL) _ (List.getElem_mem htR)
     have hyx:=ord_of (key:=key) hxy
     refine hc [_] w1 _ L[t] _ h1 (hDL _ (List.getElem_mem htL)) (hDR _ (List.getElem_mem htR)) fun z w2 hz h2=> ?_
     refine IfB.mk (fun hneg=> ?_) (fun hpos=> ?_)
     ·have hneg: ¬z<0:=by simpa using hneg
      have hneg:=hyx.2.1 (fun hk=>hneg (hz.2 hk))
      refine ⟨⟨t+1,v,by omega,rfl,by omega,by omega,hv0,.inr ⟨L[t],R[hf - 1 - t],?_,?_,hneg⟩,hhi,h2⟩,by omega⟩
      ·simp [htL]
      ·rw [show hf - (t+1)=hf - 1 - t by omega];exact List.getElem?_eq_getElem htR
     ·have hpos:z<0:=by simpa using hpos
      have hpos:=hyx.1.1 (hz.1 hpos)
      exact ⟨⟨u,t,rfl,rfl,hu0,htu,by omega,hlo,.inr ⟨L[t],R[hf - 1 - t],List.getElem?_eq_getElem htL,List.getElem?_eq_getElem htR,hpos⟩,h2⟩,by omega⟩
    ·have hge:u=v:=by have:=of_decide_eq_false hge;omega
     subst hge
     have huL:u≤L.length:=by omega
     have huR:hf - u≤R.length:=by omega
     have hend:i64 (i64 (((P.length+hf:Nat):Int)+((P.length+L.length:Nat):Int)) - ((P.length+u:Nat):Int))=((P.length+L.length+(hf - u):Nat):Int):=by
      simp (disch:=omega) only [i64_id];omega
     simp only [hend]
     have c1: ∀x∈L.take u,∀y∈R.drop (hf - u),Ky key x y:=by
      intro x hx y hy
      obtain ⟨i,hi,rfl⟩:=List.getElem_of_mem hx
      obtain ⟨j,hj,rfl⟩:=List.getElem_of_mem hy
      simp only [List.length_take,List.length_drop] at hi hj
      rw [List.getElem_take,List.getElem_drop]
      rcases hlo with h0|⟨x,y,hx,hy,hk⟩
      ·rcases hu2 with h0'|h0'<;>omega
      ·obtain ⟨q1,q2⟩:=List.getElem?_eq_some_iff.1 hx
       obtain ⟨q3,q4⟩:=List.getElem?_eq_some_iff.1 hy
       subst q2;subst q4
       exact sd_ge hsR (by omega) (by omega) (sd_le hsL q1 (by omega) hk)
     have c2: ∀y∈R.take (hf - u),∀x∈L.drop u,Ky key y x:=by
      intro y hy x hx
      obtain ⟨i,hi,rfl⟩:=List.getElem_of_mem hy
      obtain ⟨j,hj,rfl⟩:=List.getElem_of_mem hx
      simp only [List.length_take,List.length_drop] at hi hj
      rw [List.getElem_take,List.getElem_drop]
      rcases hhi with h0|⟨x,y,hx,hy,hk⟩
      ·rcases hv3 with h0'|h0'<;>omega
      ·obtain ⟨q1,q2⟩:=List.getElem?_eq_some_iff.1 hx
       obtain ⟨q3,q4⟩:=List.getElem?_eq_some_iff.1 hy
       subst q2;subst q4
       exact sd_ge hsL (by omega) (by omega) (sd_le hsR q3 (by omega) hk)
     have eL:L.take u++L.drop u=L:=List.take_append_drop _ _
     have eR:R.take (hf - u)++R.drop (hf - u)=R:=List.take_append_drop _ _
     have lL1:(L.take u).length=u:=by simp;omega
     have lL2:(L.drop u).length=L.length - u:=by simp
     have lR1:(R.take (hf - u)).length=hf - u:=by simp;omega
     have lR2:(R.drop (hf - u)).length=R.length - (hf - u):=by simp
     clear hlo hhi gL gR
     generalize L.take u=L1 at*
     generalize L.drop u=L2 at*
     generalize R.take (hf - u)=R1 at*
     generalize R.drop (hf - u)=R2 at*
     obtain ⟨sL1,sL2,sL3⟩:=List.pairwise_append.1 (eL▸hsL)
     obtain ⟨sR1,sR2,sR3⟩:=List.pairwise_append.1 (eR▸hsR)
     have mL1: ∀x∈L1,x∈L:=fun x hx=>by rw [←eL];exact List.mem_append_left _ hx
     have mL2: ∀x∈L2,x∈L:=fun x hx=>by rw [←eL];exact List.mem_append_right _ hx
     have mR1: ∀x∈R1,x∈R:=fun x hx=>by rw [←eR];exact List.mem_append_left _ hx
     have mR2: ∀x∈R2,x∈R:=fun x hx=>by rw [←eR];exact List.mem_append_right _ hx
     have last: ∀(M1 M2:List Int) (w':World),M1.Perm (L1++R1)→M2.Perm (L2++R2)→Sd key M1→Sd key M2→Hp E w' (OwnS 1 s ((P++M1++M2++Q).map vI)::F)→K w':=by
      intro M1 M2 w' p1 p2 s1 s2 hh
      refine hK (M1++M2) w' ?_ ?_ (by simpa only [List.append_assoc] using hh)
      ·refine (List.Perm.append p1 p2).trans ?_
       rw [←eL,←eR]
       simp only [List.append_assoc]
       refine List.Perm.append_left _ ?_
       rw [←List.append_assoc,←List.append_assoc]
       exact List.Perm.append_right _ List.perm_append_comm
      ·refine List.pairwise_append.2 ⟨s1,s2,fun x hx y hy=> ?_⟩
       rcases List.mem_append.1 (p1.mem_iff.1 hx) with hx|hx<;>rcases List.mem_append.1 (p2.mem_iff.1 hy) with hy|hy
       ·exact sL3 x hx y hy
       ·exact c1 x hx y hy
       ·exact c2 x hx y hy
       ·exact sR3 x hx y hy
     refine Join_use (fun K3=> ∀w',Hp E w' (OwnS 1 s ((P++L1++R1++L2++R2++Q).map vI)::F)→K3 w') ?_ fun K3 hK3=> ?_
     ·intro w3 h3
      have second: ∀(M1:List Int) (w4:World),M1.Perm (L1++R1)→Sd key M1→Hp E w4 (OwnS 1 s ((P++M1++L2++R2++Q).map vI)::F)→
        IfB (decide (((P.length+hf:Nat):Int)<((P.length+L.length+(hf - u):Nat):Int))) (IfB (decide (((P.length+L.length+(hf - u):Nat):Int)<((P.length+L.length+R.length:Nat):Int)))
         (Cl Tryz.prog [] n_slices_symMergeCmpFunc_int ⟨[.slice s.base s.len s.cap,.int .i64 ((P.length+hf:Nat):Int),.int .i64 ((P.length+L.length+(hf - u):Nat):Int),.int .i64 ((P.length+L.length+R.length:Nat):Int),fv]⟩ w4 fun w5=>K w5) (K w4)) (K w4):=by
       intro M1 w4 p1 s1 h4
       have lM:=p1.length_eq
       rw [List.length_append] at lM
       refine ifs (fun q1 q2=> ?_) (fun q=> ?_)
       ·have q1:=of_decide_eq_true q1
        have q2:=of_decide_eq_true q2
        refine symmerge_c hc N (P:=P++M1) (L:=L2) (R:=R2) (Q:=Q) (by omega) h4 (by rw [big_eq];simp only [List.length_append];omega) (fun e=>by rw [e] at lL2;simp at lL2;omega) (fun e=>by rw [e] at lR2;simp at lR2;omega) sL2 sR2
         (fun x hx y hy=>hLR x (mL2 x hx) y (mR2 y hy)) (fun x hx=>hDL x (mL2 x hx)) (fun x hx=>hDR x (mR2 x hx)) (by simp only [List.length_append];omega) (by simp only [List.length_append];omega) (by simp only [List.length_append];omega) fun M2 w5 p2 s2 h5=> ?_
        exact last M1 M2 w5 p1 p2 s1 s2 h5
       ·have hor:L2= []∨R2= []:=by
         rcases q with q|q
         ·have q:=of_decide_eq_false q;exact .inl (List.length_eq_zero_iff.1 (by omega))
         ·have q:=of_decide_eq_false q;exact .inr (List.length_eq_zero_iff.1 (by omega))
        rcases hor with e|e
        ·subst e
         exact last M1 R2 w4 p1 (List.Perm.refl _) s1 sR2 (by simpa using h4)
        ·subst e
         exact last M1 L2 w4 p1 (by simp) s1 sL2 (by simpa using h4)
      refine ifs (fun q1 q2=> ?_) (fun q=> ?_)
      ·have q1:=of_decide_eq_true q1
       have q2:=of_decide_eq_true q2
       refine symmerge_c hc N (P:=P) (L:=L1) (R:=R1) (Q:=L2++R2++Q) (by omega) (by simpa only [List.append_assoc] using h3) (by rw [big_eq];simp only [List.length_append];omega) (fun e=>by rw [e] at lL1;simp at lL1;omega) (fun e=>by rw [e] at lR1;simp at lR1;omega) sL1 sR1
        (fun x hx y hy=>hLR x (mL1 x hx) y (mR1 y hy)) (fun x hx=>hDL x (mL1 x hx)) (fun x hx=>hDR x (mR1 x hx)) rfl (by omega) (by omega) fun M1 w5 p1 s1 h5=> ?_
       exact second M1 w5 p1 s1 (by simpa only [List.append_assoc] using h5)
      ·have hor:L1= []∨R1= []:=by
        rcases q with q|q
        ·have q:=of_decide_eq_false q;exact .inl (List.length_eq_zero_iff.1 (by omega))
        ·have q:=of_decide_eq_false q;exact .inr (List.length_eq_zero_iff.1 (by omega))
       rcases hor with e|e
       ·subst e
        exact second R1 w3 (List.Perm.refl _) sR1 (by simpa using h3)
       ·subst e
        exact second L1 w3 (by simp) sL1 (by simpa using h3)
     ·have hh':Hp E w' (OwnS 1 s ((P++L1++L2++R1++R2++Q).map vI)::F):=by
       rw [←eL,←eR] at hh;simpa only [List.append_assoc] using hh
      refine ifs (fun q1 q2=> ?_) (fun q=> ?_)
      ·have q1:=of_decide_eq_true q1
       have q2:=of_decide_eq_true q2
       refine rotate_c (P:=P++L1) (A:=L2) (B:=R1) (Q:=R2++Q) (by simpa only [List.append_assoc] using hh') (fun e=>by rw [e] at lL2;simp at lL2;omega) (fun e=>by rw [e] at lR1;simp at lR1;omega) (by rw [big_eq];simp only [List.length_append];omega)
        (by simp only [List.length_append];omega) (by simp only [List.length_append];omega) (by simp only [List.length_append];omega) fun w5 h5=>hK3 w5 (by simpa only [List.append_assoc] using h5)
      ·have hor:L2= []∨R1= []:=by
        rcases q with q|q
        ·have q:=of_decide_eq_false q;exact .inl (List.length_eq_zero_iff.1 (by omega))
        ·have q:=of_decide_eq_false q;exact .inr (List.length_eq_zero_iff.1 (by omega))
       refine hK3 _ ?_
       rcases hor with e|e
       ·subst e;simpa using hh'
       ·subst e;simpa using hh'
   ·refine IfB.mk (fun q=> ?_) (fun q=> ?_)
    ·have q:=of_decide_eq_true q
     refine hK2 (hf - R.length) hf _ _ ?_ rfl (by omega) (Nat.le_refl _) (by omega) (by omega) (.inr (by omega)) (.inl rfl)
     simp (disch:=omega) only [i64_id];omega
    ·have q:=of_decide_eq_false q
     exact hK2 0 L.length _ _ rfl rfl (by omega) (by omega) (Nat.le_refl _) (by omega) (.inl rfl) (.inr rfl)
end
end Go.Proofs.YtcdpblipagajiaaGreat
set_option maxRecDepth 20000
namespace Go.Srt
inductive Ck (key:Int→Int) (sz:Nat):List Int→List Int→Prop where
 |nil:Ck key sz [] []
 |last (A B:List Int) (h1:A.length<sz) (h2:B.Perm A) (h3:Sd key B):Ck key sz A B
 |cons (A B X Y:List Int) (h1:A.length=sz) (h2:B.Perm A) (h3:Sd key B) (h4:Ck key sz X Y):Ck key sz (A++X) (B++Y)
theorem Ck.len {key:Int→Int} {sz:Nat} {X Y:List Int} (h:Ck key sz X Y):Y.length=X.length:=by
 induction h with
 |nil=>rfl
 |last A B h1 h2 h3=>exact h2.length_eq
 |cons A B X Y h1 h2 h3 h4 ih=>simp [h2.length_eq,ih]
theorem Ck.one {key:Int→Int} {sz:Nat} {X Y:List Int} (h:Ck key sz X Y) (hl:X.length≤sz):Y.Perm X∧Sd key Y:=by
 cases h with
 |nil=>exact ⟨List.Perm.refl _,List.Pairwise.nil⟩
 |last _ _ h1 h2 h3=>exact ⟨h2,h3⟩
 |cons A B X Y h1 h2 h3 h4=>
  rw [List.length_append] at hl
  have hX:X= []:=List.length_eq_zero_iff.1 (by omega)
  have hY:Y= []:=List.length_eq_zero_iff.1 (by rw [h4.len,hX];rfl)
  subst hX;subst hY
  simpa using ⟨h2,h3⟩
theorem Ck.first {key:Int→Int} {sz:Nat} {X Y:List Int} (h:Ck key sz X Y) (hl:sz≤X.length) (h0:0<sz): ∃A B X' Y',X=A++X'∧Y=B++Y'∧A.length=sz∧B.Perm A∧Sd key B∧Ck key sz X' Y':=by
 cases h with
 |nil=>simp at hl;omega
 |last _ _ h1 h2 h3=>omega
 |cons A B X Y h1 h2 h3 h4=>exact ⟨A,B,X,Y,rfl,rfl,h1,h2,h3,h4⟩
end Go.Srt
namespace Go.Proofs.YtcdpblipagajiaaGreat
open Go Go.Vc Go.Srt
section
variable {E w:World} {F:List HP}
theorem asc_lt {A1 A2 B1 B2:List Int} (h:(A1++A2).Pairwise (·< ·)) (p1:B1.Perm A1) (p2:B2.Perm A2): ∀x∈B1,∀y∈B2,x<y:=
 fun x hx y hy=>(List.pairwise_append.1 h).2.2 x (p1.mem_iff.1 hx) y (p2.mem_iff.1 hy)
theorem stable_c {s:Sl} {xs:List Int} {fv:Value} {key:Int→Int} {D:Int→Prop} {n:Int} {K:World→Prop} (h:Hp E w (OwnS 1 s (xs.map vI)::F)) (hbig:xs.length≤big)
  (hc:CmpOk E F fv key D) (hD: ∀x∈xs,D x) (hL:xs.Pairwise (·< ·)) (hn:n=(xs.length:Int))
  (hK: ∀ys w',ys.Perm xs→Sd key ys→Hp E w' (OwnS 1 s (ys.map vI)::F)→K w'):
  Cl Tryz.prog [] n_slices_stableCmpFunc_int ⟨[.slice s.base s.len s.cap,.int .i64 n,fv]⟩ w K:=by
 subst hn
 refine slices_stableCmpFunc_int.ok _ _ _ _ _ ?_
 unfold slices_stableCmpFunc_int.E
 have hbg:=hbig
 rw [big_eq] at hbig
 refine ⟨fun a b w'=> ∃Xd Z X:List Int,a=(Xd.length:Int)∧b=((Xd.length+20:Nat):Int)∧xs=Xd++X∧Z.length=Xd.length∧(∀X' Y',Ck key 20 X' Y'→Ck key 20 (Xd++X') (Z++Y'))∧Hp E w' (OwnS 1 s ((Z++X).map vI)::F),
  fun a _ _=>xs.length - a.toNat,⟨[],[],xs,rfl,rfl,rfl,rfl,fun X' Y' h=>h,h⟩,?_⟩
 rintro a b w' ⟨Xd,Z,X,rfl,rfl,hxs,hZ,hck,hh⟩
 have hlen:xs.length=Xd.length+X.length:=by rw [hxs,List.length_append]
 have hX: ∀x∈X,x∈xs:=fun x hx=>by rw [hxs];exact List.mem_append_right _ hx
 have hasc:X.Pairwise (·< ·):=by rw [hxs] at hL;exact (List.pairwise_append.1 hL).2.1
 refine IfB.mk (fun hle=> ?_) (fun hgt=> ?_)
 ·have hle:=of_decide_eq_true hle
  have e:X.take 20++X.drop 20=X:=List.take_append_drop _ _
  have l1:(X.take 20).length=20:=by simp;omega
  generalize X.take 20=A at e l1
  generalize X.drop 20=X2 at e
  subst e
  rw [List.length_append] at hlen
  refine insertion_c (P:=Z) (L:=A) (Q:=X2) (key:=key) (D:=D) (by simpa only [List.append_assoc] using hh) (by rw [big_eq];simp only [List.length_append];omega) hc (fun x hx=>hD x (hX x (List.mem_append_left _ hx))) (List.pairwise_append.1 hasc).1
   (by omega) (by simp only [List.length_append];omega) fun M w2 p1 s1 h2=> ?_
  rw [i64_id (by omega)]
  refine ⟨⟨Xd++A,Z++M,X2,by simp only [List.length_append];omega,by simp only [List.length_append];omega,by rw [hxs,List.append_assoc],by simp only [List.length_append];rw [p1.length_eq];omega,fun X' Y' hk=> ?_,h2⟩,by dsimp only;omega⟩
  rw [List.append_assoc,List.append_assoc]
  exact hck _ _ (.cons A M X' Y' l1 p1 s1 hk)
 ·have hgt:=of_decide_eq_false hgt
  refine insertion_c (P:=Z) (L:=X) (Q:= []) (key:=key) (D:=D) (by simpa using hh) (by rw [big_eq];simp only [List.length_append,List.length_nil];omega) hc (fun x hx=>hD x (hX x hx)) hasc
   (by omega) (by simp only [List.length_append];omega) fun M w2 p1 s1 h2=> ?_
  have hck:=hck _ _ (.last X M (by omega) p1 s1)
  rw [←hxs] at hck
  refine ⟨fun bs w'=> ∃(sz:Nat) (ys:List Int),bs=(sz:Int)∧20≤sz∧sz≤2*big∧Ck key sz xs ys∧Hp E w' (OwnS 1 s (ys.map vI)::F),fun bs _=>xs.length - bs.toNat,⟨20,Z++M,rfl,by omega,by rw [big_eq];omega,hck,by simpa using h2⟩,?_⟩
  rintro bs w' ⟨sz,ys,rfl,hsz,hszb,hck,hh⟩
  rw [big_eq] at hszb
  refine IfB.mk (fun hlt=> ?_) (fun hge=> ?_)
  ·have hlt:=of_decide_eq_true hlt
   have hlt:sz<xs.length:=by omega
   refine ⟨fun a b w'=> ∃Xd Z X Y:List Int,a=(Xd.length:Int)∧b=((Xd.length+2*sz:Nat):Int)∧xs=Xd++X∧Z.length=Xd.length∧Ck key sz X Y∧(∀X' Y',Ck key (2*sz) X' Y'→Ck key (2*sz) (Xd++X') (Z++Y'))∧Hp E w' (OwnS 1 s ((Z++Y).map vI)::F),
    fun a _ _=>xs.length - a.toNat,⟨[],[],xs,ys,rfl,?_,rfl,rfl,hck,fun X' Y' h=>h,hh⟩,?_⟩
   ·rw [i64_id (by omega)];simp
   rintro a b w' ⟨Xd,Z,X,Y,rfl,rfl,hxs,hZ,hck,hco,hh⟩
   have hlen:xs.length=Xd.length+X.length:=by rw [hxs,List.length_append]
   have hX: ∀x∈X,x∈xs:=fun x hx=>by rw [hxs];exact List.mem_append_right _ hx
   have hasc:X.Pairwise (·< ·):=by rw [hxs] at hL;exact (List.pairwise_append.1 hL).2.1
   rw [i64_id (x:=(Xd.length:Int)+(sz:Int)) (by omega),i64_id (x:=(sz:Int)*2) (by omega)]
   have next: ∀(w2:World) (ys:List Int),Ck key (2*sz) xs ys→Hp E w2 (OwnS 1 s (ys.map vI)::F)→
     (∃(sz_1:Nat) (ys:List Int),(sz:Int)*2=(sz_1:Int)∧20≤sz_1∧sz_1≤2*big∧Ck key sz_1 xs ys∧Hp E w2 (OwnS 1 s (ys.map vI)::F))∧xs.length - ((sz:Int)*2).toNat<xs.length - ((sz:Int)).toNat:=
    fun w2 ys h1 h2=>⟨⟨2*sz,ys,by omega,by omega,by rw [big_eq];omega,h1,h2⟩,by omega⟩
   refine IfB.mk (fun hle=> ?_) (fun hgt=> ?_)
   ·have hle:=of_decide_eq_true hle
    obtain ⟨A1,B1,X1,Y1,rfl,rfl,a1,b1,c1,hck1⟩:=hck.first (by omega) (by omega)
    rw [List.length_append] at hlen
    obtain ⟨A2,B2,X2,Y2,rfl,rfl,a2,b2,c2,hck2⟩:=hck1.first (by omega) (by omega)
    rw [List.length_append] at hlen
    have hasc12:(A1++A2).Pairwise (·< ·):=by rw [←List.append_assoc] at hasc;exact (List.pairwise_append.1 hasc).1
    have lb1:=b1.length_eq
    have lb2:=b2.length_eq
    have lY2:=hck2.len
    rw [i64_id (x:=2*(sz:Int)) (by omega),i64_id (by omega)]
    refine symmerge_c hc (B1.length+B2.length) (P:=Z) (L:=B1) (R:=B2) (Q:=Y2) (Nat.le_refl _) (by simpa only [List.append_assoc] using hh) (by rw [big_eq];simp only [List.length_append];omega)
     (fun e=>by rw [e] at lb1;simp at lb1;omega) (fun e=>by rw [e] at lb2;simp at lb2;omega) c1 c2 (asc_lt hasc12 b1 b2) (fun x hx=>hD x (hX x (by simp [b1.mem_iff.1 hx]))) (fun x hx=>hD x (hX x (by simp [b2.mem_iff.1 hx])))
     (by omega) (by omega) (by omega) fun M w2 p1 s1 h2=> ?_
    have pM:M.Perm (A1++A2):=p1.trans (List.Perm.append b1 b2)
    refine ⟨⟨Xd++(A1++A2),Z++M,X2,Y2,by simp only [List.length_append];omega,by simp only [List.length_append];omega,by rw [hxs];simp only [List.append_assoc],by simp only [List.length_append];rw [pM.length_eq,List.length_append];omega,hck2,fun X' Y' hk=> ?_,h2⟩,by dsimp only;omega⟩
    rw [List.append_assoc Xd,List.append_assoc Z]
    exact hco _ _ (.cons (A1++A2) M X' Y' (by rw [List.length_append];omega) pM s1 hk)
   ·have hgt:=of_decide_eq_false hgt
    refine IfB.mk (fun hm=> ?_) (fun hm=> ?_)
    ·have hm:=of_decide_eq_true hm
     obtain ⟨A1,B1,X1,Y1,rfl,rfl,a1,b1,c1,hck1⟩:=hck.first (by omega) (by omega)
     rw [List.length_append] at hlen
     obtain ⟨b2,c2⟩:=hck1.one (by omega)
     have lb1:=b1.length_eq
     have lb2:=b2.length_eq
     refine symmerge_c hc (B1.length+Y1.length) (P:=Z) (L:=B1) (R:=Y1) (Q:= []) (Nat.le_refl _) (by simpa using hh) (by rw [big_eq];simp only [List.length_append,List.length_nil];omega)
      (fun e=>by rw [e] at lb1;simp at lb1;omega) (fun e=>by rw [e] at lb2;simp at lb2;omega) c1 c2 (asc_lt hasc b1 b2) (fun x hx=>hD x (hX x (by simp [b1.mem_iff.1 hx]))) (fun x hx=>hD x (hX x (by simp [b2.mem_iff.1 hx])))
      (by omega) (by omega) (by omega) fun M w2 p1 s1 h2=> ?_
     have pM:M.Perm (A1++X1):=p1.trans (List.Perm.append b1 b2)
     refine next w2 (Z++M) ?_ (by simpa using h2)
     rw [hxs]
     exact hco _ _ (.last _ M (by rw [List.length_append];omega) pM s1)
    ·have hm:=of_decide_eq_false hm
     obtain ⟨p1,s1⟩:=hck.one (by omega)
     refine next w' (Z++Y) ?_ hh
     rw [hxs]
     exact hco _ _ (.last _ Y (by omega) p1 s1)
  ·have hge:=of_decide_eq_false hge
   obtain ⟨p1,s1⟩:=hck.one (by omega)
   exact hK ys w' p1 s1 hh
theorem sortStable_c {s:Sl} {xs:List Int} {fv:Value} {key:Int→Int} {D:Int→Prop} {K:World→Prop} (h:Hp E w (OwnS 1 s (xs.map vI)::F)) (hbig:xs.length≤big)
  (hc:CmpOk E F fv key D) (hD: ∀x∈xs,D x) (hL:xs.Pairwise (·< ·))
  (hK: ∀ys w',ys.Perm xs→Sd key ys→Hp E w' (OwnS 1 s (ys.map vI)::F)→K w'):
  Cl Tryz.prog [] n_slices_SortStableFunc_int_int ⟨[.slice s.base s.len s.cap,fv]⟩ w K:=by
 refine slices_SortStableFunc_int_int.ok _ _ _ _ ?_
 unfold slices_SortStableFunc_int_int.E
 have hl:=h.ownLen
 simp only [List.length_map,Nat.mul_one] at hl
 exact stable_c h hbig hc hD hL (by omega) hK
end
end Go.Proofs.YtcdpblipagajiaaGreat
set_option maxRecDepth 20000
namespace Go.Proofs.YtcdpblipagajiaaGreat
open Go Go.Vc Go.Srt
section
variable {E w:World} {F:List HP}
theorem fits_c {l:List Nat} {K:Bool→World→Prop} (h:Hp E w F) (hl:l.length=258) (hK: ∀w',Hp E w' F→K (decide (ksum l≤32768)) w'):Cl Tryz.prog [kB] n_kraft_Fits ⟨[.agg (ai .u8 l)]⟩ w K:=by
 refine kraft_Fits.ok _ _ _ ?_
 unfold kraft_Fits.E
 refine Nw.mk h fun b w1 h1=>Ld.arr h1 (by rw [ai_size,hl]) (kraftSum_c h1 hl fun w2 h2=> ?_)
 have:decide ((ksum l:Int)≤32768)=decide (ksum l≤32768):=by rw [Bool.eq_iff_iff];simp;omega
 rw [this]
 exact hK _ h2.drop
theorem cvalid_c {l:List Nat} {K:Bool→World→Prop} (h:Hp E w F) (hl:l.length=258) (hK: ∀w',Hp E w' F→K (decide (ksum l≤32768)) w'):Cl Tryz.prog [kB] n_canonical_Valid ⟨[.agg (ai .u8 l)]⟩ w K:=by
 refine canonical_Valid.ok _ _ _ ?_
 unfold canonical_Valid.E
 exact Nw.mk h fun b w1 h1=>Ld.arr h1 (by rw [ai_size,hl]) (fits_c h1 hl fun w2 h2=>hK _ h2.drop)
theorem cmpU8_c {x y:Int} {K:Int→World→Prop} (hK: ∀z:Int,(z<0↔x<y)→K z w):Cl Tryz.prog [kI] n_cmp_Compare_uint8 ⟨[.int .u8 x,.int .u8 y]⟩ w K:=by
 refine cmp_Compare_uint8.ok _ _ _ _ ?_
 unfold cmp_Compare_uint8.E
 refine cmp_isNaN_uint8.ok _ _ _ (cmp_isNaN_uint8.ok _ _ _ ?_)
 refine IfB.f (by simp) (IfB.f (by simp) (IfB.mk (fun h=>hK _ ?_) (fun h=>IfB.mk (fun h2=>hK _ ?_) (fun h2=>hK _ ?_))))
 ·have:=of_decide_eq_true h;omega
 ·have:=of_decide_eq_false h;omega
 ·have:=of_decide_eq_false h;omega
theorem canCmp {l:List Nat} {b:Nat} {t:TypeId} (hl:l.length=258):CmpOk E (Blk b (.cells (ai .u8 l) t (0,0))::F) (.func (.func n_canonical_Order_1) ⟨[]⟩ ⟨[.pointer (some ⟨b,0,none⟩)]⟩) (lkey l) (fun x=>0≤x∧x<258):=by
 rintro A w y x K h ⟨hx0,hx⟩ ⟨hy0,hy⟩ hK
 refine ClX.mk (by kernel_rfl) ?_
 refine canonical_Order_1.ok y x ⟨b,0,none⟩ K w ?_
 unfold canonical_Order_1.E
 have h':=h.perm List.perm_append_comm
 have hx':x.toNat<l.length:=by omega
 have hy':y.toNat<l.length:=by omega
 refine Drw.mk h fun w1 h1=> ?_
 have h1':=h1.perm List.perm_append_comm
 refine IdxP.rd (s:= .int .u8) h1' hy0 (by omega) (l[y.toNat]:Int) (ai_get hy') ?_
 refine IdxP.rd (s:= .int .u8) h1' hx0 (by omega) (l[x.toNat]:Int) (ai_get hx') ?_
 refine cmpU8_c fun z hz=>hK z w1 ?_ h1
 rw [hz]
 unfold lkey
 rw [List.getD_eq_getElem?_getD,List.getD_eq_getElem?_getD,List.getElem?_eq_getElem hx',List.getElem?_eq_getElem hy']
 rfl
theorem ty_ints:ElemT Tryz.prog 33 3 1 8:=ElemT.of (by kernel_rfl) (by kernel_rfl)
def usedTo (l:List Nat) (k:Nat):List Nat:=(List.range k).filter fun s=>decide (0<l.getD s 0)
theorem usedTo_succ {l:List Nat} {k:Nat}:usedTo l (k+1)=usedTo l k++if 0<l.getD k 0 then [k] else []:=by
 unfold usedTo
 rw [List.range_succ,List.filter_append]
 congr 1
 by_cases h:0<l.getD k 0
 ·rw [if_pos h,List.filter_cons_of_pos (by simpa using h)];rfl
 ·rw [if_neg h,List.filter_cons_of_neg (by simpa using h)];rfl
theorem one_scalar {z:Int}: ∀y∈ [vI z],scalarB y=true:=by
 intro y hy
 have:y=vI z:=by simpa using hy
 rw [this];rfl
theorem usedTo_len (l:List Nat) (k:Nat):(usedTo l k).length≤k:=by
 have:=List.length_filter_le (fun s=>decide (0<l.getD s 0)) (List.range k)
 simpa [usedTo] using this
def ints (l:List Nat):List Int:=l.map fun (x:Nat)=>(x:Int)
theorem ints_app {a b:List Nat}:ints (a++b)=ints a++ints b:=List.map_append
set_option maxRecDepth 20000 in
theorem order_c {l:List Nat} {K:Sl→World→Prop} (h:Hp E w F) (hl:l.length=258) (hK1: ¬ksum l≤32768→∀w',Hp E w' F→K ⟨none,0,0⟩ w')
  (hK2:ksum l≤32768→∀ys s w',IsOrd l ys→Hp E w' (OwnS 1 s ((ints ys).map vI)::F)→K s w'):Cl Tryz.prog [kS] n_canonical_Order ⟨[.agg (ai .u8 l)]⟩ w K:=by
 refine canonical_Order.ok _ _ _ ?_
 unfold canonical_Order.E
 refine Nw.mk h fun b w1 h1=>Ld.arr h1 (by rw [ai_size,hl]) (cvalid_c h1 hl fun w2 h2=> ?_)
 refine IfB.mk (fun hv=>hK1 (by simpa using hv) w2 h2.drop) (fun hv=> ?_)
 have hv:ksum l≤32768:=by simpa using hv
 refine Ld.arr h2 (by rw [ai_size,hl]) ?_
 refine ⟨fun o i w'=> ∃k:Nat,i=(k:Int)∧k≤258∧Hp E w' (OwnS 1 o ((ints (usedTo l k)).map vI)::Blk b (.cells (ai .u8 l) 36 (0,0))::F),fun _ i _=>258 - i.toNat,⟨0,rfl,by omega,h2.ownNil 1⟩,?_⟩
 intro o i w' hI
 obtain ⟨k,hi,hk,hh⟩:=hI
 subst hi
 refine IfB.mk (fun hlt=> ?_) (fun hge=> ?_)
 ·have hlt:k<258:=by have:=of_decide_eq_true hlt;omega
  have hkl:k<l.length:=by omega
  have hg:l.getD k 0=l[k]:=by rw [List.getD_eq_getElem?_getD,List.getElem?_eq_getElem hkl];rfl
  refine IdxV.rd (s:= .int .u8) (by omega) (by omega) (l[k]:Int) (by rw [Int.toNat_natCast];exact ai_get hkl) ?_
  refine IfB.mk (fun hp=> ?_) (fun hp=> ?_)
  ·have hp:0<l[k]:=by have:=of_decide_eq_true hp;omega
   refine Nw.mk hh fun b2 w3 h3=> ?_
   have ho:=hh.ownLen
   have hu:=usedTo_len l k
   simp only [List.length_map,ints,Nat.mul_one] at ho
   refine run_append (ys:= [vI (k:Int)]) (n:=1) ty_ints (by decide) (.inl ⟨3,by kernel_rfl⟩) h3.p1 (.inl ⟨some ⟨b2,0,none⟩,1,1,rfl,rfl,h3.tells (Tells.blk rfl rfl)⟩) rfl one_scalar (by omega) (by omega) fun s' w4 h4 hs'=> ?_
   rw [i64_id (by omega)]
   refine ⟨⟨k+1,rfl,by omega,?_⟩,by dsimp only;omega⟩
   rw [usedTo_succ,hg,if_pos hp,ints_app,List.map_append]
   exact h4.p1.drop
  ·have hp: ¬0<l[k]:=by have:=of_decide_eq_false hp;omega
   rw [i64_id (by omega)]
   refine ⟨⟨k+1,rfl,by omega,?_⟩,by dsimp only;omega⟩
   rw [usedTo_succ,hg,if_neg hp,List.append_nil]
   exact hh
 ·have hge:k=258:=by have:=of_decide_eq_false hge;omega
  subst hge
  have hin: ∀x∈usedTo l 258,x<258:=fun x hx=>by
   have:=(List.mem_filter.1 hx).1
   simpa using this
  refine sortStable_c (key:=lkey l) (D:=fun x=>0≤x∧x<258) hh (by have:=usedTo_len l 258;rw [big_eq];simp only [ints,List.length_map];omega) (canCmp hl) (fun x hx=> ?_) ?_ fun ys w3 hp hs h3=> ?_
  ·obtain ⟨y,hy,rfl⟩:=List.mem_map.1 hx
   have:=hin y hy
   omega
  ·unfold ints
   refine List.Pairwise.map _ (fun a b hab=>Int.ofNat_lt.2 hab) ?_
   exact List.Pairwise.filter _ List.pairwise_lt_range
  ·have hU:usedTo l 258=used l:=by unfold usedTo used;rw [hl]
   rw [hU] at hp
   have e:ys=ints (ys.map Int.toNat):=by
    unfold ints
    rw [List.map_map]
    refine (List.map_id ys).symm.trans (List.map_congr_left fun x hx=> ?_)
    obtain ⟨y,_,rfl⟩:=List.mem_map.1 (hp.mem_iff.1 hx)
    simp
   have pN:(ys.map Int.toNat).Perm (used l):=by
    have:=hp.map Int.toNat
    refine this.trans ?_
    unfold ints
    rw [List.map_map]
    refine List.Perm.of_eq ((List.map_congr_left fun x _=> ?_).trans (List.map_id _))
    simp
   rw [e] at h3 hs
   refine hK2 hv (ys.map Int.toNat) _ w3 ⟨pN,?_⟩ h3.p1.drop
   refine (List.pairwise_map.1 hs).imp fun {a b} hab=> ?_
   unfold Ky lkey at hab
   simp only [Int.toNat_natCast] at hab
   omega
end
end Go.Proofs.YtcdpblipagajiaaGreat
set_option maxRecDepth 20000
namespace Go.Vc
open Go
section
variable {E w:World} {F:List HP}
theorem run_growNil {P:Program} {t tx ty e:TypeId} {bytes n:Nat} {k:IntKind} {K:Sl→World→Prop} (he:ElemT P t e 1 bytes) (hx:P.underlying tx=some (.int k)) (h:Hp E w F) (hn:0<n) (hb:(2*n+1024)*bytes≤2^48) (hb2:n<2^62)
  (hK: ∀b c w',n≤c→Hp E w' (OwnS 1 ⟨some ⟨b,0,none⟩,0,c⟩ []::F)→K ⟨some ⟨b,0,none⟩,n,c⟩ w'):Run P (Builtin.append_ #[t,tx] ty ⟨[.slice none 0 0,.int .i64 (n:Int)]⟩) kS w K:=by
 obtain ⟨it,z,hi,hsz,hby,hze,hzs⟩:=he.info
 have hso: ∀w:World,(sizeOf e).run P w= .ok 1 w:=by intro w;rw [run_size hi,hsz]
 have hwr:IntKind.i64.wrap (n:Int)=(n:Int):=i64_id (by omega)
 have hti: ∀w:World,(typeInfo e).run P w= .ok it w:=by intro w;simp [typeInfo,hi]
 have hz': ∀w:World,(zeroValue e).run P w= .ok z w:=by intro w;simp [zeroValue,typeInfo,hi,hze]
 have hnb:n*bytes≤2^48:=by
  have:n*bytes≤(2*n+1024)*bytes:=Nat.mul_le_mul_right _ (by omega)
  omega
 have h1: ¬((n:Int)*(it.bytes:Int)>2^48):=by rw [hby];exact_mod_cast Nat.not_lt.2 hnb
 have hnext: ¬Builtin.nextslicecap n 0*it.bytes>2^48:=by
  have:=next_le (n:=n) (c:=0) (by omega)
  have h2:Builtin.nextslicecap n 0*it.bytes≤(2*n+1024)*bytes:=by rw [hby];exact Nat.mul_le_mul_right _ this
  omega
 have hmax: ¬((n:Nat):Int)>IntKind.i64.max:=by
  have:IntKind.i64.max=9223372036854775807:=rfl
  rw [this];omega
 have hfo:Question.forced (.appendCap n 0 e)=false:=rfl
 generalize hq:Question.cut (.appendCap n 0 e) (w.tape w.drawn (.appendCap n 0 e))=newCap
 have hnc:n≤newCap:=by rw [←hq];exact Nat.le_add_right _ _
 have hD:Hp E w.drew F:=h.drew (n:=w.drawn+1)
 have hA:=hD.alloc (.cells (#[]++Builtin.zeroCells z.cells n++Builtin.zeroCells z.cells (newCap - n)) e)
 have hrun:(Builtin.append_ #[t,tx] ty ⟨[.slice none 0 0,.int .i64 (n:Int)]⟩).run P w= .ok (.slice (some ⟨w.heap.size,0,none⟩) n newCap) (w.drew.alloc (.cells (#[]++Builtin.zeroCells z.cells n++Builtin.zeroCells z.cells (newCap - n)) e)):=by
  have hneg: ¬((n:Int)<0):=by omega
  have hn0: ¬(n=0):=by omega
  have hmax': ¬(9223372036854775807<(n:Int)):=by omega
  have h1': ¬(281474976710656<(n:Int)*(it.bytes:Int)):=by simpa using h1
  have hnext': ¬(281474976710656<Builtin.nextslicecap n 0*it.bytes):=by simpa using hnext
  have hai: ∀w:World,(asIntOf (Value.int .i64 (n:Int))).run P w= .ok (.i64,(n:Int)) w:=fun _=>rfl
  simp [Builtin.append_,run_underlying he.und,hso,run_underlying hx,asInt,hai,hwr,hneg,hti,h1',hn0,hmax',hnext',hfo,hq,hz',newRow,Builtin.firstCells]
 unfold Run
 rw [hrun]
 refine hK _ _ _ hnc (Hp.ownShut hA (by simp) rfl (Nat.zero_le _) ?_ (fun i hi=>by simp at hi))
 simp [zeroCells_size,hzs]
 omega
end
end Go.Vc
namespace Go.Proofs.YtcdpblipagajiaaGreat
open Go Go.Vc
section
variable {E w:World} {F:List HP}
theorem ty_b:ElemT Tryz.prog 22 5 1 1:=ElemT.of (by kernel_rfl) (by kernel_rfl)
theorem clone_c {s:Sl} {bs:List Nat} {K:Sl→World→Prop} (h:Hp E w F) (hs:Tells F (SlT 1 s (bs.map vB))) (hb:bs.length≤2*big) (hK: ∀s' w',Hp E w' (OwnS 1 s' (bs.map vB)::F)→K s' w'):
  Cl Tryz.prog [kS] n_bytes_Clone ⟨[.slice s.base s.len s.cap]⟩ w K:=by
 refine bytes_Clone.ok _ _ _ ?_
 unfold bytes_Clone.E
 have hl:bs.length=s.len:=by have:=(h.tells hs).1;simpa using this
 rw [big_eq] at hb
 cases hsb:s.base with
 |none=>
  have:bs= []:=by
   cases bs with
   |nil=>rfl
   |cons x bs=>
    obtain ⟨p,hp,_⟩:=(h.tells hs).2 0 (by simp)
    rw [hsb] at hp;cases hp
  subst this
  exact IfB.t rfl (hK _ _ (h.ownNil 1))
 |some p=>
  refine IfB.f rfl (Nw.mk h fun b w h=> ?_)
  have h2:=Hp.ownNew (n:=0) (sz:=1) h (by simp)
  have hsrc:Src 1 s.len (.slice s.base s.len s.cap) (bs.map vB) w:= .inl ⟨s.base,s.len,s.cap,rfl,rfl,h2.drop.tells hs⟩
  rw [hsb] at hsrc
  refine run_append (s:=⟨some ⟨b,0,none⟩,0,0⟩) ty_b (by decide) (.inl ⟨5,by kernel_rfl⟩) h2 hsrc (by simp [hl]) vB_scalar (by simp only;omega) (by simp only;omega) fun s' w' h3 _=>hK s' w' ?_
  simpa using h3
theorem grow_nil_c {n:Nat} {K:Sl→World→Prop} (h:Hp E w F) (hn:n≤4*big) (hK: ∀s' w',s'.len=0→Hp E w' (OwnS 1 s' []::F)→K s' w'):
  Cl Tryz.prog [kS] n_slices_Grow_byte_byte ⟨[.slice none 0 0,.int .i64 (n:Int)]⟩ w K:=by
 rw [big_eq] at hn
 refine slices_Grow_byte_byte.ok ⟨none,0,0⟩ _ _ _ ?_
 unfold slices_Grow_byte_byte.E
 refine IfB.df (by omega) ?_
 dsimp only
 rw [i64_id (x:=((0:Nat):Int) - ((0:Nat):Int)) (by omega),i64_id (by omega)]
 by_cases h0:n=0
 ·subst h0
  exact IfB.df (by omega) (hK _ _ rfl (h.ownNil 1))
 ·refine IfB.dt (by omega) ⟨by decide,by decide,by decide,by decide,?_⟩
  show Run _ (Builtin.append_ #[22,3] 22 ⟨[.slice none 0 0,.int .i64 ((n:Int) - (((0:Nat):Int) - ((0:Nat):Int)))]⟩) kS w _
  have e:((n:Int) - (((0:Nat):Int) - ((0:Nat):Int)))=(n:Int):=by omega
  rw [e]
  refine run_growNil ty_b (k:= .i64) (by kernel_rfl) h (by omega) (by omega) (by omega) fun b c w' hc h=> ?_
  refine ⟨by decide,by decide,by omega,by simp,?_⟩
  have hne: ¬(((c:Int)).toNat=(0:Int).toNat):=by simp;omega
  rw [if_neg hne]
  have hk:=hK ⟨some ⟨b,0,none⟩,0,c⟩ w' rfl h
  simpa [add_mk] using hk
theorem concat_c {s:Sl} {cs:List Sl} {bs:List (List Nat)} {K:Sl→World→Prop} (h:Hp E w F)
  (hs:Tells F (SlT 1 s (cs.map fun x=> .slice x.base x.len x.cap))) (hl:cs.length=bs.length) (hcl:cs.length≤big) (hc: ∀i (h:i<cs.length),Tells F (SlT 1 cs[i] ((bs.getD i []).map vB)))
  (hbig:bs.flatten.length≤big) (hK: ∀s' w',Hp E w' (OwnS 1 s' (bs.flatten.map vB)::F)→K s' w'):Cl Tryz.prog [kS] n_slices_Concat_byte_byte ⟨[.slice s.base s.len s.cap]⟩ w K:=by
 refine slices_Concat_byte_byte.ok _ _ _ ?_
 unfold slices_Concat_byte_byte.E
 have hlen:s.len=cs.length:=by have:=(h.tells hs).1;simpa using this.symm
 rw [big_eq] at hcl hbig
 have hpart: ∀k,k≤bs.length→(bs.take k).flatten.length≤bs.flatten.length:=fun k _=>by
  conv=>rhs;rw [←List.take_append_drop k bs,List.flatten_append,List.length_append]
  omega
 have hnext: ∀k,k<bs.length→(bs.take (k+1)).flatten=(bs.take k).flatten++bs.getD k []:=fun k hk=>by
  rw [List.take_add_one,List.flatten_append]
  congr 1
  simp [hk]
 refine ⟨fun x i w'=> ∃k:Nat,i=(k:Int)∧k≤cs.length∧x=((bs.take k).flatten.length:Int)∧Hp E w' F,fun _ i _=>cs.length - i.toNat,⟨0,rfl,by omega,rfl,h⟩,?_⟩
 rintro x i w ⟨k,rfl,hk,rfl,h⟩
 refine IfB.dm (fun hlt=> ?_) (fun hge=> ?_)
 ·have hlt:k<cs.length:=by omega
  have hkb:k<bs.length:=by omega
  refine Idx.rd (h.tells hs) (by omega) (by omega) fun q hi hq=> ?_
  refine Ld.sc (s:= .sl) cs[k] (by rw [hq];simp [Sc.enc,hlt]) ?_
  have hx:(bs.getD k []).length=cs[k].len:=by have:=(h.tells (hc k hlt)).1;simpa using this
  have h1:=hpart (k+1) (by omega)
  rw [hnext k hkb,List.length_append,hx] at h1
  rw [i64_id (by omega)]
  refine IfB.df (by omega) ?_
  rw [i64_id (by omega)]
  refine ⟨⟨k+1,rfl,by omega,?_,h⟩,by first|omega|(dsimp only;omega)⟩
  rw [hnext k hkb,List.length_append,hx];omega
 ·have hk2:k=cs.length:=by omega
  subst hk2
  have e:bs.take cs.length=bs:=List.take_of_length_le (by omega)
  rw [e]
  refine grow_nil_c h (by rw [big_eq];omega) fun s' w h0 h=> ?_
  refine ⟨fun x i w'=> ∃k:Nat,i=(k:Int)∧k≤cs.length∧Hp E w' (OwnS 1 x ((bs.take k).flatten.map vB)::F),fun _ i _=>cs.length - i.toNat,⟨0,rfl,by omega,h⟩,?_⟩
  rintro x i w ⟨k,rfl,hk,h⟩
  refine IfB.dm (fun hlt=> ?_) (fun hge=> ?_)
  ·have hlt:k<cs.length:=by omega
   have hkb:k<bs.length:=by omega
   refine Idx.rd (h.drop.tells hs) (by omega) (by omega) fun q hi hq=> ?_
   refine Ld.sc (s:= .sl) cs[k] (by rw [hq];simp [Sc.enc,hlt]) ?_
   have hx:(bs.getD k []).length=cs[k].len:=by have:=(h.drop.tells (hc k hlt)).1;simpa using this
   have h1:=hpart (k+1) (by omega)
   rw [hnext k hkb,List.length_append,hx] at h1
   have hol:=h.ownLen
   rw [List.length_map,Nat.mul_one] at hol
   refine run_append ty_b (by decide) (.inl ⟨5,by kernel_rfl⟩) h (.inl ⟨cs[k].base,cs[k].len,cs[k].cap,rfl,rfl,h.drop.tells (hc k hlt)⟩) (by rw [List.length_map,hx,Nat.mul_one]) vB_scalar (by omega) (by omega) fun s' w' h _=> ?_
   rw [i64_id (by omega)]
   refine ⟨⟨k+1,rfl,by omega,?_⟩,by first|omega|(dsimp only;omega)⟩
   rw [hnext k hkb,List.map_append];exact h
  ·have hk3:k=cs.length:=by omega
   subst hk3
   rw [e] at h
   exact hK _ _ h
end
end Go.Proofs.YtcdpblipagajiaaGreat
namespace Go.Vc
open Go
theorem Idx.ldP {w:World} {S:World→Prop} {sc:Sc} {s:Sl} {xs:List Value} {i:Int} {j:Nat} {K:sc.T→Prop} (hw:SlT 1 s xs w) (hS: ∀w,S w→SlT 1 s xs w) (hi:i=(j:Int)) (hj:j<xs.length) (x:sc.T) (hx:xs[j]? =some (sc.enc x)) (hK:K x):
  Idx s i 1 fun q=>LdS (.sc sc) q S K:=by
 subst hi
 have hl:=hw.1
 rw [Nat.mul_one] at hl
 obtain ⟨p,hp,_⟩:=hw.2 j hj
 refine ⟨p,hp,by omega,by omega,LdS.sc x (fun w' hw'=> ?_) hK⟩
 obtain ⟨p',hp',hc⟩:=(hS w' hw').2 j hj
 rw [hp] at hp'
 cases hp'
 rw [show ((j:Int)).toNat*1=j by omega,hc,←hx,List.getElem?_eq_getElem hj]
theorem Join.thru {A B C:Type} {r:A→B→C→World→Prop} {k:(A→B→C→World→Prop)→Prop} (Q:A→B→C→World→Prop) (h1: ∀a b c w,Q a b c w→r a b c w) (h2: ∀r',(∀a b c w,Q a b c w→r' a b c w)→k r'):Join r k:=h2 r h1
end Go.Vc
namespace Go.Proofs.YtcdpblipagajiaaGreat
open Go Go.Vc Go.Srt Go.Inc Go.Sym Go.Bits Go.Blk
section
variable {E w:World} {F:List HP}
set_option maxRecDepth 20000
theorem bwbit_c {s:Sl} {b:List Nat} {k:Nat} {K:Int→World→Prop} (hs:SlT 1 s (b.map vB) w) (hb: ∀y∈b,y<256) (hk:k<8*b.length) (hn:b.length≤big) (hK:K (bitAt b k:Int) w):
  Cl Tryz.prog [kInt .u8] n_bitwriter_bit ⟨[.slice s.base s.len s.cap,.int .i64 (k:Int)]⟩ w K:=by
 refine bitwriter_bit.ok _ _ _ _ ?_
 unfold bitwriter_bit.E
 have hmx:IntKind.max .i64=9223372036854775807:=rfl
 have hm8:IntKind.max .u8=255:=rfl
 rw [big_eq] at hn
 have e1:ishr .i64 (k:Int) 3=((k/8:Nat):Int):=by rw [show (3:Int)=((3:Nat):Int) from rfl,ishr_nat (by decide)]
 have e2:iand .i64 (k:Int) 7=((k % 8:Nat):Int):=by
  rw [show (7:Int)=((7:Nat):Int) from rfl,iand_nat (by omega) (by omega),show (7:Nat)=2^3 - 1 from rfl,Nat.and_two_pow_sub_one_eq_mod]
 have hl:=hs.1
 rw [List.length_map,Nat.mul_one] at hl
 have hlt:k/8<b.length:=by omega
 rw [e1,e2,i64_id (by omega),show (7:Int) - ((k % 8:Nat):Int)=((7 - k % 8:Nat):Int) by omega]
 refine ⟨by decide,Idx.rd hs (by omega) (by omega) fun q _ hq=> ?_⟩
 have hx:b[k/8]<256:=hb _ (List.getElem_mem hlt)
 refine Ld.sc (s:= .int .u8) (b[k/8]:Int) (by rw [hq];simp only [Int.toNat_natCast,List.getElem_map];rfl) ⟨by omega,?_⟩
 have hd:=Nat.div_le_self b[k/8] (2^(7 - k % 8))
 rw [ishr_nat (by have:IntKind.bits .u8=8:=rfl;omega),show (1:Int)=((1:Nat):Int) from rfl,iand_nat (by omega) (by omega),Nat.and_one_is_mod]
 have:bitAt b k=b[k/8]/2^(7 - k % 8) % 2:=by unfold bitAt;rw [getD_get hlt]
 rw [←this];exact hK
theorem allBits_get {b:List Nat} {k:Nat} (hk:k<8*b.length):(allBits b)[k]? =some (bitAt b k):=by
 unfold allBits bitsOf
 rw [List.getElem?_map,List.getElem?_range hk];rfl
theorem bwof_c {s:Sl} {b:List Nat} {K:Sl→World→Prop} (h:Hp E w F) (hs:Tells F (SlT 1 s (b.map vB))) (hb: ∀y∈b,y<256) (hn:b.length≤100000000) (hK: ∀s' w',Hp E w' (OwnS 1 s' ((ints (allBits b)).map vI)::F)→K s' w'):
  Cl Tryz.prog [kS] n_bitwriter_Of ⟨[.slice s.base s.len s.cap]⟩ w K:=by
 refine bitwriter_Of.ok _ _ _ ?_
 unfold bitwriter_Of.E
 have hl:=(h.tells hs).1
 rw [List.length_map,Nat.mul_one] at hl
 have hal:=allBits_len b
 rw [i64_id (by omega)]
 refine ⟨fun o i w=> ∃k:Nat,i=(k:Int)∧k≤8*b.length∧Hp E w (OwnS 1 o ((ints ((allBits b).take k)).map vI)::F),fun _ i _=>8*b.length - i.toNat,⟨0,rfl,by omega,h.ownNil 1⟩,?_⟩
 rintro o i w ⟨k,rfl,hk,h⟩
 refine IfB.dm (fun hlt=> ?_) (fun hge=> ?_)
 ·have hlt:k<8*b.length:=by omega
  refine bwbit_c (h.drop.tells hs) hb hlt (by rw [big_eq];omega) ?_
  have hbl:bitAt b k<2:=bitAt_lt b k
  rw [i64_id (x:=(bitAt b k:Int)) (by omega),i64_id (by omega)]
  refine Nw.mk h fun b10 w h=> ?_
  have hol:=(h.at 1).ownLen
  simp only [ints,List.length_map,Nat.mul_one,List.length_take] at hol
  refine run_append (s:=o) (ys:= [vI (bitAt b k:Int)]) (n:=1) ty_ints (by decide) (.inl ⟨3,by kernel_rfl⟩) (h.at 1) (.inl ⟨some ⟨b10,0,none⟩,1,1,rfl,rfl,h.tells (Tells.blk rfl rfl)⟩) rfl (by intro y hy;rw [List.mem_singleton] at hy;rw [hy];rfl) (by omega) (by omega) fun s3 w h _=> ?_
  refine ⟨⟨k+1,rfl,by omega,?_⟩,by first|omega|(dsimp only;omega)⟩
  rw [show (ints ((allBits b).take (k+1))).map vI=(ints ((allBits b).take k)).map vI++ [vI (bitAt b k:Int)] by rw [List.take_add_one,allBits_get hlt];simp [ints]]
  exact h.keep1
 ·have hk2:k=8*b.length:=by omega
  subst hk2
  rw [List.take_of_length_le (by omega)] at h
  exact hK _ _ h
theorem index1_c {s:Sl} {bs:List Nat} {K:Bool→World→Prop} (h:Hp E w F) (hs:Tells F (SlT 1 s ((ints bs).map vI))) (hn:bs.length≤big) (hK: ∀w',Hp E w' F→K (decide (1∈bs)) w'):
  Cl Tryz.prog [kB] n_slices_Contains_int_int ⟨[.slice s.base s.len s.cap,.int .i64 1]⟩ w K:=by
 refine slices_Contains_int_int.ok _ _ _ _ ?_
 unfold slices_Contains_int_int.E
 refine slices_Index_int_int.ok _ _ _ _ ?_
 unfold slices_Index_int_int.E
 have hl:=(h.tells hs).1
 simp only [ints,List.length_map,Nat.mul_one] at hl
 rw [big_eq] at hn
 refine ⟨fun i w=> ∃k:Nat,i=(k:Int)∧k≤bs.length∧1∉bs.take k∧Hp E w F,fun i _=>bs.length - i.toNat,⟨0,rfl,by omega,by simp,h⟩,?_⟩
 rintro i w ⟨k,rfl,hk,hno,h⟩
 refine IfB.dm (fun hlt=> ?_) (fun hge=> ?_)
 ·have hlt:k<bs.length:=by omega
  refine Idx.rd (h.tells hs) (by omega) (by omega) fun q _ hq=> ?_
  refine Ld.sc (s:= .int .i64) (bs[k]:Int) (by rw [hq];simp [Sc.enc,vI,ints]) ?_
  refine IfB.em (fun he=> ?_) (fun he=> ?_)
  ·have:decide (1∈bs)=true:=decide_eq_true (by
    have e:bs[k]=1:=by omega
    rw [←e];exact List.getElem_mem hlt)
   dsimp only
   rw [show decide ((k:Int)≥0)=true from decide_eq_true (by omega),←this]
   exact hK w h
  ·rw [i64_id (by omega)]
   refine ⟨⟨k+1,rfl,by omega,?_,h⟩,by first|omega|(dsimp only;omega)⟩
   rw [List.take_add_one,List.getElem?_eq_getElem hlt]
   intro hm
   rcases List.mem_append.1 hm with hm|hm
   ·exact hno hm
   ·simp at hm;omega
 ·have hk2:k=bs.length:=by omega
  subst hk2
  rw [List.take_of_length_le (Nat.le_refl _)] at hno
  dsimp only
  rw [show decide ((-1:Int)≥0)=false from rfl,←decide_eq_false hno]
  exact hK w h
def CsOk (l:List Nat) (M:Nat) (s:CS):Prop:=VSt l s.c s.n∧DsOk s.d∧(∀x∈s.acc,x<256)∧s.acc.length+s.d.left≤M
theorem bcolumn_c {l:List Nat} {s:Sl} {bs:List Nat} {M:Nat} {K:Sl→Int→Int→World→Prop} (h:Hp E w F) (hl:l.length=258) (hok:okT l=true) (hM:1≤M) (hM2:M≤65536) (hs:Tells F (SlT 1 s ((ints bs).map vI))) (hb: ∀x∈bs,x≤1) (hbig:bs.length≤big)
  (hshort: ∀s' w',run (cstep l) ⟨0,0,⟨List.range 256,M,0,0⟩,[]⟩ bs= .short s'→Hp E w' F→K ⟨none,0,0⟩ 0 50 w')
  (hbad: ∀w',run (cstep l) ⟨0,0,⟨List.range 256,M,0,0⟩,[]⟩ bs= .bad 160→Hp E w' F→K ⟨none,0,0⟩ 0 160 w')
  (hfin: ∀last r s' w',run (cstep l) ⟨0,0,⟨List.range 256,M,0,0⟩,[]⟩ bs= .fin last r→(∀x∈last,x<256)→last.length≤M→Hp E w' (OwnS 1 s' (last.map vB)::F)→K s' ((bs.length - r.length:Nat):Int) 0 w'):
  Cl Tryz.prog [kS,kI,kI] n_block_column ⟨[.int .i64 (M:Int),.agg (ai .u8 l),.slice s.base s.len s.cap]⟩ w K:=by
 refine block_column.ok _ _ _ _ _ ?_
 unfold block_column.E
 have hlen:=(h.tells hs).1
 simp only [ints,List.length_map,Nat.mul_one] at hlen
 rw [big_eq] at hbig
 have hsz:(ai .u8 l).size=258:=by rw [ai_size,hl]
 have hst: ∀c n,(stA l c n).size=260:=fun c n=>stA_size hl
 have hz1:(⟨List.replicate 258 (.int .u8 0)++ [.int .i64 0,.int .i64 0]⟩:Array Value).size=260:=by simp
 have hz2:(⟨List.replicate 256 (.int .u8 0)++ [.int .i64 0,.int .i64 0,.int .i64 0,.bool false]⟩:Array Value).size=260:=by simp
 refine Nw.mk h fun b5 w h=>Ld.xw h hsz (new_c h hl (fun hf=>absurd hok (by rw [hf];decide)) fun _ w h=> ?_)
 refine Nw.mk h fun b11 w h=>StA.q h hz1 (hst _ _) (List.all_eq_true.2 stA_scalar) fun w h=>sdnew_c h hM hM2 fun w h=> ?_
 have hd0:DsOk ⟨List.range 256,M,0,0⟩:=DsOk.zero hM2
 refine Nw.mk h fun b16 w h=>StA.q h hz2 (dsA_size (by simp)) dsA_scalar fun w h=> ?_
 refine ⟨fun o i w=> ∃(k:Nat) (cs:CS),i=(k:Int)∧k≤bs.length∧CsOk l M cs∧run (cstep l) ⟨0,0,⟨List.range 256,M,0,0⟩,[]⟩ (bs.take k)= .short cs∧
  Hp E w (OwnS 1 o (cs.acc.map vB)::Blk b16 (.cells (dsA cs.d.L (cs.d.left:Int) (cs.d.run:Int) (cs.d.digits:Int) false) 149 (0,0))::Blk b11 (.cells (stA l cs.c cs.n) 145 (0,0))::F),
  fun _ i _=>bs.length - i.toNat,⟨0,_,rfl,by omega,⟨VSt.zero hok,hd0,by simp,by simp⟩,rfl,(h.ownNil 1).no 3⟩,?_⟩
 rintro o i w ⟨k,cs,rfl,hk,hcs,hrun,h⟩
 refine IfB.dm (fun hlt=> ?_) (fun hge=> ?_)
 ·have hlt:k<bs.length:=by omega
  have hx:=hb _ (List.getElem_mem hlt)
  obtain ⟨hv,hd,ha,hal⟩:=hcs
  have hdL:=hd.1.len
  have hfs:=stp_find hl hv hx
  have hfst:=stp_fst (l:=l) (c:=cs.c) (b:=cs.n) (x:=bs[k])
  have hvn:=hv.next hx
  refine Join.thru (fun a i d w=> ∃b34:Nat,a=⟨b34,0,none⟩∧i=(((stp l cs.c cs.n bs[k]).2.getD 0:Nat):Int)∧d=(stp l cs.c cs.n bs[k]).2.isSome∧
   Hp E w (Blk b34 (.cells (stA l (stp l cs.c cs.n bs[k]).1.1 (stp l cs.c cs.n bs[k]).1.2) 145 (0,0))::OwnS 1 o (cs.acc.map vB)::Blk b16 (.cells (dsA cs.d.L (cs.d.left:Int) (cs.d.run:Int) (cs.d.digits:Int) false) 149 (0,0))::Blk b11 (.cells (stA l cs.c cs.n) 145 (0,0))::F)) ?_ fun r' hr'=> ?_
  ·rintro a i d w ⟨b34,rfl,rfl,rfl,h⟩
   refine Ld.xw h (hst _ _) (StA.q h (hst _ _) (hst _ _) (List.all_eq_true.2 stA_scalar) fun w h=> ?_)
   rw [i64_id (by omega)]
   cases hsy:(stp l cs.c cs.n bs[k]).2 with
   |none=>
    rw [hsy] at hfs hfst
    rw [hfst] at h hvn
    refine IfB.t rfl ⟨⟨k+1,⟨2*cs.c+bs[k],cs.n+1,cs.d,cs.acc⟩,rfl,by omega,⟨hvn,hd,ha,hal⟩,?_,h.no 0⟩,by first|omega|(dsimp only;omega)⟩
    rw [List.take_add_one,List.getElem?_eq_getElem hlt]
    show run (cstep l) _ (bs.take k++ [bs[k]])=_
    rw [run_short hrun,run_more (cs_none hfs.symm)];rfl
   |some y=>
    rw [hsy] at hfs hfst
    rw [hfst] at h hvn
    have hy:y<258:=(stp_done hl hv hx hsy).1
    have hcs:=cs_some (s:=cs) (x:=bs[k]) (y:=y) hfs.symm
    have hdrop:run (cstep l) ⟨0,0,⟨List.range 256,M,0,0⟩,[]⟩ bs=run (cstep l) cs (bs[k]::bs.drop (k+1)):=by
     rw [←List.drop_eq_getElem_cons hlt]
     conv=>lhs;rw [←List.take_append_drop k bs]
     exact run_short hrun _
    refine IfB.f rfl (Ld.xw h (dsA_size hdL) ?_)
    refine sdStep_c (s:=y) h hd hy (fun e w hq ho hos h=> ?_) (fun d' t sl w hq h=> ?_) (fun d' t sl w hq h=> ?_)
    ·refine Nw.mk h fun b56 w h=>StA.q h hz2 ho hos fun w h=>IfB.nt (by decide) (hbad w ?_ h.tl)
     rw [hdrop]
     exact run_bad (by rw [hcs,hq])
    ·obtain ⟨hd',hb',hl'⟩:=dsym_ok hd hy hq
     have l1:=h.ownLen
     have l2:=(h.at 2).ownLen
     rw [List.length_map,Nat.mul_one] at l1 l2
     refine Nw.mk h fun b56 w h=>StA.q h hz2 (dsA_size hd'.1.len) dsA_scalar fun w h=>IfB.nf rfl ?_
     have h:=h.drew (n:=w.drawn+1)
     refine ⟨HoldB b56 _ _ _,h.hb,LdS.xw (fun _ h=>h) (dsA_size hd'.1.len) ?_⟩
     refine run_append (s:=o) (n:=sl.len) ty_b (by decide) (.inl ⟨5,by kernel_rfl⟩) (h.at 3) (.inl ⟨sl.base,sl.len,sl.cap,rfl,rfl,(h.at 1).tells Tells.own⟩) (by rw [List.length_map,l1,Nat.mul_one]) vB_scalar (by omega) (by omega) fun s3 w h _=>⟨h.hb,?_⟩
     refine StA.q (b:=b16) h (dsA_size hdL) (dsA_size hd'.1.len) dsA_scalar fun w h=>⟨h.hb,IfB.f rfl ?_⟩
     rw [←List.map_append] at h
     refine ⟨⟨k+1,⟨0,0,d',cs.acc++t⟩,rfl,by omega,⟨hvn,hd',?_,?_⟩,?_,((h.no 1).no 1).no 1⟩,by first|omega|(dsimp only;omega)⟩
     ·intro x hx
      rcases List.mem_append.1 hx with hx|hx
      ·exact ha x hx
      ·exact hb' x hx
     ·rw [List.length_append];dsimp only;omega
     ·rw [List.take_add_one,List.getElem?_eq_getElem hlt]
      show run (cstep l) _ (bs.take k++ [bs[k]])=_
      rw [run_short hrun,run_more (by rw [hcs,hq])];rfl
    ·obtain ⟨hb',hl'⟩:=dsym_end hd hq
     have l1:=h.ownLen
     have l2:=(h.at 2).ownLen
     rw [List.length_map,Nat.mul_one] at l1 l2
     refine Nw.mk h fun b56 w h=>StA.q h hz2 (dsA_size hdL) dsA_scalar fun w h=>IfB.nf rfl ?_
     have h:=h.drew (n:=w.drawn+1)
     refine ⟨HoldB b56 _ _ _,h.hb,LdS.xw (fun _ h=>h) (dsA_size hdL) ?_⟩
     refine run_append (s:=o) (n:=sl.len) ty_b (by decide) (.inl ⟨5,by kernel_rfl⟩) (h.at 3) (.inl ⟨sl.base,sl.len,sl.cap,rfl,rfl,(h.at 1).tells Tells.own⟩) (by rw [List.length_map,l1,Nat.mul_one]) vB_scalar (by omega) (by omega) fun s3 w h _=>⟨h.hb,?_⟩
     refine StA.q (b:=b16) h (dsA_size hdL) (dsA_size hdL) dsA_scalar fun w h=>⟨h.hb,IfB.t rfl ?_⟩
     rw [←List.map_append] at h
     have hr:=hfin (cs.acc++t) (bs.drop (k+1)) s3 w (by rw [hdrop];exact run_fin (by rw [hcs,hq])) (fun x hx=>by
      rcases List.mem_append.1 hx with hx|hx
      ·exact ha x hx
      ·exact hb' x hx) (by rw [List.length_append];omega) h.keep1
     rw [List.length_drop,show bs.length - (bs.length - (k+1))=k+1 by omega] at hr
     exact hr
  ·have h:=h.drew (n:=w.drawn+1)
   refine ⟨fun w=>HoldB b11 (stA l cs.c cs.n) 145 (0,0) w∧SlT 1 s ((ints bs).map vI) w,⟨h.hb,(h.tl:Hp E _ F).tells hs⟩,LdS.xw (fun _ h=>h.1) (hst _ _) ?_⟩
   refine Idx.ldP (sc:= .int .i64) ((h.tl:Hp E _ F).tells hs) (fun _ h=>h.2) rfl (by simp [ints];exact hlt) (bs[k]:Int) (by simp [Sc.enc,vI,ints,hlt]) ⟨?_,?_⟩
   ·refine step_c h hl hv hx fun w h=>⟨⟨h.hb,(h.tl:Hp E w F).tells hs⟩,?_⟩
    refine Nw.mk h fun b34 w h=>⟨⟨h.hb,(h.tl:Hp E w F).tells hs⟩,?_⟩
    refine StA.q h hz1 (hst _ _) (List.all_eq_true.2 stA_scalar) fun w h=>⟨⟨h.hb,(h.tl:Hp E w F).tells hs⟩,?_⟩
    exact hr' _ _ _ _ ⟨b34,rfl,rfl,rfl,h⟩
   ·refine Nw.mk h fun b34 w h=>⟨⟨h.hb,(h.tl:Hp E w F).tells hs⟩,?_⟩
    refine step_c h hl hv hx fun w h=>⟨⟨h.hb,(h.tl:Hp E w F).tells hs⟩,?_⟩
    refine StA.q h hz1 (hst _ _) (List.all_eq_true.2 stA_scalar) fun w h=>⟨⟨h.hb,(h.tl:Hp E w F).tells hs⟩,?_⟩
    exact hr' _ _ _ _ ⟨b34,rfl,rfl,rfl,h⟩
 ·have hk2:k=bs.length:=by omega
  subst hk2
  rw [List.take_of_length_le (Nat.le_refl _)] at hrun
  exact hshort cs w hrun h.tl
end
end Go.Proofs.YtcdpblipagajiaaGreat
namespace Go.Proofs.YtcdpblipagajiaaGreat
open Go Go.Vc
set_option maxRecDepth 100000 in
def symenc_All.E (b1:Sl) (R:Sl→World→Prop) (w:World):Prop:=
 Cl Tryz.prog [(.arr 257)] n_symenc_New ⟨[]⟩ w fun (r3:(Array Value)) (w_2:World)=>
 Cl Tryz.prog [(.arr 257),kS,kI] n_symenc_Step ⟨[(.agg r3),(.slice b1.base b1.len b1.cap)]⟩ w_2 fun (r5:(Array Value)) (r6:Sl) (r7:Int) (w_4:World)=>
 Nw 110 ⟨List.replicate 256 (.int .u8 0)++ [(.int .i64 0)]⟩ w_4 fun (b9:Nat) (w_8:World)=>
 StA 257 (⟨b9,0,none⟩:Addr) r5 w_8 fun (w_10:World)=>
 Ld (.arr 257) (⟨b9,0,none⟩:Addr) w_10 fun (x11:(Array Value))=>
 Cl Tryz.prog [kS,kI] n_symenc_End ⟨[(.agg x11)]⟩ w_10 fun (r13:Sl) (r14:Int) (w_12:World)=>
 Run Tryz.prog (Builtin.append_ #[33,33] 33 ⟨[(.slice r6.base r6.len r6.cap),(.slice r13.base r13.len r13.cap)]⟩) kS w_12 fun (s16:Sl) (w_15:World)=>
 R (s16) w_15
set_option maxRecDepth 100000 in
theorem symenc_All.ok (b1:Sl) (R:Sl→World→Prop) (w:World) (h:symenc_All.E b1 R w):Cl Tryz.prog [kS] n_symenc_All ⟨[(.slice b1.base b1.len b1.cap)]⟩ w R:=
 calls_of_eq Tryz.mix Tryz.f44 [(.slice b1.base b1.len b1.cap)] [kS] R 23 [.tmp 2] (by kernel_rfl) (by kernel_rfl) (by kernel_rfl) (by kernel_rfl) (by kernel_rfl)
  (.s .o (.s .o (.s .o (.s .o .o))))
  (by kernel_rfl) h
set_option maxRecDepth 100000 in
def symenc_Step.E (f1:(Array Value)) (b2:Sl) (R:(Array Value)→Sl→Int→World→Prop) (w:World):Prop:=
 Nw 110 f1 w fun (b4:Nat) (w_3:World)=>
 Nw 110 ⟨List.replicate 256 (.int .u8 0)++ [(.int .i64 0)]⟩ w_3 fun (b6:Nat) (w_5:World)=>
 Join (fun (w_18:World)=>
 ∃(I_19:Sl→Int→World→Prop) (m_20:Sl→Int→World→Nat),I_19 ((⟨none,0,0⟩:Sl)) (0) w_18∧
 ∀(out21:Sl) (t27_22:Int),∀(w_23:World),I_19 out21 t27_22 w_23→
 IfB (decide ((t27_22:Int)<((b2.len:Int):Int)))
 (Idx b2 t27_22 1 fun (q24:Addr)=>
 Ld (kInt .u8) q24 w_23 fun (x25:Int)=>
 Ld (.arr 256) ((⟨b4,0,none⟩:Addr).add 0) w_23 fun (List26:(Array Value))=>
 Cl Tryz.prog [(.arr 256),kI] n_mtf_Put ⟨[(.agg List26),(.int .u8 x25)]⟩ w_23 fun (r28:(Array Value)) (r29:Int) (w_27:World)=>
 StA 256 ((⟨b4,0,none⟩:Addr).add 0) r28 w_27 fun (w_30:World)=>
 IfB ((r29:Int)==(0:Int))
 (Ld kI ((⟨b4,0,none⟩:Addr).add 256) w_30 fun (Run31:Int)=>
 St ((⟨b4,0,none⟩:Addr).add 256) (.int .i64 (i64 ((Run31:Int)+(1:Int)))) w_30 fun (w_32:World)=>
 I_19 (out21) ((i64 ((t27_22:Int)+(1:Int)))) w_32∧m_20 (out21) ((i64 ((t27_22:Int)+(1:Int)))) w_32<m_20 out21 t27_22 w_23)
 (Ld kI ((⟨b4,0,none⟩:Addr).add 256) w_30 fun (Run33:Int)=>
 Cl Tryz.prog [kS,kI] n_zerorun_Digits ⟨[(.int .i64 Run33)]⟩ w_30 fun (r35:Sl) (r36:Int) (w_34:World)=>
 Run Tryz.prog (Builtin.append_ #[33,33] 33 ⟨[(.slice out21.base out21.len out21.cap),(.slice r35.base r35.len r35.cap)]⟩) kS w_34 fun (s38:Sl) (w_37:World)=>
 Nw 3 ⟨[(.int .i64 (i64 ((r29:Int)+(1:Int))))]⟩ w_37 fun (b40:Nat) (w_39:World)=>
 Run Tryz.prog (Builtin.append_ #[33,33] 33 ⟨[(.slice s38.base s38.len s38.cap),(.slice (⟨some ⟨b40,0,none⟩,1,1⟩:Sl).base (⟨some ⟨b40,0,none⟩,1,1⟩:Sl).len (⟨some ⟨b40,0,none⟩,1,1⟩:Sl).cap)]⟩) kS w_39 fun (s42:Sl) (w_41:World)=>
 St ((⟨b4,0,none⟩:Addr).add 256) (.int .i64 0) w_41 fun (w_43:World)=>
 I_19 (s42) ((i64 ((t27_22:Int)+(1:Int)))) w_43∧m_20 (s42) ((i64 ((t27_22:Int)+(1:Int)))) w_43<m_20 out21 t27_22 w_23))
 (Ld (.arr 257) (⟨b4,0,none⟩:Addr) w_23 fun (x44:(Array Value))=>
 StA 257 (⟨b6,0,none⟩:Addr) x44 w_23 fun (w_45:World)=>
 Ld (.arr 257) (⟨b6,0,none⟩:Addr) w_45 fun (res46:(Array Value))=>
 R (res46) (out21) (0) w_45)) fun (K_7:World→Prop)=>
 Ld (.arr 257) (⟨b4,0,none⟩:Addr) w_5 fun (x8:(Array Value))=>
 Cl Tryz.prog [kB] n_symenc_Valid ⟨[(.agg x8)]⟩ w_5 fun (r10:Bool) (w_9:World)=>
 IfB (!r10)
 (Ld (.arr 257) (⟨b4,0,none⟩:Addr) w_9 fun (x11:(Array Value))=>
 StA 257 (⟨b6,0,none⟩:Addr) x11 w_9 fun (w_12:World)=>
 Ld (.arr 257) (⟨b6,0,none⟩:Addr) w_12 fun (res13:(Array Value))=>
 R (res13) ((⟨none,0,0⟩:Sl)) (2) w_12)
 (Ld kI ((⟨b4,0,none⟩:Addr).add 256) w_9 fun (Run14:Int)=>
 IfB (decide (((b2.len:Int):Int)>((i64 ((2147483647:Int) - (Run14:Int))):Int)))
 (Ld (.arr 257) (⟨b4,0,none⟩:Addr) w_9 fun (x15:(Array Value))=>
 StA 257 (⟨b6,0,none⟩:Addr) x15 w_9 fun (w_16:World)=>
 Ld (.arr 257) (⟨b6,0,none⟩:Addr) w_16 fun (res17:(Array Value))=>
 R (res17) ((⟨none,0,0⟩:Sl)) (2) w_16)
 (K_7 w_9))
set_option maxRecDepth 100000 in
theorem symenc_Step.ok (f1:(Array Value)) (b2:Sl) (R:(Array Value)→Sl→Int→World→Prop) (w:World) (h:symenc_Step.E f1 b2 R w):Cl Tryz.prog [(.arr 257),kS,kI] n_symenc_Step ⟨[(.agg f1),(.slice b2.base b2.len b2.cap)]⟩ w R:=
 calls_of_eq Tryz.mix Tryz.f89 [(.agg f1),(.slice b2.base b2.len b2.cap)] [(.arr 257),kS,kI] R 62 [.cell 4 110,.tmp 5,.tmp 6] (by kernel_rfl) (by kernel_rfl) (by kernel_rfl) (by kernel_rfl) (by kernel_rfl)
  (.s .o (.j [] (.s .o (.c (.s .o .o) .o)) (.s .o (.s .o (.s (.s .o (.b (.l [(7,kS),(27,kI)] (.s .o (.s (.c .o .o) (.s (.b (.s .o (.s (.s .o (.s .o (.c (.s .o .o) .o))) (.s .o (.s .o .o))))) .o)))))) (.s .o .o))))))
  (by kernel_rfl) h
set_option maxRecDepth 100000 in
def symenc_New.E (R:(Array Value)→World→Prop) (w:World):Prop:=
 Nw 110 ⟨List.replicate 256 (.int .u8 0)++ [(.int .i64 0)]⟩ w fun (b2:Nat) (w_1:World)=>
 Cl Tryz.prog [(.arr 256)] n_mtf_New ⟨[]⟩ w_1 fun (r4:(Array Value)) (w_3:World)=>
 Bld Tryz.prog 110 [(0,(.agg r4))] fun (cs5:Array Value)=>
 StA 257 (⟨b2,0,none⟩:Addr) cs5 w_3 fun (w_6:World)=>
 Ld (.arr 257) (⟨b2,0,none⟩:Addr) w_6 fun (res7:(Array Value))=>
 R (res7) w_6
set_option maxRecDepth 100000 in
theorem symenc_New.ok (R:(Array Value)→World→Prop) (w:World) (h:symenc_New.E R w):Cl Tryz.prog [(.arr 257)] n_symenc_New ⟨[]⟩ w R:=
 calls_of_eq Tryz.mix Tryz.f90 [] [(.arr 257)] R 3 [.cell 0 110] (by kernel_rfl) (by kernel_rfl) (by kernel_rfl) (by kernel_rfl) (by kernel_rfl)
  (.s .o (.s .o .o))
  (by kernel_rfl) h
def symenc_End.E (f1:(Array Value)) (R:Sl→Int→World→Prop) (w:World):Prop:=
 Nw 110 f1 w fun (b3:Nat) (w_2:World)=>
 Ld (.arr 257) (⟨b3,0,none⟩:Addr) w_2 fun (x4:(Array Value))=>
 Cl Tryz.prog [kB] n_symenc_Valid ⟨[(.agg x4)]⟩ w_2 fun (r6:Bool) (w_5:World)=>
 IfB (!r6)
 (R ((⟨none,0,0⟩:Sl)) (2) w_5)
 (Ld kI ((⟨b3,0,none⟩:Addr).add 256) w_5 fun (Run7:Int)=>
 Cl Tryz.prog [kS,kI] n_zerorun_Digits ⟨[(.int .i64 Run7)]⟩ w_5 fun (r9:Sl) (r10:Int) (w_8:World)=>
 Nw 3 ⟨[(.int .i64 257)]⟩ w_8 fun (b12:Nat) (w_11:World)=>
 Run Tryz.prog (Builtin.append_ #[33,33] 33 ⟨[(.slice r9.base r9.len r9.cap),(.slice (⟨some ⟨b12,0,none⟩,1,1⟩:Sl).base (⟨some ⟨b12,0,none⟩,1,1⟩:Sl).len (⟨some ⟨b12,0,none⟩,1,1⟩:Sl).cap)]⟩) kS w_11 fun (s14:Sl) (w_13:World)=>
 R (s14) (0) w_13)
theorem symenc_End.ok (f1:(Array Value)) (R:Sl→Int→World→Prop) (w:World) (h:symenc_End.E f1 R w):Cl Tryz.prog [kS,kI] n_symenc_End ⟨[(.agg f1)]⟩ w R:=
 calls_of_eq Tryz.mix Tryz.f91 [(.agg f1)] [kS,kI] R 18 [.tmp 2,.tmp 3] (by kernel_rfl) (by kernel_rfl) (by kernel_rfl) (by kernel_rfl) (by kernel_rfl)
  (.s .o (.s (.s .o (.c (.s .o .o) .o)) (.s .o (.s .o .o))))
  (by kernel_rfl) h
def symenc_Valid.E (f1:(Array Value)) (R:Bool→World→Prop) (w:World):Prop:=
 Nw 110 f1 w fun (b3:Nat) (w_2:World)=>
 Held w_2 fun (S4:World→Prop) (w_5:World)=>
 LdS (.arr 257) (⟨b3,0,none⟩:Addr) S4 fun (x6:(Array Value))=>
 Cl Tryz.prog [(.arr 257)] n_symenc_New ⟨[]⟩ w_5 fun (r8:(Array Value)) (w_7:World)=>
 S4 w_7∧
 EqW Tryz.prog 110 x6 r8 fun (eq9:Bool)=>
 IfB eq9
 (R (true) w_7)
 (LdS kI ((⟨b3,0,none⟩:Addr).add 256) S4 fun (Run10:Int)=>
 IfB (decide ((Run10:Int)≥(0:Int)))
 (LdS kI ((⟨b3,0,none⟩:Addr).add 256) S4 fun (Run11:Int)=>
 IfB (decide ((Run11:Int)≤(2147483647:Int)))
 (LdS (.arr 256) ((⟨b3,0,none⟩:Addr).add 0) S4 fun (List12:(Array Value))=>
 Cl Tryz.prog [kB] n_mtf_Valid ⟨[(.agg List12)]⟩ w_7 fun (r14:Bool) (w_13:World)=>
 S4 w_13∧
 R (r14) w_13)
 (R (false) w_7))
 (R (false) w_7))
theorem symenc_Valid.ok (f1:(Array Value)) (R:Bool→World→Prop) (w:World) (h:symenc_Valid.E f1 R w):Cl Tryz.prog [kB] n_symenc_Valid ⟨[(.agg f1)]⟩ w R:=
 calls_of_eq Tryz.mix Tryz.f133 [(.agg f1)] [kB] R 21 [.tmp 2] (by kernel_rfl) (by kernel_rfl) (by kernel_rfl) (by kernel_rfl) (by kernel_rfl)
  (.s .o (.s .o .o))
  (by kernel_rfl) h
end Go.Proofs.YtcdpblipagajiaaGreat
set_option maxRecDepth 20000
namespace Go.Vc
open Go
section
variable {E w:World} {F A:List HP}
theorem Hp.put {b:Nat} {o:Obj} (h:Hp E w (Blk b o::F)) (o':Obj):Hp E (w.putObj b o') (Blk b o'::F):=h.setObj rfl rfl rfl rfl
def Nope:HP:=fun _=>False
theorem Hp.nope {B:HP} (h:Hp E w (B::Nope::F)):False:=by
 obtain ⟨f,_,g,k,_,_,_,g2,k2,_,_,h2,_⟩:=h.frag
 exact h2
def YieldOk (P:Program) (E:World) (yv:Value) (n:Nat) (vs:Nat→List Value) (C G:Nat→List HP):Prop:=
 ∀i,i<n→∀(A:List HP) (w:World) (K:Bool→World→Prop),Hp E w (C i++A)→(∀w',Hp E w' (C (i+1)++A)→K true w')→(∀w',Hp E w' (G i++A)→K false w')→ClY P yv [kB] (vs i) w K
def Iter (P:Program) (E:World) (v:Value) (n:Nat) (vs:Nat→List Value) (A:List HP):Prop:=
 ∀(yv:Value) (C G:Nat→List HP) (w:World) (K:World→Prop),YieldOk P E yv n vs C G→Hp E w (C 0++A)→(∀w',Hp E w' (C n++A)→K w')→(∀i w',i<n→Hp E w' (G i++A)→K w')→ClV P v [] [yv] w K
theorem Rng.gen {P:Program} {v:Value} {ks:List Ki} {B:Nat→(Nat→Obj)→FnK ks (World→(World→Prop)→(World→Prop)→Prop)} {K Kr:Nat→World→Prop} {n:Nat} {vs:Nat→List Value} (C G:Nat→List HP)
  (hh:Hp E w (C 0++A)) (hit:Iter P E v n vs A)
  (hbody: ∀l rec (T:List Value→(World→(World→Prop)→(World→Prop)→Prop)→Prop),AllB ks (B l rec) T→∀i,i<n→∃b,T (vs i) b∧∀(A:List HP) (w:World) (Kt Kf:World→Prop),Hp E w (Blk l (rec 0)::(C i++A))→
   (∀w',Hp E w' (Blk l (rec 0)::(C (i+1)++A))→Kt w')→(∀w',Hp E w' (Blk l (rec 2)::(G i++A))→Kf w')→b w Kt Kf)
  (hK: ∀D w',Hp E w' (Blk D (.deferred (some []))::(C n++A))→K D w') (hKr: ∀i D w',i<n→Hp E w' (Blk D (.deferred (some []))::(G i++A))→Kr D w'):Rng P v ks w B K Kr:=by
 intro rec yv hy
 have h1:=hh.alloc (.deferred (some []))
 have h2:=h1.alloc (rec 0)
 have hs:(w.alloc (.deferred (some []))).heap.size=w.heap.size+1:=by show (w.heap.push _).size=_;simp
 rw [hs] at h2
 refine hit yv (fun i=>Blk (w.heap.size+1) (rec 0)::Blk w.heap.size (.deferred (some []))::C i) (fun i=>Blk (w.heap.size+1) (rec 2)::Blk w.heap.size (.deferred (some []))::G i) _ _ ?_ h2 ?_ ?_
 ·intro i hi A w2 R h hKt hKf
  obtain ⟨b,hb,h3⟩:=hbody (w.heap.size+1) rec _ (hy R w2) i hi
  refine hb h.blk (h3 (Blk w.heap.size (.deferred (some []))::A) w2 _ _ (h.perm (.cons _ List.perm_middle.symm)) (fun w' h'=>hKt w' (h'.perm (.cons _ List.perm_middle))) (fun w' h'=>hKf w' (h'.perm (.cons _ List.perm_middle))))
 ·intro w' h
  have h:Hp E w' (Blk (w.heap.size+1) (rec 0)::Blk w.heap.size (.deferred (some []))::(C n++A)):=h
  exact .inl ⟨h.blk,hK _ _ (h.put (rec 3)).drop⟩
 ·intro i w' hi h
  have h:Hp E w' (Blk (w.heap.size+1) (rec 2)::Blk w.heap.size (.deferred (some []))::(G i++A)):=h
  exact .inr ⟨h.blk,hKr i _ _ hi (h.put (rec 4)).drop⟩
theorem Rng.mk1 {P:Program} {v:Value} {k:Ki} {B:Nat→(Nat→Obj)→k.T→World→(World→Prop)→(World→Prop)→Prop} {K Kr:Nat→World→Prop} {n:Nat} {x:Nat→k.T} (C G:Nat→List HP)
  (hh:Hp E w (C 0++A)) (hit:Iter P E v n (fun i=> [k.enc (x i)]) A)
  (hbody: ∀l rec i (A:List HP) (w:World) (Kt Kf:World→Prop),i<n→Hp E w (Blk l (rec 0)::(C i++A))→
   (∀w',Hp E w' (Blk l (rec 0)::(C (i+1)++A))→Kt w')→(∀w',Hp E w' (Blk l (rec 2)::(G i++A))→Kf w')→B l rec (x i) w Kt Kf)
  (hK: ∀D w',Hp E w' (Blk D (.deferred (some []))::(C n++A))→K D w') (hKr: ∀i D w',i<n→Hp E w' (Blk D (.deferred (some []))::(G i++A))→Kr D w'):Rng P v [k] w B K Kr:=
 Rng.gen (ks:= [k]) C G hh hit (fun l rec _ hT i hi=>⟨_,hT (x i),fun A w Kt Kf=>hbody l rec i A w Kt Kf hi⟩) hK hKr
theorem Rng.mk2 {P:Program} {v:Value} {k k':Ki} {B:Nat→(Nat→Obj)→k.T→k'.T→World→(World→Prop)→(World→Prop)→Prop} {K Kr:Nat→World→Prop} {n:Nat} {x:Nat→k.T} {y:Nat→k'.T} (C G:Nat→List HP)
  (hh:Hp E w (C 0++A)) (hit:Iter P E v n (fun i=> [k.enc (x i),k'.enc (y i)]) A)
  (hbody: ∀l rec i (A:List HP) (w:World) (Kt Kf:World→Prop),i<n→Hp E w (Blk l (rec 0)::(C i++A))→
   (∀w',Hp E w' (Blk l (rec 0)::(C (i+1)++A))→Kt w')→(∀w',Hp E w' (Blk l (rec 2)::(G i++A))→Kf w')→B l rec (x i) (y i) w Kt Kf)
  (hK: ∀D w',Hp E w' (Blk D (.deferred (some []))::(C n++A))→K D w') (hKr: ∀i D w',i<n→Hp E w' (Blk D (.deferred (some []))::(G i++A))→Kr D w'):Rng P v [k,k'] w B K Kr:=
 Rng.gen (ks:= [k,k']) C G hh hit (fun l rec _ hT i hi=>⟨_,hT (x i) (y i),fun A w Kt Kf=>hbody l rec i A w Kt Kf hi⟩) hK hKr
theorem Beg.mk {l:Nat} {rec:Nat→Obj} {K:World→Prop} (h:Hp E w (Blk l (rec 0)::F)) (hK: ∀w',Hp E w' (Blk l (rec 1)::F)→K w'):Beg l rec w K:=⟨h.blk,hK _ (h.put _)⟩
theorem EndT.mk {l:Nat} {rec:Nat→Obj} {K:World→Prop} (h:Hp E w (Blk l (rec 1)::F)) (hK: ∀w',Hp E w' (Blk l (rec 0)::F)→K w'):EndT l rec w K:=⟨h.blk,hK _ (h.put _)⟩
theorem EndF.mk {l:Nat} {rec:Nat→Obj} {K:World→Prop} (h:Hp E w (Blk l (rec 1)::F)) (hK: ∀w',Hp E w' (Blk l (rec 2)::F)→K w'):EndF l rec w K:=⟨h.blk,hK _ (h.put _)⟩
theorem Dfr.mk1 {D:Nat} {K:World→Prop} (h:Hp E w (Blk D (.deferred (some []))::F)) (hK: ∀w',Hp E w' F→K w'):Dfr [D] w K:=⟨h.blk,hK _ (h.put _).drop⟩
theorem Dfr.mk: ∀{ms:List Nat} {w:World} {K:World→Prop},Hp E w (ms.map (fun D=>Blk D (.deferred (some [])))++F)→(∀w',Hp E w' F→K w')→Dfr ms w K
 | [],_,_,h,hK=>hK _ h
 |D::ms,w,K,h,hK=>by
  have h:Hp E w (Blk D (.deferred (some []))::(ms.map (fun D=>Blk D (.deferred (some [])))++F)):=h
  exact ⟨h.blk,Dfr.mk (ms:=ms) (h.put _).drop hK⟩
end
end Go.Vc
set_option maxRecDepth 20000
namespace Go.Vc
open Go
section
variable {E w:World} {F A:List HP}
def Iter2 (P:Program) (E:World) (v:Value) (n:Nat) (vs:Nat→List Value) (A:List HP) (Φ:World→Prop):Prop:=
 ∀(yv:Value) (C G:Nat→List HP) (w:World) (K:World→Prop),(∀i,Tells (C i) Φ)→YieldOk P E yv n vs C G→Hp E w (A++C 0)→(∀w',Hp E w' (C n)→K w')→(∀i w',i<n→Hp E w' (G i)→K w')→ClV P v [] [yv] w K
theorem Rng.gen2 {P:Program} {v:Value} {ks:List Ki} {Y:Nat→(Nat→Obj)→FnK ks (World→(World→Prop)→(World→Prop)→Prop)} {K Kr:Nat→World→Prop} {n:Nat} {vs:Nat→List Value} {Φ:World→Prop} (C G:Nat→List HP)
  (hh:Hp E w (A++C 0)) (hΦ: ∀i,Tells (C i) Φ) (hit:Iter2 P E v n vs A Φ)
  (hbody: ∀l rec (T:List Value→(World→(World→Prop)→(World→Prop)→Prop)→Prop),AllB ks (Y l rec) T→∀i,i<n→∃b,T (vs i) b∧∀(A:List HP) (w:World) (Kt Kf:World→Prop),Hp E w (Blk l (rec 0)::(C i++A))→
   (∀w',Hp E w' (Blk l (rec 0)::(C (i+1)++A))→Kt w')→(∀w',Hp E w' (Blk l (rec 2)::(G i++A))→Kf w')→b w Kt Kf)
  (hK: ∀D w',Hp E w' (Blk D (.deferred (some []))::C n)→K D w') (hKr: ∀i D w',i<n→Hp E w' (Blk D (.deferred (some []))::G i)→Kr D w'):Rng P v ks w Y K Kr:=by
 intro rec yv hy
 have h1:=hh.alloc (.deferred (some []))
 have h2:=h1.alloc (rec 0)
 have hs:(w.alloc (.deferred (some []))).heap.size=w.heap.size+1:=by show (w.heap.push _).size=_;simp
 rw [hs] at h2
 refine hit yv (fun i=>Blk (w.heap.size+1) (rec 0)::Blk w.heap.size (.deferred (some []))::C i) (fun i=>Blk (w.heap.size+1) (rec 2)::Blk w.heap.size (.deferred (some []))::G i) _ _ (fun i=>(hΦ i).cons.cons) ?_ ?_ ?_ ?_
 ·intro i hi A w2 R h hKt hKf
  obtain ⟨b,hb,h3⟩:=hbody (w.heap.size+1) rec _ (hy R w2) i hi
  refine hb h.blk (h3 (Blk w.heap.size (.deferred (some []))::A) w2 _ _ (h.perm (.cons _ List.perm_middle.symm)) (fun w' h'=>hKt w' (h'.perm (.cons _ List.perm_middle))) (fun w' h'=>hKf w' (h'.perm (.cons _ List.perm_middle))))
 ·refine h2.perm ?_
  refine (List.Perm.trans (.cons _ List.perm_middle.symm) List.perm_middle.symm)
 ·intro w' h
  exact .inl ⟨h.blk,hK _ _ (h.put (rec 3)).drop⟩
 ·intro i w' hi h
  exact .inr ⟨h.blk,hKr i _ _ hi (h.put (rec 4)).drop⟩
theorem Rng.two {P:Program} {v:Value} {k k':Ki} {Y:Nat→(Nat→Obj)→k.T→k'.T→World→(World→Prop)→(World→Prop)→Prop} {K Kr:Nat→World→Prop} {n:Nat} {x:Nat→k.T} {y:Nat→k'.T} {Φ:World→Prop} (C G:Nat→List HP)
  (hh:Hp E w (A++C 0)) (hΦ: ∀i,Tells (C i) Φ) (hit:Iter2 P E v n (fun i=> [k.enc (x i),k'.enc (y i)]) A Φ)
  (hbody: ∀l rec i (A:List HP) (w:World) (Kt Kf:World→Prop),i<n→Hp E w (Blk l (rec 0)::(C i++A))→
   (∀w',Hp E w' (Blk l (rec 0)::(C (i+1)++A))→Kt w')→(∀w',Hp E w' (Blk l (rec 2)::(G i++A))→Kf w')→Y l rec (x i) (y i) w Kt Kf)
  (hK: ∀D w',Hp E w' (Blk D (.deferred (some []))::C n)→K D w') (hKr: ∀i D w',i<n→Hp E w' (Blk D (.deferred (some []))::G i)→Kr D w'):Rng P v [k,k'] w Y K Kr:=
 Rng.gen2 (ks:= [k,k']) C G hh hΦ hit (fun l rec _ hT i hi=>⟨_,hT (x i) (y i),fun A w Kt Kf=>hbody l rec i A w Kt Kf hi⟩) hK hKr
theorem Rng.one2 {P:Program} {v:Value} {k:Ki} {Y:Nat→(Nat→Obj)→k.T→World→(World→Prop)→(World→Prop)→Prop} {K Kr:Nat→World→Prop} {n:Nat} {x:Nat→k.T} {Φ:World→Prop} (C G:Nat→List HP)
  (hh:Hp E w (A++C 0)) (hΦ: ∀i,Tells (C i) Φ) (hit:Iter2 P E v n (fun i=> [k.enc (x i)]) A Φ)
  (hbody: ∀l rec i (A:List HP) (w:World) (Kt Kf:World→Prop),i<n→Hp E w (Blk l (rec 0)::(C i++A))→
   (∀w',Hp E w' (Blk l (rec 0)::(C (i+1)++A))→Kt w')→(∀w',Hp E w' (Blk l (rec 2)::(G i++A))→Kf w')→Y l rec (x i) w Kt Kf)
  (hK: ∀D w',Hp E w' (Blk D (.deferred (some []))::C n)→K D w') (hKr: ∀i D w',i<n→Hp E w' (Blk D (.deferred (some []))::G i)→Kr D w'):Rng P v [k] w Y K Kr:=
 Rng.gen2 (ks:= [k]) C G hh hΦ hit (fun l rec _ hT i hi=>⟨_,hT (x i),fun A w Kt Kf=>hbody l rec i A w Kt Kf hi⟩) hK hKr
def Ex1 {α:Type} (X:α→Prop) (L:α→List HP):HP:=fun f=> ∃x,X x∧Sat (L x) f
theorem Hp.ex {α:Type} {X:α→Prop} {L:α→List HP} (h:Hp E w (Ex1 X L::F)): ∃x,X x∧Hp E w (L x++F):=h.open1 fun _ hf=>hf
theorem Hp.mkEx {α:Type} {X:α→Prop} {L:α→List HP} (x:α) (hx:X x) (h:Hp E w (L x++F)):Hp E w (Ex1 X L::F):=h.shut1 fun _ hf=>⟨x,hx,hf⟩
end
end Go.Vc
set_option maxRecDepth 20000
namespace Go.Vc
open Go
def cellN (b:Nat) (w:World):Nat:=match w.cell? ⟨b,0,none⟩ with
 |some (.int _ v)=>v.toNat
 |_=>0
theorem cellN_eq {E w:World} {l:List HP} {b:Nat} {c:Array Value} {t:TypeId} {fr:Nat×Nat} {put:Obj→List HP} [FindB b l c t fr put] {k:IntKind} {v:Int} (h:Hp E w l) (hc:c[0]? =some (.int k v)):cellN b w=v.toNat:=by
 unfold cellN
 rw [h.fc,hc]
end Go.Vc
namespace Go.Proofs.YtcdpblipagajiaaGreat
open Go Go.Vc
section
variable {E w:World} {F:List HP}
abbrev bI (b:Nat) (n:Nat):HP:=Blk b (.cells ⟨[.int .i64 (n:Int)]⟩ 3 (0,0))
abbrev slV (s:Sl):Value:= .slice s.base s.len s.cap
abbrev OutI (b:Nat) (xs:List Nat):HP:=Ex1 (fun (_:Sl)=>True) fun s=> [Blk b (.cells ⟨[slV s]⟩ 33 (0,0)),OwnS 1 s ((ints xs).map vI)]
theorem OutI.shut {b:Nat} {s:Sl} {xs:List Nat} (h:Hp E w (Blk b (.cells ⟨[slV s]⟩ 33 (0,0))::OwnS 1 s ((ints xs).map vI)::F)):Hp E w (OutI b xs::F):=Hp.mkEx s trivial h
theorem OutI.put {b b2:Nat} {s:Sl} {xs:List Nat} {x:Nat} {t2:TypeId} {l:List HP} {K:World→Prop} (h:Hp E w (l++Blk b2 (.cells ⟨[.int .i64 (x:Int)]⟩ t2 (0,0))::Blk b (.cells ⟨[slV s]⟩ 33 (0,0))::OwnS 1 s ((ints xs).map vI)::F)) (hl:xs.length≤1000000)
  (hK: ∀w',Hp E w' (OutI b (xs++ [x])::F)→K w'):
  Run Tryz.prog (Builtin.append_ #[33,33] 33 ⟨[slV s,.slice (some ⟨b2,0,none⟩) 1 1]⟩) kS w fun s28 w_27=>St (⟨b,0,none⟩:Addr) (slV s28) w_27 fun w_29=>K w_29:=by
 have h:=h.dropL
 have hol:=(h.at 2).ownLen
 simp only [ints,List.length_map,Nat.mul_one] at hol
 refine run_append (ys:= [vI (x:Int)]) (n:=1) ty_ints (by decide) (.inl ⟨3,by kernel_rfl⟩) (h.at 2) (.inl ⟨some ⟨b2,0,none⟩,1,1,rfl,rfl,h.tells (Tells.blk rfl rfl)⟩) rfl (by intro y hy;rw [List.mem_singleton] at hy;rw [hy];rfl) (by omega) (by omega) fun s' w' h _=> ?_
 refine St.xs h rfl rfl fun w h=>hK w ?_
 dsimp only [spl,over] at h
 have h:=(h.no 1).p1
 refine OutI.shut (s:=s') ?_
 rw [show (ints (xs++ [x])).map vI=(ints xs).map vI++ [vI (x:Int)] by simp [ints]]
 exact h
end
end Go.Proofs.YtcdpblipagajiaaGreat
set_option maxRecDepth 20000
namespace Go.Proofs.YtcdpblipagajiaaGreat
open Go Go.Vc
section
variable {E w:World} {F:List HP}
theorem bytesOf_run {s:Sl} {b:List Nat} (hs:SlT 1 s (b.map vB) w):(Extern.Bytes.bytesOf (.slice s.base s.len s.cap)).run Tryz.prog w= .ok (strOf b) w:=by
 have hl:=hs.1
 simp only [List.length_map,Nat.mul_one] at hl
 cases hb:s.base with
 |none=>
  have:b= []:=by
   cases b with
   |nil=>rfl
   |cons x b=>
    obtain ⟨p,hp,_⟩:=hs.2 0 (by simp)
    rw [hb] at hp;cases hp
  subst this
  rfl
 |some p=>
  have:=Lib.run_loadBytesX (P:=Tryz.prog) w (b.map fun (x:Nat)=>(x:Int)) p .empty (fun j x hx=>by
   rw [List.getElem?_map] at hx
   cases hj:b[j]? with
   |none=>rw [hj] at hx;cases hx
   |some y=>
    rw [hj] at hx
    obtain rfl:=Option.some.inj hx
    obtain ⟨hjl,hje⟩:=List.getElem?_eq_some_iff.1 hj
    obtain ⟨q,hq,hc⟩:=hs.2 j (by simpa using hjl)
    rw [hb] at hq
    obtain rfl:=Option.some.inj hq
    rw [hc]
    simp [vB,hje])
  rw [List.length_map,hl] at this
  show (Extern.Bytes.loadBytes p s.len .empty).run Tryz.prog w=_
  rw [this]
  congr 1
  unfold strOf strOfNums Lib.bytesOf
  simp [ByteArray.empty,ByteArray.emptyWithCapacity]
  try rfl
end
end Go.Proofs.YtcdpblipagajiaaGreat
namespace Go.Proofs.YtcdpblipagajiaaGreat
open Go Go.Vc Go.Inc Go.Sym
section
variable {E w:World} {F:List HP}
set_option maxRecDepth 20000
theorem ixb_c {L:List Nat} {s:Sl} {c:Nat} {K:Int→World→Prop} (hL:All256 L) (hc:c<256) (hs:SlT 1 s (L.map vB) w) (hK:K (L.idxOf c:Int) w):
  Ext Tryz.prog n_internal_bytealg_IndexByte ⟨[.slice s.base s.len s.cap,.int .u8 (c:Int)]⟩ [kI] w K:=by
 have hi:=hL.idx hc
 have hll:=hL.len
 have hsz:(strOf L).size=256:=by
  have:=congrArg List.length (strOf_data L)
  rw [List.length_map,hll] at this
  simpa using this
 have hget: ∀i,i<256→(strOf L)[i]! =UInt8.ofNat (L.getD i 0):=fun i h=>by
  have h1:=strOf_data L
  have h2:(strOf L).data.toList[i]? =some (UInt8.ofNat (L.getD i 0)):=by
   rw [h1,List.getElem?_map,List.getD_eq_getElem?_getD,List.getElem?_eq_getElem (by omega)];rfl
  have h3:i<(strOf L).size:=by omega
  rw [getElem!_pos (strOf L) i h3]
  rw [Array.getElem?_toList] at h2
  have h4:i<(strOf L).data.size:=h3
  rw [Array.getElem?_eq_getElem h4] at h2
  exact Option.some.inj h2
 have hf:(List.range (strOf L).size).find? (fun i=>(strOf L)[i]! ==UInt8.ofNat c)=some (L.idxOf c):=by
  rw [hsz,List.find?_range_eq_some]
  refine ⟨?_,List.mem_range.2 hi.1,fun j hj=> ?_⟩
  ·rw [hget _ hi.1,hi.2];simp
  ·rw [hget j (by omega)]
   have hjl:=hL.get (p:=j) (by omega)
   have hne:L.getD j 0≠c:=fun e=>by
    have:=hL.idx_at (p:=j) (by omega)
    rw [e] at this;omega
   simp only [Bool.not_eq_true',beq_eq_false_iff_ne,ne_eq]
   intro e
   have:=congrArg UInt8.toNat e
   simp only [UInt8.toNat_ofNat'] at this
   omega
 have hr:(Extern.BytealgIndexByte.indexByte #[.slice s.base s.len s.cap,.int .u8 (c:Int)]).run Tryz.prog w= .ok (.int .i64 (L.idxOf c:Int)) w:=by
  show Sem.run _ (do
   let x←Extern.Bytes.bytesOf (.slice s.base s.len s.cap)
   let y←Extern.Bytes.asByte (.int .u8 (c:Int))
   match (List.range x.size).find? fun i=>x[i]! ==y with
   |some i=>pure (goInt i)
   |none=>pure (goInt (-1))) w=_
  have hb:(Extern.Bytes.asByte (.int .u8 (c:Int))).run Tryz.prog w= .ok (UInt8.ofNat c) w:=rfl
  simp only [Sem.run_bind,bytesOf_run hs,hb,Result.andThen_ok]
  rw [hf]
  rfl
 have hx:(callFunc n_internal_bytealg_IndexByte #[.slice s.base s.len s.cap,.int .u8 (c:Int)]).run Tryz.prog w= .ok (.value (.int .i64 (L.idxOf c:Int))) w:=by
  rw [run_callFunc_extern Tryz.func199 (by kernel_rfl) (by kernel_rfl) (by kernel_rfl) (e:=Extern.BytealgIndexByte.indexByte) (by kernel_rfl),hr];rfl
 unfold Ext
 rw [show (⟨[.slice s.base s.len s.cap,.int .u8 (c:Int)]⟩:Array Value)= #[.slice s.base s.len s.cap,.int .u8 (c:Int)] from rfl,hx]
 exact hK
theorem mput_c {L:List Nat} {c:Nat} {K:Array Value→Int→World→Prop} (h:Hp E w F) (hL:All256 L) (hc:c<256) (hK: ∀w',Hp E w' F→K ⟨byV (mtake L (L.idxOf c))⟩ (L.idxOf c:Int) w'):
  Cl Tryz.prog [.arr 256,kI] n_mtf_Put ⟨[.agg ⟨byV L⟩,.int .u8 (c:Int)]⟩ w K:=by
 refine mtf_Put.ok _ _ _ _ ?_
 unfold mtf_Put.E
 have hl:=hL.len
 have hi:=hL.idx hc
 have hn:(⟨byV L⟩:Array Value).size=256:=by simp [hl]
 have hz:(⟨List.replicate 256 (.int .u8 0)⟩:Array Value).size=256:=by simp
 have hm:(⟨byV (mtake L (L.idxOf c))⟩:Array Value).size=256:=by simp [(hL.take hi.1).len]
 refine Nw.mk h fun b4 w h=>Nw.mk h fun b6 w h=>Slc.whole (by decide) rfl rfl ?_
 refine bytes_IndexByte.ok _ _ _ _ ?_
 unfold bytes_IndexByte.E
 refine ixb_c hL hc (s:=⟨some ⟨b4,0,none⟩,256,256⟩) (h.tells (Tells.cons (Tells.blk (n:=256) (m:=256) (sz:=1) rfl (by simp [hl])))) ?_
 refine Ld.xw h hn ?_
 refine mtake_c h hl hi.1 fun w h=> ?_
 refine StA.q h hz hm byV_scalar fun w h=>Ld.xw h hm ?_
 refine StA.q h hm hm byV_scalar fun w h=>Ld.xw h hm (hK w h.tl)
theorem zdown_iter {n b:Nat} (hn:n≤2147483647):Iter2 Tryz.prog E (.func (.func n_zerorun_down_1) ⟨[]⟩ ⟨[.pointer (some ⟨b,0,none⟩)]⟩) (dig n).length (fun i=> [Ki.enc kI (((dig n).getD i 0:Nat):Int)]) [bI b n] (fun _=>True):=by
 intro yv C G w K hg hy h hK hKG
 refine ClV.mk (by kernel_rfl) (zerorun_down_1.ok yv ⟨b,0,none⟩ K w ?_)
 unfold zerorun_down_1.E
 have h:Hp E w (bI b n::C 0):=h
 refine ⟨fun w=> ∃k m:Nat,m≤2147483647∧(dig n).drop k=dig m∧k≤(dig n).length∧Hp E w (bI b m::C k),fun w=>cellN b w,⟨0,n,hn,rfl,Nat.zero_le _,h⟩,?_⟩
 rintro w ⟨k,m,hm,hd,hk,h⟩
 refine Ld.xb (x:=(m:Int)) h rfl (IfB.dm (fun hlt=> ?_) (fun hge=> ?_))
 ·have hm0:0<m:=by omega
  rw [dig_pos hm0] at hd
  have hlt:k<(dig n).length:=by
   rcases Nat.lt_or_ge k (dig n).length with q|q
   ·exact q
   ·rw [List.drop_eq_nil_of_le q] at hd;cases hd
  have hx:(dig n).getD k 0=(m - 1) % 2:=by
   rw [List.drop_eq_getElem_cons hlt] at hd
   injection hd with e _
   rw [List.getD_eq_getElem?_getD,List.getElem?_eq_getElem hlt,Option.getD_some,e]
  have hd2:(dig n).drop (k+1)=dig ((m - 1)/2):=by rw [←List.drop_drop,hd];rfl
  refine Ld.xb (x:=(m:Int)) h rfl ?_
  have hmx:IntKind.max .i64=9223372036854775807:=rfl
  have e1:i64 ((m:Int) - 1)=((m - 1:Nat):Int):=by rw [i64_id (by omega)];omega
  have e2:iand .i64 ((m - 1:Nat):Int) 1=(((m - 1) % 2:Nat):Int):=by
   rw [show (1:Int)=((1:Nat):Int) from rfl,iand_nat (by omega) (by omega),Nat.and_one_is_mod]
  have e3:ishr .i64 ((m - 1:Nat):Int) 1=(((m - 1)/2:Nat):Int):=by
   rw [show (1:Int)=((1:Nat):Int) from rfl,ishr_nat (by decide)]
  rw [e1,e2]
  have he: [Value.int .i64 (((m - 1) % 2:Nat):Int)]= [Ki.enc kI (((dig n).getD k 0:Nat):Int)]:=by rw [hx]
  rw [he]
  refine hy k hlt [bI b m] w _ (h.perm (List.perm_append_comm (l₁:= [bI b m]))) (fun w h=> ?_) (fun w h=> ?_)
  ·have h:Hp E w (bI b m::C (k+1)):=h.perm (List.perm_append_comm (l₂:= [bI b m]))
   refine IfB.f rfl (Ld.xb (x:=(m:Int)) h rfl ⟨by decide,?_⟩)
   rw [e1,e3]
   refine St.xb h (by simp) rfl fun w3 h3=> ?_
   have h3:Hp E w3 (bI b ((m - 1)/2)::C (k+1)):=h3
   refine ⟨rfl,⟨k+1,(m - 1)/2,by omega,hd2,by omega,h3⟩,?_⟩
   show cellN b w3<cellN b _
   rw [cellN_eq (v:=(((m - 1)/2:Nat):Int)) h3 rfl,cellN_eq (v:=(m:Int)) (by assumption) rfl]
   omega
  ·exact IfB.t rfl (hKG k w hlt (h.perm (List.perm_append_comm (l₂:= [bI b m]))).drop)
 ·have hm0:m=0:=by omega
  subst hm0
  rw [dig_zero] at hd
  have:k=(dig n).length:=by
   have:=congrArg List.length hd
   rw [List.length_drop,List.length_nil] at this;omega
  subst this
  exact hK w h.drop
theorem zdig_c {n:Nat} {K:Sl→Int→World→Prop} (h:Hp E w F) (hn:n≤2147483647) (hl:(dig n).length≤1000000) (hK: ∀s w',Hp E w' (OwnS 1 s ((ints (dig n)).map vI)::F)→K s 0 w'):Cl Tryz.prog [kS,kI] n_zerorun_Digits ⟨[.int .i64 (n:Int)]⟩ w K:=by
 refine zerorun_Digits.ok _ _ _ ?_
 unfold zerorun_Digits.E
 refine Nw.mk h fun b3 w h=>IfB.df (by omega) (IfB.df (by omega) ?_)
 refine zerorun_down.ok _ _ _ ?_
 unfold zerorun_down.E
 refine Nw.mk h fun b w h=> ?_
 have h0:Hp E w (OutI b3 []::bI b n::F):=OutI.shut (s:=⟨none,0,0⟩) ((h.ownNil 1).at 2)
 refine Rng.one2 (E:=E) (k:=kI) (x:=fun i=>(((dig n).getD i 0:Nat):Int)) (n:=(dig n).length) (fun i=>OutI b3 ((dig n).take i)::F) (fun _=> [Nope]) (A:= [bI b n]) h0.p1 (fun _=>Tells.const trivial) (zdown_iter hn) ?_ ?_ ?_
 ·intro lr rec i A w Kt Kf hi h hKt _
  refine Beg.mk h fun w h=> ?_
  obtain ⟨s,_,h⟩:=(h.p1).ex
  have h:Hp E w (Blk b3 (.cells ⟨[slV s]⟩ 33 (0,0))::OwnS 1 s ((ints ((dig n).take i)).map vI)::Blk lr (rec 1)::(F++A)):=h
  refine Ld.xb (x:=s) h rfl (Nw.mk h fun b49 w h=> ?_)
  refine OutI.put (l:= []) h (by rw [List.length_take];omega) fun w h=>EndT.mk h.p1 fun w h=>hKt w ?_
  have e:(dig n).take i++ [(dig n).getD i 0]=(dig n).take (i+1):=by
   rw [List.take_add_one,List.getElem?_eq_getElem hi,List.getD_eq_getElem?_getD,List.getElem?_eq_getElem hi];rfl
  rw [e] at h
  exact h
 ·intro D w h
  rw [List.take_of_length_le (Nat.le_refl _)] at h
  obtain ⟨s,_,h⟩:=(h.p1).ex
  have h:Hp E w (Blk b3 (.cells ⟨[slV s]⟩ 33 (0,0))::OwnS 1 s ((ints (dig n)).map vI)::Blk D (.deferred (some []))::F):=h
  refine Ld.xb (x:=s) h rfl (St.xs h rfl rfl fun w h=> ?_)
  dsimp only [spl,over] at h
  refine Dfr.mk1 (h.at 2) fun w h=>Ld.xb (x:=s) h rfl (hK s w h.drop)
 ·intro i D w hi h
  exact (Hp.nope h).elim
end
end Go.Proofs.YtcdpblipagajiaaGreat
set_option maxRecDepth 20000
namespace Go.Vc
open Go
section
variable {E w:World} {F:List HP}
theorem eqArr_run {P:Program} {t e:TypeId} {n:Nat} {k:IntKind} {it:TypeInfo} (hu:P.underlying t=some (.array n e)) (hue:P.underlying e=some (.int k)) (hi:P.info? e=some it) (hs:it.size=1) {a b:List Int} (ha:a.length=n) (hb:b.length=n)
  (D:Nat) (hD:2≤D) (w:World):(Op.equalIn D t (.agg ⟨a.map (.int k)⟩) (.agg ⟨b.map (.int k)⟩)).run P w= .ok (a==b) w:=by
 obtain ⟨D,rfl⟩: ∃d,D=d+1+1:=⟨D - 2,by omega⟩
 rw [run_equalIn_array w (D+1) _ _ hu hi,cellsOf_info hi,hs,←ha,run_eqItems_ints hue (ha.trans hb.symm) _ (by simp),all_eq (ha.trans hb.symm)]
theorem partVC_agg {P:Program} {t:TypeId} {it:TypeInfo} {cs:List Value} {off:Nat} {K:Option Value→Prop} (h1:isAggB P t=some true) (h2:P.info? t=some it) (h:K (some (.agg ⟨(cs.drop off).take it.size⟩))):partVC P t cs off K:=by
 unfold partVC;rw [h1,h2];exact h
theorem partVC_sc {P:Program} {t:TypeId} {it:TypeInfo} {cs:List Value} {off:Nat} {v:Value} {K:Option Value→Prop} (h1:isAggB P t=some false) (h2:P.info? t=some it) (hv:cs[off]? =some v) (h:K (some v)):partVC P t cs off K:=by
 unfold partVC;rw [h1,h2,hv];exact h
end
end Go.Vc
namespace Go.Proofs.YtcdpblipagajiaaGreat
open Go Go.Vc
theorem infoInt: ∃it,Tryz.prog.info? 3=some it:=by
 have:(Tryz.prog.info? 3).isSome=true:=by kernel_rfl
 exact Option.isSome_iff_exists.1 this
theorem infoLen: ∃it,Tryz.prog.info? 36=some it∧it.size=258:=by
 have h:(Tryz.prog.info? 36).map (·.size)=some 258:=by kernel_rfl
 obtain ⟨it,h1,h2⟩:=Option.map_eq_some_iff.1 h
 exact ⟨it,h1,h2⟩
theorem infoU8: ∃it,Tryz.prog.info? 5=some it∧it.size=1:=by
 have h:(Tryz.prog.info? 5).map (·.size)=some 1:=by kernel_rfl
 obtain ⟨it,h1,h2⟩:=Option.map_eq_some_iff.1 h
 exact ⟨it,h1,h2⟩
theorem undLen:Tryz.prog.underlying 36=some (.array 258 5):=by kernel_rfl
theorem undU8:Tryz.prog.underlying 5=some (.int .u8):=by kernel_rfl
theorem undInt:Tryz.prog.underlying 3=some (.int .i64):=by kernel_rfl
end Go.Proofs.YtcdpblipagajiaaGreat
namespace Go.Sym
theorem dig_le (n:Nat):(dig n).length≤n:=by
 induction n using Nat.strongRecOn with
 |ind n ih=>
  rcases Nat.eq_zero_or_pos n with h|h
  ·rw [h,dig_zero];exact Nat.le_refl _
  ·rw [dig_pos h,List.length_cons]
   have:=ih ((n - 1)/2) (by omega)
   omega
end Go.Sym
namespace Go.Proofs.YtcdpblipagajiaaGreat
open Go Go.Vc Go.Inc Go.Sym
abbrev esA (L:List Nat) (r:Int):Array Value:=⟨byV L++ [.int .i64 r]⟩
theorem esA_size {L:List Nat} {r:Int} (h:L.length=256):(esA L r).size=257:=by simp [h]
theorem esA_scalar {L:List Nat} {r:Int}:(esA L r).toList.all scalarB=true:=by
 unfold esA
 rw [List.all_append,byV_scalar]
 rfl
section
variable {E w:World} {F:List HP}
set_option maxRecDepth 20000
theorem fieldsEs:(Tryz.prog.fieldsOf 110).toList.map (fun f=>(f.name== "_",f.type,f.offset))= [(false,108,0),(false,3,256)]:=by kernel_rfl
theorem undEs:Tryz.prog.underlying 110=some (.struct (Tryz.prog.fieldsOf 110)):=by kernel_rfl
theorem infoLst: ∃it,Tryz.prog.info? 108=some it∧it.size=256:=by
 have h:(Tryz.prog.info? 108).map (·.size)=some 256:=by kernel_rfl
 obtain ⟨it,h1,h2⟩:=Option.map_eq_some_iff.1 h
 exact ⟨it,h1,h2⟩
theorem undLst:Tryz.prog.underlying 108=some (.array 256 5):=by kernel_rfl
theorem EqW.es {L L':List Nat} {r r':Int} {K:Bool→Prop} (hl:L.length=256) (hl':L'.length=256) (hK: ∀b,K b):EqW Tryz.prog 110 (esA L r) (esA L' r') K:=by
 obtain ⟨it,hit⟩:=infoInt
 obtain ⟨jt,hjt,hjs⟩:=infoLst
 obtain ⟨kt,hkt,hks⟩:=infoU8
 obtain ⟨f1,f2,hfs,hf1,hf2⟩: ∃f1 f2,(Tryz.prog.fieldsOf 110).toList= [f1,f2]∧(f1.name== "_",f1.type,f1.offset)=(false,108,0)∧(f2.name== "_",f2.type,f2.offset)=(false,3,256):=by
  have h:=fieldsEs
  generalize (Tryz.prog.fieldsOf 110).toList=fs at h
  match fs,h with
  | [],h=>simp at h
  | [_],h=>simp at h
  |_::_::_::_,h=>simp at h
  | [f1,f2],h=>
   simp only [List.map_cons,List.map_nil,List.cons.injEq,and_true] at h
   exact ⟨f1,f2,rfl,h.1,h.2⟩
 simp only [Prod.mk.injEq] at hf1 hf2
 have hc: ∀{L:List Nat} {r:Int},L.length=256→(((esA L r).toList.drop 0).take 256)=(L.map fun (x:Nat)=>(x:Int)).map (.int .u8):=fun {L r} hl=>by
  unfold esA
  rw [List.drop_zero,List.take_append_of_le_length (by simp [hl]),List.take_of_length_le (by simp [hl]),List.map_map];rfl
 have hr: ∀{L:List Nat} {r:Int},L.length=256→(esA L r)[256]? =some (.int .i64 r):=fun {L r} hl=>by
  rw [←Array.getElem?_toList]
  show (byV L++ [.int .i64 r])[256]? =_
  rw [List.getElem?_append_right (by simp [hl])]
  simp [hl]
 obtain ⟨b,hb,hK'⟩:=eqVF_sound (P:=Tryz.prog) (d:=9) (rec:=fun t x y K=> ∃b,(∀D,9≤D→∀w,(Op.equalIn D t x y).run Tryz.prog w= .ok b w)∧K b) (fun t x y K h=>h) (xs:=esA L r) (ys:=esA L' r') (fs:= [f1,f2]) (K:=K) (by
  unfold eqVF
  rw [hf1.1]
  refine partVC_agg (it:=jt) (by rw [hf1.2.1];kernel_rfl) (by rw [hf1.2.1];exact hjt) (partVC_agg (it:=jt) (by rw [hf1.2.1];kernel_rfl) (by rw [hf1.2.1];exact hjt) ?_)
  rw [hf1.2.2,hjs,hf1.2.1,hc hl,hc hl']
  refine ⟨_,fun D hD w=>eqArr_run undLst undU8 hkt hks (by simpa using hl) (by simpa using hl') D (by omega) w,?_⟩
  unfold eqVF
  rw [hf2.1]
  refine partVC_sc (it:=it) (v:= .int .i64 r) (by rw [hf2.2.1];kernel_rfl) (by rw [hf2.2.1];exact hit) (by rw [hf2.2.2,Array.getElem?_toList];exact hr hl) (partVC_sc (it:=it) (v:= .int .i64 r') (by rw [hf2.2.1];kernel_rfl) (by rw [hf2.2.1];exact hit) (by rw [hf2.2.2,Array.getElem?_toList];exact hr hl') ?_)
  rw [hf2.2.1]
  exact ⟨r==r',fun D hD w=>by obtain ⟨D,rfl⟩: ∃k,D=k+1:=⟨D - 1,by omega⟩;exact run_equalIn_int w D _ _ _ _ _ undInt,hK _⟩)
 refine ⟨b,fun w=> ?_,hK'⟩
 rw [run_equalIn_struct w 9999 _ _ _ undEs (by kernel_rfl),hfs]
 exact hb 9999 (by decide) w
abbrev esP:Nat→Option (Nat×Nat):=(#[(0,256),(256,1)][·]?)
theorem built_es (ps:List (Nat×Value)):Tryz.prog.built 110 ps=Instr.fill esP ⟨List.replicate 256 (.int .u8 0)++ [.int .i64 0]⟩ ps:=by kernel_rfl
theorem Bld.es {L:List Nat} {K:Array Value→Prop} (hl:L.length=256) (hK:K (esA L 0)):Bld Tryz.prog 110 [(0,.agg ⟨byV L⟩)] K:=by
 refine ⟨_,?_,hK⟩
 rw [built_es]
 have:=fill_step (place:=esP) (i:=0) (v:= .agg ⟨byV L⟩) (rest:= []) (pre:= []) (mid:=List.replicate 256 (.int .u8 0)) (post:= [.int .i64 0]) rfl rfl List.length_replicate (by show (⟨byV L⟩:Array Value).size=_;simp [hl])
 exact this
abbrev esZ:Array Value:=⟨List.replicate 256 (Value.int .u8 0)++ [Value.int .i64 0]⟩
theorem es_z:(⟨List.replicate 256 (.int .u8 0)++ [.int .i64 0]⟩:Array Value).size=257:=by simp
theorem senew_c {K:Array Value→World→Prop} (h:Hp E w F) (hK: ∀w',Hp E w' F→K (esA (List.range 256) 0) w'):Cl Tryz.prog [.arr 257] n_symenc_New ⟨[]⟩ w K:=by
 refine symenc_New.ok _ _ ?_
 unfold symenc_New.E
 refine Nw.mk h fun b2 w h=>mnew_c h fun w h=>Bld.es (by simp) ?_
 have hd:(esA (List.range 256) 0).size=257:=esA_size (by simp)
 refine StA.q h es_z hd esA_scalar fun w h=> ?_
 exact Ld.xw h hd (hK _ h.tl)
theorem sevalid_c {L:List Nat} {r:Nat} {K:Bool→World→Prop} (h:Hp E w F) (hL:All256 L) (hr:r≤2147483647) (hK: ∀w',Hp E w' F→K true w'):Cl Tryz.prog [kB] n_symenc_Valid ⟨[.agg (esA L (r:Int))]⟩ w K:=by
 refine symenc_Valid.ok _ _ _ ?_
 unfold symenc_Valid.E
 have hLb:=byV_len hL.len
 refine Nw.mk h fun b3 w h=> ?_
 have h:=h.drew (n:=w.drawn+1)
 refine ⟨HoldB b3 _ _ _,h.hb,?_⟩
 refine LdS.qw (fun _ h=>h) hLb rfl ?_
 refine senew_c h fun w h=>⟨h.hb,?_⟩
 refine EqW.es hL.len (by simp) fun b=> ?_
 refine IfB.mk (fun _=>hK _ h.tl) fun _=> ?_
 (try simp only [Join_eq,NilCk_some,add_mk,Nat.zero_add,Nat.add_zero,Nat.reduceAdd,Bool.not_true,Bool.not_false,IfB_t,IfB_f,Option.isNone])
 refine LdS.q (fun _ h=>h) hLb rfl rfl (IfB.dt (by omega) ?_)
 refine LdS.q (fun _ h=>h) hLb rfl rfl (IfB.dt (by omega) ?_)
 refine LdS.p (fun _ h=>h) hLb ?_
 exact mvalidL_c h hL fun w h=>⟨h.hb,hK _ h.tl⟩
theorem sestep_c {L:List Nat} {r:Nat} {s:Sl} {b:List Nat} {K:Array Value→Sl→Int→World→Prop} (h:Hp E w F) (hL:All256 L) (hs:Tells F (SlT 1 s (b.map vB))) (hb: ∀x∈b,x<256) (hr:r+b.length≤1000000)
  (hK: ∀s' w',Hp E w' (OwnS 1 s' ((ints (encS L r b).1).map vI)::F)→All256 (encS L r b).2.1→(encS L r b).2.2≤1000000→K (esA (encS L r b).2.1 ((encS L r b).2.2:Int)) s' 0 w'):
  Cl Tryz.prog [.arr 257,kS,kI] n_symenc_Step ⟨[.agg (esA L (r:Int)),.slice s.base s.len s.cap]⟩ w K:=by
 refine symenc_Step.ok _ _ _ _ ?_
 unfold symenc_Step.E
 have hLb:=byV_len hL.len
 have hlen:b.length=s.len:=by have:=(h.tells hs).1;simpa using this
 (try simp only [Join_eq,NilCk_some,add_mk,Nat.zero_add,Nat.add_zero,Nat.reduceAdd,Bool.not_true,Bool.not_false,IfB_t,IfB_f,Option.isNone])
 refine Nw.mk h fun b4 w h=>Nw.mk h fun b6 w h=> ?_
 refine Ld.qw h hLb rfl (sevalid_c h hL (by omega) fun w h=> ?_)
 with_reducible refine IfB.ntt ?_
 refine Ld.q h hLb rfl rfl ?_
 rw [i64_id (by omega)]
 refine IfB.df (by omega) ?_
 refine ⟨fun o i w=> ∃(k:Nat) (L':List Nat) (r':Nat) (out:List Nat),i=(k:Int)∧k≤b.length∧All256 L'∧out.length+r'≤r+k∧
  encS L r b=(out++(encS L' r' (b.drop k)).1,(encS L' r' (b.drop k)).2)∧
  Hp E w (OwnS 1 o ((ints out).map vI)::Blk b6 (.cells esZ 110 (0,0))::Blk b4 (.cells (esA L' (r':Int)) 110 (0,0))::F),
  fun _ i _=>b.length - i.toNat,⟨0,L,r,[],rfl,by omega,hL,by simp,by simp,h.ownNil 1⟩,?_⟩
 rintro o i w ⟨k,L',r',out,rfl,hk,hL',hlo,he,h⟩
 have hLb':=byV_len hL'.len
 refine IfB.dm (fun hlt=> ?_) (fun hge=> ?_)
 ·have hlt:k<b.length:=by omega
  have hc:=hb _ (List.getElem_mem hlt)
  have hi:=hL'.idx hc
  refine Idx.rd ((h.tl:Hp E w F).tells hs) (by omega) (by omega) fun q _ hq=> ?_
  refine Ld.sc (s:= .int .u8) (b[k]:Int) (by rw [hq];simp [Sc.enc,vB]) ?_
  refine Ld.p h hLb' (mput_c h hL' hc fun w h=> ?_)
  have hm:(⟨byV (mtake L' (L'.idxOf b[k]))⟩:Array Value).size=256:=by simp [(hL'.take hi.1).len]
  have hLm:=hL'.take hi.1
  have hLbm:=byV_len hLm.len
  refine StA.xm (pre:= []) (mid:=byV L') (post:= [.int .i64 (r':Int)]) h rfl rfl hLb' hm (fun v hv=>List.all_eq_true.1 byV_scalar v hv) fun w h=> ?_
  have h:Hp E w (OwnS 1 o ((ints out).map vI)::Blk b6 (.cells esZ 110 (0,0))::Blk b4 (.cells (esA (mtake L' (L'.idxOf b[k])) (r':Int)) 110 (0,0))::F):=h
  rw [List.drop_eq_getElem_cons hlt] at he
  rw [i64_id (x:=(k:Int)+1) (by omega)]
  by_cases h0:L'.idxOf b[k]=0
  ·rw [encS,if_pos h0] at he
   rw [h0] at h hLm hLbm⊢
   refine IfB.et rfl (Ld.q h hLbm rfl rfl ?_)
   rw [i64_id (by omega)]
   refine St.q h hLbm rfl rfl rfl fun w h=> ?_
   dsimp only [spl,over] at h
   rw [show (r':Int)+1=((r'+1:Nat):Int) by omega] at h
   exact ⟨⟨k+1,_,r'+1,out,by omega,by omega,hLm,by omega,he,h⟩,by first|omega|(dsimp only;omega)⟩
  ·rw [encS,if_neg h0] at he
   refine IfB.ef (by omega) (Ld.q h hLbm rfl rfl ?_)
   have hdl:=dig_le r'
   refine zdig_c h (by omega) (by omega) fun s1 w h=> ?_
   have l1:=h.ownLen
   have l2:=(h.at 1).ownLen
   simp only [ints,List.length_map,Nat.mul_one] at l1 l2
   refine run_append (s:=o) (ys:=(ints (dig r')).map vI) (n:=s1.len) ty_ints (by decide) (.inl ⟨3,by kernel_rfl⟩) (h.at 1) (.inl ⟨s1.base,s1.len,s1.cap,rfl,rfl,h.tells Tells.own⟩) (by simp [ints,l1]) vI_scalar (by omega) (by omega) fun s2 w h hl2=> ?_
   have h:=h.no 1
   refine Nw.mk h fun b40 w h=> ?_
   rw [i64_id (by omega)] at h
   refine run_append (s:=s2) (ys:= [vI ((L'.idxOf b[k]:Int)+1)]) (n:=1) ty_ints (by decide) (.inl ⟨3,by kernel_rfl⟩) (h.at 1) (.inl ⟨some ⟨b40,0,none⟩,1,1,rfl,rfl,h.tells (Tells.blk rfl rfl)⟩) rfl (by intro y hy;rw [List.mem_singleton] at hy;rw [hy];rfl) (by omega) (by omega) fun s3 w h _=> ?_
   have h:=h.no 1
   refine St.q (b:=b4) h hLbm rfl rfl rfl fun w h=> ?_
   dsimp only [spl,over] at h
   refine ⟨⟨k+1,_,0,out++(dig r'++ [L'.idxOf b[k]+1]),by omega,by omega,hLm,?_,?_,?_⟩,by first|omega|(dsimp only;omega)⟩
   ·rw [List.length_append,List.length_append,List.length_singleton];omega
   ·rw [he];simp
   ·rw [show (ints (out++(dig r'++ [L'.idxOf b[k]+1]))).map vI=(ints out).map vI++(ints (dig r')).map vI++ [vI ((L'.idxOf b[k]:Int)+1)] by simp [ints]]
    exact h
 ·have hk2:k=b.length:=by omega
  subst hk2
  rw [List.drop_of_length_le (Nat.le_refl _),encS,List.append_nil] at he
  rw [he] at hK
  dsimp only at hK
  refine Ld.qw h hLb' rfl ?_
  refine StA.q h es_z (esA_size hL'.len) esA_scalar fun w h=>Ld.xw h (esA_size hL'.len) (hK o w h.keep1 hL' (by omega))
theorem seend_c {L:List Nat} {r:Nat} {K:Sl→Int→World→Prop} (h:Hp E w F) (hL:All256 L) (hr:r≤1000000) (hK: ∀s' w',Hp E w' (OwnS 1 s' ((ints (dig r++ [257])).map vI)::F)→K s' 0 w'):Cl Tryz.prog [kS,kI] n_symenc_End ⟨[.agg (esA L (r:Int))]⟩ w K:=by
 refine symenc_End.ok _ _ _ ?_
 unfold symenc_End.E
 have hLb:=byV_len hL.len
 (try simp only [Join_eq,NilCk_some,add_mk,Nat.zero_add,Nat.add_zero,Nat.reduceAdd,Bool.not_true,Bool.not_false,IfB_t,IfB_f,Option.isNone])
 refine Nw.mk h fun b3 w h=>Ld.qw h hLb rfl (sevalid_c h hL (by omega) fun w h=> ?_)
 with_reducible refine IfB.ntt ?_
 have hdl:=dig_le r
 refine Ld.q h hLb rfl rfl (zdig_c h (by omega) (by omega) fun s1 w h=>Nw.mk h fun b12 w h=> ?_)
 have l1:=(h.at 1).ownLen
 simp only [ints,List.length_map,Nat.mul_one] at l1
 refine run_append (s:=s1) (ys:= [vI 257]) (n:=1) ty_ints (by decide) (.inl ⟨3,by kernel_rfl⟩) (h.at 1) (.inl ⟨some ⟨b12,0,none⟩,1,1,rfl,rfl,h.tells (Tells.blk rfl rfl)⟩) rfl (by intro y hy;rw [List.mem_singleton] at hy;rw [hy];rfl) (by omega) (by omega) fun s3 w h _=>hK s3 w ?_
 rw [show (ints (dig r++ [257])).map vI=(ints (dig r)).map vI++ [vI 257] by simp [ints]]
 exact h.keep1
theorem seall_c {s:Sl} {b:List Nat} {K:Sl→World→Prop} (h:Hp E w F) (hs:Tells F (SlT 1 s (b.map vB))) (hb: ∀x∈b,x<256) (hr:b.length≤1000000) (hK: ∀s' w',Hp E w' (OwnS 1 s' ((ints (syms b)).map vI)::F)→K s' w'):
  Cl Tryz.prog [kS] n_symenc_All ⟨[.slice s.base s.len s.cap]⟩ w K:=by
 refine symenc_All.ok _ _ _ ?_
 unfold symenc_All.E
 refine senew_c h fun w h=>sestep_c (r:=0) h All256.range hs hb (by rw [Nat.zero_add];exact hr) fun s1 w h hL2 hr2=>Nw.mk h fun b9 w h=> ?_
 refine StA.q h es_z (esA_size hL2.len) esA_scalar fun w h=>Ld.xw h (esA_size hL2.len) ?_
 refine seend_c h hL2 hr2 fun s2 w h=> ?_
 have l1:=h.ownLen
 have l2:=(h.at 2).ownLen
 have e0:(encS (List.range 256) 0 b).1.length+(encS (List.range 256) 0 b).2.2≤b.length:=by
  have: ∀(b L:List Nat) (r:Nat),(encS L r b).1.length+(encS L r b).2.2≤r+b.length:=by
   intro b
   induction b with
   |nil=>intro L r;simp [encS]
   |cons c b ih=>
    intro L r
    rw [encS]
    split
    ·have:=ih (mtake L 0) (r+1)
     simp only [List.length_cons];omega
    ·have:=ih (mtake L (L.idxOf c)) 0
     have:=dig_le r
     simp only [List.length_append,List.length_cons];omega
  simpa using this b (List.range 256) 0
 have hdl:=dig_le (encS (List.range 256) 0 b).2.2
 simp only [ints,List.length_map,Nat.mul_one,List.length_append,List.length_singleton] at l1 l2
 refine run_append (s:=s1) (ys:=(ints (dig (encS (List.range 256) 0 b).2.2++ [257])).map vI) (n:=s2.len) ty_ints (by decide) (.inl ⟨3,by kernel_rfl⟩) (h.at 2) (.inl ⟨s2.base,s2.len,s2.cap,rfl,rfl,h.tells Tells.own⟩) (by simp [ints,←l1]) vI_scalar (by omega) (by omega) fun s3 w h _=>hK s3 w ?_
 rw [show (ints (syms b)).map vI=(ints (encS (List.range 256) 0 b).1).map vI++(ints (dig (encS (List.range 256) 0 b).2.2++ [257])).map vI by unfold syms symsFrom;simp [ints]]
 exact h.keep1
end
end Go.Proofs.YtcdpblipagajiaaGreat
namespace Go.Proofs.YtcdpblipagajiaaGreat
open Go Go.Vc
def lengthtable_Put.E (w_1:(Option Addr)) (l2:(Array Value)) (R:Int→World→Prop) (w:World):Prop:=
 Nw 36 l2 w fun (b4:Nat) (w_3:World)=>
 Ld (.arr 258) (⟨b4,0,none⟩:Addr) w_3 fun (x5:(Array Value))=>
 Cl Tryz.prog [kS,kI] n_lengthtable_Of ⟨[(.agg x5)]⟩ w_3 fun (r7:Sl) (r8:Int) (w_6:World)=>
 IfB ((r8:Int) !=(0:Int))
 (R (2) w_6)
 (IfB (Option.isNone (w_1:Option Addr))
 (R (2) w_6)
 (∃(I_9:Int→World→Prop) (m_10:Int→World→Nat),I_9 (0) w_6∧
 ∀(t22_11:Int),∀(w_12:World),I_9 t22_11 w_12→
 IfB (decide ((t22_11:Int)<((r7.len:Int):Int)))
 (Idx r7 t22_11 1 fun (q13:Addr)=>
 Ld kI q13 w_12 fun (x14:Int)=>
 Cl Tryz.prog [kB] n_bitwriter_Writer_Put ⟨[(.pointer w_1),(.int .u32 (u32 x14)),(.int .i64 1)]⟩ w_12 fun (r16:Bool) (w_15:World)=>
 I_9 ((i64 ((t22_11:Int)+(1:Int)))) w_15∧m_10 ((i64 ((t22_11:Int)+(1:Int)))) w_15<m_10 t22_11 w_12)
 (R (0) w_12)))
theorem lengthtable_Put.ok (w_1:(Option Addr)) (l2:(Array Value)) (R:Int→World→Prop) (w:World) (h:lengthtable_Put.E w_1 l2 R w):Cl Tryz.prog [kI] n_lengthtable_Put ⟨[(.pointer w_1),(.agg l2)]⟩ w R:=
 calls_of_eq Tryz.mix Tryz.f47 [(.pointer w_1),(.agg l2)] [kI] R 31 [.tmp 4] (by kernel_rfl) (by kernel_rfl) (by kernel_rfl) (by kernel_rfl) (by kernel_rfl)
  (.s .o (.s .o (.s (.s .o (.c (.s .o .o) .o)) (.s (.s .o (.b (.l [(22,kI)] (.s .o (.s (.c .o .o) (.s (.b (.s .o .o)) .o)))))) (.s .o .o)))))
  (by kernel_rfl) h
set_option maxRecDepth 100000 in
def lengthtable_Read.E (l1:Sl) (R:(Array Value)→Int→Int→World→Prop) (w:World):Prop:=
 Nw 36 ⟨List.replicate 258 (.int .u8 0)⟩ w fun (b3:Nat) (w_2:World)=>
 Nw 141 ⟨List.replicate 258 (.int .u8 0)++ [(.int .i64 0),(.int .i64 0),(.int .i64 0),(.int .i64 0)]⟩ w_2 fun (b5:Nat) (w_4:World)=>
 ∃(I_6:Int→World→Prop) (m_7:Int→World→Nat),I_6 (0) w_4∧
 ∀(t12_8:Int),∀(w_9:World),I_6 t12_8 w_9→
 IfB (decide ((t12_8:Int)<((l1.len:Int):Int)))
 (Idx l1 t12_8 1 fun (q10:Addr)=>
 Ld kI q10 w_9 fun (x11:Int)=>
 0≤(1:Int)∧
 IfB (((ishr .i64 (x11:Int) (1:Int)):Int) !=(0:Int))
 (Ld (.arr 258) (⟨b3,0,none⟩:Addr) w_9 fun (x12:(Array Value))=>
 StA 258 (⟨b3,0,none⟩:Addr) x12 w_9 fun (w_13:World)=>
 Ld (.arr 258) (⟨b3,0,none⟩:Addr) w_13 fun (res14:(Array Value))=>
 R (res14) (0) (2) w_13)
 (Ld (.arr 262) (⟨b5,0,none⟩:Addr) w_9 fun (x15:(Array Value))=>
 Cl Tryz.prog [(.arr 262),kB] n_lengthtable_next ⟨[(.agg x15),(.int .i64 x11)]⟩ w_9 fun (r17:(Array Value)) (r18:Bool) (w_16:World)=>
 Nw 141 ⟨List.replicate 258 (.int .u8 0)++ [(.int .i64 0),(.int .i64 0),(.int .i64 0),(.int .i64 0)]⟩ w_16 fun (b20:Nat) (w_19:World)=>
 StA 262 (⟨b20,0,none⟩:Addr) r17 w_19 fun (w_21:World)=>
 IfB (!r18)
 (Ld (.arr 258) (⟨b3,0,none⟩:Addr) w_21 fun (x22:(Array Value))=>
 StA 258 (⟨b3,0,none⟩:Addr) x22 w_21 fun (w_23:World)=>
 Ld (.arr 258) (⟨b3,0,none⟩:Addr) w_23 fun (res24:(Array Value))=>
 R (res24) (0) (100) w_23)
 (Ld (.arr 262) (⟨b20,0,none⟩:Addr) w_21 fun (x25:(Array Value))=>
 StA 262 (⟨b5,0,none⟩:Addr) x25 w_21 fun (w_26:World)=>
 Ld kI ((⟨b5,0,none⟩:Addr).add 258) w_26 fun (Symbol27:Int)=>
 IfB ((Symbol27:Int)==(258:Int))
 (Ld (.arr 258) ((⟨b5,0,none⟩:Addr).add 0) w_26 fun (Lengths28:(Array Value))=>
 StA 258 (⟨b3,0,none⟩:Addr) Lengths28 w_26 fun (w_29:World)=>
 Ld (.arr 258) (⟨b3,0,none⟩:Addr) w_29 fun (res30:(Array Value))=>
 R (res30) ((i64 ((t12_8:Int)+(1:Int)))) (0) w_29)
 (I_6 ((i64 ((t12_8:Int)+(1:Int)))) w_26∧m_7 ((i64 ((t12_8:Int)+(1:Int)))) w_26<m_7 t12_8 w_9))))
 (Ld (.arr 258) (⟨b3,0,none⟩:Addr) w_9 fun (x31:(Array Value))=>
 StA 258 (⟨b3,0,none⟩:Addr) x31 w_9 fun (w_32:World)=>
 Ld (.arr 258) (⟨b3,0,none⟩:Addr) w_32 fun (res33:(Array Value))=>
 R (res33) (0) (50) w_32)
set_option maxRecDepth 100000 in
theorem lengthtable_Read.ok (l1:Sl) (R:(Array Value)→Int→Int→World→Prop) (w:World) (h:lengthtable_Read.E l1 R w):Cl Tryz.prog [(.arr 258),kI,kI] n_lengthtable_Read ⟨[(.slice l1.base l1.len l1.cap)]⟩ w R:=
 calls_of_eq Tryz.mix Tryz.f52 [(.slice l1.base l1.len l1.cap)] [(.arr 258),kI,kI] R 40 [.cell 2 36,.tmp 3,.tmp 4] (by kernel_rfl) (by kernel_rfl) (by kernel_rfl) (by kernel_rfl) (by kernel_rfl)
  (.s .o (.s .o (.s (.s .o (.b (.l [(12,kI)] (.s .o (.s (.c .o .o) (.s (.b (.s .o (.s (.s .o (.c (.s .o .o) .o)) (.s .o (.s (.s .o (.c (.s .o .o) .o)) (.s .o (.s .o (.c (.s .o .o) .o)))))))) .o)))))) (.s .o .o))))
  (by kernel_rfl) h
set_option maxRecDepth 100000 in
def lengthtable_Of.E (l1:(Array Value)) (R:Sl→Int→World→Prop) (w:World):Prop:=
 Nw 36 l1 w fun (b3:Nat) (w_2:World)=>
 Nw 33 ⟨[(.slice none 0 0)]⟩ w_2 fun (b5:Nat) (w_4:World)=>
 Ld (.arr 258) (⟨b3,0,none⟩:Addr) w_4 fun (x6:(Array Value))=>
 Cl Tryz.prog [kB] n_kraft_Table ⟨[(.agg x6)]⟩ w_4 fun (r8:Bool) (w_7:World)=>
 IfB (!r8)
 (St (⟨b5,0,none⟩:Addr) (.slice none 0 0) w_7 fun (w_9:World)=>
 Ld kS (⟨b5,0,none⟩:Addr) w_9 fun (res10:Sl)=>
 R (res10) (2) w_9)
 (IdxP (⟨b3,0,none⟩:Addr) 258 0 1 fun (q11:Addr)=>
 Ld (kInt .u8) q11 w_7 fun (x12:Int)=>
 ∃(I_13:Int→World→Prop) (m_14:Int→World→Nat),I_13 (0) w_7∧
 ∀(t15_15:Int),∀(w_16:World),I_13 t15_15 w_16→
 IfB (decide ((t15_15:Int)<(4:Int)))
 (Drw w_16 fun (w_17:World)=>
 0≤((i64 ((3:Int) - (t15_15:Int))):Int)∧
 (Ld kS (⟨b5,0,none⟩:Addr) w_17 fun (x18:Sl)=>
 Nw 3 ⟨[(.int .i64 (iand .i64 ((ishr .i64 ((i64 x12):Int) ((i64 ((3:Int) - (t15_15:Int))):Int)):Int) (1:Int)))]⟩ w_17 fun (b20:Nat) (w_19:World)=>
 Run Tryz.prog (Builtin.append_ #[33,33] 33 ⟨[(.slice x18.base x18.len x18.cap),(.slice (⟨some ⟨b20,0,none⟩,1,1⟩:Sl).base (⟨some ⟨b20,0,none⟩,1,1⟩:Sl).len (⟨some ⟨b20,0,none⟩,1,1⟩:Sl).cap)]⟩) kS w_19 fun (s22:Sl) (w_21:World)=>
 St (⟨b5,0,none⟩:Addr) (.slice s22.base s22.len s22.cap) w_21 fun (w_23:World)=>
 ([]:List Nat)=([]:List Nat)∧I_13 ((i64 ((t15_15:Int)+(1:Int)))) w_23∧m_14 ((i64 ((t15_15:Int)+(1:Int)))) w_23<m_14 t15_15 w_16)∧
 (Nw 3 ⟨[(.int .i64 (iand .i64 ((ishr .i64 ((i64 x12):Int) ((i64 ((3:Int) - (t15_15:Int))):Int)):Int) (1:Int)))]⟩ w_17 fun (b25:Nat) (w_24:World)=>
 Ld kS (⟨b5,0,none⟩:Addr) w_24 fun (x26:Sl)=>
 Run Tryz.prog (Builtin.append_ #[33,33] 33 ⟨[(.slice x26.base x26.len x26.cap),(.slice (⟨some ⟨b25,0,none⟩,1,1⟩:Sl).base (⟨some ⟨b25,0,none⟩,1,1⟩:Sl).len (⟨some ⟨b25,0,none⟩,1,1⟩:Sl).cap)]⟩) kS w_24 fun (s28:Sl) (w_27:World)=>
 St (⟨b5,0,none⟩:Addr) (.slice s28.base s28.len s28.cap) w_27 fun (w_29:World)=>
 ([]:List Nat)=([]:List Nat)∧I_13 ((i64 ((t15_15:Int)+(1:Int)))) w_29∧m_14 ((i64 ((t15_15:Int)+(1:Int)))) w_29<m_14 t15_15 w_16))
 (Ld (.arr 258) (⟨b3,0,none⟩:Addr) w_16 fun (x30:(Array Value))=>
 ∃(I_31:List Nat→Int→Int→World→Prop) (m_32:Int→Int→World→Nat),I_31 ([]:List Nat) ((i64 x12)) (0) w_16∧
 ∀(ms36:List Nat),∀(was33:Int) (t28_34:Int),∀(w_35:World),I_31 ms36 was33 t28_34 w_35→
 IfB (decide ((t28_34:Int)<(258:Int)))
 (IdxV (.int .u8) x30 258 t28_34 fun (e37:Int)=>
 Cl Tryz.prog [kV] n_lengthtable_changes ⟨[(.int .i64 was33),(.int .i64 (i64 e37))]⟩ w_35 fun (r39:Value) (w_38:World)=>
 Rng Tryz.prog r39 [kI] w_38 (fun (l40:Nat) (rec_41:Nat→Obj) (y45:Int) (w_42:World) (Kt43 Kf44:World→Prop)=>
 Beg l40 rec_41 w_42 fun (w_46:World)=>
 Ld kS (⟨b5,0,none⟩:Addr) w_46 fun (x47:Sl)=>
 Nw 3 ⟨[(.int .i64 y45)]⟩ w_46 fun (b49:Nat) (w_48:World)=>
 Run Tryz.prog (Builtin.append_ #[33,33] 33 ⟨[(.slice x47.base x47.len x47.cap),(.slice (⟨some ⟨b49,0,none⟩,1,1⟩:Sl).base (⟨some ⟨b49,0,none⟩,1,1⟩:Sl).len (⟨some ⟨b49,0,none⟩,1,1⟩:Sl).cap)]⟩) kS w_48 fun (s51:Sl) (w_50:World)=>
 St (⟨b5,0,none⟩:Addr) (.slice s51.base s51.len s51.cap) w_50 fun (w_52:World)=>
 EndT l40 rec_41 w_52 Kt43)
 (fun (D53:Nat) (w_54:World)=>
 I_31 (D53::ms36:List Nat) ((i64 e37)) ((i64 ((t28_34:Int)+(1:Int)))) w_54∧m_32 ((i64 e37)) ((i64 ((t28_34:Int)+(1:Int)))) w_54<m_32 was33 t28_34 w_35)
 (fun (D55:Nat) (w_56:World)=>
 Dfr (D55::ms36:List Nat) w_56 fun (w_57:World)=>
 Ld kS (⟨b5,0,none⟩:Addr) w_57 fun (res58:Sl)=>
 R (res58) (0) w_57))
 (Ld kS (⟨b5,0,none⟩:Addr) w_35 fun (x59:Sl)=>
 St (⟨b5,0,none⟩:Addr) (.slice x59.base x59.len x59.cap) w_35 fun (w_60:World)=>
 Dfr (ms36:List Nat) w_60 fun (w_61:World)=>
 Ld kS (⟨b5,0,none⟩:Addr) w_61 fun (res62:Sl)=>
 R (res62) (0) w_61)))
set_option maxRecDepth 100000 in
theorem lengthtable_Of.ok (l1:(Array Value)) (R:Sl→Int→World→Prop) (w:World) (h:lengthtable_Of.E l1 R w):Cl Tryz.prog [kS,kI] n_lengthtable_Of ⟨[(.agg l1)]⟩ w R:=
 calls_of_eqR Tryz.mix Tryz.f94 [(.agg l1)] [kS,kI] R 44 [.cell 2 33,.tmp 3] (by kernel_rfl) (by kernel_rfl) (by kernel_rfl) (by kernel_rfl) (by kernel_rfl)
  (.s .o (.s (.s .o (.c (.s .o .o) .o)) (.s .o (.s (.s .o (.b (.l [(15,kI)] (.s .o (.s (.c .o .o) (.s (.b (.s .o (.b .o))) .o)))))) (.s (.s .o (.b (.l [(4,kI),(28,kI)] (.s .o (.s (.c .o .o) (.s (.b (.s .o (.s (.s .o (.b (.r [kI] .o (.b .o)))) .o))) .o)))))) (.s .o .o))))))
  (by kernel_rfl) h
set_option maxRecDepth 100000 in
def lengthtable_next.E (c1:(Array Value)) (bit2:Int) (R:(Array Value)→Bool→World→Prop) (w:World):Prop:=
 Nw 141 c1 w fun (b4:Nat) (w_3:World)=>
 Nw 141 ⟨List.replicate 258 (.int .u8 0)++ [(.int .i64 0),(.int .i64 0),(.int .i64 0),(.int .i64 0)]⟩ w_3 fun (b6:Nat) (w_5:World)=>
 Ld kI ((⟨b4,0,none⟩:Addr).add 259) w_5 fun (Bits7:Int)=>
 IfB (decide ((Bits7:Int)<(4:Int)))
 (Ld kI ((⟨b4,0,none⟩:Addr).add 260) w_5 fun (Now8:Int)=>
 0≤(1:Int)∧
 Ld kI ((⟨b4,0,none⟩:Addr).add 259) w_5 fun (Bits9:Int)=>
 St ((⟨b4,0,none⟩:Addr).add 260) (.int .i64 (ior .i64 ((ishl .i64 (Now8:Int) (1:Int)):Int) (bit2:Int))) w_5 fun (w_10:World)=>
 St ((⟨b4,0,none⟩:Addr).add 259) (.int .i64 (i64 ((Bits9:Int)+(1:Int)))) w_10 fun (w_11:World)=>
 Ld (.arr 262) (⟨b4,0,none⟩:Addr) w_11 fun (x12:(Array Value))=>
 StA 262 (⟨b6,0,none⟩:Addr) x12 w_11 fun (w_13:World)=>
 Ld (.arr 262) (⟨b6,0,none⟩:Addr) w_13 fun (res14:(Array Value))=>
 R (res14) (true) w_13)
 (Join (fun (t38_17:Bool) (w_18:World)=>
 IfB t38_17
 (Ld kI ((⟨b4,0,none⟩:Addr).add 258) w_18 fun (Symbol19:Int)=>
 Ld kI ((⟨b4,0,none⟩:Addr).add 260) w_18 fun (Now20:Int)=>
 IdxP ((⟨b4,0,none⟩:Addr).add 0) 258 Symbol19 1 fun (q21:Addr)=>
 St q21 (.int .u8 (u8 Now20)) w_18 fun (w_22:World)=>
 Ld kI ((⟨b4,0,none⟩:Addr).add 258) w_22 fun (Symbol23:Int)=>
 St ((⟨b4,0,none⟩:Addr).add 258) (.int .i64 (i64 ((Symbol23:Int)+(1:Int)))) w_22 fun (w_24:World)=>
 St ((⟨b4,0,none⟩:Addr).add 261) (.int .i64 0) w_24 fun (w_25:World)=>
 Held w_25 fun (S26:World→Prop) (w_27:World)=>
 LdS (.arr 262) (⟨b4,0,none⟩:Addr) S26 fun (x28:(Array Value))=>
 LdS kI ((⟨b4,0,none⟩:Addr).add 258) S26 fun (Symbol29:Int)=>
 IfB (decide ((Symbol29:Int)<(258:Int)))
 (StA 262 (⟨b6,0,none⟩:Addr) x28 w_27 fun (w_30:World)=>
 S26 w_30∧
 Ld (.arr 262) (⟨b6,0,none⟩:Addr) w_30 fun (res31:(Array Value))=>
 R (res31) (true) w_30)
 (LdS (.arr 258) ((⟨b4,0,none⟩:Addr).add 0) S26 fun (Lengths32:(Array Value))=>
 Cl Tryz.prog [kB] n_kraft_Table ⟨[(.agg Lengths32)]⟩ w_27 fun (r34:Bool) (w_33:World)=>
 S26 w_33∧
 StA 262 (⟨b6,0,none⟩:Addr) x28 w_33 fun (w_35:World)=>
 S26 w_35∧
 Ld (.arr 262) (⟨b6,0,none⟩:Addr) w_35 fun (res36:(Array Value))=>
 R (res36) (r34) w_35))
 (Ld kI ((⟨b4,0,none⟩:Addr).add 259) w_18 fun (Bits37:Int)=>
 IfB ((Bits37:Int)==(4:Int))
 (St ((⟨b4,0,none⟩:Addr).add 259) (.int .i64 5) w_18 fun (w_38:World)=>
 Ld (.arr 262) (⟨b4,0,none⟩:Addr) w_38 fun (x39:(Array Value))=>
 StA 262 (⟨b6,0,none⟩:Addr) x39 w_38 fun (w_40:World)=>
 Ld (.arr 262) (⟨b6,0,none⟩:Addr) w_40 fun (res41:(Array Value))=>
 R (res41) (true) w_40)
 (IfB ((bit2:Int)==(0:Int))
 (Ld kI ((⟨b4,0,none⟩:Addr).add 261) w_18 fun (Way42:Int)=>
 IfB ((Way42:Int) !=(2:Int))
 (Ld kI ((⟨b4,0,none⟩:Addr).add 260) w_18 fun (Now43:Int)=>
 Ld kI ((⟨b4,0,none⟩:Addr).add 260) w_18 fun (Now44:Int)=>
 St ((⟨b4,0,none⟩:Addr).add 260) (.int .i64 (i64 ((Now44:Int)+(1:Int)))) w_18 fun (w_45:World)=>
 St ((⟨b4,0,none⟩:Addr).add 261) (.int .i64 1) w_45 fun (w_46:World)=>
 St ((⟨b4,0,none⟩:Addr).add 259) (.int .i64 4) w_46 fun (w_47:World)=>
 Ld (.arr 262) (⟨b4,0,none⟩:Addr) w_47 fun (x48:(Array Value))=>
 StA 262 (⟨b6,0,none⟩:Addr) x48 w_47 fun (w_49:World)=>
 Ld (.arr 262) (⟨b6,0,none⟩:Addr) w_49 fun (res50:(Array Value))=>
 R (res50) ((decide ((Now43:Int)<(15:Int)))) w_49)
 (Ld kI ((⟨b4,0,none⟩:Addr).add 260) w_18 fun (Now51:Int)=>
 St ((⟨b4,0,none⟩:Addr).add 260) (.int .i64 (i64 ((Now51:Int)+(1:Int)))) w_18 fun (w_52:World)=>
 St ((⟨b4,0,none⟩:Addr).add 261) (.int .i64 1) w_52 fun (w_53:World)=>
 St ((⟨b4,0,none⟩:Addr).add 259) (.int .i64 4) w_53 fun (w_54:World)=>
 Ld (.arr 262) (⟨b4,0,none⟩:Addr) w_54 fun (x55:(Array Value))=>
 StA 262 (⟨b6,0,none⟩:Addr) x55 w_54 fun (w_56:World)=>
 Ld (.arr 262) (⟨b6,0,none⟩:Addr) w_56 fun (res57:(Array Value))=>
 R (res57) (false) w_56))
 (Ld kI ((⟨b4,0,none⟩:Addr).add 261) w_18 fun (Way58:Int)=>
 IfB ((Way58:Int) !=(1:Int))
 (Ld kI ((⟨b4,0,none⟩:Addr).add 260) w_18 fun (Now59:Int)=>
 Ld kI ((⟨b4,0,none⟩:Addr).add 260) w_18 fun (Now60:Int)=>
 St ((⟨b4,0,none⟩:Addr).add 260) (.int .i64 (i64 ((Now60:Int) - (1:Int)))) w_18 fun (w_61:World)=>
 St ((⟨b4,0,none⟩:Addr).add 261) (.int .i64 2) w_61 fun (w_62:World)=>
 St ((⟨b4,0,none⟩:Addr).add 259) (.int .i64 4) w_62 fun (w_63:World)=>
 Ld (.arr 262) (⟨b4,0,none⟩:Addr) w_63 fun (x64:(Array Value))=>
 StA 262 (⟨b6,0,none⟩:Addr) x64 w_63 fun (w_65:World)=>
 Ld (.arr 262) (⟨b6,0,none⟩:Addr) w_65 fun (res66:(Array Value))=>
 R (res66) ((decide ((Now59:Int)>(0:Int)))) w_65)
 (Ld kI ((⟨b4,0,none⟩:Addr).add 260) w_18 fun (Now67:Int)=>
 St ((⟨b4,0,none⟩:Addr).add 260) (.int .i64 (i64 ((Now67:Int) - (1:Int)))) w_18 fun (w_68:World)=>
 St ((⟨b4,0,none⟩:Addr).add 261) (.int .i64 2) w_68 fun (w_69:World)=>
 St ((⟨b4,0,none⟩:Addr).add 259) (.int .i64 4) w_69 fun (w_70:World)=>
 Ld (.arr 262) (⟨b4,0,none⟩:Addr) w_70 fun (x71:(Array Value))=>
 StA 262 (⟨b6,0,none⟩:Addr) x71 w_70 fun (w_72:World)=>
 Ld (.arr 262) (⟨b6,0,none⟩:Addr) w_72 fun (res73:(Array Value))=>
 R (res73) (false) w_72))))) fun (K_15:Bool→World→Prop)=>
 Ld kI ((⟨b4,0,none⟩:Addr).add 259) w_5 fun (Bits16:Int)=>
 IfB ((Bits16:Int)==(4:Int))
 (K_15 (((bit2:Int)==(0:Int))) w_5)
 (K_15 (false) w_5))
set_option maxRecDepth 100000 in
theorem lengthtable_next.ok (c1:(Array Value)) (bit2:Int) (R:(Array Value)→Bool→World→Prop) (w:World) (h:lengthtable_next.E c1 bit2 R w):Cl Tryz.prog [(.arr 262),kB] n_lengthtable_next ⟨[(.agg c1),(.int .i64 bit2)]⟩ w R:=
 calls_of_eq Tryz.mix Tryz.f100 [(.agg c1),(.int .i64 bit2)] [(.arr 262),kB] R 92 [.cell 4 141,.tmp 5] (by kernel_rfl) (by kernel_rfl) (by kernel_rfl) (by kernel_rfl) (by kernel_rfl)
  (.s .o (.s (.b (.s .o (.c .o (.j [(38,kB)] .o (.c (.s .o (.s .o (.s .o .o))) (.s .o (.c .o (.s .o (.c (.s .o (.s .o (.s .o .o))) (.s .o (.s .o (.s .o .o)))))))))))) (.s .o .o)))
  (by kernel_rfl) h
def lengthtable_changes.E (was1:Int) (now2:Int) (R:Value→World→Prop) (w:World):Prop:=
 Nw 3 ⟨[(.int .i64 was1)]⟩ w fun (b4:Nat) (w_3:World)=>
 Nw 3 ⟨[(.int .i64 now2)]⟩ w_3 fun (b6:Nat) (w_5:World)=>
 R ((.func (.func 185) ⟨[]⟩ ⟨[(.pointer (some (⟨b6,0,none⟩:Addr))),(.pointer (some (⟨b4,0,none⟩:Addr)))]⟩)) w_5
theorem lengthtable_changes.ok (was1:Int) (now2:Int) (R:Value→World→Prop) (w:World) (h:lengthtable_changes.E was1 now2 R w):Cl Tryz.prog [kV] n_lengthtable_changes ⟨[(.int .i64 was1),(.int .i64 now2)]⟩ w R:=
 calls_of_eq Tryz.mix Tryz.f143 [(.int .i64 was1),(.int .i64 now2)] [kV] R 6 [.tmp 4] (by kernel_rfl) (by kernel_rfl) (by kernel_rfl) (by kernel_rfl) (by kernel_rfl)
  (.s .o (.s .o .o))
  (by kernel_rfl) h
set_option maxRecDepth 100000 in
def lengthtable_changes_1.E (yield1:Value) (c2:Addr) (c3:Addr) (R:World→Prop) (w:World):Prop:=
 Ld kI c2 w fun (x4:Int)=>
 Ld kI c3 w fun (x5:Int)=>
 IfB (decide ((x4:Int)<(x5:Int)))
 (∃(I_6:World→Prop) (m_7:World→Nat),I_6 w∧
 ∀(w_8:World),I_6 w_8→
 Ld kI c3 w_8 fun (x9:Int)=>
 Ld kI c2 w_8 fun (x10:Int)=>
 IfB ((x9:Int) !=(x10:Int))
 (ClY Tryz.prog yield1 [kB] [(.int .i64 1)] w_8 fun (r12:Bool) (w_11:World)=>
 IfB (!r12)
 (R w_11)
 (ClY Tryz.prog yield1 [kB] [(.int .i64 1)] w_11 fun (r14:Bool) (w_13:World)=>
 IfB (!r14)
 (R w_13)
 (Ld kI c3 w_13 fun (x15:Int)=>
 St c3 (.int .i64 (i64 ((x15:Int)+((i64 ((1:Int) - ((i64 ((2:Int)*(1:Int))):Int))):Int)))) w_13 fun (w_16:World)=>
 ([]:List Nat)=([]:List Nat)∧I_6 w_16∧m_7 w_16<m_7 w_8)))
 (ClY Tryz.prog yield1 [kB] [(.int .i64 0)] w_8 fun (r18:Bool) (w_17:World)=>
 R w_17))
 (∃(I_19:World→Prop) (m_20:World→Nat),I_19 w∧
 ∀(w_21:World),I_19 w_21→
 Ld kI c3 w_21 fun (x22:Int)=>
 Ld kI c2 w_21 fun (x23:Int)=>
 IfB ((x22:Int) !=(x23:Int))
 (ClY Tryz.prog yield1 [kB] [(.int .i64 1)] w_21 fun (r25:Bool) (w_24:World)=>
 IfB (!r25)
 (R w_24)
 (ClY Tryz.prog yield1 [kB] [(.int .i64 0)] w_24 fun (r27:Bool) (w_26:World)=>
 IfB (!r27)
 (R w_26)
 (Ld kI c3 w_26 fun (x28:Int)=>
 St c3 (.int .i64 (i64 ((x28:Int)+((i64 ((1:Int) - ((i64 ((2:Int)*(0:Int))):Int))):Int)))) w_26 fun (w_29:World)=>
 ([]:List Nat)=([]:List Nat)∧I_19 w_29∧m_20 w_29<m_20 w_21)))
 (ClY Tryz.prog yield1 [kB] [(.int .i64 0)] w_21 fun (r31:Bool) (w_30:World)=>
 R w_30))
set_option maxRecDepth 100000 in
theorem lengthtable_changes_1.ok (yield1:Value) (c2:Addr) (c3:Addr) (R:World→Prop) (w:World) (h:lengthtable_changes_1.E yield1 c2 c3 R w):Cl Tryz.prog [] n_lengthtable_changes_1 ⟨[yield1,(.pointer (some c2)),(.pointer (some c3))]⟩ w R:=
 calls_of_eqR Tryz.mix Tryz.f185 [yield1,(.pointer (some c2)),(.pointer (some c3))] [] R 27 [] (by kernel_rfl) (by kernel_rfl) (by kernel_rfl) (by kernel_rfl) (by kernel_rfl)
  (.s .o (.s (.s .o (.c .o .o)) (.s (.b (.l [] (.s (.s .o (.c .o .o)) (.s (.b (.s .o (.c .o .o))) .o)))) .o)))
  (by kernel_rfl) h
end Go.Proofs.YtcdpblipagajiaaGreat
set_option maxRecDepth 20000
namespace Go.Tab
open Go.Inc
def turnOk (l:List Nat) (now way:Nat):Prop:=
 if l= [] then way=0∨(way=1∧0<now)∨(way=2∧now<15)
 else (way=0∧l.getLastD 0=now)∨(way=1∧l.getLastD 0<now)∨(way=2∧now<l.getLastD 0)
def TsOk (t:TS):Prop:=
 (t.bits<4∧t.l= []∧t.now<2^t.bits∧t.way=0)∨
 ((t.bits=4∨t.bits=5)∧t.l.length<258∧t.now≤15∧(∀x∈t.l,x≤15)∧turnOk t.l t.now t.way)
theorem TsOk.zero:TsOk t0:= .inl ⟨by decide,rfl,by decide,rfl⟩
theorem tstep_ok {ok:List Nat→Bool} {t t':TS} {b:Nat} (h:TsOk t) (hb:b≤1) (he:tstep ok t b= .more t'):TsOk t':=by
 obtain ⟨l,bits,now,way⟩:=t
 unfold TsOk at h
 unfold tstep at he
 dsimp only at h he
 rcases h with ⟨h1,h2,h3,h4⟩|⟨h1,h2,h3,h4,h5⟩
 ·rw [if_pos h1] at he
  cases he
  subst h2 h4
  by_cases h:bits=3
  ·subst h
   right
   refine ⟨.inl rfl,by simp,by simp at h3;dsimp only;omega,by simp,?_⟩
   simp [turnOk]
  ·left
   refine ⟨by dsimp only;omega,rfl,?_,rfl⟩
   dsimp only
   rw [Nat.pow_succ];omega
 ·rw [if_neg (by omega)] at he
  split at he
  ·split at he
   ·split at he
    ·cases he
     right
     refine ⟨.inl rfl,by simp;omega,h3,?_,?_⟩
     ·intro x hx
      rcases List.mem_append.1 hx with hx|hx
      ·exact h4 x hx
      ·rw [List.mem_singleton] at hx;omega
     ·unfold turnOk
      dsimp only
      rw [if_neg (by simp)]
      left
      simp
    ·split at he<;>cases he
   ·cases he
    right
    exact ⟨.inr rfl,h2,h3,h4,h5⟩
  ·split at he
   ·split at he
    ·rename_i hw
     cases he
     right
     refine ⟨.inl rfl,h2,by dsimp only;omega,h4,?_⟩
     unfold turnOk at h5⊢
     dsimp only
     split at h5
     ·rename_i hl
      rw [if_pos hl];omega
     ·rename_i hl
      rw [if_neg hl];omega
    ·cases he
   ·split at he
    ·rename_i hw
     cases he
     right
     refine ⟨.inl rfl,h2,by dsimp only;omega,h4,?_⟩
     unfold turnOk at h5⊢
     dsimp only
     split at h5
     ·rename_i hl
      rw [if_pos hl];omega
     ·rename_i hl
      rw [if_neg hl];omega
    ·cases he
theorem tstep_fin {ok:List Nat→Bool} {t:TS} {b:Nat} {l:List Nat} (h:TsOk t) (he:tstep ok t b= .fin l):l.length=258∧ok l=true:=by
 obtain ⟨l',bits,now,way⟩:=t
 unfold TsOk at h
 unfold tstep at he
 dsimp only at h he
 split at he
 ·cases he
 ·split at he
  ·split at he
   ·split at he
    ·cases he
    ·split at he
     ·rename_i hok
      cases he
      refine ⟨?_,hok⟩
      simp
      omega
     ·cases he
   ·cases he
  ·split at he
   ·split at he<;>cases he
   ·split at he<;>cases he
def pad (l:List Nat):List Nat:=l++List.replicate (258 - l.length) 0
theorem pad_len {l:List Nat} (h:l.length≤258):(pad l).length=258:=by simp [pad];omega
theorem pad_full {l:List Nat} (h:l.length=258):pad l=l:=by simp [pad,h]
theorem pad_set {l:List Nat} {x:Nat} (h:l.length<258):(pad l).set l.length x=pad (l++ [x]):=by
 unfold pad
 rw [List.set_append_right _ _ (Nat.le_refl _),Nat.sub_self]
 obtain ⟨m,hm⟩: ∃m,258 - l.length=m+1:=⟨257 - l.length,by omega⟩
 rw [hm,List.replicate_succ,List.set_cons_zero,List.length_append,List.length_singleton,show 258 - (l.length+1)=m by omega]
 simp
end Go.Tab
namespace Go.Proofs.YtcdpblipagajiaaGreat
open Go Go.Vc Go.Srt Go.Inc Go.Tab
abbrev tbV (l:List Nat):List Value:=l.map fun (n:Nat)=>Value.int .u8 (n:Int)
abbrev tbA (l:List Nat) (s b n wy:Int):Array Value:=⟨tbV l++ [.int .i64 s,.int .i64 b,.int .i64 n,.int .i64 wy]⟩
theorem tbV_len {l:List Nat} (h:l.length=258):(tbV l).length=258:=by simp [h]
section
variable {E w:World} {F:List HP}
theorem fieldsTb:(Tryz.prog.fieldsOf 141).toList.map (fun f=>(f.name== "_",f.type,f.offset))= [(false,36,0),(false,3,258),(false,3,259),(false,3,260),(false,3,261)]:=by kernel_rfl
theorem undTb:Tryz.prog.underlying 141=some (.struct (Tryz.prog.fieldsOf 141)):=by kernel_rfl
theorem heldTb:Tryz.prog.stoodInHeld 141=false:=by kernel_rfl
set_option maxRecDepth 20000 in
theorem EqW.tb {l:List Nat} {s b n wy:Int} {K:Bool→Prop} (hl:l.length=258) (hK:K true):EqW Tryz.prog 141 (tbA l s b n wy) (tbA l s b n wy) K:=by
 obtain ⟨it,hit⟩:=infoInt
 obtain ⟨jt,hjt,hjs⟩:=infoLen
 obtain ⟨kt,hkt,hks⟩:=infoU8
 obtain ⟨f1,f2,f3,f4,f5,hfs,hf1,hf2,hf3,hf4,hf5⟩: ∃f1 f2 f3 f4 f5,(Tryz.prog.fieldsOf 141).toList= [f1,f2,f3,f4,f5]∧(f1.name== "_",f1.type,f1.offset)=(false,36,0)∧(f2.name== "_",f2.type,f2.offset)=(false,3,258)∧(f3.name== "_",f3.type,f3.offset)=(false,3,259)∧(f4.name== "_",f4.type,f4.offset)=(false,3,260)∧(f5.name== "_",f5.type,f5.offset)=(false,3,261):=by
  have h:=fieldsTb
  generalize (Tryz.prog.fieldsOf 141).toList=fs at h
  match fs,h with
  | [],h=>simp at h
  | [_],h=>simp at h
  | [_,_],h=>simp at h
  | [_,_,_],h=>simp at h
  | [_,_,_,_],h=>simp at h
  |_::_::_::_::_::_::_,h=>simp at h
  | [f1,f2,f3,f4,f5],h=>
   simp only [List.map_cons,List.map_nil,List.cons.injEq,and_true] at h
   exact ⟨f1,f2,f3,f4,f5,rfl,h.1,h.2.1,h.2.2.1,h.2.2.2.1,h.2.2.2.2⟩
 simp only [Prod.mk.injEq] at hf1 hf2 hf3 hf4 hf5
 have hL:=tbV_len hl
 have hc:(((tbA l s b n wy).toList.drop 0).take 258)=(l.map fun (x:Nat)=>(x:Int)).map (.int .u8):=by
  rw [List.drop_zero,List.take_append_of_le_length (by omega),List.take_of_length_le (by omega),List.map_map];rfl
 have hint: ∀(x:Int) (D:Nat) (_:9≤D) (w:World),(Op.equalIn D 3 (.int .i64 x) (.int .i64 x)).run Tryz.prog w= .ok true w:=fun x D hD w=>by
  obtain ⟨D,rfl⟩: ∃k,D=k+1:=⟨D - 1,by omega⟩
  rw [run_equalIn_int w D _ _ _ _ _ undInt]
  simp
 obtain ⟨r,hr,hK'⟩:=eqVF_sound (P:=Tryz.prog) (d:=9) (rec:=fun t x y K=> ∃b,(∀D,9≤D→∀w,(Op.equalIn D t x y).run Tryz.prog w= .ok b w)∧K b) (fun t x y K h=>h) (xs:=tbA l s b n wy) (ys:=tbA l s b n wy) (fs:= [f1,f2,f3,f4,f5]) (K:=K) (by
  unfold eqVF
  rw [hf1.1]
  refine partVC_agg (it:=jt) (by rw [hf1.2.1];kernel_rfl) (by rw [hf1.2.1];exact hjt) (partVC_agg (it:=jt) (by rw [hf1.2.1];kernel_rfl) (by rw [hf1.2.1];exact hjt) ?_)
  rw [hf1.2.2,hjs,hf1.2.1,hc]
  refine ⟨_,fun D hD w=>eqArr_run undLen undU8 hkt hks (by simpa using hl) (by simpa using hl) D (by omega) w,?_⟩
  unfold eqVF
  rw [hf2.1]
  refine partVC_sc (it:=it) (v:= .int .i64 s) (by rw [hf2.2.1];kernel_rfl) (by rw [hf2.2.1];exact hit) (by rw [hf2.2.2];exact app_at (k:=0) hL) (partVC_sc (it:=it) (v:= .int .i64 s) (by rw [hf2.2.1];kernel_rfl) (by rw [hf2.2.1];exact hit) (by rw [hf2.2.2];exact app_at (k:=0) hL) ?_)
  rw [hf2.2.1]
  refine ⟨true,hint s,?_⟩
  unfold eqVF
  rw [hf3.1]
  refine partVC_sc (it:=it) (v:= .int .i64 b) (by rw [hf3.2.1];kernel_rfl) (by rw [hf3.2.1];exact hit) (by rw [hf3.2.2];exact app_at (k:=1) hL) (partVC_sc (it:=it) (v:= .int .i64 b) (by rw [hf3.2.1];kernel_rfl) (by rw [hf3.2.1];exact hit) (by rw [hf3.2.2];exact app_at (k:=1) hL) ?_)
  rw [hf3.2.1]
  refine ⟨true,hint b,?_⟩
  unfold eqVF
  rw [hf4.1]
  refine partVC_sc (it:=it) (v:= .int .i64 n) (by rw [hf4.2.1];kernel_rfl) (by rw [hf4.2.1];exact hit) (by rw [hf4.2.2];exact app_at (k:=2) hL) (partVC_sc (it:=it) (v:= .int .i64 n) (by rw [hf4.2.1];kernel_rfl) (by rw [hf4.2.1];exact hit) (by rw [hf4.2.2];exact app_at (k:=2) hL) ?_)
  rw [hf4.2.1]
  refine ⟨true,hint n,?_⟩
  unfold eqVF
  rw [hf5.1]
  refine partVC_sc (it:=it) (v:= .int .i64 wy) (by rw [hf5.2.1];kernel_rfl) (by rw [hf5.2.1];exact hit) (by rw [hf5.2.2];exact app_at (k:=3) hL) (partVC_sc (it:=it) (v:= .int .i64 wy) (by rw [hf5.2.1];kernel_rfl) (by rw [hf5.2.1];exact hit) (by rw [hf5.2.2];exact app_at (k:=3) hL) ?_)
  rw [hf5.2.1]
  refine ⟨true,hint wy,?_⟩
  simpa using hK)
 refine ⟨r,fun w=> ?_,hK'⟩
 rw [run_equalIn_struct w 9999 _ _ _ undTb heldTb,hfs]
 exact hr 9999 (by decide) w
end
end Go.Proofs.YtcdpblipagajiaaGreat
set_option maxRecDepth 20000
namespace Go.Proofs.YtcdpblipagajiaaGreat
open Go Go.Vc Go.Srt Go.Bits
def Wr (b:Nat) (bits:List Nat):HP:=fun f=> ∃s:Sl,(Srt.Bits bits∧bits.length≤big)∧
 Sat [Blk b (.cells ⟨[.slice s.base s.len s.cap,.int .i64 (bits.length:Int)]⟩ 133 (0,0)),OwnS 1 s ((pack bits).map vB)] f
section
variable {E w:World} {F A:List HP} {b:Nat} {bits:List Nat}
theorem Wr.opn (h:Hp E w (Wr b bits::F)): ∃s:Sl,Srt.Bits bits∧bits.length≤big∧Hp E w (Blk b (.cells ⟨[.slice s.base s.len s.cap,.int .i64 (bits.length:Int)]⟩ 133 (0,0))::OwnS 1 s ((pack bits).map vB)::F):=by
 obtain ⟨s,⟨h1,h2⟩,h⟩:=h.open1 (X:=fun _:Sl=>Srt.Bits bits∧bits.length≤big) (L:=fun s=> [Blk b (.cells ⟨[.slice s.base s.len s.cap,.int .i64 (bits.length:Int)]⟩ 133 (0,0)),OwnS 1 s ((pack bits).map vB)]) (fun f hf=>hf)
 exact ⟨s,h1,h2,h⟩
theorem Wr.shut {s:Sl} (h1:Srt.Bits bits) (h2:bits.length≤big) (h:Hp E w (Blk b (.cells ⟨[.slice s.base s.len s.cap,.int .i64 (bits.length:Int)]⟩ 133 (0,0))::OwnS 1 s ((pack bits).map vB)::F)):Hp E w (Wr b bits::F):=
 Hp.shut1 (l:= [_,_]) (fun f hf=>⟨s,⟨h1,h2⟩,hf⟩) h
theorem newW_c {K:Option Addr→World→Prop} (h:Hp E w F) (hK: ∀b w',Hp E w' (Wr b []::F)→K (some ⟨b,0,none⟩) w'):Cl Tryz.prog [kP] n_bitwriter_New ⟨[]⟩ w K:=by
 refine bitwriter_New.ok _ _ ?_
 unfold bitwriter_New.E
 exact Nw.mk h fun b w1 h1=>hK b w1 (Wr.shut (s:=⟨none,0,0⟩) (fun x hx=>by cases hx) (Nat.zero_le _) ((h1.ownNil 1).p1))
theorem fits_v_c {v width:Nat} {K:Bool→World→Prop} (hw:width≤32) (hv:v<2^width) (hv2:v≤4294967295) (hK:K true w):Cl Tryz.prog [kB] n_bitwriter_fits ⟨[.int .u32 (v:Int),.int .i64 (width:Int)]⟩ w K:=by
 refine bitwriter_fits.ok _ _ _ _ ?_
 unfold bitwriter_fits.E
 refine IfB.t (decide_eq_true (by omega)) (IfB.t (decide_eq_true (by omega)) ⟨by omega,?_⟩)
 rw [u64_id (by omega),ishr_nat (by have:IntKind.bits .u64=64:=rfl;omega),Nat.div_eq_of_lt hv]
 exact hK
theorem ty_bytes:ElemT Tryz.prog 22 5 1 1:=ElemT.of (by kernel_rfl) (by kernel_rfl)
theorem one_bit {x:Nat} (hx:x≤1):Srt.Bits [x]:=fun y hy=>by
 have:y=x:=by simpa using hy
 omega
theorem vB_one {x:Nat}: ∀y∈ [vB x],scalarB y=true:=fun y hy=>by
 have:y=vB x:=by simpa using hy
 subst this;rfl
theorem and7 (n:Nat) (h:n≤big):iand .i64 (n:Int) 7=((n % 8:Nat):Int):=by
 have hm:IntKind.max .i64=9223372036854775807:=rfl
 rw [big_eq] at h
 rw [show (7:Int)=((7:Nat):Int) from rfl,iand_nat (by omega) (by omega),show (7:Nat)=2^3 - 1 from rfl,Nat.and_two_pow_sub_one_eq_mod]
set_option maxRecDepth 20000 in
theorem add_c {x:Nat} {K:World→Prop} (h:Hp E w (Wr b bits::F)) (hx:x≤1) (hbig:bits.length+1≤big) (hK: ∀w',Hp E w' (Wr b (bits++ [x])::F)→K w'):
  Cl Tryz.prog [] n_bitwriter_Writer_add ⟨[.pointer (some ⟨b,0,none⟩),.int .u8 (x:Int)]⟩ w K:=by
 refine bitwriter_Writer_add.ok _ _ _ _ ?_
 unfold bitwriter_Writer_add.E
 simp only [NilCk_some,add_mk,Nat.zero_add]
 obtain ⟨s,hb,hle,h1⟩:=Wr.opn h
 have hbg:=hbig
 rw [big_eq] at hbg hle
 have hr8:bits.length % 8<8:=Nat.mod_lt _ (by decide)
 refine Ld.blk (s:= .int .i64) h1 (bits.length:Int) rfl ?_
 rw [and7 _ (by rw [big_eq];omega)]
 have tail: ∀(s':Sl) (w2:World),Hp E w2 (Blk b (.cells ⟨[.slice s'.base s'.len s'.cap,.int .i64 (bits.length:Int)]⟩ 133 (0,0))::OwnS 1 s' ((room bits).map vB)::F)→
   Drw w2 fun (w_13:World)=>Ld kS (⟨b,0,none⟩:Addr) w_13 fun (b15:Sl)=>Ld kI (⟨b,1,none⟩:Addr) w_13 fun (many17:Int)=>0≤(3:Int)∧Idx b15 (ishr .i64 many17 3) 1 fun (q18:Addr)=>Ld (kInt .u8) q18 w_13 fun (x19:Int)=>
    Ld kI (⟨b,1,none⟩:Addr) w_13 fun (many21:Int)=>0≤((i64 ((7:Int) - (iand .i64 many21 7))):Int)∧Idx b15 (ishr .i64 many17 3) 1 fun (q22:Addr)=>
    St q22 (.int .u8 (ior .u8 x19 (ishl .u8 (x:Int) (i64 ((7:Int) - (iand .i64 many21 7)))))) w_13 fun (w_23:World)=>Ld kI (⟨b,1,none⟩:Addr) w_23 fun (many25:Int)=>St (⟨b,1,none⟩:Addr) (.int .i64 (i64 (many25+1))) w_23 fun (w_27:World)=>K w_27:=by
  intro s' w2 h2
  refine Drw.mk h2 fun w3 h3=>Ld.blk (s:= .sl) h3 s' rfl (Ld.blk (s:= .int .i64) h3 (bits.length:Int) rfl ⟨by decide,?_⟩)
  have hol:=h3.p1.ownLen
  have hrl:(room bits).length=bits.length/8+1:=packTo_len _ _
  rw [List.length_map,hrl,Nat.mul_one] at hol
  have e3:ishr .i64 (bits.length:Int) 3=((bits.length/8:Nat):Int):=by
   rw [show (3:Int)=((3:Nat):Int) from rfl,ishr_nat (by decide)]
  rw [e3]
  refine Idx.rd (h3.tells (Tells.cons Tells.own)) (by omega) (by omega) fun q hq hc=> ?_
  have hby:((room bits).map vB)[((bits.length/8:Nat):Int).toNat]'hq= .int .u8 (by8 bits (bits.length/8):Int):=by
   rw [List.getElem_map]
   have:=packTo_get (b:=bits) (m:=bits.length/8+1) (j:=bits.length/8) (by omega)
   rw [getD_get (by rw [packTo_len];omega)] at this
   show vB _=_
   unfold vB
   rw [←this];rfl
  refine Ld.sc (s:= .int .u8) (by8 bits (bits.length/8):Int) (by rw [hc,hby]) (Ld.blk (s:= .int .i64) h3 (bits.length:Int) rfl ?_)
  rw [and7 _ (by rw [big_eq];omega),i64_id (x:=(7:Int) - ((bits.length % 8:Nat):Int)) (by omega),show (7:Int) - ((bits.length % 8:Nat):Int)=((7 - bits.length % 8:Nat):Int) by omega]
  have hnew:=by8_lt (hb.app (one_bit hx)) (bits.length/8)
  rw [by8_snoc,if_pos rfl] at hnew
  have hm8:IntKind.max .u8=255:=rfl
  have e4:ishl .u8 (x:Int) ((7 - bits.length % 8:Nat):Int)=((x*2^(7 - bits.length % 8):Nat):Int):=ishl_nat (by have:IntKind.bits .u8=8:=rfl;omega) (by omega)
  have e5:=or_bit8 hr8 (by8_dvd bits) hx
  rw [e4,ior_nat (by omega) (by omega) (by rw [e5];omega),e5]
  refine ⟨by omega,?_⟩
  refine St.own h3.p1 (by omega) (by omega) rfl fun w4 h4=> ?_
  refine Ld.blk (s:= .int .i64) h4.p1 (bits.length:Int) rfl ?_
  rw [i64_id (by omega)]
  refine St.blk h4.p1 (show 1<2 by decide) rfl fun w5 h5=>hK w5 (Wr.shut (s:=s') (hb.app (one_bit hx)) (by simpa using hbig) ?_)
  rw [pack_snoc]
  have:((room bits).set (bits.length/8) (by8 bits (bits.length/8)+x*2^(7 - bits.length % 8))).map vB=((room bits).map vB).set ((bits.length/8:Nat):Int).toNat (.int .u8 ((by8 bits (bits.length/8)+x*2^(7 - bits.length % 8):Nat):Int)):=by
   rw [Int.toNat_natCast,List.map_set];rfl
  rw [this,List.length_append,List.length_singleton]
  exact h5
 refine IfB.mk (fun hz=> ?_) (fun hz=> ?_)
 ·have hz:bits.length % 8=0:=by rw [beq_iff_eq] at hz;omega
  refine Ld.blk (s:= .sl) h1 s rfl (Nw.mk h1 fun b8 w2 h2=> ?_)
  have hol:=h2.p2.ownLen
  rw [List.length_map,pack_len,Nat.mul_one] at hol
  refine run_append (ys:= [vB 0]) (n:=1) ty_bytes (by decide) (.inl ⟨5,by kernel_rfl⟩) h2.p2 (.inl ⟨some ⟨b8,0,none⟩,1,1,rfl,rfl,h2.tells (Tells.blk rfl rfl)⟩) rfl vB_one (by omega) (by omega) fun s' w3 h3 hs'=> ?_
  refine St.blk h3.p2 (show 0<2 by decide) rfl fun w4 h4=> ?_
  refine tail s' w4 ?_
  have e:(room bits).map vB=(pack bits).map vB++ [vB 0]:=by rw [room_eq,if_pos hz,List.map_append];rfl
  rw [e]
  exact h4.p2.drop
 ·have hz:bits.length % 8≠0:=by have:=beq_eq_false_iff_ne.1 hz;omega
  refine tail s w ?_
  rw [room_eq,if_neg hz]
  exact h1
set_option maxRecDepth 20000 in
theorem bytesW_c {K:Sl→World→Prop} (h:Hp E w (Wr b bits::F)) (hK: ∀s w',Hp E w' (OwnS 1 s ((pack bits).map vB)::Wr b bits::F)→K s w'):Cl Tryz.prog [kS] n_bitwriter_Writer_Bytes ⟨[.pointer (some ⟨b,0,none⟩)]⟩ w K:=by
 refine bitwriter_Writer_Bytes.ok _ _ _ ?_
 unfold bitwriter_Writer_Bytes.E
 simp only [NilCk_some,add_mk,Nat.zero_add]
 obtain ⟨s,hb,hle,h1⟩:=Wr.opn h
 refine IfB.f rfl (Ld.blk (s:= .sl) h1 s rfl (bytes_Clone.ok _ _ _ ?_))
 unfold bytes_Clone.E
 have hol:=h1.p1.ownLen
 have hpl:=pack_len bits
 rw [List.length_map,Nat.mul_one] at hol
 rw [big_eq] at hle
 refine IfB.mk (fun hn=> ?_) (fun hn=> ?_)
 ·have hn:s.base=none:=by simpa using hn
  obtain ⟨rfl,he,h2⟩|⟨b0,off,arr,t,hbase,_⟩:=h1.p1.ownOpen
  ·refine hK _ w ?_
   rw [he]
   refine Hp.ownNil (Wr.shut (s:=⟨none,0,0⟩) hb (by rw [big_eq];exact hle) ?_) 1
   rw [he]
   exact (h2.ownNil 1).p1
  ·rw [hn] at hbase;cases hbase
 ·refine Nw.mk h1 fun b3 w2 h2=> ?_
  have h3:=h2.ownNew (n:=0) (sz:=1) rfl
  have hsrc:SlT 1 s ((pack bits).map vB) w2:=h2.tells (Tells.cons (Tells.cons Tells.own))
  refine run_append (s:=⟨some ⟨b3,0,none⟩,0,0⟩) (ys:=(pack bits).map vB) (n:=s.len) ty_bytes (by decide) (.inl ⟨5,by kernel_rfl⟩) h3 (.inl ⟨s.base,s.len,s.cap,rfl,rfl,hsrc⟩) (by rw [List.length_map,Nat.mul_one];exact hol) vB_scalar (by show (2*(0+s.len)+1024)*1≤2^48;omega) (by show 0+s.len<2^62;omega) fun s' w4 h4 _=> ?_
  exact hK s' w4 (Wr.shut (s:=s) hb (by rw [big_eq];exact hle) h4.q2).p1
set_option maxRecDepth 20000 in
theorem down_iter {v width b4 b6:Nat} (hw:width≤32) (hv:v≤4294967295):Iter Tryz.prog E (.func (.func n_bitwriter_down_1) ⟨[]⟩ ⟨[.pointer (some ⟨b6,0,none⟩),.pointer (some ⟨b4,0,none⟩)]⟩) width (fun i=> [Ki.enc (kInt .u8) ((v/2^(width - 1 - i) % 2:Nat):Int)])
  (Blk b6 (.cells ⟨[.int .i64 (width:Int)]⟩ 3 (0,0))::Blk b4 (.cells ⟨[.int .u32 (v:Int)]⟩ 49 (0,0))::A):=by
 intro yv C G w K hy h hK hKG
 refine ClV.mk (by kernel_rfl) (bitwriter_down_1.ok yv ⟨b6,0,none⟩ ⟨b4,0,none⟩ K w ?_)
 unfold bitwriter_down_1.E
 have h0:=h.perm (List.perm_middle.trans (List.Perm.cons _ List.perm_middle))
 refine Ld.blk (s:= .int .i64) h0 (width:Int) rfl ?_
 refine ⟨fun i w'=> ∃k:Nat,i=(width:Int) - 1 - (k:Int)∧k≤width∧Hp E w' (Blk b6 (.cells ⟨[.int .i64 (width:Int)]⟩ 3 (0,0))::Blk b4 (.cells ⟨[.int .u32 (v:Int)]⟩ 49 (0,0))::(C k++A)),fun i _=>(i+1).toNat,⟨0,by rw [i64_id (by omega)];omega,by omega,h0⟩,?_⟩
 rintro i w1 ⟨k,rfl,hk,h1⟩
 refine IfB.mk (fun hge=> ?_) (fun hlt=> ?_)
 ·have hlt:k<width:=by have:=of_decide_eq_true hge;omega
  refine Ld.blk (s:= .int .u32) h1.p1 (v:Int) rfl ⟨by omega,?_⟩
  have hd:v/2^(width - 1 - k)≤v:=Nat.div_le_self _ _
  have e:iand .u8 (u8 (ishr .u32 (v:Int) ((width:Int) - 1 - (k:Int)))) 1=((v/2^(width - 1 - k) % 2:Nat):Int):=by
   have hm:IntKind.max .u8=255:=rfl
   rw [show (width:Int) - 1 - (k:Int)=((width - 1 - k:Nat):Int) by omega,ishr_nat (by have:IntKind.bits .u32=32:=rfl;omega),u8_mod,show (((v/2^(width - 1 - k):Nat):Int) % 256)=((v/2^(width - 1 - k) % 256:Nat):Int) by omega,
    show (1:Int)=((1:Nat):Int) from rfl,iand_nat (by omega) (by omega),Nat.and_one_is_mod]
   omega
  rw [e]
  refine hy k hlt (Blk b6 (.cells ⟨[.int .i64 (width:Int)]⟩ 3 (0,0))::Blk b4 (.cells ⟨[.int .u32 (v:Int)]⟩ 49 (0,0))::A) w1 _ (h1.perm ((List.Perm.cons _ List.perm_middle.symm).trans List.perm_middle.symm)) (fun w5 h5=> ?_) (fun w5 h5=> ?_)
  ·refine IfB.f rfl ⟨rfl,⟨k+1,by rw [i64_id (by omega)];omega,by omega,h5.perm (List.perm_middle.trans (List.Perm.cons _ List.perm_middle))⟩,by dsimp only;rw [i64_id (by omega)];omega⟩
  ·exact IfB.t rfl (hKG k w5 hlt h5)
 ·have hge:k=width:=by have:=of_decide_eq_false hlt;omega
  subst hge
  exact hK _ (h1.perm ((List.Perm.cons _ List.perm_middle.symm).trans List.perm_middle.symm))
theorem putW_c {v width:Nat} {K:Bool→World→Prop} (h:Hp E w (Wr b bits::F)) (hw:width≤32) (hv:v<2^width) (hv2:v≤4294967295) (hbig:bits.length+width≤big) (hK: ∀w',Hp E w' (Wr b (bits++bn width v)::F)→K true w'):
  Cl Tryz.prog [kB] n_bitwriter_Writer_Put ⟨[.pointer (some ⟨b,0,none⟩),.int .u32 (v:Int),.int .i64 (width:Int)]⟩ w K:=by
 refine bitwriter_Writer_Put.ok _ _ _ _ _ ?_
 unfold bitwriter_Writer_Put.E
 refine Nw.mk h fun b5 w1 h1=>Ld.blk (s:= .ptr) h1 (some ⟨b,0,none⟩) rfl (IfB.f rfl (fits_v_c hw hv hv2 (IfB.f rfl (bitwriter_down.ok _ _ _ _ ?_))))
 unfold bitwriter_down.E
 refine Nw.mk h1 fun b4 w2 h2=>Nw.mk h2 fun b6 w3 h3=> ?_
 have h3:Hp E w3 ([Blk b5 (.cells ⟨[.pointer (some ⟨b,0,none⟩)]⟩ 80 (0,0)),Wr b (bits++(bn width v).take 0)]++(Blk b6 (.cells ⟨[.int .i64 (width:Int)]⟩ 3 (0,0))::Blk b4 (.cells ⟨[.int .u32 (v:Int)]⟩ 49 (0,0))::F)):=by
  rw [List.take_zero,List.append_nil]
  exact h3.p3.p3
 have hbl:=bn_len width v
 refine Rng.mk1 (k:=kInt .u8) (x:=fun i=>((v/2^(width - 1 - i) % 2:Nat):Int)) (n:=width) (fun i=> [Blk b5 (.cells ⟨[.pointer (some ⟨b,0,none⟩)]⟩ 80 (0,0)),Wr b (bits++(bn width v).take i)]) (fun _=> [Nope]) h3 (down_iter hw hv2) ?_ ?_ ?_
 ·intro lr rec i A w5 Kt Kf hi h5 hKt _
  have h5:Hp E w5 (Blk lr (rec 0)::Blk b5 (.cells ⟨[.pointer (some ⟨b,0,none⟩)]⟩ 80 (0,0))::Wr b (bits++(bn width v).take i)::A):=h5
  refine Beg.mk h5 fun w6 h6=>Ld.blk (s:= .ptr) h6.p1 (some ⟨b,0,none⟩) rfl ?_
  refine add_c h6.p2 (by omega) (by rw [List.length_append,List.length_take,hbl];omega) fun w7 h7=>EndT.mk h7.p1 fun w8 h8=>hKt w8 ?_
  have e:(bits++(bn width v).take i)++ [v/2^(width - 1 - i) % 2]=bits++(bn width v).take (i+1):=by
   rw [List.append_assoc,List.take_add_one,List.getElem?_eq_getElem (by rw [hbl];exact hi),←bn_get width v i hi,getD_get (by rw [hbl];exact hi)];rfl
  rw [e] at h8
  exact h8.p2.p1
 ·intro D w5 h5
  have h5:Hp E w5 (Blk D (.deferred (some []))::Blk b5 (.cells ⟨[.pointer (some ⟨b,0,none⟩)]⟩ 80 (0,0))::Wr b (bits++(bn width v).take width)::Blk b6 (.cells ⟨[.int .i64 (width:Int)]⟩ 3 (0,0))::Blk b4 (.cells ⟨[.int .u32 (v:Int)]⟩ 49 (0,0))::F):=h5
  rw [List.take_of_length_le (by omega)] at h5
  exact Dfr.mk1 h5 fun w6 h6=>hK w6 h6.drop.p1.drop.p1.drop
 ·intro i D w5 hi h5
  exact (Hp.nope h5).elim
end
end Go.Proofs.YtcdpblipagajiaaGreat
