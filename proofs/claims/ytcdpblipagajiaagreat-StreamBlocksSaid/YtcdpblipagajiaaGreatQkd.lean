/- Texts packed together by program; spaces struck by program. Conditions: as each theorem states. -/
import Derived.Lib.MakeNoZero
import Derived.Test.YtcdpblipagajiaaGreatQkc
set_option linter.unusedSimpArgs false
set_option linter.unusedVariables false
namespace Go.Proofs.YtcdpblipagajiaaGreat
open Go Go.Vc
set_option maxRecDepth 100000
theorem sI.ok (a:Int) (b:(TT [.int .i64,.int .i64,.int .u32])) (R:Sl→Int→World→Prop) w (h:
 Nw 53 ⟨[(ni b.1),(ni b.2.1),(.int .u32 b.2.2.1)]⟩ w fun d c=>
 Ld kI (Addr.add ⟨d,0,none⟩ 0) c fun (e:Int)=>
 Cl Pg [kS,kB] ej ⟨[(ni e),(ni a)]⟩ c fun (g:Sl) (h:Bool) f=>
 Ld kI (Addr.add ⟨d,0,none⟩ 1) f fun (i:Int)=>
 Ld kI (Addr.add ⟨d,0,none⟩ 0) f fun (j:Int)=>
 Cl Pg [kS,kB] ej ⟨[(ni i),(ni j)]⟩ f fun (l:Sl) (m:Bool) k=>
 Cl Pg [kB] bh ⟨[(ni a),(ni 1),(ni 65536)]⟩ k fun (o:Bool) n=>
 aa (!o)
 (R (⟨none,0,0⟩:Sl) 2 n)
 (aa (!h)
 (R (⟨none,0,0⟩:Sl) 2 n)
 (aa (!m)
 (R (⟨none,0,0⟩:Sl) 2 n)
 (Nw 5 ⟨[(.int .u8 1)]⟩ n fun q p=>
 Ld (aL .u32) (Addr.add ⟨d,0,none⟩ 2) p fun (r:Int)=>
 Cl Pg [kS] np ⟨[(.int .u32 r)]⟩ p fun (t:Sl) s=>
 Nw 22 ⟨[(an (⟨some ⟨q,0,none⟩,1,1⟩:Sl)),(an g),(an l),(an t)]⟩ s fun v u=>
 Cl Pg [kS] dC ⟨[(an (⟨some ⟨v,0,none⟩,4,4⟩:Sl))]⟩ u fun (y:Sl) x=>
 R y 0 x)))):Cl Pg [kS,kI] ig ⟨[(ni a),(.agg ⟨[(ni b.1),(ni b.2.1),(.int .u32 b.2.2.1)]⟩)]⟩ w R:=co Tryz.f42 [] h
theorem nk.ok (a:Int) (b:Sl) (R:(TT aK)→Sl→Int→World→Prop) w (h:
 Nw 74 ⟨[(ni 0),(ni 0),(ni 0),(ni 0),(ni 0),(.int .u32 0),(ni 0)]⟩ w fun d c=>
 Cl Pg [kB] bh ⟨[(ni a),(ni 1),(ni 65536)]⟩ c fun (f:Bool) e=>
 aa (!f)
 (Ld (.st aK) ⟨d,0,none⟩ e fun g=>
 af ⟨d,0,none⟩ [(ni g.1),(ni g.2.1),(ni g.2.2.1),(ni g.2.2.2.1),(ni g.2.2.2.2.1),(.int .u32 g.2.2.2.2.2.1),(ni g.2.2.2.2.2.2.1)] 0 e fun h=>
 Ld (.st aK) ⟨d,0,none⟩ h fun i=>
 R i (⟨none,0,0⟩:Sl) 2 h)
 (dN 0 e fun j k (l:Int) m=>
 aa (decide (l<(b.len:Int)))
 (ar b l 1 fun n=>
 Ld (aL .u8) n m fun (o:Int)=>
 Ld (.st aK) ⟨d,0,none⟩ m fun p=>
 Cl Pg [(.st aK),kB,kI] eS ⟨[(ni a),(.agg ⟨[(ni p.1),(ni p.2.1),(ni p.2.2.1),(ni p.2.2.2.1),(ni p.2.2.2.2.1),(.int .u32 p.2.2.2.2.2.1),(ni p.2.2.2.2.2.2.1)]⟩),(.int .u8 o)]⟩ m fun r (s:Bool) (t:Int) q=>
 Nw 74 ⟨[(ni 0),(ni 0),(ni 0),(ni 0),(ni 0),(.int .u32 0),(ni 0)]⟩ q fun v u=>
 af ⟨v,0,none⟩ [(ni r.1),(ni r.2.1),(ni r.2.2.1),(ni r.2.2.2.1),(ni r.2.2.2.2.1),(.int .u32 r.2.2.2.2.2.1),(ni r.2.2.2.2.2.2.1)] 0 u fun x=>
 aa (t !=0)
 (af ⟨d,0,none⟩ [(ni 0),(ni 0),(ni 0),(ni 0),(ni 0),(.int .u32 0),(ni 0)] 0 x fun y=>
 Ld (.st aK) ⟨d,0,none⟩ y fun z=>
 R z (⟨none,0,0⟩:Sl) t y)
 (Ld (.st aK) ⟨v,0,none⟩ x fun a1=>
 af ⟨d,0,none⟩ [(ni a1.1),(ni a1.2.1),(ni a1.2.2.1),(ni a1.2.2.2.1),(ni a1.2.2.2.2.1),(.int .u32 a1.2.2.2.2.2.1),(ni a1.2.2.2.2.2.2.1)] 0 x fun b1=>
 aa s
 (cA b1 fun c1 d1=>
 ad (.st aK) ⟨d,0,none⟩ c1 fun e1=>
 aZ b (i64 (l+1)) (b).len (b).cap 1 fun f1=>
 Cl Pg [kS] cu ⟨[(an f1)]⟩ d1 fun (h1:Sl) g1=>
 c1 g1∧
 af ⟨d,0,none⟩ [(ni e1.1),(ni e1.2.1),(ni e1.2.2.1),(ni e1.2.2.2.1),(ni e1.2.2.2.2.1),(.int .u32 e1.2.2.2.2.2.1),(ni e1.2.2.2.2.2.2.1)] 0 g1 fun i1=>
 c1 i1∧
 Ld (.st aK) ⟨d,0,none⟩ i1 fun j1=>
 R j1 h1 0 i1)
 (j (i64 (l+1)) b1∧k (i64 (l+1)) b1<k l m)))
 (af ⟨d,0,none⟩ [(ni 0),(ni 0),(ni 0),(ni 0),(ni 0),(.int .u32 0),(ni 0)] 0 m fun k1=>
 Ld (.st aK) ⟨d,0,none⟩ k1 fun l1=>
 R l1 (⟨none,0,0⟩:Sl) 50 k1))):Cl Pg [(.st aK),kS,kI] dv ⟨[(ni a),(an b)]⟩ w R:=co Tryz.f50 [(10,[(18,kI)])] h
theorem sC.ok (a:(TT [.int .i64])) (R:Sl→Int→World→Prop) w (h:
 Nw 117 ⟨[(ni a.1)]⟩ w fun c b=>
 Ld kI (Addr.add ⟨c,0,none⟩ 0) b fun (d:Int)=>
 Cl Pg [kS,kB] ej ⟨[(ni d),(ni 65536)]⟩ b fun (f:Sl) (g:Bool) e=>
 aa (!g)
 (R (⟨none,0,0⟩:Sl) 2 e)
 (Nw 5 ⟨[(.int .u8 87),(.int .u8 80),(.int .u8 1)]⟩ e fun i h=>
 aD Pg (convert 22 22 (an (⟨some ⟨i,0,none⟩,3,3⟩:Sl))) kS h fun (k:Sl) j=>
 aD Pg (Builtin.append_ #[22,22] 22 ⟨[(an k),(an f)]⟩) kS j fun (m:Sl) l=>
 R m 0 l)):Cl Pg [kS,kI] jO ⟨[(.agg ⟨[(ni a.1)]⟩)]⟩ w R:=co Tryz.f78 [] h
theorem wB.ok (a:Int) (R:Sl→World→Prop) w (h:
 Nw 5 ⟨[(.int .u8 0)]⟩ w fun c b=>
 Cl Pg [kS] np ⟨[(.int .u32 a)]⟩ b fun (e:Sl) d=>
 aD Pg (Builtin.append_ #[22,22] 22 ⟨[(an (⟨some ⟨c,0,none⟩,1,1⟩:Sl)),(an e)]⟩) kS d fun (g:Sl) f=>
 R g f):Cl Pg [kS] jM ⟨[(.int .u32 a)]⟩ w R:=co Tryz.f80 [] h
theorem AU.ok (a:Sl) (R:(TT [.int .i64])→Sl→Int→World→Prop) w (h:
 Nw 117 ⟨[(ni 0)]⟩ w fun c b=>
 Nw 178 ⟨[(ni 0),(ni 0),(ni 0),(ni 0)]⟩ b fun e d=>
 dN 0 d fun f g (h:Int) i=>
 aa (decide (h<(a.len:Int)))
 (ar a h 1 fun j=>
 Ld (aL .u8) j i fun (k:Int)=>
 Ld (.st fX) ⟨e,0,none⟩ i fun l=>
 Cl Pg [(.st fX),kB,kI] lk ⟨[(.agg ⟨[(ni l.1),(ni l.2.1),(ni l.2.2.1),(ni l.2.2.2.1)]⟩),(.int .u8 k)]⟩ i fun n (o:Bool) (p:Int) m=>
 Nw 178 ⟨[(ni 0),(ni 0),(ni 0),(ni 0)]⟩ m fun r q=>
 af ⟨r,0,none⟩ [(ni n.1),(ni n.2.1),(ni n.2.2.1),(ni n.2.2.2.1)] 0 q fun s=>
 aa (p !=0)
 (Ld (.st [.int .i64]) ⟨c,0,none⟩ s fun t=>
 af ⟨c,0,none⟩ [(ni t.1)] 0 s fun u=>
 Ld (.st [.int .i64]) ⟨c,0,none⟩ u fun v=>
 R v (⟨none,0,0⟩:Sl) p u)
 (aa o
 (cA s fun x y=>
 ad kI (Addr.add ⟨r,0,none⟩ 3) x fun (z:Int)=>
 aZ a (i64 (h+1)) (a).len (a).cap 1 fun a1=>
 Cl Pg [kS] cu ⟨[(an a1)]⟩ y fun (c1:Sl) b1=>
 x b1∧
 af ⟨c,0,none⟩ [(ni z)] 0 b1 fun d1=>
 x d1∧
 Ld (.st [.int .i64]) ⟨c,0,none⟩ d1 fun e1=>
 R e1 c1 0 d1)
 (Ld (.st fX) ⟨r,0,none⟩ s fun f1=>
 af ⟨e,0,none⟩ [(ni f1.1),(ni f1.2.1),(ni f1.2.2.1),(ni f1.2.2.2.1)] 0 s fun g1=>
 f (i64 (h+1)) g1∧g (i64 (h+1)) g1<g h i)))
 (Ld (.st [.int .i64]) ⟨c,0,none⟩ i fun h1=>
 af ⟨c,0,none⟩ [(ni h1.1)] 0 i fun i1=>
 Ld (.st [.int .i64]) ⟨c,0,none⟩ i1 fun j1=>
 R j1 (⟨none,0,0⟩:Sl) 50 i1)):Cl Pg [(.st [.int .i64]),kS,kI] lz ⟨[(an a)]⟩ w R:=co Tryz.f81 [(7,[(13,kI)])] h
theorem wO.ok (a:Int) (b:Int) (R:Sl→Bool→World→Prop) w (h:
 Cl Pg [kS,kI] mv ⟨[(ni a)]⟩ w fun (d:Sl) (e:Int) c=>
 Cl Pg [kB] bh ⟨[(ni a),(ni 1),(ni b)]⟩ c fun (g:Bool) f=>
 R d g f):Cl Pg [kS,kB] ej ⟨[(ni a),(ni b)]⟩ w R:=co Tryz.f84 [] h
theorem wQ.ok (a:Int) (b:Int) (c:Int) (R:Bool→World→Prop) w (h:
 aa (decide (a≥b))
 (R (decide (a≤c)) w)
 (R false w)):Cl Pg [kB] bh ⟨[(ni a),(ni b),(ni c)]⟩ w R:=co Tryz.f85 [] h
theorem sM.ok (a:Int) (b:(TT aK)) (c:Int) (R:(TT aK)→Bool→Int→World→Prop) w (h:
 Nw 74 ⟨[(ni b.1),(ni b.2.1),(ni b.2.2.1),(ni b.2.2.2.1),(ni b.2.2.2.2.1),(.int .u32 b.2.2.2.2.2.1),(ni b.2.2.2.2.2.2.1)]⟩ w fun e d=>
 Nw 74 ⟨[(ni 0),(ni 0),(ni 0),(ni 0),(ni 0),(.int .u32 0),(ni 0)]⟩ d fun g f=>
 aD Pg (Instr.makeMap 202 none) kM f fun i h=>
 aD Pg (do Instr.mapUpdate 202 (.map i) (ni 0) (.func (.func 149) ⟨[]⟩ ⟨[]⟩);pure undef) kV h fun _ j=>
 aD Pg (do Instr.mapUpdate 202 (.map i) (ni 1) (.func (.func 150) ⟨[]⟩ ⟨[]⟩);pure undef) kV j fun _ k=>
 aD Pg (do Instr.mapUpdate 202 (.map i) (ni 2) (.func (.func 151) ⟨[]⟩ ⟨[]⟩);pure undef) kV k fun _ l=>
 aD Pg (do Instr.mapUpdate 202 (.map i) (ni 3) (.func (.func 152) ⟨[]⟩ ⟨[]⟩);pure undef) kV l fun _ m=>
 aD Pg (do Instr.mapUpdate 202 (.map i) (ni 5) (.func (.func 152) ⟨[]⟩ ⟨[]⟩);pure undef) kV m fun _ n=>
 Ld kI (Addr.add ⟨e,0,none⟩ 0) n fun (o:Int)=>
 aD Pg (Instr.lookup 202 (.map i) (ni o) false) kV n fun q p=>
 kD q fun r=>
 aa r
 (Ld (.st aK) ⟨g,0,none⟩ p fun s=>
 af ⟨g,0,none⟩ [(ni s.1),(ni s.2.1),(ni s.2.2.1),(ni s.2.2.2.1),(ni s.2.2.2.2.1),(.int .u32 s.2.2.2.2.2.1),(ni s.2.2.2.2.2.2.1)] 0 p fun t=>
 Ld (.st aK) ⟨g,0,none⟩ t fun u=>
 R u false 2 t)
 (Ld (.st aK) ⟨e,0,none⟩ p fun v=>
 Cl Pg [kB] gD ⟨[(ni a),(.agg ⟨[(ni v.1),(ni v.2.1),(ni v.2.2.1),(ni v.2.2.2.1),(ni v.2.2.2.2.1),(.int .u32 v.2.2.2.2.2.1),(ni v.2.2.2.2.2.2.1)]⟩)]⟩ p fun (y:Bool) x=>
 aa (!y)
 (Ld (.st aK) ⟨g,0,none⟩ x fun z=>
 af ⟨g,0,none⟩ [(ni z.1),(ni z.2.1),(ni z.2.2.1),(ni z.2.2.2.1),(ni z.2.2.2.2.1),(.int .u32 z.2.2.2.2.2.1),(ni z.2.2.2.2.2.2.1)] 0 x fun a1=>
 Ld (.st aK) ⟨g,0,none⟩ a1 fun b1=>
 R b1 false 2 a1)
 (Ld (.st aK) ⟨e,0,none⟩ x fun c1=>
 gW Pg q [(.st aK),kB] [(ni a),(.agg ⟨[(ni c1.1),(ni c1.2.1),(ni c1.2.2.1),(ni c1.2.2.2.1),(ni c1.2.2.2.2.1),(.int .u32 c1.2.2.2.2.2.1),(ni c1.2.2.2.2.2.2.1)]⟩),(.int .u8 c)] x fun e1 (f1:Bool) d1=>
 af ⟨e,0,none⟩ [(ni e1.1),(ni e1.2.1),(ni e1.2.2.1),(ni e1.2.2.2.1),(ni e1.2.2.2.2.1),(.int .u32 e1.2.2.2.2.2.1),(ni e1.2.2.2.2.2.2.1)] 0 d1 fun g1=>
 aa (!f1)
 (Ld (.st aK) ⟨g,0,none⟩ g1 fun h1=>
 af ⟨g,0,none⟩ [(ni h1.1),(ni h1.2.1),(ni h1.2.2.1),(ni h1.2.2.2.1),(ni h1.2.2.2.2.1),(.int .u32 h1.2.2.2.2.2.1),(ni h1.2.2.2.2.2.2.1)] 0 g1 fun i1=>
 Ld (.st aK) ⟨g,0,none⟩ i1 fun j1=>
 R j1 false 242 i1)
 (cA g1 fun k1 l1=>
 ad (.st aK) ⟨e,0,none⟩ k1 fun m1=>
 ad kI (Addr.add ⟨e,0,none⟩ 0) k1 fun (n1:Int)=>
 aa (n1==4)
 (af ⟨g,0,none⟩ [(ni m1.1),(ni m1.2.1),(ni m1.2.2.1),(ni m1.2.2.2.1),(ni m1.2.2.2.2.1),(.int .u32 m1.2.2.2.2.2.1),(ni m1.2.2.2.2.2.2.1)] 0 l1 fun o1=>
 k1 o1∧
 Ld (.st aK) ⟨g,0,none⟩ o1 fun p1=>
 R p1 true 0 o1)
 (ad kI (Addr.add ⟨e,0,none⟩ 0) k1 fun (q1:Int)=>
 af ⟨g,0,none⟩ [(ni m1.1),(ni m1.2.1),(ni m1.2.2.1),(ni m1.2.2.2.1),(ni m1.2.2.2.2.1),(.int .u32 m1.2.2.2.2.2.1),(ni m1.2.2.2.2.2.2.1)] 0 l1 fun r1=>
 k1 r1∧
 Ld (.st aK) ⟨g,0,none⟩ r1 fun s1=>
 R s1 (q1==6) 0 r1))))):Cl Pg [(.st aK),kB,kI] eS ⟨[(ni a),(.agg ⟨[(ni b.1),(ni b.2.1),(ni b.2.2.1),(ni b.2.2.2.1),(ni b.2.2.2.2.1),(.int .u32 b.2.2.2.2.2.1),(ni b.2.2.2.2.2.2.1)]⟩),(.int .u8 c)]⟩ w R:=co Tryz.f98 [] h
theorem Ak.ok (a:(TT fX)) (b:Int) (R:(TT fX)→Bool→Int→World→Prop) w (h:
 Nw 178 ⟨[(ni a.1),(ni a.2.1),(ni a.2.2.1),(ni a.2.2.2.1)]⟩ w fun d c=>
 Nw 178 ⟨[(ni 0),(ni 0),(ni 0),(ni 0)]⟩ c fun f e=>
 bo (fun (n1:World)=>
 Ld (.st [.int .i64,.int .i64]) (Addr.add ⟨d,0,none⟩ 1) n1 fun o1=>
 Cl Pg [(.st [.int .i64,.int .i64]),kB,kB] fJ ⟨[(.agg ⟨[(ni o1.1),(ni o1.2.1)]⟩),(.int .u8 b),(ni 65536)]⟩ n1 fun q1 (r1:Bool) (s1:Bool) p1=>
 Nw 72 ⟨[(ni 0),(ni 0)]⟩ p1 fun u1 t1=>
 af ⟨u1,0,none⟩ [(ni q1.1),(ni q1.2.1)] 0 t1 fun v1=>
 aa (!s1)
 (Ld (.st fX) ⟨f,0,none⟩ v1 fun x1=>
 af ⟨f,0,none⟩ [(ni x1.1),(ni x1.2.1),(ni x1.2.2.1),(ni x1.2.2.2.1)] 0 v1 fun y1=>
 Ld (.st fX) ⟨f,0,none⟩ y1 fun z1=>
 R z1 false 242 y1)
 (aa r1
 (Ld kI (Addr.add ⟨u1,0,none⟩ 0) v1 fun (a2:Int)=>
 af ⟨f,0,none⟩ [(ni 4),(ni 0),(ni 0),(ni a2)] 0 v1 fun b2=>
 Ld (.st fX) ⟨f,0,none⟩ b2 fun c2=>
 R c2 true 0 b2)
 (Ld (.st [.int .i64,.int .i64]) ⟨u1,0,none⟩ v1 fun d2=>
 af ⟨f,0,none⟩ [(ni 3),(ni d2.1),(ni d2.2.1),(ni 0)] 0 v1 fun e2=>
 Ld (.st fX) ⟨f,0,none⟩ e2 fun f2=>
 R f2 false 0 e2))) fun g=>
 bo (fun (m:Bool) (n:World)=>
 aa m
 (Ld (.st fX) ⟨f,0,none⟩ n fun o=>
 af ⟨f,0,none⟩ [(ni o.1),(ni o.2.1),(ni o.2.2.1),(ni o.2.2.2.1)] 0 n fun p=>
 Ld (.st fX) ⟨f,0,none⟩ p fun q=>
 R q false 2 p)
 (Ld kI (Addr.add ⟨d,0,none⟩ 0) n fun (r:Int)=>
 aa (decide (r<3))
 (Ld kI (Addr.add ⟨d,0,none⟩ 0) n fun (s:Int)=>
 0≤(s:Int)∧(s:Int)<(((ByteArray.mk #[87,80,1])).size:Int)∧
 aa (b==(wU (ByteArray.mk #[87,80,1]) (s:Int).toNat))
 (Ld kI (Addr.add ⟨d,0,none⟩ 0) n fun (t:Int)=>
 af ⟨f,0,none⟩ [(ni (i64 (t+1))),(ni 0),(ni 0),(ni 0)] 0 n fun u=>
 Ld (.st fX) ⟨f,0,none⟩ u fun v=>
 R v false 0 u)
 (Ld kI (Addr.add ⟨d,0,none⟩ 0) n fun (x:Int)=>
 aa (decide (x<2))
 (Ld (.st fX) ⟨f,0,none⟩ n fun y=>
 af ⟨f,0,none⟩ [(ni y.1),(ni y.2.1),(ni y.2.2.1),(ni y.2.2.2.1)] 0 n fun z=>
 Ld (.st fX) ⟨f,0,none⟩ z fun a1=>
 R a1 false 240 z)
 (Ld kI (Addr.add ⟨d,0,none⟩ 0) n fun (b1:Int)=>
 aa (decide (b1<3))
 (Ld (.st fX) ⟨f,0,none⟩ n fun c1=>
 af ⟨f,0,none⟩ [(ni c1.1),(ni c1.2.1),(ni c1.2.2.1),(ni c1.2.2.2.1)] 0 n fun d1=>
 Ld (.st fX) ⟨f,0,none⟩ d1 fun e1=>
 R e1 false 241 d1)
 (g n))))
 (Ld kI (Addr.add ⟨d,0,none⟩ 0) n fun (f1:Int)=>
 aa (decide (f1<2))
 (Ld (.st fX) ⟨f,0,none⟩ n fun g1=>
 af ⟨f,0,none⟩ [(ni g1.1),(ni g1.2.1),(ni g1.2.2.1),(ni g1.2.2.2.1)] 0 n fun h1=>
 Ld (.st fX) ⟨f,0,none⟩ h1 fun i1=>
 R i1 false 240 h1)
 (Ld kI (Addr.add ⟨d,0,none⟩ 0) n fun (j1:Int)=>
 aa (decide (j1<3))
 (Ld (.st fX) ⟨f,0,none⟩ n fun k1=>
 af ⟨f,0,none⟩ [(ni k1.1),(ni k1.2.1),(ni k1.2.2.1),(ni k1.2.2.2.1)] 0 n fun l1=>
 Ld (.st fX) ⟨f,0,none⟩ l1 fun m1=>
 R m1 false 241 l1)
 (g n))))) fun h=>
 Ld (.st fX) ⟨d,0,none⟩ e fun i=>
 Cl Pg [kB] kc ⟨[(.agg ⟨[(ni i.1),(ni i.2.1),(ni i.2.2.1),(ni i.2.2.2.1)]⟩)]⟩ e fun (k:Bool) j=>
 aa (!k)
 (h true j)
 (Ld kI (Addr.add ⟨d,0,none⟩ 0) j fun (l:Int)=>
 h (l==4) j)):Cl Pg [(.st fX),kB,kI] lk ⟨[(.agg ⟨[(ni a.1),(ni a.2.1),(ni a.2.2.1),(ni a.2.2.2.1)]⟩),(.int .u8 b)]⟩ w R:=co Tryz.f128 [(2,[]),(3,[(9,kB)])] h
theorem AX.ok (a:Int) (b:(TT aK)) (c:Int) (R:(TT aK)→Bool→World→Prop) w (h:
 Nw 74 ⟨[(ni b.1),(ni b.2.1),(ni b.2.2.1),(ni b.2.2.2.1),(ni b.2.2.2.2.1),(.int .u32 b.2.2.2.2.2.1),(ni b.2.2.2.2.2.2.1)]⟩ w fun e d=>
 Nw 74 ⟨[(ni 0),(ni 0),(ni 0),(ni 0),(ni 0),(.int .u32 0),(ni 0)]⟩ d fun g f=>
 St (Addr.add ⟨e,0,none⟩ 0) (ni 1) f fun h=>
 aa (c==0)
 (St (Addr.add ⟨e,0,none⟩ 0) (ni 5) h fun i=>
 Ld (.st aK) ⟨e,0,none⟩ i fun j=>
 af ⟨g,0,none⟩ [(ni j.1),(ni j.2.1),(ni j.2.2.1),(ni j.2.2.2.1),(ni j.2.2.2.2.1),(.int .u32 j.2.2.2.2.2.1),(ni j.2.2.2.2.2.2.1)] 0 i fun k=>
 Ld (.st aK) ⟨g,0,none⟩ k fun l=>
 R l (decide (c≤1)) k)
 (Ld (.st aK) ⟨e,0,none⟩ h fun m=>
 af ⟨g,0,none⟩ [(ni m.1),(ni m.2.1),(ni m.2.2.1),(ni m.2.2.2.1),(ni m.2.2.2.2.1),(.int .u32 m.2.2.2.2.2.1),(ni m.2.2.2.2.2.2.1)] 0 h fun n=>
 Ld (.st aK) ⟨g,0,none⟩ n fun o=>
 R o (decide (c≤1)) n)):Cl Pg [(.st aK),kB] dh ⟨[(ni a),(.agg ⟨[(ni b.1),(ni b.2.1),(ni b.2.2.1),(ni b.2.2.2.1),(ni b.2.2.2.2.1),(.int .u32 b.2.2.2.2.2.1),(ni b.2.2.2.2.2.2.1)]⟩),(.int .u8 c)]⟩ w R:=co Tryz.f149 [] h
theorem AY.ok (a:Int) (b:(TT aK)) (c:Int) (R:(TT aK)→Bool→World→Prop) w (h:
 Nw 74 ⟨[(ni b.1),(ni b.2.1),(ni b.2.2.1),(ni b.2.2.2.1),(ni b.2.2.2.2.1),(.int .u32 b.2.2.2.2.2.1),(ni b.2.2.2.2.2.2.1)]⟩ w fun e d=>
 Nw 74 ⟨[(ni 0),(ni 0),(ni 0),(ni 0),(ni 0),(.int .u32 0),(ni 0)]⟩ d fun g f=>
 Ld (.st [.int .i64,.int .i64]) (Addr.add ⟨e,0,none⟩ 1) f fun h=>
 Cl Pg [(.st [.int .i64,.int .i64]),kB,kB] fJ ⟨[(.agg ⟨[(ni h.1),(ni h.2.1)]⟩),(.int .u8 c),(ni a)]⟩ f fun j (k:Bool) (l:Bool) i=>
 Nw 72 ⟨[(ni 0),(ni 0)]⟩ i fun n m=>
 af ⟨n,0,none⟩ [(ni j.1),(ni j.2.1)] 0 m fun o=>
 Ld (.st [.int .i64,.int .i64]) ⟨n,0,none⟩ o fun p=>
 af (Addr.add ⟨e,0,none⟩ 1) [(ni p.1),(ni p.2.1)] 0 o fun q=>
 aa k
 (Ld kI (Addr.add ⟨n,0,none⟩ 0) q fun (r:Int)=>
 af ⟨e,0,none⟩ [(ni 2),(ni 0),(ni 0),(ni r),(ni 0),(.int .u32 0),(ni 0)] 0 q fun s=>
 Ld (.st aK) ⟨e,0,none⟩ s fun t=>
 af ⟨g,0,none⟩ [(ni t.1),(ni t.2.1),(ni t.2.2.1),(ni t.2.2.2.1),(ni t.2.2.2.2.1),(.int .u32 t.2.2.2.2.2.1),(ni t.2.2.2.2.2.2.1)] 0 s fun u=>
 Ld (.st aK) ⟨g,0,none⟩ u fun v=>
 R v l u)
 (Ld (.st aK) ⟨e,0,none⟩ q fun x=>
 af ⟨g,0,none⟩ [(ni x.1),(ni x.2.1),(ni x.2.2.1),(ni x.2.2.2.1),(ni x.2.2.2.2.1),(.int .u32 x.2.2.2.2.2.1),(ni x.2.2.2.2.2.2.1)] 0 q fun y=>
 Ld (.st aK) ⟨g,0,none⟩ y fun z=>
 R z l y)):Cl Pg [(.st aK),kB] dn ⟨[(ni a),(.agg ⟨[(ni b.1),(ni b.2.1),(ni b.2.2.1),(ni b.2.2.2.1),(ni b.2.2.2.2.1),(.int .u32 b.2.2.2.2.2.1),(ni b.2.2.2.2.2.2.1)]⟩),(.int .u8 c)]⟩ w R:=co Tryz.f150 [] h
theorem xu.ok (a:Int) (b:(TT aK)) (c:Int) (R:(TT aK)→Bool→World→Prop) w (h:
 Nw 74 ⟨[(ni b.1),(ni b.2.1),(ni b.2.2.1),(ni b.2.2.2.1),(ni b.2.2.2.2.1),(.int .u32 b.2.2.2.2.2.1),(ni b.2.2.2.2.2.2.1)]⟩ w fun e d=>
 Nw 74 ⟨[(ni 0),(ni 0),(ni 0),(ni 0),(ni 0),(.int .u32 0),(ni 0)]⟩ d fun g f=>
 Ld (.st [.int .i64,.int .i64]) (Addr.add ⟨e,0,none⟩ 1) f fun h=>
 Ld kI ((Addr.add ⟨e,0,none⟩ 3).add 0) f fun (i:Int)=>
 Cl Pg [(.st [.int .i64,.int .i64]),kB,kB] fJ ⟨[(.agg ⟨[(ni h.1),(ni h.2.1)]⟩),(.int .u8 c),(ni i)]⟩ f fun k (l:Bool) (m:Bool) j=>
 Nw 72 ⟨[(ni 0),(ni 0)]⟩ j fun o n=>
 af ⟨o,0,none⟩ [(ni k.1),(ni k.2.1)] 0 n fun p=>
 Ld (.st [.int .i64,.int .i64]) ⟨o,0,none⟩ p fun q=>
 af (Addr.add ⟨e,0,none⟩ 1) [(ni q.1),(ni q.2.1)] 0 p fun r=>
 aa l
 (Ld kI ((Addr.add ⟨e,0,none⟩ 3).add 0) r fun (s:Int)=>
 Ld kI (Addr.add ⟨o,0,none⟩ 0) r fun (t:Int)=>
 af ⟨e,0,none⟩ [(ni 3),(ni 0),(ni 0),(ni s),(ni t),(.int .u32 0),(ni 0)] 0 r fun u=>
 Ld (.st aK) ⟨e,0,none⟩ u fun v=>
 af ⟨g,0,none⟩ [(ni v.1),(ni v.2.1),(ni v.2.2.1),(ni v.2.2.2.1),(ni v.2.2.2.2.1),(.int .u32 v.2.2.2.2.2.1),(ni v.2.2.2.2.2.2.1)] 0 u fun x=>
 Ld (.st aK) ⟨g,0,none⟩ x fun y=>
 R y m x)
 (Ld (.st aK) ⟨e,0,none⟩ r fun z=>
 af ⟨g,0,none⟩ [(ni z.1),(ni z.2.1),(ni z.2.2.1),(ni z.2.2.2.1),(ni z.2.2.2.2.1),(.int .u32 z.2.2.2.2.2.1),(ni z.2.2.2.2.2.2.1)] 0 r fun a1=>
 Ld (.st aK) ⟨g,0,none⟩ a1 fun b1=>
 R b1 m a1)):Cl Pg [(.st aK),kB] cN ⟨[(ni a),(.agg ⟨[(ni b.1),(ni b.2.1),(ni b.2.2.1),(ni b.2.2.2.1),(ni b.2.2.2.2.1),(.int .u32 b.2.2.2.2.2.1),(ni b.2.2.2.2.2.2.1)]⟩),(.int .u8 c)]⟩ w R:=co Tryz.f151 [] h
theorem CV.ok (a:Int) (b:(TT aK)) (c:Int) (R:(TT aK)→Bool→World→Prop) w (h:
 Nw 74 ⟨[(ni b.1),(ni b.2.1),(ni b.2.2.1),(ni b.2.2.2.1),(ni b.2.2.2.2.1),(.int .u32 b.2.2.2.2.2.1),(ni b.2.2.2.2.2.2.1)]⟩ w fun e d=>
 Nw 74 ⟨[(ni 0),(ni 0),(ni 0),(ni 0),(ni 0),(.int .u32 0),(ni 0)]⟩ d fun g f=>
 Ld (aL .u32) ((Addr.add ⟨e,0,none⟩ 3).add 2) f fun (h:Int)=>
 0≤(8:Int)∧
 St ((Addr.add ⟨e,0,none⟩ 3).add 2) (.int .u32 (jP .u32 (a8 .u32 h (8:Int)) (u32 c))) f fun i=>
 Ld kI (Addr.add ⟨e,0,none⟩ 6) i fun (j:Int)=>
 St (Addr.add ⟨e,0,none⟩ 6) (ni (i64 (j+1))) i fun k=>
 Ld kI (Addr.add ⟨e,0,none⟩ 6) k fun (l:Int)=>
 aa (l==4)
 (Ld kI (Addr.add ⟨e,0,none⟩ 0) k fun (m:Int)=>
 St (Addr.add ⟨e,0,none⟩ 0) (ni (i64 (m+1))) k fun n=>
 Ld (.st aK) ⟨e,0,none⟩ n fun o=>
 af ⟨g,0,none⟩ [(ni o.1),(ni o.2.1),(ni o.2.2.1),(ni o.2.2.2.1),(ni o.2.2.2.2.1),(.int .u32 o.2.2.2.2.2.1),(ni o.2.2.2.2.2.2.1)] 0 n fun p=>
 Ld (.st aK) ⟨g,0,none⟩ p fun q=>
 R q true p)
 (Ld (.st aK) ⟨e,0,none⟩ k fun r=>
 af ⟨g,0,none⟩ [(ni r.1),(ni r.2.1),(ni r.2.2.1),(ni r.2.2.2.1),(ni r.2.2.2.2.1),(.int .u32 r.2.2.2.2.2.1),(ni r.2.2.2.2.2.2.1)] 0 k fun s=>
 Ld (.st aK) ⟨g,0,none⟩ s fun t=>
 R t true s)):Cl Pg [(.st aK),kB] bA ⟨[(ni a),(.agg ⟨[(ni b.1),(ni b.2.1),(ni b.2.2.1),(ni b.2.2.2.1),(ni b.2.2.2.2.1),(.int .u32 b.2.2.2.2.2.1),(ni b.2.2.2.2.2.2.1)]⟩),(.int .u8 c)]⟩ w R:=co Tryz.f152 [] h
theorem rV.ok (a:Int) (b:(TT aK)) (R:Bool→World→Prop) w (h:
 Nw 74 ⟨[(ni b.1),(ni b.2.1),(ni b.2.2.1),(ni b.2.2.2.1),(ni b.2.2.2.2.1),(.int .u32 b.2.2.2.2.2.1),(ni b.2.2.2.2.2.2.1)]⟩ w fun d c=>
 Ld (.st [.int .i64,.int .i64,.int .u32]) (Addr.add ⟨d,0,none⟩ 3) c fun e=>
 Nw 53 ⟨[(ni 0),(ni 0),(.int .u32 0)]⟩ c fun g f=>
 af ⟨g,0,none⟩ [(ni e.1),(ni e.2.1),(.int .u32 e.2.2.1)] 0 f fun h=>
 bo (fun (q:Bool) (r:World)=>
 Cl Pg [kB] bh ⟨[(ni a),(ni 1),(ni 65536)]⟩ r fun (t:Bool) s=>
 aa (!t)
 (R false s)
 (Ld kI (Addr.add ⟨d,0,none⟩ 0) s fun (u:Int)=>
 aa (u==0)
 (Ld (.st aK) ⟨d,0,none⟩ s fun v=>
 R (((v.1:Int)==(0:Int))&&((((v.2.1:Int)==(0:Int))&&((v.2.2.1:Int)==(0:Int)))&&((((v.2.2.2.1:Int)==(0:Int))&&(((v.2.2.2.2.1:Int)==(0:Int))&&((v.2.2.2.2.2.1:Int)==(0:Int))))&&((v.2.2.2.2.2.2.1:Int)==(0:Int))))) s)
 (aa (u==1)
 (Ld (.st [.int .i64,.int .i64]) (Addr.add ⟨d,0,none⟩ 1) s fun x=>
 Cl Pg [kB] eU ⟨[(.agg ⟨[(ni x.1),(ni x.2.1)]⟩),(ni a)]⟩ s fun (z:Bool) y=>
 aa z
 (Ld (.st aK) ⟨d,0,none⟩ y fun a1=>
 Ld (.st [.int .i64,.int .i64]) (Addr.add ⟨d,0,none⟩ 1) y fun b1=>
 R (((a1.1:Int)==(1:Int))&&((((a1.2.1:Int)==(b1.1:Int))&&((a1.2.2.1:Int)==(b1.2.1:Int)))&&((((a1.2.2.2.1:Int)==(0:Int))&&(((a1.2.2.2.2.1:Int)==(0:Int))&&((a1.2.2.2.2.2.1:Int)==(0:Int))))&&((a1.2.2.2.2.2.2.1:Int)==(0:Int))))) y)
 (R false y))
 (aa (u==2)
 (Ld kI (Addr.add ⟨g,0,none⟩ 0) s fun (c1:Int)=>
 Cl Pg [kB] bh ⟨[(ni c1),(ni 1),(ni a)]⟩ s fun (e1:Bool) d1=>
 aa e1
 (Ld (.st [.int .i64,.int .i64]) (Addr.add ⟨d,0,none⟩ 1) d1 fun f1=>
 Ld kI (Addr.add ⟨g,0,none⟩ 0) d1 fun (g1:Int)=>
 Cl Pg [kB] eU ⟨[(.agg ⟨[(ni f1.1),(ni f1.2.1)]⟩),(ni g1)]⟩ d1 fun (i1:Bool) h1=>
 aa i1
 (Ld (.st aK) ⟨d,0,none⟩ h1 fun j1=>
 Ld (.st [.int .i64,.int .i64]) (Addr.add ⟨d,0,none⟩ 1) h1 fun k1=>
 Ld kI (Addr.add ⟨g,0,none⟩ 0) h1 fun (l1:Int)=>
 R (((j1.1:Int)==(2:Int))&&((((j1.2.1:Int)==(k1.1:Int))&&((j1.2.2.1:Int)==(k1.2.1:Int)))&&((((j1.2.2.2.1:Int)==l1)&&(((j1.2.2.2.2.1:Int)==(0:Int))&&((j1.2.2.2.2.2.1:Int)==(0:Int))))&&((j1.2.2.2.2.2.2.1:Int)==(0:Int))))) h1)
 (R false h1))
 (R false d1))
 (aa (u==3)
 (aa q
 (Ld (aL .u32) (Addr.add ⟨g,0,none⟩ 2) s fun (m1:Int)=>
 Ld kI (Addr.add ⟨d,0,none⟩ 6) s fun (n1:Int)=>
 Cl Pg [kB] iL ⟨[(.int .u32 m1),(ni n1)]⟩ s fun (p1:Bool) o1=>
 aa p1
 (Ld (.st [.int .i64,.int .i64]) (Addr.add ⟨d,0,none⟩ 1) o1 fun q1=>
 R (((q1.1:Int)==(0:Int))&&((q1.2.1:Int)==(0:Int))) o1)
 (R false o1))
 (R false s))
 (aa (u==4)
 (aa q
 (Ld (.st aK) ⟨d,0,none⟩ s fun r1=>
 Ld (.st [.int .i64,.int .i64,.int .u32]) ⟨g,0,none⟩ s fun s1=>
 R (((r1.1:Int)==(4:Int))&&((((r1.2.1:Int)==(0:Int))&&((r1.2.2.1:Int)==(0:Int)))&&((((r1.2.2.2.1:Int)==(s1.1:Int))&&(((r1.2.2.2.2.1:Int)==(s1.2.1:Int))&&((r1.2.2.2.2.2.1:Int)==(s1.2.2.1:Int))))&&((r1.2.2.2.2.2.2.1:Int)==(4:Int))))) s)
 (R false s))
 (aa (u==5)
 (Ld (aL .u32) (Addr.add ⟨g,0,none⟩ 2) s fun (t1:Int)=>
 Ld kI (Addr.add ⟨d,0,none⟩ 6) s fun (u1:Int)=>
 Cl Pg [kB] iL ⟨[(.int .u32 t1),(ni u1)]⟩ s fun (x1:Bool) v1=>
 aa x1
 (Ld (.st aK) ⟨d,0,none⟩ v1 fun y1=>
 Ld (aL .u32) (Addr.add ⟨g,0,none⟩ 2) v1 fun (z1:Int)=>
 Ld kI (Addr.add ⟨d,0,none⟩ 6) v1 fun (a2:Int)=>
 R (((y1.1:Int)==(5:Int))&&((((y1.2.1:Int)==(0:Int))&&((y1.2.2.1:Int)==(0:Int)))&&((((y1.2.2.2.1:Int)==(0:Int))&&(((y1.2.2.2.2.1:Int)==(0:Int))&&((y1.2.2.2.2.2.1:Int)==z1)))&&((y1.2.2.2.2.2.2.1:Int)==a2)))) v1)
 (R false v1))
 (aa (u==6)
 (Ld (.st aK) ⟨d,0,none⟩ s fun b2=>
 Ld (aL .u32) (Addr.add ⟨g,0,none⟩ 2) s fun (c2:Int)=>
 R (((b2.1:Int)==(6:Int))&&((((b2.2.1:Int)==(0:Int))&&((b2.2.2.1:Int)==(0:Int)))&&((((b2.2.2.2.1:Int)==(0:Int))&&(((b2.2.2.2.2.1:Int)==(0:Int))&&((b2.2.2.2.2.2.1:Int)==c2)))&&((b2.2.2.2.2.2.2.1:Int)==(4:Int))))) s)
 (R false s))))))))) fun i=>
 Ld kI (Addr.add ⟨g,0,none⟩ 0) h fun (j:Int)=>
 Cl Pg [kB] bh ⟨[(ni j),(ni 1),(ni a)]⟩ h fun (l:Bool) k=>
 aa l
 (Ld kI (Addr.add ⟨g,0,none⟩ 1) k fun (m:Int)=>
 Ld kI (Addr.add ⟨g,0,none⟩ 0) k fun (n:Int)=>
 Cl Pg [kB] bh ⟨[(ni m),(ni 1),(ni n)]⟩ k fun (p:Bool) o=>
 i p o)
 (i false k)):Cl Pg [kB] gD ⟨[(ni a),(.agg ⟨[(ni b.1),(ni b.2.1),(ni b.2.2.1),(ni b.2.2.2.1),(ni b.2.2.2.2.1),(.int .u32 b.2.2.2.2.2.1),(ni b.2.2.2.2.2.2.1)]⟩)]⟩ w R:=co Tryz.f153 [(4,[(6,kB)])] h
theorem xR.ok (a:(TT fX)) (R:Bool→World→Prop) w (h:
 Nw 178 ⟨[(ni a.1),(ni a.2.1),(ni a.2.2.1),(ni a.2.2.2.1)]⟩ w fun c b=>
 Ld kI (Addr.add ⟨c,0,none⟩ 0) b fun (d:Int)=>
 aa (d==3)
 (Ld (.st [.int .i64,.int .i64]) (Addr.add ⟨c,0,none⟩ 1) b fun e=>
 Cl Pg [kB] eU ⟨[(.agg ⟨[(ni e.1),(ni e.2.1)]⟩),(ni 65536)]⟩ b fun (g:Bool) f=>
 aa g
 (Ld kI (Addr.add ⟨c,0,none⟩ 3) f fun (h:Int)=>
 R (h==0) f)
 (R false f))
 (Ld kI (Addr.add ⟨c,0,none⟩ 0) b fun (i:Int)=>
 aa (i==4)
 (Ld (.st [.int .i64,.int .i64]) (Addr.add ⟨c,0,none⟩ 1) b fun j=>
 aa (((j.1:Int)==(0:Int))&&((j.2.1:Int)==(0:Int)))
 (Ld kI (Addr.add ⟨c,0,none⟩ 3) b fun (k:Int)=>
 Cl Pg [kB] bh ⟨[(ni k),(ni 1),(ni 65536)]⟩ b fun (m:Bool) l=>
 R m l)
 (R false b))
 (Ld kI (Addr.add ⟨c,0,none⟩ 0) b fun (n:Int)=>
 Cl Pg [kB] bh ⟨[(ni n),(ni 0),(ni 3)]⟩ b fun (p:Bool) o=>
 aa p
 (Ld (.st fX) ⟨c,0,none⟩ o fun q=>
 Ld kI (Addr.add ⟨c,0,none⟩ 0) o fun (r:Int)=>
 R (((q.1:Int)==r)&&((((q.2.1:Int)==(0:Int))&&((q.2.2.1:Int)==(0:Int)))&&((q.2.2.2.1:Int)==(0:Int)))) o)
 (R false o)))):Cl Pg [kB] kc ⟨[(.agg ⟨[(ni a.1),(ni a.2.1),(ni a.2.2.1),(ni a.2.2.2.1)]⟩)]⟩ w R:=co Tryz.f169 [] h
theorem A4.ok (a:(TT [.int .i64,.int .i64])) (b:Int) (c:Int) (R:(TT [.int .i64,.int .i64])→Bool→Bool→World→Prop) w (h:
 Nw 72 ⟨[(ni a.1),(ni a.2.1)]⟩ w fun e d=>
 Nw 72 ⟨[(ni 0),(ni 0)]⟩ d fun g f=>
 Ld (.st [.int .i64,.int .i64]) ⟨e,0,none⟩ f fun h=>
 Cl Pg [(.st [.int .i64,.int .i64]),kB,kI] lf ⟨[(.agg ⟨[(ni h.1),(ni h.2.1)]⟩),(.int .u8 b)]⟩ f fun j (k:Bool) (l:Int) i=>
 af ⟨g,0,none⟩ [(ni j.1),(ni j.2.1)] 0 i fun m=>
 Ld (.st [.int .i64,.int .i64]) ⟨g,0,none⟩ m fun n=>
 aa (l==0)
 (Ld kI (Addr.add ⟨g,0,none⟩ 0) m fun (o:Int)=>
 aa (decide (o≤c))
 (aa (!k)
 (af ⟨g,0,none⟩ [(ni n.1),(ni n.2.1)] 0 m fun p=>
 Ld (.st [.int .i64,.int .i64]) ⟨g,0,none⟩ p fun q=>
 R q k true p)
 (Ld kI (Addr.add ⟨g,0,none⟩ 0) m fun (r:Int)=>
 af ⟨g,0,none⟩ [(ni n.1),(ni n.2.1)] 0 m fun s=>
 Ld (.st [.int .i64,.int .i64]) ⟨g,0,none⟩ s fun t=>
 R t k (decide (r>0)) s))
 (af ⟨g,0,none⟩ [(ni n.1),(ni n.2.1)] 0 m fun u=>
 Ld (.st [.int .i64,.int .i64]) ⟨g,0,none⟩ u fun v=>
 R v k false u))
 (af ⟨g,0,none⟩ [(ni n.1),(ni n.2.1)] 0 m fun x=>
 Ld (.st [.int .i64,.int .i64]) ⟨g,0,none⟩ x fun y=>
 R y k false x)):Cl Pg [(.st [.int .i64,.int .i64]),kB,kB] fJ ⟨[(.agg ⟨[(ni a.1),(ni a.2.1)]⟩),(.int .u8 b),(ni c)]⟩ w R:=co Tryz.f170 [] h
theorem yA.ok (a:(TT [.int .i64,.int .i64])) (b:Int) (R:Bool→World→Prop) w (h:
 Nw 72 ⟨[(ni a.1),(ni a.2.1)]⟩ w fun d c=>
 Ld (.st [.int .i64,.int .i64]) ⟨d,0,none⟩ c fun e=>
 Cl Pg [kB] gJ ⟨[(.agg ⟨[(ni e.1),(ni e.2.1)]⟩)]⟩ c fun (g:Bool) f=>
 aa g
 (Ld kI (Addr.add ⟨d,0,none⟩ 0) f fun (h:Int)=>
 R (decide (h≤b)) f)
 (R false f)):Cl Pg [kB] eU ⟨[(.agg ⟨[(ni a.1),(ni a.2.1)]⟩),(ni b)]⟩ w R:=co Tryz.f190 [] h
theorem AT.ok (a:Int) (b:Int) (R:Bool→World→Prop) w (h:
 Cl Pg [kB] bh ⟨[(ni b),(ni 0),(ni 3)]⟩ w fun (d:Bool) c=>
 aa d
 (0≤(i64 ((8:Int)*b))∧
 R ((aF .u64 (u64 a) (i64 ((8:Int)*b)))==0) c)
 (R false c)):Cl Pg [kB] iL ⟨[(.int .u32 a),(ni b)]⟩ w R:=co Tryz.f191 [] h
end Go.Proofs.YtcdpblipagajiaaGreat
namespace Go.Proofs.YtcdpblipagajiaaGreat
open Go Go.Vc
set_option maxRecDepth 100000
theorem Da.ok (a:Int) (R:Sl→Int→World→Prop) w (h:
 aa (decide (a<0))
 (R (⟨none,0,0⟩:Sl) 2 w)
 (aa (decide (a>2147483647))
 (R (⟨none,0,0⟩:Sl) 2 w)
 (Nw 5 ⟨[(.int .u8 (u8 (bl .i64 a 127)))]⟩ w fun c b=>
 aD Pg (Builtin.append_ #[22,22] 22 ⟨[(.slice none 0 0),(an (⟨some ⟨c,0,none⟩,1,1⟩:Sl))]⟩) kS b fun (e:Sl) d=>
 0≤(7:Int)∧
 db (aF .i64 a (7:Int)) e d fun f g (h:Int) (i:Sl) j=>
 aa (decide (h>0))
 (Nw 5 ⟨[(.int .u8 (jP .u8 (u8 (bl .i64 h 127)) 128))]⟩ j fun l k=>
 aD Pg (Builtin.append_ #[22,22] 22 ⟨[(an i),(an (⟨some ⟨l,0,none⟩,1,1⟩:Sl))]⟩) kS k fun (n:Sl) m=>
 0≤(7:Int)∧
 f (aF .i64 h (7:Int)) n m∧g (aF .i64 h (7:Int)) n m<g h i j)
 (Cl Pg [] ca ⟨[(an i)]⟩ j fun o=>
 R i 0 o)))):Cl Pg [kS,kI] mv ⟨[(ni a)]⟩ w R:=co Tryz.f130 [(12,[(0,kI),(2,kS)])] h
theorem AQ.ok (a:(TT [.int .i64,.int .i64])) (b:Int) (R:(TT [.int .i64,.int .i64])→Bool→Int→World→Prop) w (h:
 Nw 72 ⟨[(ni a.1),(ni a.2.1)]⟩ w fun d c=>
 Nw 72 ⟨[(ni 0),(ni 0)]⟩ c fun f e=>
 Ld kI (Addr.add ⟨d,0,none⟩ 0) e fun (g:Int)=>
 0≤(7:Int)∧
 bo (fun (h1:World)=>
 Ld kI (Addr.add ⟨d,0,none⟩ 1) h1 fun (i1:Int)=>
 af ⟨f,0,none⟩ [(ni (jP .i64 (a8 .i64 g (7:Int)) (i64 (bl .u8 b 127)))),(ni (i64 (i1+1)))] 0 h1 fun j1=>
 Ld (.st [.int .i64,.int .i64]) ⟨f,0,none⟩ j1 fun k1=>
 R k1 (decide (b<128)) 0 j1) fun h=>
 Ld (.st [.int .i64,.int .i64]) ⟨d,0,none⟩ e fun i=>
 Cl Pg [kB] gJ ⟨[(.agg ⟨[(ni i.1),(ni i.2.1)]⟩)]⟩ e fun (k:Bool) j=>
 aa (!k)
 (Ld (.st [.int .i64,.int .i64]) ⟨f,0,none⟩ j fun l=>
 af ⟨f,0,none⟩ [(ni l.1),(ni l.2.1)] 0 j fun m=>
 Ld (.st [.int .i64,.int .i64]) ⟨f,0,none⟩ m fun n=>
 R n false 2 m)
 (aa (b==128)
 (Ld kI (Addr.add ⟨d,0,none⟩ 1) j fun (o:Int)=>
 aa (o==0)
 (Ld (.st [.int .i64,.int .i64]) ⟨f,0,none⟩ j fun p=>
 af ⟨f,0,none⟩ [(ni p.1),(ni p.2.1)] 0 j fun q=>
 Ld (.st [.int .i64,.int .i64]) ⟨f,0,none⟩ q fun r=>
 R r false 51 q)
 (aa (decide ((jP .i64 (a8 .i64 g (7:Int)) (i64 (bl .u8 b 127)))>2147483647))
 (Ld (.st [.int .i64,.int .i64]) ⟨f,0,none⟩ j fun s=>
 af ⟨f,0,none⟩ [(ni s.1),(ni s.2.1)] 0 j fun t=>
 Ld (.st [.int .i64,.int .i64]) ⟨f,0,none⟩ t fun u=>
 R u false 52 t)
 (Ld kI (Addr.add ⟨d,0,none⟩ 1) j fun (v:Int)=>
 aa (v==4)
 (aa (decide (b≥128))
 (Ld (.st [.int .i64,.int .i64]) ⟨f,0,none⟩ j fun x=>
 af ⟨f,0,none⟩ [(ni x.1),(ni x.2.1)] 0 j fun y=>
 Ld (.st [.int .i64,.int .i64]) ⟨f,0,none⟩ y fun z=>
 R z false 52 y)
 (h j))
 (h j))))
 (aa (decide ((jP .i64 (a8 .i64 g (7:Int)) (i64 (bl .u8 b 127)))>2147483647))
 (Ld (.st [.int .i64,.int .i64]) ⟨f,0,none⟩ j fun a1=>
 af ⟨f,0,none⟩ [(ni a1.1),(ni a1.2.1)] 0 j fun b1=>
 Ld (.st [.int .i64,.int .i64]) ⟨f,0,none⟩ b1 fun c1=>
 R c1 false 52 b1)
 (Ld kI (Addr.add ⟨d,0,none⟩ 1) j fun (d1:Int)=>
 aa (d1==4)
 (aa (decide (b≥128))
 (Ld (.st [.int .i64,.int .i64]) ⟨f,0,none⟩ j fun e1=>
 af ⟨f,0,none⟩ [(ni e1.1),(ni e1.2.1)] 0 j fun f1=>
 Ld (.st [.int .i64,.int .i64]) ⟨f,0,none⟩ f1 fun g1=>
 R g1 false 52 f1)
 (h j))
 (h j))))):Cl Pg [(.st [.int .i64,.int .i64]),kB,kI] lf ⟨[(.agg ⟨[(ni a.1),(ni a.2.1)]⟩),(.int .u8 b)]⟩ w R:=co Tryz.f196 [(4,[])] h
theorem xx.ok (a:(TT [.int .i64,.int .i64])) (R:Bool→World→Prop) w (h:
 Nw 72 ⟨[(ni a.1),(ni a.2.1)]⟩ w fun c b=>
 Ld kI (Addr.add ⟨c,0,none⟩ 1) b fun (d:Int)=>
 aa (decide (d<1))
 (Ld (.st [.int .i64,.int .i64]) ⟨c,0,none⟩ b fun e=>
 R (((e.1:Int)==(0:Int))&&((e.2.1:Int)==(0:Int))) b)
 (Ld kI (Addr.add ⟨c,0,none⟩ 1) b fun (f:Int)=>
 aa (decide (f>4))
 (Ld (.st [.int .i64,.int .i64]) ⟨c,0,none⟩ b fun g=>
 R (((g.1:Int)==(0:Int))&&((g.2.1:Int)==(0:Int))) b)
 (ao b fun h=>
 Ld kI (Addr.add ⟨c,0,none⟩ 0) h fun (i:Int)=>
 Ld kI (Addr.add ⟨c,0,none⟩ 1) h fun (j:Int)=>
 0≤(i64 ((7:Int)*(i64 (j - 1))))∧
 aa (decide (i≥(a8 .i64 (1:Int) (i64 ((7:Int)*(i64 (j - 1)))))))
 (Ld kI (Addr.add ⟨c,0,none⟩ 0) h fun (k:Int)=>
 Ld kI (Addr.add ⟨c,0,none⟩ 1) h fun (l:Int)=>
 0≤(i64 ((7:Int)*l))∧
 R (decide (k<(a8 .i64 (1:Int) (i64 ((7:Int)*l))))) h)
 (R false h)))):Cl Pg [kB] gJ ⟨[(.agg ⟨[(ni a.1),(ni a.2.1)]⟩)]⟩ w R:=co Tryz.f206 [] h
end Go.Proofs.YtcdpblipagajiaaGreat
set_option maxRecDepth 20000
namespace Go.Srt
def vm (v:Nat):Nat:=if v=0 then 0 else if v<128 then 1 else if v<16384 then 2 else if v<2097152 then 3 else 4
theorem B9 {v c:Nat} (hv:v≤65536) (hc:128≤c) (hc2:c<256) (h0: ¬(v=0∧c=128)):vm v+1=vm (128*v+c % 128):=by
 unfold vm
 repeat' split
 all_goals omega
theorem r8 {v:Nat} (hv:v≤65536):(v=0∧vm v=0)∨(1≤v∧v<128∧vm v=1)∨(128≤v∧v<16384∧vm v=2)∨(16384≤v∧v<2097152∧vm v=3):=by
 unfold vm
 repeat' split
 all_goals omega
theorem G3 {v:Nat} (hv:v≤65536):vm v≤3∧(vm v=0↔v=0):=by
 have:=r8 hv
 omega
end Go.Srt
namespace Go.Vc
theorem Kq {v c:Nat} (hv:v≤65536) (hc:c<256):jP .i64 (a8 .i64 (v:Int) 7) (i64 (bl .u8 (c:Int) 127))=((128*v+c % 128:Nat):Int):=by
 have hmx:IntKind.max .i64=9223372036854775807:=rfl
 have hm8:IntKind.max .u8=255:=rfl
 have e1:a8 .i64 (v:Int) 7=((v*128:Nat):Int):=by
  have:=dJ (k:= .i64) (a:=v) (b:=7) (by decide) (by rw [hmx];omega)
  simpa using this
 have e2:bl .u8 (c:Int) 127=((c % 128:Nat):Int):=by
  have:=eI (k:= .u8) (a:=c) (b:=127) (by rw [hm8];omega) (by rw [hm8];omega)
  rw [show c&&&127=c % 128 from Nat.and_two_pow_sub_one_eq_mod c 7] at this
  simpa using this
 have e3:v*128|||c % 128=128*v+c % 128:=by
  rw [Nat.mul_comm v 128]
  exact (Nat.two_pow_add_eq_or_of_lt (i:=7) (by omega) v).symm
 rw [e1,e2,ag (by omega),ou (by rw [hmx];omega) (by rw [hmx];omega) (by rw [e3,hmx];omega),e3]
end Go.Vc
namespace Go.Proofs.YtcdpblipagajiaaGreat
open Go Go.Vc Go.Srt
section
variable {E w:World} {F:List HP}
theorem zf {v:Nat} {K:Bool→World→Prop} (h:Hp E w F) (hv:v≤65536) (hK: ∀w',Hp E w' F→K true w'):
  Cl Tryz.prog [kB] gJ ⟨[.agg ⟨[.int .i64 (v:Int),.int .i64 (vm v:Int)]⟩]⟩ w K:=by
 refine xx.ok ((v:Int),(vm v:Int),()) _ _ ?_
 (try simp only [ax,au,aq,Nat.zero_add,Nat.add_zero,Nat.reduceAdd,Bool.not_true,Bool.not_false,aQ,aR,Option.isNone])
 (with_reducible repeat first|refine Nw.mk h fun b w h=> ?_|refine ao.mk h fun w h=> ?_|refine Ld.xb h rfl ?_|refine Ld.xt h rfl ?_|refine ad.xb (fun _ h=>h) rfl ?_|refine ad.xt (fun _ h=>h) rfl ?_|refine ⟨h.hb,?_⟩|refine af.xw h rfl rfl fun w h=> ?_|(refine af.xs h rfl rfl fun w h=> ?_;dsimp only [ah,ae] at h)|(refine St.xs h rfl rfl fun w h=> ?_;dsimp only [ah,ae] at h)|refine aa.yes ?_|refine aa.no ?_|refine ⟨by first|omega|decide,?_⟩)
 rcases r8 hv with ⟨h1,h2⟩|⟨h0,h1,h2⟩|⟨h0,h1,h2⟩|⟨h0,h1,h2⟩
 all_goals rw [h2] at h⊢
 ·subst h1
  (with_reducible repeat first|refine Nw.mk h fun b w h=> ?_|refine ao.mk h fun w h=> ?_|refine Ld.xb h rfl ?_|refine Ld.xt h rfl ?_|refine ad.xb (fun _ h=>h) rfl ?_|refine ad.xt (fun _ h=>h) rfl ?_|refine ⟨h.hb,?_⟩|refine af.xw h rfl rfl fun w h=> ?_|(refine af.xs h rfl rfl fun w h=> ?_;dsimp only [ah,ae] at h)|(refine St.xs h rfl rfl fun w h=> ?_;dsimp only [ah,ae] at h)|refine aa.yes ?_|refine aa.no ?_|refine ⟨by first|omega|decide,?_⟩)
  exact hK _ h.tl
 all_goals
  (with_reducible repeat first|refine Nw.mk h fun b w h=> ?_|refine ao.mk h fun w h=> ?_|refine Ld.xb h rfl ?_|refine Ld.xt h rfl ?_|refine ad.xb (fun _ h=>h) rfl ?_|refine ad.xt (fun _ h=>h) rfl ?_|refine ⟨h.hb,?_⟩|refine af.xw h rfl rfl fun w h=> ?_|(refine af.xs h rfl rfl fun w h=> ?_;dsimp only [ah,ae] at h)|(refine St.xs h rfl rfl fun w h=> ?_;dsimp only [ah,ae] at h)|refine aa.yes ?_|refine aa.no ?_|refine ⟨by first|omega|decide,?_⟩)
  refine aa.dt ?_ ?_
  ·first
   |rw [show a8 .i64 1 (i64 (7*i64 (((1:Nat):Int) - 1)))=1 by decide];omega
   |rw [show a8 .i64 1 (i64 (7*i64 (((2:Nat):Int) - 1)))=128 by decide];omega
   |rw [show a8 .i64 1 (i64 (7*i64 (((3:Nat):Int) - 1)))=16384 by decide];omega
  (with_reducible repeat first|refine Nw.mk h fun b w h=> ?_|refine ao.mk h fun w h=> ?_|refine Ld.xb h rfl ?_|refine Ld.xt h rfl ?_|refine ad.xb (fun _ h=>h) rfl ?_|refine ad.xt (fun _ h=>h) rfl ?_|refine ⟨h.hb,?_⟩|refine af.xw h rfl rfl fun w h=> ?_|(refine af.xs h rfl rfl fun w h=> ?_;dsimp only [ah,ae] at h)|(refine St.xs h rfl rfl fun w h=> ?_;dsimp only [ah,ae] at h)|refine aa.yes ?_|refine aa.no ?_|refine ⟨by first|omega|decide,?_⟩)
  refine gX ?_ (hK _ h.tl)
  refine decide_eq_true ?_
  first
   |rw [show a8 .i64 1 (i64 (7*((1:Nat):Int)))=128 by decide];omega
   |rw [show a8 .i64 1 (i64 (7*((2:Nat):Int)))=16384 by decide];omega
   |rw [show a8 .i64 1 (i64 (7*((3:Nat):Int)))=2097152 by decide];omega
theorem Iw {v c:Nat} {K:Int×Int×Unit→Bool→Int→World→Prop} (h:Hp E w F) (hv:v≤65536) (hc:c<256)
  (hbad:v=0∧c=128→∀w',Hp E w' F→K (0,0,()) false 51 w')
  (hK: ¬(v=0∧c=128)→∀w',Hp E w' F→K (((128*v+c % 128:Nat):Int),((vm v+1:Nat):Int),()) (decide (c<128)) 0 w'):
  Cl Tryz.prog [.st [.int .i64,.int .i64],kB,kI] lf ⟨[.agg ⟨[.int .i64 (v:Int),.int .i64 (vm v:Int)]⟩,.int .u8 (c:Int)]⟩ w K:=by
 refine AQ.ok ((v:Int),(vm v:Int),()) _ _ _ ?_
 (try simp only [ax,au,aq,Nat.zero_add,Nat.add_zero,Nat.reduceAdd,Bool.not_true,Bool.not_false,aQ,aR,Option.isNone])
 (with_reducible repeat first|refine Nw.mk h fun b w h=> ?_|refine ao.mk h fun w h=> ?_|refine Ld.xb h rfl ?_|refine Ld.xt h rfl ?_|refine ad.xb (fun _ h=>h) rfl ?_|refine ad.xt (fun _ h=>h) rfl ?_|refine ⟨h.hb,?_⟩|refine af.xw h rfl rfl fun w h=> ?_|(refine af.xs h rfl rfl fun w h=> ?_;dsimp only [ah,ae] at h)|(refine St.xs h rfl rfl fun w h=> ?_;dsimp only [ah,ae] at h)|refine aa.yes ?_|refine aa.no ?_|refine ⟨by first|omega|decide,?_⟩)
 refine zf h hv fun w h=> ?_
 (try simp only [ax,au,aq,Nat.zero_add,Nat.add_zero,Nat.reduceAdd,Bool.not_true,Bool.not_false,aQ,aR,Option.isNone])
 rw [Kq hv hc]
 have hvm:=G3 hv
 have fin: ∀w,¬(v=0∧c=128)→Hp E w F→K (((128*v+c % 128:Nat):Int),i64 ((vm v:Int)+1),()) (decide ((c:Int)<128)) 0 w:=fun w hn h=>by
  have:=hK hn w h
  rw [ag (by omega)]
  rw [show ((vm v+1:Nat):Int)=(vm v:Int)+1 from rfl] at this
  rwa [show decide ((c:Int)<128)=decide (c<128) from decide_eq_decide.2 (by omega)]
 (first|refine aa.dm (fun hb=> ?_) (fun hb=> ?_)|refine aa.em (fun hb=> ?_) (fun hb=> ?_)|refine aa.nm (fun hb=> ?_) (fun hb=> ?_)|refine aa.mk (fun hb=> ?_) (fun hb=> ?_))
 ·(with_reducible repeat first|refine Nw.mk h fun b w h=> ?_|refine ao.mk h fun w h=> ?_|refine Ld.xb h rfl ?_|refine Ld.xt h rfl ?_|refine ad.xb (fun _ h=>h) rfl ?_|refine ad.xt (fun _ h=>h) rfl ?_|refine ⟨h.hb,?_⟩|refine af.xw h rfl rfl fun w h=> ?_|(refine af.xs h rfl rfl fun w h=> ?_;dsimp only [ah,ae] at h)|(refine St.xs h rfl rfl fun w h=> ?_;dsimp only [ah,ae] at h)|refine aa.yes ?_|refine aa.no ?_|refine ⟨by first|omega|decide,?_⟩)
  (first|refine aa.dm (fun hb=> ?_) (fun hb=> ?_)|refine aa.em (fun hb=> ?_) (fun hb=> ?_)|refine aa.nm (fun hb=> ?_) (fun hb=> ?_)|refine aa.mk (fun hb=> ?_) (fun hb=> ?_))
  ·(with_reducible repeat first|refine Nw.mk h fun b w h=> ?_|refine ao.mk h fun w h=> ?_|refine Ld.xb h rfl ?_|refine Ld.xt h rfl ?_|refine ad.xb (fun _ h=>h) rfl ?_|refine ad.xt (fun _ h=>h) rfl ?_|refine ⟨h.hb,?_⟩|refine af.xw h rfl rfl fun w h=> ?_|(refine af.xs h rfl rfl fun w h=> ?_;dsimp only [ah,ae] at h)|(refine St.xs h rfl rfl fun w h=> ?_;dsimp only [ah,ae] at h)|refine aa.yes ?_|refine aa.no ?_|refine ⟨by first|omega|decide,?_⟩)
   exact hbad (by omega) _ h.tl
  ·(with_reducible repeat first|refine Nw.mk h fun b w h=> ?_|refine ao.mk h fun w h=> ?_|refine Ld.xb h rfl ?_|refine Ld.xt h rfl ?_|refine ad.xb (fun _ h=>h) rfl ?_|refine ad.xt (fun _ h=>h) rfl ?_|refine ⟨h.hb,?_⟩|refine af.xw h rfl rfl fun w h=> ?_|(refine af.xs h rfl rfl fun w h=> ?_;dsimp only [ah,ae] at h)|(refine St.xs h rfl rfl fun w h=> ?_;dsimp only [ah,ae] at h)|refine aa.yes ?_|refine aa.no ?_|refine ⟨by first|omega|decide,?_⟩)
   exact fin _ (by omega) h.tl
 ·(with_reducible repeat first|refine Nw.mk h fun b w h=> ?_|refine ao.mk h fun w h=> ?_|refine Ld.xb h rfl ?_|refine Ld.xt h rfl ?_|refine ad.xb (fun _ h=>h) rfl ?_|refine ad.xt (fun _ h=>h) rfl ?_|refine ⟨h.hb,?_⟩|refine af.xw h rfl rfl fun w h=> ?_|(refine af.xs h rfl rfl fun w h=> ?_;dsimp only [ah,ae] at h)|(refine St.xs h rfl rfl fun w h=> ?_;dsimp only [ah,ae] at h)|refine aa.yes ?_|refine aa.no ?_|refine ⟨by first|omega|decide,?_⟩)
  exact fin _ (by omega) h.tl
end
end Go.Proofs.YtcdpblipagajiaaGreat
set_option maxRecDepth 20000
namespace Go.Vc
theorem Kc {v c:Nat} (hv:v<16777216) (hc:c<256):jP .u32 (a8 .u32 (v:Int) 8) (u32 (c:Int))=((256*v+c:Nat):Int):=by
 have hmx:IntKind.max .u32=4294967295:=rfl
 have e1:a8 .u32 (v:Int) 8=((v*256:Nat):Int):=by
  have:=dJ (k:= .u32) (a:=v) (b:=8) (by decide) (by rw [hmx];omega)
  simpa using this
 have e3:v*256|||c=256*v+c:=by
  rw [Nat.mul_comm v 256]
  exact (Nat.two_pow_add_eq_or_of_lt (i:=8) (by omega) v).symm
 rw [e1,kK (by omega),ou (by rw [hmx];omega) (by rw [hmx];omega) (by rw [e3,hmx];omega),e3]
end Go.Vc
namespace Go.Hd
open Go.Inc Go.Srt
def uo (s:HS):Prop:=s.at_≤3∧(s.at_<3→s.v=0)∧s.v≤65536
def iM (n:Nat) (m:MS):Prop:=
 (m.at_=0∧m=dW)∨(m.at_=1∧m.v≤n∧m.M=0∧m.P=0∧m.sum=0∧m.many=0)∨(m.at_=2∧1≤m.M∧m.M≤n∧m.v≤m.M∧m.P=0∧m.sum=0∧m.many=0)∨
 (m.at_=3∧1≤m.M∧m.M≤n∧1≤m.P∧m.P≤m.M∧m.v=0∧m.many≤3∧m.sum<256^m.many)∨
 (m.at_=5∧m.M=0∧m.P=0∧m.v=0∧m.many≤3∧m.sum<256^m.many)
theorem yH {s s':HS} {c:Nat} (h:uo s) (hc:c<256) (he:bE s c= .more s'):uo s':=by
 unfold bE at he
 split at he
 ·split at he
  ·cases he
   exact ⟨by dsimp only;omega,fun _=>rfl,by dsimp only;omega⟩
  ·cases he
 ·split at he
  ·cases he
  ·cases he
  ·rename_i n hg
   cases he
   exact ⟨by dsimp only;omega,fun h=>by dsimp only at h;omega,(gI hc hg).1⟩
theorem sg {n:Nat} {s s':MS} {c:Nat} (h:iM n s) (hc:c<256) (he:aB n s c= .more s'):iM n s':=by
 obtain ⟨at_,v,M,P,sum,many⟩:=s
 unfold iM at h
 unfold aB at he
 dsimp only at h he
 split at he
 ·split at he
  ·cases he
   right;right;right;right;simp
  ·split at he
   ·cases he
    right;left;simp
   ·cases he
 ·split at he
  ·split at he
   ·cases he
   ·rename_i m hg
    have:=gI hc hg
    cases he
    right;right;left;simp;omega
   ·rename_i m hg
    have:=gI hc hg
    cases he
    right;left;simp;omega
  ·split at he
   ·split at he
    ·cases he
    ·rename_i m hg
     have:=gI hc hg
     cases he
     right;right;right;left;simp;omega
    ·rename_i m hg
     have:=gI hc hg
     cases he
     right;right;left;simp;omega
   ·split at he
    ·split at he<;>cases he
    ·cases he
     rename_i h3
     rcases h with ⟨h,_⟩|⟨h,_⟩|⟨h,_⟩|⟨h,h1⟩|⟨h,h1⟩
     ·omega
     ·omega
     ·omega
     ·right;right;right;left
      simp only
      have:256*sum+c<256^(many+1):=by rw [Nat.pow_succ];omega
      refine ⟨h,?_⟩
      omega
     ·right;right;right;right
      simp only
      have:256*sum+c<256^(many+1):=by rw [Nat.pow_succ];omega
      refine ⟨h,?_⟩
      omega
theorem Ek {n:Nat} {s:MS} {c:Nat} {M P u:Nat} (h:iM n s) (he:aB n s c= .fin (.aC M P u)):1≤M∧M≤n∧1≤P∧P≤M:=by
 obtain ⟨at_,v,M',P',sum,many⟩:=s
 unfold iM at h
 unfold aB at he
 dsimp only at h he
 split at he
 ·split at he
  ·cases he
  ·split at he<;>cases he
 ·split at he
  ·split at he<;>cases he
  ·split at he
   ·split at he<;>cases he
   ·split at he
    ·split at he
     ·cases he
      omega
     ·cases he
    ·cases he
end Go.Hd
namespace Go.Proofs.YtcdpblipagajiaaGreat
open Go Go.Vc Go.Srt Go.Inc Go.Hd
abbrev T2:=Int×Int×Unit
abbrev Lb (s:HS):Int×Int×Int×Int×Unit:=((s.at_:Int),(s.v:Int),(vm s.v:Int),0,())
abbrev J1 (m:MS):Int×Int×Int×Int×Int×Int×Int×Unit:=((m.at_:Int),(m.v:Int),(vm m.v:Int),(m.M:Int),(m.P:Int),(m.sum:Int),(m.many:Int),())
section
variable {E w:World} {F:List HP}
theorem IW:Tryz.prog.underlying 3=some (.int .i64):=by kernel_rfl
theorem lS:nE Tryz.prog (α:=Int) 3 (fun n=>Value.int .i64 n) where
 und:=⟨_,IW,fun a b=> .inr rfl⟩
 check:=fun e a w=>by
  have: ∀(e:Bool) (c:Int) (w:World),(Instr.checkKey e 10000 3 (.int .i64 c)).run Tryz.prog w= .ok () w:=fun e c w=>by kernel_rfl
  exact this e a w
 eq:=fun a b w=>by
  exact (run_equalIn_int w 9999 _ _ _ _ _ IW).trans (by rw [show (a==b)=decide (a=b) from rfl])
 same:=fun a=>by simp [Instr.sameBits]
theorem cg {a b c:Int} {K:Bool→World→Prop} (hK:K (decide (b≤a∧a≤c)) w):Cl Tryz.prog [kB] bh ⟨[.int .i64 a,.int .i64 b,.int .i64 c]⟩ w K:=by
 refine wQ.ok _ _ _ _ _ ?_
 (first|refine aa.dm (fun hb=> ?_) (fun hb=> ?_)|refine aa.em (fun hb=> ?_) (fun hb=> ?_)|refine aa.nm (fun hb=> ?_) (fun hb=> ?_)|refine aa.mk (fun hb=> ?_) (fun hb=> ?_))
 ·refine gX (decide_eq_decide.2 ?_) hK
  omega
 ·refine gX (decide_eq_false ?_).symm hK
  omega
theorem uS {v:Nat} {most:Int} {K:Bool→World→Prop} (h:Hp E w F) (hv:v≤65536) (hm:(v:Int)≤most) (hK: ∀w',Hp E w' F→K true w'):
  Cl Tryz.prog [kB] eU ⟨[.agg ⟨[.int .i64 (v:Int),.int .i64 (vm v:Int)]⟩,.int .i64 most]⟩ w K:=by
 refine yA.ok ((v:Int),(vm v:Int),()) _ _ _ ?_
 (try simp only [ax,au,aq,Nat.zero_add,Nat.add_zero,Nat.reduceAdd,Bool.not_true,Bool.not_false,aQ,aR,Option.isNone])
 (with_reducible repeat first|refine Nw.mk h fun b w h=> ?_|refine ao.mk h fun w h=> ?_|refine Ld.xb h rfl ?_|refine Ld.xt h rfl ?_|refine ad.xb (fun _ h=>h) rfl ?_|refine ad.xt (fun _ h=>h) rfl ?_|refine ⟨h.hb,?_⟩|refine af.xw h rfl rfl fun w h=> ?_|(refine af.xs h rfl rfl fun w h=> ?_;dsimp only [ah,ae] at h)|(refine St.xs h rfl rfl fun w h=> ?_;dsimp only [ah,ae] at h)|refine aa.yes ?_|refine aa.no ?_|refine ⟨by first|omega|decide,?_⟩)
 refine zf h hv fun w h=> ?_
 (with_reducible repeat first|refine Nw.mk h fun b w h=> ?_|refine ao.mk h fun w h=> ?_|refine Ld.xb h rfl ?_|refine Ld.xt h rfl ?_|refine ad.xb (fun _ h=>h) rfl ?_|refine ad.xt (fun _ h=>h) rfl ?_|refine ⟨h.hb,?_⟩|refine af.xw h rfl rfl fun w h=> ?_|(refine af.xs h rfl rfl fun w h=> ?_;dsimp only [ah,ae] at h)|(refine St.xs h rfl rfl fun w h=> ?_;dsimp only [ah,ae] at h)|refine aa.yes ?_|refine aa.no ?_|refine ⟨by first|omega|decide,?_⟩)
 exact gX (decide_eq_true hm) (hK _ h.tl)
theorem xM {v c most:Nat} {K:T2→Bool→Bool→World→Prop} (h:Hp E w F) (hv:v≤most) (hm:most≤65536) (hc:c<256)
  (hbad:grow most v c=none→∀o d w',Hp E w' F→K o d false w')
  (hK: ∀n d,grow most v c=some (n,d)→∀k w',(d=false→k=(vm n:Int))→Hp E w' F→K ((n:Int),k,()) d true w'):
  Cl Tryz.prog [.st [.int .i64,.int .i64],kB,kB] fJ ⟨[.agg ⟨[.int .i64 (v:Int),.int .i64 (vm v:Int)]⟩,.int .u8 (c:Int),.int .i64 (most:Int)]⟩ w K:=by
 refine A4.ok ((v:Int),(vm v:Int),()) _ _ _ _ ?_
 (try simp only [ax,au,aq,Nat.zero_add,Nat.add_zero,Nat.reduceAdd,Bool.not_true,Bool.not_false,aQ,aR,Option.isNone])
 (with_reducible repeat first|refine Nw.mk h fun b w h=> ?_|refine ao.mk h fun w h=> ?_|refine Ld.xb h rfl ?_|refine Ld.xt h rfl ?_|refine ad.xb (fun _ h=>h) rfl ?_|refine ad.xt (fun _ h=>h) rfl ?_|refine ⟨h.hb,?_⟩|refine af.xw h rfl rfl fun w h=> ?_|(refine af.xs h rfl rfl fun w h=> ?_;dsimp only [ah,ae] at h)|(refine St.xs h rfl rfl fun w h=> ?_;dsimp only [ah,ae] at h)|refine aa.yes ?_|refine aa.no ?_|refine ⟨by first|omega|decide,?_⟩)
 refine Iw h (by omega) hc (fun hb w h=> ?_) (fun hb w h=> ?_)
 ·(with_reducible repeat first|refine Nw.mk h fun b w h=> ?_|refine ao.mk h fun w h=> ?_|refine Ld.xb h rfl ?_|refine Ld.xt h rfl ?_|refine ad.xb (fun _ h=>h) rfl ?_|refine ad.xt (fun _ h=>h) rfl ?_|refine ⟨h.hb,?_⟩|refine af.xw h rfl rfl fun w h=> ?_|(refine af.xs h rfl rfl fun w h=> ?_;dsimp only [ah,ae] at h)|(refine St.xs h rfl rfl fun w h=> ?_;dsimp only [ah,ae] at h)|refine aa.yes ?_|refine aa.no ?_|refine ⟨by first|omega|decide,?_⟩)
  exact hbad (by unfold grow;rw [if_pos hb]) _ _ _ h.tl
 ·(with_reducible repeat first|refine Nw.mk h fun b w h=> ?_|refine ao.mk h fun w h=> ?_|refine Ld.xb h rfl ?_|refine Ld.xt h rfl ?_|refine ad.xb (fun _ h=>h) rfl ?_|refine ad.xt (fun _ h=>h) rfl ?_|refine ⟨h.hb,?_⟩|refine af.xw h rfl rfl fun w h=> ?_|(refine af.xs h rfl rfl fun w h=> ?_;dsimp only [ah,ae] at h)|(refine St.xs h rfl rfl fun w h=> ?_;dsimp only [ah,ae] at h)|refine aa.yes ?_|refine aa.no ?_|refine ⟨by first|omega|decide,?_⟩)
  by_cases hc1:c<128
  ·rw [decide_eq_true hc1]
   by_cases hle:128*v+c % 128≤most
   ·(with_reducible repeat first|refine Nw.mk h fun b w h=> ?_|refine ao.mk h fun w h=> ?_|refine Ld.xb h rfl ?_|refine Ld.xt h rfl ?_|refine ad.xb (fun _ h=>h) rfl ?_|refine ad.xt (fun _ h=>h) rfl ?_|refine ⟨h.hb,?_⟩|refine af.xw h rfl rfl fun w h=> ?_|(refine af.xs h rfl rfl fun w h=> ?_;dsimp only [ah,ae] at h)|(refine St.xs h rfl rfl fun w h=> ?_;dsimp only [ah,ae] at h)|refine aa.yes ?_|refine aa.no ?_|refine ⟨by first|omega|decide,?_⟩)
    (try simp only [ax,au,aq,Nat.zero_add,Nat.add_zero,Nat.reduceAdd,Bool.not_true,Bool.not_false,aQ,aR,Option.isNone])
    (with_reducible repeat first|refine Nw.mk h fun b w h=> ?_|refine ao.mk h fun w h=> ?_|refine Ld.xb h rfl ?_|refine Ld.xt h rfl ?_|refine ad.xb (fun _ h=>h) rfl ?_|refine ad.xt (fun _ h=>h) rfl ?_|refine ⟨h.hb,?_⟩|refine af.xw h rfl rfl fun w h=> ?_|(refine af.xs h rfl rfl fun w h=> ?_;dsimp only [ah,ae] at h)|(refine St.xs h rfl rfl fun w h=> ?_;dsimp only [ah,ae] at h)|refine aa.yes ?_|refine aa.no ?_|refine ⟨by first|omega|decide,?_⟩)
    by_cases h0:0<128*v+c % 128
    ·refine gX (decide_eq_true (by omega)) (hK _ true ?_ _ _ (fun hh=>by cases hh) h.tl)
     unfold grow
     rw [if_neg hb,if_pos ⟨hle,fun _=>h0⟩,decide_eq_true hc1]
    ·refine gX (decide_eq_false (by omega)) (hbad ?_ _ _ _ h.tl)
     unfold grow
     rw [if_neg hb,if_neg (fun hh=>h0 (hh.2 hc1))]
   ·(with_reducible repeat first|refine Nw.mk h fun b w h=> ?_|refine ao.mk h fun w h=> ?_|refine Ld.xb h rfl ?_|refine Ld.xt h rfl ?_|refine ad.xb (fun _ h=>h) rfl ?_|refine ad.xt (fun _ h=>h) rfl ?_|refine ⟨h.hb,?_⟩|refine af.xw h rfl rfl fun w h=> ?_|(refine af.xs h rfl rfl fun w h=> ?_;dsimp only [ah,ae] at h)|(refine St.xs h rfl rfl fun w h=> ?_;dsimp only [ah,ae] at h)|refine aa.yes ?_|refine aa.no ?_|refine ⟨by first|omega|decide,?_⟩)
    refine hbad ?_ _ _ _ h.tl
    unfold grow
    rw [if_neg hb,if_neg (fun hh=>hle hh.1)]
  ·rw [decide_eq_false hc1]
   by_cases hle:128*v+c % 128≤most
   ·(with_reducible repeat first|refine Nw.mk h fun b w h=> ?_|refine ao.mk h fun w h=> ?_|refine Ld.xb h rfl ?_|refine Ld.xt h rfl ?_|refine ad.xb (fun _ h=>h) rfl ?_|refine ad.xt (fun _ h=>h) rfl ?_|refine ⟨h.hb,?_⟩|refine af.xw h rfl rfl fun w h=> ?_|(refine af.xs h rfl rfl fun w h=> ?_;dsimp only [ah,ae] at h)|(refine St.xs h rfl rfl fun w h=> ?_;dsimp only [ah,ae] at h)|refine aa.yes ?_|refine aa.no ?_|refine ⟨by first|omega|decide,?_⟩)
    (try simp only [ax,au,aq,Nat.zero_add,Nat.add_zero,Nat.reduceAdd,Bool.not_true,Bool.not_false,aQ,aR,Option.isNone])
    (with_reducible repeat first|refine Nw.mk h fun b w h=> ?_|refine ao.mk h fun w h=> ?_|refine Ld.xb h rfl ?_|refine Ld.xt h rfl ?_|refine ad.xb (fun _ h=>h) rfl ?_|refine ad.xt (fun _ h=>h) rfl ?_|refine ⟨h.hb,?_⟩|refine af.xw h rfl rfl fun w h=> ?_|(refine af.xs h rfl rfl fun w h=> ?_;dsimp only [ah,ae] at h)|(refine St.xs h rfl rfl fun w h=> ?_;dsimp only [ah,ae] at h)|refine aa.yes ?_|refine aa.no ?_|refine ⟨by first|omega|decide,?_⟩)
    refine hK _ false ?_ _ _ (fun _=>by rw [B9 (by omega) (by omega) hc hb]) h.tl
    unfold grow
    rw [if_neg hb,if_pos ⟨hle,fun hh=>absurd hh hc1⟩,decide_eq_false hc1]
   ·(with_reducible repeat first|refine Nw.mk h fun b w h=> ?_|refine ao.mk h fun w h=> ?_|refine Ld.xb h rfl ?_|refine Ld.xt h rfl ?_|refine ad.xb (fun _ h=>h) rfl ?_|refine ad.xt (fun _ h=>h) rfl ?_|refine ⟨h.hb,?_⟩|refine af.xw h rfl rfl fun w h=> ?_|(refine af.xs h rfl rfl fun w h=> ?_;dsimp only [ah,ae] at h)|(refine St.xs h rfl rfl fun w h=> ?_;dsimp only [ah,ae] at h)|refine aa.yes ?_|refine aa.no ?_|refine ⟨by first|omega|decide,?_⟩)
    refine hbad ?_ _ _ _ h.tl
    unfold grow
    rw [if_neg hb,if_neg (fun hh=>hle hh.1)]
theorem E6 {s:HS} {K:Bool→World→Prop} (h:Hp E w F) (hs:uo s) (hK: ∀w',Hp E w' F→K true w'):
  Cl Tryz.prog [kB] kc ⟨[.agg ⟨[.int .i64 (s.at_:Int),.int .i64 (s.v:Int),.int .i64 (vm s.v:Int),.int .i64 0]⟩]⟩ w K:=by
 obtain ⟨at_,v⟩:=s
 obtain ⟨h1,h2,h3⟩:=hs
 dsimp only at h1 h2 h3⊢
 refine xR.ok ((at_:Int),(v:Int),(vm v:Int),0,()) _ _ ?_
 (try simp only [ax,au,aq,Nat.zero_add,Nat.add_zero,Nat.reduceAdd,Bool.not_true,Bool.not_false,aQ,aR,Option.isNone])
 (with_reducible repeat first|refine Nw.mk h fun b w h=> ?_|refine ao.mk h fun w h=> ?_|refine Ld.xb h rfl ?_|refine Ld.xt h rfl ?_|refine ad.xb (fun _ h=>h) rfl ?_|refine ad.xt (fun _ h=>h) rfl ?_|refine ⟨h.hb,?_⟩|refine af.xw h rfl rfl fun w h=> ?_|(refine af.xs h rfl rfl fun w h=> ?_;dsimp only [ah,ae] at h)|(refine St.xs h rfl rfl fun w h=> ?_;dsimp only [ah,ae] at h)|refine aa.yes ?_|refine aa.no ?_|refine ⟨by first|omega|decide,?_⟩)
 by_cases ha:at_=3
 ·subst ha
  (with_reducible repeat first|refine Nw.mk h fun b w h=> ?_|refine ao.mk h fun w h=> ?_|refine Ld.xb h rfl ?_|refine Ld.xt h rfl ?_|refine ad.xb (fun _ h=>h) rfl ?_|refine ad.xt (fun _ h=>h) rfl ?_|refine ⟨h.hb,?_⟩|refine af.xw h rfl rfl fun w h=> ?_|(refine af.xs h rfl rfl fun w h=> ?_;dsimp only [ah,ae] at h)|(refine St.xs h rfl rfl fun w h=> ?_;dsimp only [ah,ae] at h)|refine aa.yes ?_|refine aa.no ?_|refine ⟨by first|omega|decide,?_⟩)
  refine uS h h3 (by omega) fun w h=> ?_
  (with_reducible repeat first|refine Nw.mk h fun b w h=> ?_|refine ao.mk h fun w h=> ?_|refine Ld.xb h rfl ?_|refine Ld.xt h rfl ?_|refine ad.xb (fun _ h=>h) rfl ?_|refine ad.xt (fun _ h=>h) rfl ?_|refine ⟨h.hb,?_⟩|refine af.xw h rfl rfl fun w h=> ?_|(refine af.xs h rfl rfl fun w h=> ?_;dsimp only [ah,ae] at h)|(refine St.xs h rfl rfl fun w h=> ?_;dsimp only [ah,ae] at h)|refine aa.yes ?_|refine aa.no ?_|refine ⟨by first|omega|decide,?_⟩)
  exact hK _ h.tl
 ·(with_reducible repeat first|refine Nw.mk h fun b w h=> ?_|refine ao.mk h fun w h=> ?_|refine Ld.xb h rfl ?_|refine Ld.xt h rfl ?_|refine ad.xb (fun _ h=>h) rfl ?_|refine ad.xt (fun _ h=>h) rfl ?_|refine ⟨h.hb,?_⟩|refine af.xw h rfl rfl fun w h=> ?_|(refine af.xs h rfl rfl fun w h=> ?_;dsimp only [ah,ae] at h)|(refine St.xs h rfl rfl fun w h=> ?_;dsimp only [ah,ae] at h)|refine aa.yes ?_|refine aa.no ?_|refine ⟨by first|omega|decide,?_⟩)
  refine cg ?_
  (with_reducible repeat first|refine Nw.mk h fun b w h=> ?_|refine ao.mk h fun w h=> ?_|refine Ld.xb h rfl ?_|refine Ld.xt h rfl ?_|refine ad.xb (fun _ h=>h) rfl ?_|refine ad.xt (fun _ h=>h) rfl ?_|refine ⟨h.hb,?_⟩|refine af.xw h rfl rfl fun w h=> ?_|(refine af.xs h rfl rfl fun w h=> ?_;dsimp only [ah,ae] at h)|(refine St.xs h rfl rfl fun w h=> ?_;dsimp only [ah,ae] at h)|refine aa.yes ?_|refine aa.no ?_|refine ⟨by first|omega|decide,?_⟩)
  have:=h2 (by omega)
  subst this
  refine gX ?_ (hK _ h.tl)
  simp [vm]
theorem Ig {s:HS} {c:Nat} {K:Int×Int×Int×Int×Unit→Bool→Int→World→Prop} (h:Hp E w F) (hs:uo s) (hc:c<256)
  (hm: ∀s' w',bE s c= .more s'→Hp E w' F→K (Lb s') false 0 w')
  (hf: ∀n w',bE s c= .fin n→Hp E w' F→K (4,0,0,(n:Int),()) true 0 w')
  (hb: ∀e o w',bE s c= .bad e→Hp E w' F→K o false (e:Int) w'):
  Cl Tryz.prog [.st [.int .i64,.int .i64,.int .i64,.int .i64],kB,kI] lk ⟨[.agg ⟨[.int .i64 (s.at_:Int),.int .i64 (s.v:Int),.int .i64 (vm s.v:Int),.int .i64 0]⟩,.int .u8 (c:Int)]⟩ w K:=by
 obtain ⟨at_,v⟩:=s
 obtain ⟨h1,h2,h3⟩:=hs
 dsimp only at h1 h2 h3⊢
 refine Ak.ok ((at_:Int),(v:Int),(vm v:Int),0,()) _ _ _ ?_
 (try simp only [ax,au,aq,Nat.zero_add,Nat.add_zero,Nat.reduceAdd,Bool.not_true,Bool.not_false,aQ,aR,Option.isNone])
 (with_reducible repeat first|refine Nw.mk h fun b w h=> ?_|refine ao.mk h fun w h=> ?_|refine Ld.xb h rfl ?_|refine Ld.xt h rfl ?_|refine ad.xb (fun _ h=>h) rfl ?_|refine ad.xt (fun _ h=>h) rfl ?_|refine ⟨h.hb,?_⟩|refine af.xw h rfl rfl fun w h=> ?_|(refine af.xs h rfl rfl fun w h=> ?_;dsimp only [ah,ae] at h)|(refine St.xs h rfl rfl fun w h=> ?_;dsimp only [ah,ae] at h)|refine aa.yes ?_|refine aa.no ?_|refine ⟨by first|omega|decide,?_⟩)
 refine E6 (s:=⟨at_,v⟩) h ⟨h1,h2,h3⟩ fun w h=> ?_
 (try simp only [ax,au,aq,Nat.zero_add,Nat.add_zero,Nat.reduceAdd,Bool.not_true,Bool.not_false,aQ,aR,Option.isNone])
 (with_reducible repeat first|refine Nw.mk h fun b w h=> ?_|refine ao.mk h fun w h=> ?_|refine Ld.xb h rfl ?_|refine Ld.xt h rfl ?_|refine ad.xb (fun _ h=>h) rfl ?_|refine ad.xt (fun _ h=>h) rfl ?_|refine ⟨h.hb,?_⟩|refine af.xw h rfl rfl fun w h=> ?_|(refine af.xs h rfl rfl fun w h=> ?_;dsimp only [ah,ae] at h)|(refine St.xs h rfl rfl fun w h=> ?_;dsimp only [ah,ae] at h)|refine aa.yes ?_|refine aa.no ?_|refine ⟨by first|omega|decide,?_⟩)
 by_cases ha:at_<3
 ·have:=h2 ha
  subst this
  have hx:((wU (ByteArray.mk #[87,80,1]) ((at_:Int)).toNat:Int))=((u4 at_:Nat):Int):=by
   rw [Int.toNat_natCast]
   have:at_=0∨at_=1∨at_=2:=by omega
   rcases this with rfl|rfl|rfl<;>rfl
  (with_reducible repeat first|refine Nw.mk h fun b w h=> ?_|refine ao.mk h fun w h=> ?_|refine Ld.xb h rfl ?_|refine Ld.xt h rfl ?_|refine ad.xb (fun _ h=>h) rfl ?_|refine ad.xt (fun _ h=>h) rfl ?_|refine ⟨h.hb,?_⟩|refine af.xw h rfl rfl fun w h=> ?_|(refine af.xs h rfl rfl fun w h=> ?_;dsimp only [ah,ae] at h)|(refine St.xs h rfl rfl fun w h=> ?_;dsimp only [ah,ae] at h)|refine aa.yes ?_|refine aa.no ?_|refine ⟨by first|omega|decide,?_⟩)
  rw [hx]
  refine ⟨by have:(((ByteArray.mk #[87,80,1]).size:Nat):Int)=3:=rfl
             omega,?_⟩
  by_cases hcm:c=u4 at_
  ·refine aa.et (by omega) ?_
   (with_reducible repeat first|refine Nw.mk h fun b w h=> ?_|refine ao.mk h fun w h=> ?_|refine Ld.xb h rfl ?_|refine Ld.xt h rfl ?_|refine ad.xb (fun _ h=>h) rfl ?_|refine ad.xt (fun _ h=>h) rfl ?_|refine ⟨h.hb,?_⟩|refine af.xw h rfl rfl fun w h=> ?_|(refine af.xs h rfl rfl fun w h=> ?_;dsimp only [ah,ae] at h)|(refine St.xs h rfl rfl fun w h=> ?_;dsimp only [ah,ae] at h)|refine aa.yes ?_|refine aa.no ?_|refine ⟨by first|omega|decide,?_⟩)
   rw [ag (by omega)]
   exact hm ⟨at_+1,0⟩ _ (by unfold bE;dsimp only;rw [if_pos ha,if_pos hcm]) h.tl
  ·refine aa.ef (by omega) ?_
   (with_reducible repeat first|refine Nw.mk h fun b w h=> ?_|refine ao.mk h fun w h=> ?_|refine Ld.xb h rfl ?_|refine Ld.xt h rfl ?_|refine ad.xb (fun _ h=>h) rfl ?_|refine ad.xt (fun _ h=>h) rfl ?_|refine ⟨h.hb,?_⟩|refine af.xw h rfl rfl fun w h=> ?_|(refine af.xs h rfl rfl fun w h=> ?_;dsimp only [ah,ae] at h)|(refine St.xs h rfl rfl fun w h=> ?_;dsimp only [ah,ae] at h)|refine aa.yes ?_|refine aa.no ?_|refine ⟨by first|omega|decide,?_⟩)
   by_cases ha2:at_=2
   ·(with_reducible repeat first|refine Nw.mk h fun b w h=> ?_|refine ao.mk h fun w h=> ?_|refine Ld.xb h rfl ?_|refine Ld.xt h rfl ?_|refine ad.xb (fun _ h=>h) rfl ?_|refine ad.xt (fun _ h=>h) rfl ?_|refine ⟨h.hb,?_⟩|refine af.xw h rfl rfl fun w h=> ?_|(refine af.xs h rfl rfl fun w h=> ?_;dsimp only [ah,ae] at h)|(refine St.xs h rfl rfl fun w h=> ?_;dsimp only [ah,ae] at h)|refine aa.yes ?_|refine aa.no ?_|refine ⟨by first|omega|decide,?_⟩)
    exact hb 241 _ _ (by unfold bE;dsimp only;rw [if_pos ha,if_neg hcm,if_pos ha2]) h.tl
   ·(with_reducible repeat first|refine Nw.mk h fun b w h=> ?_|refine ao.mk h fun w h=> ?_|refine Ld.xb h rfl ?_|refine Ld.xt h rfl ?_|refine ad.xb (fun _ h=>h) rfl ?_|refine ad.xt (fun _ h=>h) rfl ?_|refine ⟨h.hb,?_⟩|refine af.xw h rfl rfl fun w h=> ?_|(refine af.xs h rfl rfl fun w h=> ?_;dsimp only [ah,ae] at h)|(refine St.xs h rfl rfl fun w h=> ?_;dsimp only [ah,ae] at h)|refine aa.yes ?_|refine aa.no ?_|refine ⟨by first|omega|decide,?_⟩)
    exact hb 240 _ _ (by unfold bE;dsimp only;rw [if_pos ha,if_neg hcm,if_neg ha2]) h.tl
 ·(with_reducible repeat first|refine Nw.mk h fun b w h=> ?_|refine ao.mk h fun w h=> ?_|refine Ld.xb h rfl ?_|refine Ld.xt h rfl ?_|refine ad.xb (fun _ h=>h) rfl ?_|refine ad.xt (fun _ h=>h) rfl ?_|refine ⟨h.hb,?_⟩|refine af.xw h rfl rfl fun w h=> ?_|(refine af.xs h rfl rfl fun w h=> ?_;dsimp only [ah,ae] at h)|(refine St.xs h rfl rfl fun w h=> ?_;dsimp only [ah,ae] at h)|refine aa.yes ?_|refine aa.no ?_|refine ⟨by first|omega|decide,?_⟩)
  refine xM (most:=65536) h h3 (by omega) hc (fun hg o d w h=> ?_) (fun n d hg k w hk h=> ?_)
  ·(with_reducible repeat first|refine Nw.mk h fun b w h=> ?_|refine ao.mk h fun w h=> ?_|refine Ld.xb h rfl ?_|refine Ld.xt h rfl ?_|refine ad.xb (fun _ h=>h) rfl ?_|refine ad.xt (fun _ h=>h) rfl ?_|refine ⟨h.hb,?_⟩|refine af.xw h rfl rfl fun w h=> ?_|(refine af.xs h rfl rfl fun w h=> ?_;dsimp only [ah,ae] at h)|(refine St.xs h rfl rfl fun w h=> ?_;dsimp only [ah,ae] at h)|refine aa.yes ?_|refine aa.no ?_|refine ⟨by first|omega|decide,?_⟩)
   (try simp only [ax,au,aq,Nat.zero_add,Nat.add_zero,Nat.reduceAdd,Bool.not_true,Bool.not_false,aQ,aR,Option.isNone])
   (with_reducible repeat first|refine Nw.mk h fun b w h=> ?_|refine ao.mk h fun w h=> ?_|refine Ld.xb h rfl ?_|refine Ld.xt h rfl ?_|refine ad.xb (fun _ h=>h) rfl ?_|refine ad.xt (fun _ h=>h) rfl ?_|refine ⟨h.hb,?_⟩|refine af.xw h rfl rfl fun w h=> ?_|(refine af.xs h rfl rfl fun w h=> ?_;dsimp only [ah,ae] at h)|(refine St.xs h rfl rfl fun w h=> ?_;dsimp only [ah,ae] at h)|refine aa.yes ?_|refine aa.no ?_|refine ⟨by first|omega|decide,?_⟩)
   exact hb 242 _ _ (by unfold bE;dsimp only;rw [if_neg ha,hg]) h.tl
  ·cases d
   ·have:=hk rfl
    subst this
    (with_reducible repeat first|refine Nw.mk h fun b w h=> ?_|refine ao.mk h fun w h=> ?_|refine Ld.xb h rfl ?_|refine Ld.xt h rfl ?_|refine ad.xb (fun _ h=>h) rfl ?_|refine ad.xt (fun _ h=>h) rfl ?_|refine ⟨h.hb,?_⟩|refine af.xw h rfl rfl fun w h=> ?_|(refine af.xs h rfl rfl fun w h=> ?_;dsimp only [ah,ae] at h)|(refine St.xs h rfl rfl fun w h=> ?_;dsimp only [ah,ae] at h)|refine aa.yes ?_|refine aa.no ?_|refine ⟨by first|omega|decide,?_⟩)
    (try simp only [ax,au,aq,Nat.zero_add,Nat.add_zero,Nat.reduceAdd,Bool.not_true,Bool.not_false,aQ,aR,Option.isNone])
    (with_reducible repeat first|refine Nw.mk h fun b w h=> ?_|refine ao.mk h fun w h=> ?_|refine Ld.xb h rfl ?_|refine Ld.xt h rfl ?_|refine ad.xb (fun _ h=>h) rfl ?_|refine ad.xt (fun _ h=>h) rfl ?_|refine ⟨h.hb,?_⟩|refine af.xw h rfl rfl fun w h=> ?_|(refine af.xs h rfl rfl fun w h=> ?_;dsimp only [ah,ae] at h)|(refine St.xs h rfl rfl fun w h=> ?_;dsimp only [ah,ae] at h)|refine aa.yes ?_|refine aa.no ?_|refine ⟨by first|omega|decide,?_⟩)
    exact hm ⟨3,n⟩ _ (by unfold bE;dsimp only;rw [if_neg ha,hg]) h.tl
   ·(with_reducible repeat first|refine Nw.mk h fun b w h=> ?_|refine ao.mk h fun w h=> ?_|refine Ld.xb h rfl ?_|refine Ld.xt h rfl ?_|refine ad.xb (fun _ h=>h) rfl ?_|refine ad.xt (fun _ h=>h) rfl ?_|refine ⟨h.hb,?_⟩|refine af.xw h rfl rfl fun w h=> ?_|(refine af.xs h rfl rfl fun w h=> ?_;dsimp only [ah,ae] at h)|(refine St.xs h rfl rfl fun w h=> ?_;dsimp only [ah,ae] at h)|refine aa.yes ?_|refine aa.no ?_|refine ⟨by first|omega|decide,?_⟩)
    (try simp only [ax,au,aq,Nat.zero_add,Nat.add_zero,Nat.reduceAdd,Bool.not_true,Bool.not_false,aQ,aR,Option.isNone])
    (with_reducible repeat first|refine Nw.mk h fun b w h=> ?_|refine ao.mk h fun w h=> ?_|refine Ld.xb h rfl ?_|refine Ld.xt h rfl ?_|refine ad.xb (fun _ h=>h) rfl ?_|refine ad.xt (fun _ h=>h) rfl ?_|refine ⟨h.hb,?_⟩|refine af.xw h rfl rfl fun w h=> ?_|(refine af.xs h rfl rfl fun w h=> ?_;dsimp only [ah,ae] at h)|(refine St.xs h rfl rfl fun w h=> ?_;dsimp only [ah,ae] at h)|refine aa.yes ?_|refine aa.no ?_|refine ⟨by first|omega|decide,?_⟩)
    exact hf n _ (by unfold bE;dsimp only;rw [if_neg ha,hg]) h.tl
end
end Go.Proofs.YtcdpblipagajiaaGreat
set_option maxRecDepth 20000
namespace Go.Proofs.YtcdpblipagajiaaGreat
open Go Go.Vc Go.Srt Go.Inc Go.Hd
section
variable {E w:World} {F:List HP}
theorem DX {s m:Nat} {K:Bool→World→Prop} (hm:m≤3) (hs:s<256^m) (hK:K true w):Cl Tryz.prog [kB] iL ⟨[.int .u32 (s:Int),.int .i64 (m:Int)]⟩ w K:=by
 refine AT.ok _ _ _ _ ?_
 refine cg ?_
 (with_reducible repeat first|refine Nw.mk h fun b w h=> ?_|refine ao.mk h fun w h=> ?_|refine Ld.xb h rfl ?_|refine Ld.xt h rfl ?_|refine ad.xb (fun _ h=>h) rfl ?_|refine ad.xt (fun _ h=>h) rfl ?_|refine ⟨h.hb,?_⟩|refine af.xw h rfl rfl fun w h=> ?_|(refine af.xs h rfl rfl fun w h=> ?_;dsimp only [ah,ae] at h)|(refine St.xs h rfl rfl fun w h=> ?_;dsimp only [ah,ae] at h)|refine aa.yes ?_|refine aa.no ?_|refine ⟨by first|omega|decide,?_⟩)
 rw [ag (by omega)]
 refine ⟨by omega,gX ?_ hK⟩
 rw [show (8*(m:Int))=((8*m:Nat):Int) by omega,mo (by
  have:m=0∨m=1∨m=2∨m=3:=by omega
  rcases this with rfl|rfl|rfl|rfl<;>simp at hs<;>omega),bG (by have:IntKind.bits .u64=64:=rfl;omega),Nat.pow_mul,Nat.div_eq_of_lt (by simpa using hs)]
 rfl
theorem Gi {n:Nat} {m:MS} {K:Bool→World→Prop} (h:Hp E w F) (hn:1≤n) (hn2:n≤65536) (hm:iM n m) (hK: ∀w',Hp E w' F→K true w'):
  Cl Tryz.prog [kB] gD ⟨[.int .i64 (n:Int),.agg ⟨[.int .i64 (m.at_:Int),.int .i64 (m.v:Int),.int .i64 (vm m.v:Int),.int .i64 (m.M:Int),.int .i64 (m.P:Int),.int .u32 (m.sum:Int),.int .i64 (m.many:Int)]⟩]⟩ w K:=by
 obtain ⟨at_,v,M,P,sum,many⟩:=m
 unfold iM at hm
 dsimp only at hm⊢
 refine rV.ok _ ((at_:Int),(v:Int),(vm v:Int),(M:Int),(P:Int),(sum:Int),(many:Int),()) _ _ ?_
 (try simp only [ax,au,aq,Nat.zero_add,Nat.add_zero,Nat.reduceAdd,Bool.not_true,Bool.not_false,aQ,aR,Option.isNone])
 (with_reducible repeat first|refine Nw.mk h fun b w h=> ?_|refine ao.mk h fun w h=> ?_|refine Ld.xb h rfl ?_|refine Ld.xt h rfl ?_|refine ad.xb (fun _ h=>h) rfl ?_|refine ad.xt (fun _ h=>h) rfl ?_|refine ⟨h.hb,?_⟩|refine af.xw h rfl rfl fun w h=> ?_|(refine af.xs h rfl rfl fun w h=> ?_;dsimp only [ah,ae] at h)|(refine St.xs h rfl rfl fun w h=> ?_;dsimp only [ah,ae] at h)|refine aa.yes ?_|refine aa.no ?_|refine ⟨by first|omega|decide,?_⟩)
 refine cg ?_
 rcases hm with ⟨h1,h2⟩|⟨h1,h2,h3,h4,h5,h6⟩|⟨h1,h2,h3,h4,h5,h6,h7⟩|⟨h1,h2,h3,h4,h5,h6,h7,h8⟩|⟨h1,h2,h3,h4,h5,h6⟩
 ·cases h2
  (with_reducible repeat first|refine Nw.mk h fun b w h=> ?_|refine ao.mk h fun w h=> ?_|refine Ld.xb h rfl ?_|refine Ld.xt h rfl ?_|refine ad.xb (fun _ h=>h) rfl ?_|refine ad.xt (fun _ h=>h) rfl ?_|refine ⟨h.hb,?_⟩|refine af.xw h rfl rfl fun w h=> ?_|(refine af.xs h rfl rfl fun w h=> ?_;dsimp only [ah,ae] at h)|(refine St.xs h rfl rfl fun w h=> ?_;dsimp only [ah,ae] at h)|refine aa.yes ?_|refine aa.no ?_|refine ⟨by first|omega|decide,?_⟩)
  refine cg ?_
  (with_reducible repeat first|refine Nw.mk h fun b w h=> ?_|refine ao.mk h fun w h=> ?_|refine Ld.xb h rfl ?_|refine Ld.xt h rfl ?_|refine ad.xb (fun _ h=>h) rfl ?_|refine ad.xt (fun _ h=>h) rfl ?_|refine ⟨h.hb,?_⟩|refine af.xw h rfl rfl fun w h=> ?_|(refine af.xs h rfl rfl fun w h=> ?_;dsimp only [ah,ae] at h)|(refine St.xs h rfl rfl fun w h=> ?_;dsimp only [ah,ae] at h)|refine aa.yes ?_|refine aa.no ?_|refine ⟨by first|omega|decide,?_⟩)
  exact hK _ h.tl
 ·subst h1 h3 h4 h5 h6
  (with_reducible repeat first|refine Nw.mk h fun b w h=> ?_|refine ao.mk h fun w h=> ?_|refine Ld.xb h rfl ?_|refine Ld.xt h rfl ?_|refine ad.xb (fun _ h=>h) rfl ?_|refine ad.xt (fun _ h=>h) rfl ?_|refine ⟨h.hb,?_⟩|refine af.xw h rfl rfl fun w h=> ?_|(refine af.xs h rfl rfl fun w h=> ?_;dsimp only [ah,ae] at h)|(refine St.xs h rfl rfl fun w h=> ?_;dsimp only [ah,ae] at h)|refine aa.yes ?_|refine aa.no ?_|refine ⟨by first|omega|decide,?_⟩)
  refine cg ?_
  (with_reducible repeat first|refine Nw.mk h fun b w h=> ?_|refine ao.mk h fun w h=> ?_|refine Ld.xb h rfl ?_|refine Ld.xt h rfl ?_|refine ad.xb (fun _ h=>h) rfl ?_|refine ad.xt (fun _ h=>h) rfl ?_|refine ⟨h.hb,?_⟩|refine af.xw h rfl rfl fun w h=> ?_|(refine af.xs h rfl rfl fun w h=> ?_;dsimp only [ah,ae] at h)|(refine St.xs h rfl rfl fun w h=> ?_;dsimp only [ah,ae] at h)|refine aa.yes ?_|refine aa.no ?_|refine ⟨by first|omega|decide,?_⟩)
  refine uS h (by omega) (by omega) fun w h=> ?_
  (with_reducible repeat first|refine Nw.mk h fun b w h=> ?_|refine ao.mk h fun w h=> ?_|refine Ld.xb h rfl ?_|refine Ld.xt h rfl ?_|refine ad.xb (fun _ h=>h) rfl ?_|refine ad.xt (fun _ h=>h) rfl ?_|refine ⟨h.hb,?_⟩|refine af.xw h rfl rfl fun w h=> ?_|(refine af.xs h rfl rfl fun w h=> ?_;dsimp only [ah,ae] at h)|(refine St.xs h rfl rfl fun w h=> ?_;dsimp only [ah,ae] at h)|refine aa.yes ?_|refine aa.no ?_|refine ⟨by first|omega|decide,?_⟩)
  refine gX ?_ (hK _ h.tl)
  simp
 ·subst h1 h5 h6 h7
  (with_reducible repeat first|refine Nw.mk h fun b w h=> ?_|refine ao.mk h fun w h=> ?_|refine Ld.xb h rfl ?_|refine Ld.xt h rfl ?_|refine ad.xb (fun _ h=>h) rfl ?_|refine ad.xt (fun _ h=>h) rfl ?_|refine ⟨h.hb,?_⟩|refine af.xw h rfl rfl fun w h=> ?_|(refine af.xs h rfl rfl fun w h=> ?_;dsimp only [ah,ae] at h)|(refine St.xs h rfl rfl fun w h=> ?_;dsimp only [ah,ae] at h)|refine aa.yes ?_|refine aa.no ?_|refine ⟨by first|omega|decide,?_⟩)
  refine cg ?_
  (with_reducible repeat first|refine Nw.mk h fun b w h=> ?_|refine ao.mk h fun w h=> ?_|refine Ld.xb h rfl ?_|refine Ld.xt h rfl ?_|refine ad.xb (fun _ h=>h) rfl ?_|refine ad.xt (fun _ h=>h) rfl ?_|refine ⟨h.hb,?_⟩|refine af.xw h rfl rfl fun w h=> ?_|(refine af.xs h rfl rfl fun w h=> ?_;dsimp only [ah,ae] at h)|(refine St.xs h rfl rfl fun w h=> ?_;dsimp only [ah,ae] at h)|refine aa.yes ?_|refine aa.no ?_|refine ⟨by first|omega|decide,?_⟩)
  refine cg ?_
  (with_reducible repeat first|refine Nw.mk h fun b w h=> ?_|refine ao.mk h fun w h=> ?_|refine Ld.xb h rfl ?_|refine Ld.xt h rfl ?_|refine ad.xb (fun _ h=>h) rfl ?_|refine ad.xt (fun _ h=>h) rfl ?_|refine ⟨h.hb,?_⟩|refine af.xw h rfl rfl fun w h=> ?_|(refine af.xs h rfl rfl fun w h=> ?_;dsimp only [ah,ae] at h)|(refine St.xs h rfl rfl fun w h=> ?_;dsimp only [ah,ae] at h)|refine aa.yes ?_|refine aa.no ?_|refine ⟨by first|omega|decide,?_⟩)
  refine cg ?_
  (with_reducible repeat first|refine Nw.mk h fun b w h=> ?_|refine ao.mk h fun w h=> ?_|refine Ld.xb h rfl ?_|refine Ld.xt h rfl ?_|refine ad.xb (fun _ h=>h) rfl ?_|refine ad.xt (fun _ h=>h) rfl ?_|refine ⟨h.hb,?_⟩|refine af.xw h rfl rfl fun w h=> ?_|(refine af.xs h rfl rfl fun w h=> ?_;dsimp only [ah,ae] at h)|(refine St.xs h rfl rfl fun w h=> ?_;dsimp only [ah,ae] at h)|refine aa.yes ?_|refine aa.no ?_|refine ⟨by first|omega|decide,?_⟩)
  refine uS h (by omega) (by omega) fun w h=> ?_
  (with_reducible repeat first|refine Nw.mk h fun b w h=> ?_|refine ao.mk h fun w h=> ?_|refine Ld.xb h rfl ?_|refine Ld.xt h rfl ?_|refine ad.xb (fun _ h=>h) rfl ?_|refine ad.xt (fun _ h=>h) rfl ?_|refine ⟨h.hb,?_⟩|refine af.xw h rfl rfl fun w h=> ?_|(refine af.xs h rfl rfl fun w h=> ?_;dsimp only [ah,ae] at h)|(refine St.xs h rfl rfl fun w h=> ?_;dsimp only [ah,ae] at h)|refine aa.yes ?_|refine aa.no ?_|refine ⟨by first|omega|decide,?_⟩)
  refine gX ?_ (hK _ h.tl)
  simp
 ·subst h1 h6
  (with_reducible repeat first|refine Nw.mk h fun b w h=> ?_|refine ao.mk h fun w h=> ?_|refine Ld.xb h rfl ?_|refine Ld.xt h rfl ?_|refine ad.xb (fun _ h=>h) rfl ?_|refine ad.xt (fun _ h=>h) rfl ?_|refine ⟨h.hb,?_⟩|refine af.xw h rfl rfl fun w h=> ?_|(refine af.xs h rfl rfl fun w h=> ?_;dsimp only [ah,ae] at h)|(refine St.xs h rfl rfl fun w h=> ?_;dsimp only [ah,ae] at h)|refine aa.yes ?_|refine aa.no ?_|refine ⟨by first|omega|decide,?_⟩)
  refine cg ?_
  rw [decide_eq_true (show 1≤(P:Int)∧(P:Int)≤(M:Int) by omega)]
  refine cg ?_
  (with_reducible repeat first|refine Nw.mk h fun b w h=> ?_|refine ao.mk h fun w h=> ?_|refine Ld.xb h rfl ?_|refine Ld.xt h rfl ?_|refine ad.xb (fun _ h=>h) rfl ?_|refine ad.xt (fun _ h=>h) rfl ?_|refine ⟨h.hb,?_⟩|refine af.xw h rfl rfl fun w h=> ?_|(refine af.xs h rfl rfl fun w h=> ?_;dsimp only [ah,ae] at h)|(refine St.xs h rfl rfl fun w h=> ?_;dsimp only [ah,ae] at h)|refine aa.yes ?_|refine aa.no ?_|refine ⟨by first|omega|decide,?_⟩)
  refine DX h7 h8 ?_
  (with_reducible repeat first|refine Nw.mk h fun b w h=> ?_|refine ao.mk h fun w h=> ?_|refine Ld.xb h rfl ?_|refine Ld.xt h rfl ?_|refine ad.xb (fun _ h=>h) rfl ?_|refine ad.xt (fun _ h=>h) rfl ?_|refine ⟨h.hb,?_⟩|refine af.xw h rfl rfl fun w h=> ?_|(refine af.xs h rfl rfl fun w h=> ?_;dsimp only [ah,ae] at h)|(refine St.xs h rfl rfl fun w h=> ?_;dsimp only [ah,ae] at h)|refine aa.yes ?_|refine aa.no ?_|refine ⟨by first|omega|decide,?_⟩)
  exact hK _ h.tl
 ·subst h1 h2 h3 h4
  (with_reducible repeat first|refine Nw.mk h fun b w h=> ?_|refine ao.mk h fun w h=> ?_|refine Ld.xb h rfl ?_|refine Ld.xt h rfl ?_|refine ad.xb (fun _ h=>h) rfl ?_|refine ad.xt (fun _ h=>h) rfl ?_|refine ⟨h.hb,?_⟩|refine af.xw h rfl rfl fun w h=> ?_|(refine af.xs h rfl rfl fun w h=> ?_;dsimp only [ah,ae] at h)|(refine St.xs h rfl rfl fun w h=> ?_;dsimp only [ah,ae] at h)|refine aa.yes ?_|refine aa.no ?_|refine ⟨by first|omega|decide,?_⟩)
  refine cg ?_
  (with_reducible repeat first|refine Nw.mk h fun b w h=> ?_|refine ao.mk h fun w h=> ?_|refine Ld.xb h rfl ?_|refine Ld.xt h rfl ?_|refine ad.xb (fun _ h=>h) rfl ?_|refine ad.xt (fun _ h=>h) rfl ?_|refine ⟨h.hb,?_⟩|refine af.xw h rfl rfl fun w h=> ?_|(refine af.xs h rfl rfl fun w h=> ?_;dsimp only [ah,ae] at h)|(refine St.xs h rfl rfl fun w h=> ?_;dsimp only [ah,ae] at h)|refine aa.yes ?_|refine aa.no ?_|refine ⟨by first|omega|decide,?_⟩)
  refine DX h5 h6 ?_
  (with_reducible repeat first|refine Nw.mk h fun b w h=> ?_|refine ao.mk h fun w h=> ?_|refine Ld.xb h rfl ?_|refine Ld.xt h rfl ?_|refine ad.xb (fun _ h=>h) rfl ?_|refine ad.xt (fun _ h=>h) rfl ?_|refine ⟨h.hb,?_⟩|refine af.xw h rfl rfl fun w h=> ?_|(refine af.xs h rfl rfl fun w h=> ?_;dsimp only [ah,ae] at h)|(refine St.xs h rfl rfl fun w h=> ?_;dsimp only [ah,ae] at h)|refine aa.yes ?_|refine aa.no ?_|refine ⟨by first|omega|decide,?_⟩)
  refine gX ?_ (hK _ h.tl)
  simp [vm]
end
end Go.Proofs.YtcdpblipagajiaaGreat
namespace Go.Vc
open Go
section
variable {P:Program} {α β:Type} [DecidableEq α] {ke:α→Value} {ve:β→Value} {kt vt t:TypeId} {E w:World} {F:List HP} {m:Option Nat} {l:List (α×β)}
theorem kD.fn {t:Fn} {a b:Array Value} {K:Bool→Prop} (h:K false):kD (.func t a b) K:=h
theorem aD.found (hk:nE P kt ke) (hu:P.underlying t=some (.map kt vt)) {a:α} {q:Nat×β} {z:Value} {k:Ki} {x:k.T} {K:k.T→World→Prop} (hz: ∀w,(zeroValue vt).run P w= .ok z w) (h:Hp E w (kd ke ve m l::F)) (hf:findAt a l 0=some q) (hx:ve q.2=k.enc x) (hK:K x w):
  aD P (Instr.lookup t (.map m) (ke a) false) k w K:=by
 unfold aD
 rw [rS hk hu hz h,hf]
 dsimp only
 rw [hx]
 exact Ki.lR.2 hK
end
end Go.Vc
namespace Go.Proofs.YtcdpblipagajiaaGreat
open Go Go.Vc Go.Srt Go.Inc Go.Hd
abbrev dP:=Int×Int×Int×Int×Int×Int×Int×Unit
section
variable {E w:World} {F:List HP}
def Bc (n:Nat) (m:MS) (c:Nat) (E:World) (F:List HP) (K:dP→Bool→World→Prop):Prop:=
 (∀m' w',aB n m c= .more m'→m'.at_≠4→m'.at_≠6→Hp E w' F→K (J1 m') true w')∧
 (∀M P u w',aB n m c= .fin (.aC M P u)→Hp E w' F→K (4,0,0,(M:Int),(P:Int),(u:Int),4,()) true w')∧
 (∀u w',aB n m c= .fin (.tail u)→Hp E w' F→K (6,0,0,0,0,(u:Int),4,()) true w')∧
 (∀e o w',aB n m c= .bad e→e=242→Hp E w' F→K o false w')
theorem JF {n:Nat} {c:Nat} {K:dP→Bool→World→Prop} (h:Hp E w F) (hc:c<256) (hK:Bc n dW c E F K):
  Cl Tryz.prog [.st [.int .i64,.int .i64,.int .i64,.int .i64,.int .i64,.int .u32,.int .i64],kB] dh ⟨[.int .i64 (n:Int),.agg ⟨[.int .i64 0,.int .i64 0,.int .i64 0,.int .i64 0,.int .i64 0,.int .u32 0,.int .i64 0]⟩,.int .u8 (c:Int)]⟩ w K:=by
 obtain ⟨k1,_,_,k4⟩:=hK
 refine AX.ok _ (0,0,0,0,0,0,0,()) _ _ _ ?_
 (try simp only [ax,au,aq,Nat.zero_add,Nat.add_zero,Nat.reduceAdd,Bool.not_true,Bool.not_false,aQ,aR,Option.isNone])
 (with_reducible repeat first|refine Nw.mk h fun b w h=> ?_|refine ao.mk h fun w h=> ?_|refine Ld.xb h rfl ?_|refine Ld.xt h rfl ?_|refine ad.xb (fun _ h=>h) rfl ?_|refine ad.xt (fun _ h=>h) rfl ?_|refine ⟨h.hb,?_⟩|refine af.xw h rfl rfl fun w h=> ?_|(refine af.xs h rfl rfl fun w h=> ?_;dsimp only [ah,ae] at h)|(refine St.xs h rfl rfl fun w h=> ?_;dsimp only [ah,ae] at h)|refine aa.yes ?_|refine aa.no ?_|refine ⟨by first|omega|decide,?_⟩)
 by_cases h0:c=0
 ·subst h0
  (with_reducible repeat first|refine Nw.mk h fun b w h=> ?_|refine ao.mk h fun w h=> ?_|refine Ld.xb h rfl ?_|refine Ld.xt h rfl ?_|refine ad.xb (fun _ h=>h) rfl ?_|refine ad.xt (fun _ h=>h) rfl ?_|refine ⟨h.hb,?_⟩|refine af.xw h rfl rfl fun w h=> ?_|(refine af.xs h rfl rfl fun w h=> ?_;dsimp only [ah,ae] at h)|(refine St.xs h rfl rfl fun w h=> ?_;dsimp only [ah,ae] at h)|refine aa.yes ?_|refine aa.no ?_|refine ⟨by first|omega|decide,?_⟩)
  exact k1 ⟨5,0,0,0,0,0⟩ _ rfl (by dsimp only;decide) (by dsimp only;decide) h.tl
 ·(with_reducible repeat first|refine Nw.mk h fun b w h=> ?_|refine ao.mk h fun w h=> ?_|refine Ld.xb h rfl ?_|refine Ld.xt h rfl ?_|refine ad.xb (fun _ h=>h) rfl ?_|refine ad.xt (fun _ h=>h) rfl ?_|refine ⟨h.hb,?_⟩|refine af.xw h rfl rfl fun w h=> ?_|(refine af.xs h rfl rfl fun w h=> ?_;dsimp only [ah,ae] at h)|(refine St.xs h rfl rfl fun w h=> ?_;dsimp only [ah,ae] at h)|refine aa.yes ?_|refine aa.no ?_|refine ⟨by first|omega|decide,?_⟩)
  by_cases h1:c=1
  ·subst h1
   exact k1 ⟨1,0,0,0,0,0⟩ _ rfl (by dsimp only;decide) (by dsimp only;decide) h.tl
  ·refine gX (decide_eq_false (by omega)) (k4 242 _ _ ?_ rfl h.tl)
   unfold aB dW
   simp [h0,h1]
theorem IL {n v:Nat} {c:Nat} {K:dP→Bool→World→Prop} (h:Hp E w F) (hn:n≤65536) (hv:v≤n) (hc:c<256) (hK:Bc n ⟨1,v,0,0,0,0⟩ c E F K):
  Cl Tryz.prog [.st [.int .i64,.int .i64,.int .i64,.int .i64,.int .i64,.int .u32,.int .i64],kB] dn ⟨[.int .i64 (n:Int),.agg ⟨[.int .i64 1,.int .i64 (v:Int),.int .i64 (vm v:Int),.int .i64 0,.int .i64 0,.int .u32 0,.int .i64 0]⟩,.int .u8 (c:Int)]⟩ w K:=by
 obtain ⟨k1,_,_,k4⟩:=hK
 refine AY.ok _ (1,(v:Int),(vm v:Int),0,0,0,0,()) _ _ _ ?_
 (try simp only [ax,au,aq,Nat.zero_add,Nat.add_zero,Nat.reduceAdd,Bool.not_true,Bool.not_false,aQ,aR,Option.isNone])
 (with_reducible repeat first|refine Nw.mk h fun b w h=> ?_|refine ao.mk h fun w h=> ?_|refine Ld.xb h rfl ?_|refine Ld.xt h rfl ?_|refine ad.xb (fun _ h=>h) rfl ?_|refine ad.xt (fun _ h=>h) rfl ?_|refine ⟨h.hb,?_⟩|refine af.xw h rfl rfl fun w h=> ?_|(refine af.xs h rfl rfl fun w h=> ?_;dsimp only [ah,ae] at h)|(refine St.xs h rfl rfl fun w h=> ?_;dsimp only [ah,ae] at h)|refine aa.yes ?_|refine aa.no ?_|refine ⟨by first|omega|decide,?_⟩)
 refine xM h hv hn hc (fun hg o d w h=> ?_) (fun m d hg k w hk h=> ?_)
 ·(with_reducible repeat first|refine Nw.mk h fun b w h=> ?_|refine ao.mk h fun w h=> ?_|refine Ld.xb h rfl ?_|refine Ld.xt h rfl ?_|refine ad.xb (fun _ h=>h) rfl ?_|refine ad.xt (fun _ h=>h) rfl ?_|refine ⟨h.hb,?_⟩|refine af.xw h rfl rfl fun w h=> ?_|(refine af.xs h rfl rfl fun w h=> ?_;dsimp only [ah,ae] at h)|(refine St.xs h rfl rfl fun w h=> ?_;dsimp only [ah,ae] at h)|refine aa.yes ?_|refine aa.no ?_|refine ⟨by first|omega|decide,?_⟩)
  cases d
  ·(with_reducible repeat first|refine Nw.mk h fun b w h=> ?_|refine ao.mk h fun w h=> ?_|refine Ld.xb h rfl ?_|refine Ld.xt h rfl ?_|refine ad.xb (fun _ h=>h) rfl ?_|refine ad.xt (fun _ h=>h) rfl ?_|refine ⟨h.hb,?_⟩|refine af.xw h rfl rfl fun w h=> ?_|(refine af.xs h rfl rfl fun w h=> ?_;dsimp only [ah,ae] at h)|(refine St.xs h rfl rfl fun w h=> ?_;dsimp only [ah,ae] at h)|refine aa.yes ?_|refine aa.no ?_|refine ⟨by first|omega|decide,?_⟩)
   exact k4 242 _ _ (by unfold aB;simp [hg]) rfl h.tl
  ·(with_reducible repeat first|refine Nw.mk h fun b w h=> ?_|refine ao.mk h fun w h=> ?_|refine Ld.xb h rfl ?_|refine Ld.xt h rfl ?_|refine ad.xb (fun _ h=>h) rfl ?_|refine ad.xt (fun _ h=>h) rfl ?_|refine ⟨h.hb,?_⟩|refine af.xw h rfl rfl fun w h=> ?_|(refine af.xs h rfl rfl fun w h=> ?_;dsimp only [ah,ae] at h)|(refine St.xs h rfl rfl fun w h=> ?_;dsimp only [ah,ae] at h)|refine aa.yes ?_|refine aa.no ?_|refine ⟨by first|omega|decide,?_⟩)
   exact k4 242 _ _ (by unfold aB;simp [hg]) rfl h.tl
 ·cases d
  ·have:=hk rfl
   subst this
   (with_reducible repeat first|refine Nw.mk h fun b w h=> ?_|refine ao.mk h fun w h=> ?_|refine Ld.xb h rfl ?_|refine Ld.xt h rfl ?_|refine ad.xb (fun _ h=>h) rfl ?_|refine ad.xt (fun _ h=>h) rfl ?_|refine ⟨h.hb,?_⟩|refine af.xw h rfl rfl fun w h=> ?_|(refine af.xs h rfl rfl fun w h=> ?_;dsimp only [ah,ae] at h)|(refine St.xs h rfl rfl fun w h=> ?_;dsimp only [ah,ae] at h)|refine aa.yes ?_|refine aa.no ?_|refine ⟨by first|omega|decide,?_⟩)
   exact k1 ⟨1,m,0,0,0,0⟩ _ (by unfold aB;simp [hg]) (by dsimp only;decide) (by dsimp only;decide) h.tl
  ·(with_reducible repeat first|refine Nw.mk h fun b w h=> ?_|refine ao.mk h fun w h=> ?_|refine Ld.xb h rfl ?_|refine Ld.xt h rfl ?_|refine ad.xb (fun _ h=>h) rfl ?_|refine ad.xt (fun _ h=>h) rfl ?_|refine ⟨h.hb,?_⟩|refine af.xw h rfl rfl fun w h=> ?_|(refine af.xs h rfl rfl fun w h=> ?_;dsimp only [ah,ae] at h)|(refine St.xs h rfl rfl fun w h=> ?_;dsimp only [ah,ae] at h)|refine aa.yes ?_|refine aa.no ?_|refine ⟨by first|omega|decide,?_⟩)
   exact k1 ⟨2,0,m,0,0,0⟩ _ (by unfold aB;simp [hg]) (by dsimp only;decide) (by dsimp only;decide) h.tl
theorem HY {n v M:Nat} {c:Nat} {K:dP→Bool→World→Prop} (h:Hp E w F) (hn:M≤65536) (hv:v≤M) (hc:c<256) (hK:Bc n ⟨2,v,M,0,0,0⟩ c E F K):
  Cl Tryz.prog [.st [.int .i64,.int .i64,.int .i64,.int .i64,.int .i64,.int .u32,.int .i64],kB] cN ⟨[.int .i64 (n:Int),.agg ⟨[.int .i64 2,.int .i64 (v:Int),.int .i64 (vm v:Int),.int .i64 (M:Int),.int .i64 0,.int .u32 0,.int .i64 0]⟩,.int .u8 (c:Int)]⟩ w K:=by
 obtain ⟨k1,_,_,k4⟩:=hK
 refine xu.ok _ (2,(v:Int),(vm v:Int),(M:Int),0,0,0,()) _ _ _ ?_
 (try simp only [ax,au,aq,Nat.zero_add,Nat.add_zero,Nat.reduceAdd,Bool.not_true,Bool.not_false,aQ,aR,Option.isNone])
 (with_reducible repeat first|refine Nw.mk h fun b w h=> ?_|refine ao.mk h fun w h=> ?_|refine Ld.xb h rfl ?_|refine Ld.xt h rfl ?_|refine ad.xb (fun _ h=>h) rfl ?_|refine ad.xt (fun _ h=>h) rfl ?_|refine ⟨h.hb,?_⟩|refine af.xw h rfl rfl fun w h=> ?_|(refine af.xs h rfl rfl fun w h=> ?_;dsimp only [ah,ae] at h)|(refine St.xs h rfl rfl fun w h=> ?_;dsimp only [ah,ae] at h)|refine aa.yes ?_|refine aa.no ?_|refine ⟨by first|omega|decide,?_⟩)
 refine xM h hv hn hc (fun hg o d w h=> ?_) (fun m d hg k w hk h=> ?_)
 ·(with_reducible repeat first|refine Nw.mk h fun b w h=> ?_|refine ao.mk h fun w h=> ?_|refine Ld.xb h rfl ?_|refine Ld.xt h rfl ?_|refine ad.xb (fun _ h=>h) rfl ?_|refine ad.xt (fun _ h=>h) rfl ?_|refine ⟨h.hb,?_⟩|refine af.xw h rfl rfl fun w h=> ?_|(refine af.xs h rfl rfl fun w h=> ?_;dsimp only [ah,ae] at h)|(refine St.xs h rfl rfl fun w h=> ?_;dsimp only [ah,ae] at h)|refine aa.yes ?_|refine aa.no ?_|refine ⟨by first|omega|decide,?_⟩)
  cases d
  ·(with_reducible repeat first|refine Nw.mk h fun b w h=> ?_|refine ao.mk h fun w h=> ?_|refine Ld.xb h rfl ?_|refine Ld.xt h rfl ?_|refine ad.xb (fun _ h=>h) rfl ?_|refine ad.xt (fun _ h=>h) rfl ?_|refine ⟨h.hb,?_⟩|refine af.xw h rfl rfl fun w h=> ?_|(refine af.xs h rfl rfl fun w h=> ?_;dsimp only [ah,ae] at h)|(refine St.xs h rfl rfl fun w h=> ?_;dsimp only [ah,ae] at h)|refine aa.yes ?_|refine aa.no ?_|refine ⟨by first|omega|decide,?_⟩)
   exact k4 242 _ _ (by unfold aB;simp [hg]) rfl h.tl
  ·(with_reducible repeat first|refine Nw.mk h fun b w h=> ?_|refine ao.mk h fun w h=> ?_|refine Ld.xb h rfl ?_|refine Ld.xt h rfl ?_|refine ad.xb (fun _ h=>h) rfl ?_|refine ad.xt (fun _ h=>h) rfl ?_|refine ⟨h.hb,?_⟩|refine af.xw h rfl rfl fun w h=> ?_|(refine af.xs h rfl rfl fun w h=> ?_;dsimp only [ah,ae] at h)|(refine St.xs h rfl rfl fun w h=> ?_;dsimp only [ah,ae] at h)|refine aa.yes ?_|refine aa.no ?_|refine ⟨by first|omega|decide,?_⟩)
   exact k4 242 _ _ (by unfold aB;simp [hg]) rfl h.tl
 ·cases d
  ·have:=hk rfl
   subst this
   (with_reducible repeat first|refine Nw.mk h fun b w h=> ?_|refine ao.mk h fun w h=> ?_|refine Ld.xb h rfl ?_|refine Ld.xt h rfl ?_|refine ad.xb (fun _ h=>h) rfl ?_|refine ad.xt (fun _ h=>h) rfl ?_|refine ⟨h.hb,?_⟩|refine af.xw h rfl rfl fun w h=> ?_|(refine af.xs h rfl rfl fun w h=> ?_;dsimp only [ah,ae] at h)|(refine St.xs h rfl rfl fun w h=> ?_;dsimp only [ah,ae] at h)|refine aa.yes ?_|refine aa.no ?_|refine ⟨by first|omega|decide,?_⟩)
   exact k1 ⟨2,m,M,0,0,0⟩ _ (by unfold aB;simp [hg]) (by dsimp only;decide) (by dsimp only;decide) h.tl
  ·(with_reducible repeat first|refine Nw.mk h fun b w h=> ?_|refine ao.mk h fun w h=> ?_|refine Ld.xb h rfl ?_|refine Ld.xt h rfl ?_|refine ad.xb (fun _ h=>h) rfl ?_|refine ad.xt (fun _ h=>h) rfl ?_|refine ⟨h.hb,?_⟩|refine af.xw h rfl rfl fun w h=> ?_|(refine af.xs h rfl rfl fun w h=> ?_;dsimp only [ah,ae] at h)|(refine St.xs h rfl rfl fun w h=> ?_;dsimp only [ah,ae] at h)|refine aa.yes ?_|refine aa.no ?_|refine ⟨by first|omega|decide,?_⟩)
   exact k1 ⟨3,0,M,m,0,0⟩ _ (by unfold aB;simp [hg]) (by dsimp only;decide) (by dsimp only;decide) h.tl
theorem Hk {n a M P sum many:Nat} {c:Nat} {K:dP→Bool→World→Prop} (h:Hp E w F) (ha:a=3∨(a=5∧M=0∧P=0)) (hm:many≤3) (hs:sum<256^many) (hc:c<256) (hK:Bc n ⟨a,0,M,P,sum,many⟩ c E F K):
  Cl Tryz.prog [.st [.int .i64,.int .i64,.int .i64,.int .i64,.int .i64,.int .u32,.int .i64],kB] bA ⟨[.int .i64 (n:Int),.agg ⟨[.int .i64 (a:Int),.int .i64 0,.int .i64 0,.int .i64 (M:Int),.int .i64 (P:Int),.int .u32 (sum:Int),.int .i64 (many:Int)]⟩,.int .u8 (c:Int)]⟩ w K:=by
 obtain ⟨k1,k2,k3,k4⟩:=hK
 have hs2:sum<16777216:=by
  have:256^many≤256^3:=Nat.pow_le_pow_right (by decide) hm
  omega
 refine CV.ok _ ((a:Int),0,0,(M:Int),(P:Int),(sum:Int),(many:Int),()) _ _ _ ?_
 (try simp only [ax,au,aq,Nat.zero_add,Nat.add_zero,Nat.reduceAdd,Bool.not_true,Bool.not_false,aQ,aR,Option.isNone])
 (with_reducible repeat first|refine Nw.mk h fun b w h=> ?_|refine ao.mk h fun w h=> ?_|refine Ld.xb h rfl ?_|refine Ld.xt h rfl ?_|refine ad.xb (fun _ h=>h) rfl ?_|refine ad.xt (fun _ h=>h) rfl ?_|refine ⟨h.hb,?_⟩|refine af.xw h rfl rfl fun w h=> ?_|(refine af.xs h rfl rfl fun w h=> ?_;dsimp only [ah,ae] at h)|(refine St.xs h rfl rfl fun w h=> ?_;dsimp only [ah,ae] at h)|refine aa.yes ?_|refine aa.no ?_|refine ⟨by first|omega|decide,?_⟩)
 rw [ag (x:=(many:Int)+1) (by omega)] at h⊢
 rw [Kc hs2 hc] at h
 by_cases hm3:many=3
 ·subst hm3
  (with_reducible repeat first|refine Nw.mk h fun b w h=> ?_|refine ao.mk h fun w h=> ?_|refine Ld.xb h rfl ?_|refine Ld.xt h rfl ?_|refine ad.xb (fun _ h=>h) rfl ?_|refine ad.xt (fun _ h=>h) rfl ?_|refine ⟨h.hb,?_⟩|refine af.xw h rfl rfl fun w h=> ?_|(refine af.xs h rfl rfl fun w h=> ?_;dsimp only [ah,ae] at h)|(refine St.xs h rfl rfl fun w h=> ?_;dsimp only [ah,ae] at h)|refine aa.yes ?_|refine aa.no ?_|refine ⟨by first|omega|decide,?_⟩)
  rw [ag (by omega)] at h⊢
  rcases ha with rfl|⟨rfl,rfl,rfl⟩
  ·exact k2 M P (256*sum+c) _ (by unfold aB;simp) h.tl
  ·exact k3 (256*sum+c) _ (by unfold aB;simp) h.tl
 ·(with_reducible repeat first|refine Nw.mk h fun b w h=> ?_|refine ao.mk h fun w h=> ?_|refine Ld.xb h rfl ?_|refine Ld.xt h rfl ?_|refine ad.xb (fun _ h=>h) rfl ?_|refine ad.xt (fun _ h=>h) rfl ?_|refine ⟨h.hb,?_⟩|refine af.xw h rfl rfl fun w h=> ?_|(refine af.xs h rfl rfl fun w h=> ?_;dsimp only [ah,ae] at h)|(refine St.xs h rfl rfl fun w h=> ?_;dsimp only [ah,ae] at h)|refine aa.yes ?_|refine aa.no ?_|refine ⟨by first|omega|decide,?_⟩)
  refine k1 ⟨a,0,M,P,256*sum+c,many+1⟩ _ ?_ ?_ ?_ h.tl
  ·unfold aB
   rcases ha with rfl|⟨rfl,rfl,rfl⟩<;>simp [hm3]
  ·dsimp only;omega
  ·dsimp only;omega
theorem qU:Tryz.prog.underlying 202=some (.map 3 203):=by kernel_rfl
theorem Ey (w:World):(zeroValue 203).run Tryz.prog w= .ok .nilFunc w:=by kernel_rfl
set_option maxRecDepth 20000
abbrev fv (i:Nat):Value:= .func (.func i) ⟨[]⟩ ⟨[]⟩
theorem Ix {n:Nat} {m:MS} {c:Nat} {K:dP→Bool→Int→World→Prop} (h:Hp E w F) (hn:1≤n) (hn2:n≤65536) (hm:iM n m) (hc:c<256)
  (hmore: ∀m' w',aB n m c= .more m'→Hp E w' F→K (J1 m') false 0 w')
  (hblk: ∀M P u w',aB n m c= .fin (.aC M P u)→Hp E w' F→K (4,0,0,(M:Int),(P:Int),(u:Int),4,()) true 0 w')
  (htail: ∀u w',aB n m c= .fin (.tail u)→Hp E w' F→K (6,0,0,0,0,(u:Int),4,()) true 0 w')
  (hbad: ∀e o w',aB n m c= .bad e→Hp E w' F→K o false (e:Int) w'):
  Cl Tryz.prog [.st [.int .i64,.int .i64,.int .i64,.int .i64,.int .i64,.int .u32,.int .i64],kB,kI] eS ⟨[.int .i64 (n:Int),.agg ⟨[.int .i64 (m.at_:Int),.int .i64 (m.v:Int),.int .i64 (vm m.v:Int),.int .i64 (m.M:Int),.int .i64 (m.P:Int),.int .u32 (m.sum:Int),.int .i64 (m.many:Int)]⟩,.int .u8 (c:Int)]⟩ w K:=by
 have main: ∀(q:Nat) (i:Nat),findAt (m.at_:Int) [((0:Int),fv dh),(1,fv dn),(2,fv cN),(3,fv bA),(5,fv bA)] 0=some (q,fv i)→kU Tryz.prog i=true→
   (∀(F':List HP) (w:World) (K':dP→Bool→World→Prop),Hp E w F'→Bc n m c E F' K'→Cl Tryz.prog [.st [.int .i64,.int .i64,.int .i64,.int .i64,.int .i64,.int .u32,.int .i64],kB] i ⟨[.int .i64 (n:Int),.agg ⟨[.int .i64 (m.at_:Int),.int .i64 (m.v:Int),.int .i64 (vm m.v:Int),.int .i64 (m.M:Int),.int .i64 (m.P:Int),.int .u32 (m.sum:Int),.int .i64 (m.many:Int)]⟩,.int .u8 (c:Int)]⟩ w K')→
   Cl Tryz.prog [.st [.int .i64,.int .i64,.int .i64,.int .i64,.int .i64,.int .u32,.int .i64],kB,kI] eS ⟨[.int .i64 (n:Int),.agg ⟨[.int .i64 (m.at_:Int),.int .i64 (m.v:Int),.int .i64 (vm m.v:Int),.int .i64 (m.M:Int),.int .i64 (m.P:Int),.int .u32 (m.sum:Int),.int .i64 (m.many:Int)]⟩,.int .u8 (c:Int)]⟩ w K:=by
  intro q i hq hok hcall
  refine sM.ok _ (J1 m) _ _ _ ?_
  (try simp only [ax,au,aq,Nat.zero_add,Nat.add_zero,Nat.reduceAdd,Bool.not_true,Bool.not_false,aQ,aR,Option.isNone])
  refine Nw.mk h fun b5 w h=>Nw.mk h fun b7 w h=> ?_
  refine run_makeMap (ke:=fun n:Int=>Value.int .i64 n) (ve:=fun v:Value=>v) h fun mp w h=> ?_
  refine ed (ke:=fun n:Int=>Value.int .i64 n) (ve:=fun v:Value=>v) (l:=_) lS qU (a:=0) (b:=fv dh) h fun w h=> ?_
  refine ed (ke:=fun n:Int=>Value.int .i64 n) (ve:=fun v:Value=>v) (l:=_) lS qU (a:=1) (b:=fv dn) h fun w h=> ?_
  refine ed (ke:=fun n:Int=>Value.int .i64 n) (ve:=fun v:Value=>v) (l:=_) lS qU (a:=2) (b:=fv cN) h fun w h=> ?_
  refine ed (ke:=fun n:Int=>Value.int .i64 n) (ve:=fun v:Value=>v) (l:=_) lS qU (a:=3) (b:=fv bA) h fun w h=> ?_
  refine ed (ke:=fun n:Int=>Value.int .i64 n) (ve:=fun v:Value=>v) (l:=_) lS qU (a:=5) (b:=fv bA) h fun w h=> ?_
  rw [show iD (5:Int) (fv bA) (iD 3 (fv bA) (iD 2 (fv cN) (iD 1 (fv dn) (iD 0 (fv dh) []))))
   = [((0:Int),fv dh),(1,fv dn),(2,fv cN),(3,fv bA),(5,fv bA)] from rfl] at h
  (with_reducible repeat first|refine Nw.mk h fun b w h=> ?_|refine ao.mk h fun w h=> ?_|refine Ld.xb h rfl ?_|refine Ld.xt h rfl ?_|refine ad.xb (fun _ h=>h) rfl ?_|refine ad.xt (fun _ h=>h) rfl ?_|refine ⟨h.hb,?_⟩|refine af.xw h rfl rfl fun w h=> ?_|(refine af.xs h rfl rfl fun w h=> ?_;dsimp only [ah,ae] at h)|(refine St.xs h rfl rfl fun w h=> ?_;dsimp only [ah,ae] at h)|refine aa.yes ?_|refine aa.no ?_|refine ⟨by first|omega|decide,?_⟩)
  refine aD.found (ke:=fun n:Int=>Value.int .i64 n) (ve:=fun v:Value=>v) lS qU (a:=(m.at_:Int)) (x:=fv i) Ey h hq rfl ?_
  refine kD.fn ?_
  have h:=h.drop
  (with_reducible repeat first|refine Nw.mk h fun b w h=> ?_|refine ao.mk h fun w h=> ?_|refine Ld.xb h rfl ?_|refine Ld.xt h rfl ?_|refine ad.xb (fun _ h=>h) rfl ?_|refine ad.xt (fun _ h=>h) rfl ?_|refine ⟨h.hb,?_⟩|refine af.xw h rfl rfl fun w h=> ?_|(refine af.xs h rfl rfl fun w h=> ?_;dsimp only [ah,ae] at h)|(refine St.xs h rfl rfl fun w h=> ?_;dsimp only [ah,ae] at h)|refine aa.yes ?_|refine aa.no ?_|refine ⟨by first|omega|decide,?_⟩)
  refine Gi h hn hn2 hm fun w h=> ?_
  (with_reducible repeat first|refine Nw.mk h fun b w h=> ?_|refine ao.mk h fun w h=> ?_|refine Ld.xb h rfl ?_|refine Ld.xt h rfl ?_|refine ad.xb (fun _ h=>h) rfl ?_|refine ad.xt (fun _ h=>h) rfl ?_|refine ⟨h.hb,?_⟩|refine af.xw h rfl rfl fun w h=> ?_|(refine af.xs h rfl rfl fun w h=> ?_;dsimp only [ah,ae] at h)|(refine St.xs h rfl rfl fun w h=> ?_;dsimp only [ah,ae] at h)|refine aa.yes ?_|refine aa.no ?_|refine ⟨by first|omega|decide,?_⟩)
  refine gW.mk hok (hcall _ _ _ h ⟨fun m' w h1 h2 h3 h=> ?_,fun M P u w h1 h=> ?_,fun u w h1 h=> ?_,fun e o w h1 h2 h=> ?_⟩)
  ·(with_reducible repeat first|refine Nw.mk h fun b w h=> ?_|refine ao.mk h fun w h=> ?_|refine Ld.xb h rfl ?_|refine Ld.xt h rfl ?_|refine ad.xb (fun _ h=>h) rfl ?_|refine ad.xt (fun _ h=>h) rfl ?_|refine ⟨h.hb,?_⟩|refine af.xw h rfl rfl fun w h=> ?_|(refine af.xs h rfl rfl fun w h=> ?_;dsimp only [ah,ae] at h)|(refine St.xs h rfl rfl fun w h=> ?_;dsimp only [ah,ae] at h)|refine aa.yes ?_|refine aa.no ?_|refine ⟨by first|omega|decide,?_⟩)
   have h:=h.drew (n:=w.drawn+1)
   refine ⟨bF b5 _ _ _,h.hb,?_⟩
   (with_reducible repeat first|refine Nw.mk h fun b w h=> ?_|refine ao.mk h fun w h=> ?_|refine Ld.xb h rfl ?_|refine Ld.xt h rfl ?_|refine ad.xb (fun _ h=>h) rfl ?_|refine ad.xt (fun _ h=>h) rfl ?_|refine ⟨h.hb,?_⟩|refine af.xw h rfl rfl fun w h=> ?_|(refine af.xs h rfl rfl fun w h=> ?_;dsimp only [ah,ae] at h)|(refine St.xs h rfl rfl fun w h=> ?_;dsimp only [ah,ae] at h)|refine aa.yes ?_|refine aa.no ?_|refine ⟨by first|omega|decide,?_⟩)
   refine aa.ef (show¬(m'.at_:Int)=4 by omega) ?_
   (with_reducible repeat first|refine Nw.mk h fun b w h=> ?_|refine ao.mk h fun w h=> ?_|refine Ld.xb h rfl ?_|refine Ld.xt h rfl ?_|refine ad.xb (fun _ h=>h) rfl ?_|refine ad.xt (fun _ h=>h) rfl ?_|refine ⟨h.hb,?_⟩|refine af.xw h rfl rfl fun w h=> ?_|(refine af.xs h rfl rfl fun w h=> ?_;dsimp only [ah,ae] at h)|(refine St.xs h rfl rfl fun w h=> ?_;dsimp only [ah,ae] at h)|refine aa.yes ?_|refine aa.no ?_|refine ⟨by first|omega|decide,?_⟩)
   have e6:((m'.at_:Int)==6)=false:=beq_eq_false_iff_ne.2 (by omega)
   have h6:=hmore m' _ h1 h.tl
   rw [←e6] at h6
   exact h6
  ·(with_reducible repeat first|refine Nw.mk h fun b w h=> ?_|refine ao.mk h fun w h=> ?_|refine Ld.xb h rfl ?_|refine Ld.xt h rfl ?_|refine ad.xb (fun _ h=>h) rfl ?_|refine ad.xt (fun _ h=>h) rfl ?_|refine ⟨h.hb,?_⟩|refine af.xw h rfl rfl fun w h=> ?_|(refine af.xs h rfl rfl fun w h=> ?_;dsimp only [ah,ae] at h)|(refine St.xs h rfl rfl fun w h=> ?_;dsimp only [ah,ae] at h)|refine aa.yes ?_|refine aa.no ?_|refine ⟨by first|omega|decide,?_⟩)
   have h:=h.drew (n:=w.drawn+1)
   refine ⟨bF b5 _ _ _,h.hb,?_⟩
   (with_reducible repeat first|refine Nw.mk h fun b w h=> ?_|refine ao.mk h fun w h=> ?_|refine Ld.xb h rfl ?_|refine Ld.xt h rfl ?_|refine ad.xb (fun _ h=>h) rfl ?_|refine ad.xt (fun _ h=>h) rfl ?_|refine ⟨h.hb,?_⟩|refine af.xw h rfl rfl fun w h=> ?_|(refine af.xs h rfl rfl fun w h=> ?_;dsimp only [ah,ae] at h)|(refine St.xs h rfl rfl fun w h=> ?_;dsimp only [ah,ae] at h)|refine aa.yes ?_|refine aa.no ?_|refine ⟨by first|omega|decide,?_⟩)
   exact hblk M P u _ h1 h.tl
  ·(with_reducible repeat first|refine Nw.mk h fun b w h=> ?_|refine ao.mk h fun w h=> ?_|refine Ld.xb h rfl ?_|refine Ld.xt h rfl ?_|refine ad.xb (fun _ h=>h) rfl ?_|refine ad.xt (fun _ h=>h) rfl ?_|refine ⟨h.hb,?_⟩|refine af.xw h rfl rfl fun w h=> ?_|(refine af.xs h rfl rfl fun w h=> ?_;dsimp only [ah,ae] at h)|(refine St.xs h rfl rfl fun w h=> ?_;dsimp only [ah,ae] at h)|refine aa.yes ?_|refine aa.no ?_|refine ⟨by first|omega|decide,?_⟩)
   have h:=h.drew (n:=w.drawn+1)
   refine ⟨bF b5 _ _ _,h.hb,?_⟩
   (with_reducible repeat first|refine Nw.mk h fun b w h=> ?_|refine ao.mk h fun w h=> ?_|refine Ld.xb h rfl ?_|refine Ld.xt h rfl ?_|refine ad.xb (fun _ h=>h) rfl ?_|refine ad.xt (fun _ h=>h) rfl ?_|refine ⟨h.hb,?_⟩|refine af.xw h rfl rfl fun w h=> ?_|(refine af.xs h rfl rfl fun w h=> ?_;dsimp only [ah,ae] at h)|(refine St.xs h rfl rfl fun w h=> ?_;dsimp only [ah,ae] at h)|refine aa.yes ?_|refine aa.no ?_|refine ⟨by first|omega|decide,?_⟩)
   exact htail u _ h1 h.tl
  ·(with_reducible repeat first|refine Nw.mk h fun b w h=> ?_|refine ao.mk h fun w h=> ?_|refine Ld.xb h rfl ?_|refine Ld.xt h rfl ?_|refine ad.xb (fun _ h=>h) rfl ?_|refine ad.xt (fun _ h=>h) rfl ?_|refine ⟨h.hb,?_⟩|refine af.xw h rfl rfl fun w h=> ?_|(refine af.xs h rfl rfl fun w h=> ?_;dsimp only [ah,ae] at h)|(refine St.xs h rfl rfl fun w h=> ?_;dsimp only [ah,ae] at h)|refine aa.yes ?_|refine aa.no ?_|refine ⟨by first|omega|decide,?_⟩)
   subst h2
   exact hbad 242 _ _ h1 h.tl
 obtain ⟨at_,v,M,P,sum,many⟩:=m
 have hm0:=hm
 unfold iM at hm0
 dsimp only at hm0
 rcases hm0 with ⟨h1,h2⟩|⟨h1,h2,h3,h4,h5,h6⟩|⟨h1,h2,h3,h4,h5,h6,h7⟩|⟨h1,h2,h3,h4,h5,h6,h7,h8⟩|⟨h1,h2,h3,h4,h5,h6⟩
 ·cases h2
  exact main 0 dh rfl (by kernel_rfl) fun F' w K' h hK=>JF h hc hK
 ·subst h1 h3 h4 h5 h6
  exact main 1 dn rfl (by kernel_rfl) fun F' w K' h hK=>IL h hn2 h2 hc hK
 ·subst h1 h5 h6 h7
  exact main 2 cN rfl (by kernel_rfl) fun F' w K' h hK=>HY (M:=M) h (by omega) h4 hc hK
 ·subst h1 h6
  exact main 3 bA rfl (by kernel_rfl) fun F' w K' h hK=>Hk h (.inl rfl) h7 h8 hc hK
 ·subst h1 h2 h3 h4
  exact main 4 bA rfl (by kernel_rfl) fun F' w K' h hK=>Hk h (.inr ⟨rfl,rfl,rfl⟩) h5 h6 hc hK
end
end Go.Proofs.YtcdpblipagajiaaGreat
set_option maxRecDepth 20000
namespace Go.Vc
def nd (l:List Nat) (i:Nat):List Nat:=(List.range l.length).map fun p=>if p<i∨l.length - i≤p then l.getD (l.length - 1 - p) 0 else l.getD p 0
theorem l4 (l:List Nat) (i:Nat):(nd l i).length=l.length:=by unfold nd;simp
theorem oy {l:List Nat} {i p:Nat} (h:p<l.length):(nd l i)[p]? =some (if p<i∨l.length - i≤p then l.getD (l.length - 1 - p) 0 else l.getD p 0):=by
 unfold nd
 rw [List.getElem?_map,List.getElem?_range h];rfl
theorem Gs (l:List Nat):nd l 0=l:=by
 refine List.ext_getElem? fun p=> ?_
 by_cases h:p<l.length
 ·rw [oy h,if_neg (by omega),List.getElem?_eq_getElem h,List.getD_eq_getElem?_getD,List.getElem?_eq_getElem h];rfl
 ·rw [List.getElem?_eq_none (by rw [l4];omega),List.getElem?_eq_none (by omega)]
theorem Gx {l:List Nat} {i:Nat} (h:2*i+1<l.length):((nd l i).set i (l.getD (l.length - 1 - i) 0)).set (l.length - 1 - i) (l.getD i 0)=nd l (i+1):=by
 refine List.ext_getElem? fun p=> ?_
 by_cases hp:p<l.length
 ·rw [oy hp,List.getElem?_set,List.getElem?_set,oy hp]
  by_cases h1:l.length - 1 - i=p
  ·subst h1
   rw [if_pos rfl,if_pos (by rw [List.length_set,l4];omega),if_pos (by omega),show l.length - 1 - (l.length - 1 - i)=i by omega]
  ·rw [if_neg h1]
   by_cases h2:i=p
   ·subst h2
    rw [if_pos rfl,if_pos (by rw [l4];omega),if_pos (by omega)]
   ·rw [if_neg h2]
    by_cases h3:p<i∨l.length - i≤p
    ·rw [if_pos h3,if_pos (by omega)]
    ·rw [if_neg h3,if_neg (by omega)]
 ·rw [List.getElem?_eq_none (by rw [List.length_set,List.length_set,l4];omega),List.getElem?_eq_none (by rw [l4];omega)]
theorem Hz {l:List Nat} {i:Nat} (h:l.length≤2*i+1):nd l i=l.reverse:=by
 refine List.ext_getElem? fun p=> ?_
 by_cases hp:p<l.length
 ·rw [oy hp,List.getElem?_reverse hp]
  have e: ∀q,q<l.length→l[q]? =some (l.getD q 0):=fun q hq=>by rw [List.getD_eq_getElem?_getD,List.getElem?_eq_getElem hq];rfl
  rw [e _ (by omega)]
  by_cases h3:p<i∨l.length - i≤p
  ·rw [if_pos h3]
  ·rw [if_neg h3,show l.length - 1 - p=p by omega]
 ·rw [List.getElem?_eq_none (by rw [l4];omega),List.getElem?_eq_none (by rw [List.length_reverse];omega)]
end Go.Vc
namespace Go.Proofs.YtcdpblipagajiaaGreat
open Go Go.Vc
section
variable {E w:World} {F:List HP}
theorem vR {s:Sl} {l:List Nat} {K:World→Prop} (h:Hp E w (ak 1 s (l.map vB)::F)) (hbig:l.length≤bR) (hK: ∀w',Hp E w' (ak 1 s (l.reverse.map vB)::F)→K w'):
  Cl Tryz.prog [] ca ⟨[.slice s.base s.len s.cap]⟩ w K:=by
 refine mr.ok _ _ _ ?_
 have hlen:=h.aH
 rw [List.length_map,Nat.mul_one] at hlen
 rw [av] at hbig
 rw [ag (by omega)]
 refine ⟨fun i j w'=> ∃k:Nat,i=(k:Int)∧j=(l.length:Int) - 1 - (k:Int)∧k≤l.length∧Hp E w' (ak 1 s ((nd l k).map vB)::F),fun i _ _=>l.length - i.toNat,⟨0,rfl,by omega,by omega,by rw [Gs];exact h⟩,?_⟩
 rintro i j w ⟨k,rfl,rfl,hk,h⟩
 refine aa.dm (fun hlt=> ?_) (fun hge=> ?_)
 ·have hg: ∀p,(hp:p<l.length)→((nd l k).map vB)[p]? =some (vB (if p<k∨l.length - k≤p then l.getD (l.length - 1 - p) 0 else l.getD p 0)):=fun p hp=>by rw [List.getElem?_map,oy hp];rfl
  have hj:((l.length:Int) - 1 - (k:Int)).toNat=l.length - 1 - k:=by omega
  refine ao.mk h fun w h=> ?_
  refine ar.rd (h.al ab.own) (by omega) (by omega) fun q hi hq=> ?_
  have e1:((nd l k).map vB)[((l.length:Int) - 1 - (k:Int)).toNat]'hi=vB (l.getD (l.length - 1 - k) 0):=by
   have:=hg (l.length - 1 - k) (by omega)
   rw [if_neg (by omega)] at this
   rw [List.getElem_eq_iff,hj];exact this
  refine Ld.sc (s:= .int .u8) (l.getD (l.length - 1 - k) 0:Int) (by rw [hq,e1];rfl) ?_
  refine ar.rd (h.al ab.own) (by omega) (by omega) fun q2 hi2 hq2=> ?_
  have e2:((nd l k).map vB)[((k:Int)).toNat]'hi2=vB (l.getD k 0):=by
   have:=hg k (by omega)
   rw [if_neg (by omega)] at this
   rw [List.getElem_eq_iff,Int.toNat_natCast];exact this
  refine Ld.sc (s:= .int .u8) (l.getD k 0:Int) (by rw [hq2,e2];rfl) ?_
  refine St.own h (by omega) (by omega) rfl fun w h=> ?_
  refine St.own h (by omega) (by omega) rfl fun w h=> ?_
  rw [ag (by omega),ag (by omega)]
  refine ⟨⟨k+1,by omega,by omega,by omega,?_⟩,by first|omega|(dsimp only;omega)⟩
  rw [hj,Int.toNat_natCast] at h
  have e3:(((nd l k).map vB).set k (.int .u8 (l.getD (l.length - 1 - k) 0:Int))).set (l.length - 1 - k) (.int .u8 (l.getD k 0:Int))=(nd l (k+1)).map vB:=by
   rw [←Gx (by omega),List.map_set,List.map_set];rfl
  rw [e3] at h
  exact h
 ·rw [Hz (by omega)] at h
  exact hK _ h
end
end Go.Proofs.YtcdpblipagajiaaGreat
set_option maxRecDepth 20000
namespace Go.Proofs.YtcdpblipagajiaaGreat
open Go Go.Vc Go.Hd
section
variable {E w:World} {F:List HP}
theorem IT {n:Nat} {K:Sl→Int→World→Prop} (h:Hp E w F) (hn:n≤65536) (hK: ∀s w',Hp E w' (ak 1 s ((dX n).map vB)::F)→K s 0 w'):Cl Tryz.prog [kS,kI] mv ⟨[.int .i64 (n:Int)]⟩ w K:=by
 refine Da.ok _ _ _ ?_
 refine aa.df (by omega) (aa.df (by omega) ?_)
 have hm:IntKind.max .i64=9223372036854775807:=rfl
 have and127: ∀m:Nat,m≤65536→bl .i64 (m:Int) 127=((m % 128:Nat):Int):=fun m h=>by
  rw [show (127:Int)=((127:Nat):Int) from rfl,eI (by omega) (by omega),show (127:Nat)=2^7 - 1 from rfl,Nat.and_two_pow_sub_one_eq_mod]
 have hshr: ∀m:Nat,aF .i64 (m:Int) 7=((m/128:Nat):Int):=fun m=>by
  rw [show (7:Int)=((7:Nat):Int) from rfl,bG (by decide)]
 rw [and127 n hn,oY (by omega)]
 refine Nw.mk h fun b3 w h=> ?_
 refine aN (s:=⟨none,0,0⟩) (ys:= [vB (n % 128)]) (n:=1) pc (by decide) (.inl ⟨5,by kernel_rfl⟩) (h.bJ 1) (.inl ⟨some ⟨b3,0,none⟩,1,1,rfl,rfl,h.al (ab.aC rfl rfl)⟩) rfl zv (by decide) (by decide) fun s w h _=> ?_
 refine ⟨by decide,?_⟩
 rw [hshr]
 refine ⟨fun x s w'=> ∃(m:Nat) (l:List Nat),x=(m:Int)∧m≤512∧l.length+m≤513∧na m++l.reverse=dX n∧Hp E w' (ak 1 s (l.map vB)::F),fun x _ _=>x.toNat,⟨n/128,[n % 128],rfl,by omega,by simp;omega,rfl,h.p1.drop⟩,?_⟩
 rintro x s w ⟨m,l,rfl,hm5,hl,hv,h⟩
 refine aa.dm (fun hlt=> ?_) (fun hge=> ?_)
 ·have hm0:0<m:=by omega
  have hor:jP .u8 ((m % 128:Nat):Int) 128=((128+m % 128:Nat):Int):=by
   have hm8:IntKind.max .u8=255:=rfl
   have e:=Nat.two_pow_add_eq_or_of_lt (i:=7) (b:=m % 128) (by omega) 1
   have e2:m % 128|||128=128+m % 128:=by rw [Nat.or_comm];exact e.symm
   rw [show (128:Int)=((128:Nat):Int) from rfl,ou (by omega) (by omega) (by rw [e2];omega),e2]
  rw [and127 m (by omega),oY (by omega),hor]
  have hol:=h.aH
  rw [List.length_map,Nat.mul_one] at hol
  refine Nw.mk h fun b12 w h=> ?_
  refine aN (ys:= [vB (128+m % 128)]) (n:=1) pc (by decide) (.inl ⟨5,by kernel_rfl⟩) h.p1 (.inl ⟨some ⟨b12,0,none⟩,1,1,rfl,rfl,h.al (ab.aC rfl rfl)⟩) rfl zv (by omega) (by omega) fun s w h _=> ?_
  refine ⟨by decide,?_⟩
  rw [hshr]
  refine ⟨⟨m/128,l++ [128+m % 128],rfl,by omega,by rw [List.length_append,List.length_singleton];omega,?_,by rw [List.map_append];exact h.p1.drop⟩,by first|omega|(dsimp only;omega)⟩
  rw [List.reverse_append,←hv,lU hm0]
  simp
 ·have hm0:m=0:=by omega
  subst hm0
  rw [iR,List.nil_append] at hv
  refine vR h (by rw [av];omega) fun w h=>hK s w ?_
  rw [hv] at h
  exact h
end
end Go.Proofs.YtcdpblipagajiaaGreat
namespace Go.Proofs.YtcdpblipagajiaaGreat
open Go Go.Vc
set_option maxRecDepth 100000
theorem IP.ok (a:Sl) (R:Int→World→Prop) w (h:
 Cl Pg [(aL .u32)] o0 ⟨[(.int .u32 0),(an a)]⟩ w fun (c:Int) b=>
 R c b):Cl Pg [(aL .u32)] j0 ⟨[(an a)]⟩ w R:=co Tryz.f43 [] h
theorem Hx.ok (a:Int) (R:Sl→World→Prop) w (h:
 Nw 184 ⟨[(.int .u8 0),(.int .u8 0),(.int .u8 0),(.int .u8 0)]⟩ w fun c b=>
 dN 0 b fun d e (f:Int) g=>
 aa (decide (f<4))
 (0≤(i64 ((24:Int) - (i64 ((8:Int)*f))))∧
 aI ⟨c,0,none⟩ 4 f 1 fun h=>
 St h (.int .u8 (u8 (aF .u32 a (i64 ((24:Int) - (i64 ((8:Int)*f))))))) g fun i=>
 d (i64 (f+1)) i∧e (i64 (f+1)) i<e f g)
 (aZ (⟨some ⟨c,0,none⟩,4,4⟩:Sl) 0 4 4 1 fun j=>
 R j g)):Cl Pg [kS] np ⟨[(.int .u32 a)]⟩ w R:=co Tryz.f87 [(7,[(5,kI)])] h
theorem Fi.ok (a:Int) (b:Sl) (R:Int→World→Prop) w (h:
 Cl Pg [(.arr 256)] nT ⟨[]⟩ w fun d c=>
 Nw 185 ⟨List.replicate 256 (.int .u32 0)⟩ c fun f e=>
 aw 256 ⟨f,0,none⟩ d e fun g=>
 db (gk .u32 (if IntKind.signed .u32 then -1 else IntKind.max .u32) a) 0 g fun h i (j:Int) (k:Int) l=>
 aa (decide (k<(b.len:Int)))
 (ar b k 1 fun m=>
 Ld kS m l fun (n:Sl)=>
 db j 0 l fun o p (q:Int) (r:Int) s=>
 aa (decide (r<(n.len:Int)))
 (ar n r 1 fun t=>
 Ld (aL .u8) t s fun (u:Int)=>
 aI ⟨f,0,none⟩ 256 (gk .u8 (u8 q) u) 1 fun v=>
 Ld (aL .u32) v s fun (x:Int)=>
 0≤(8:Int)∧
 o (gk .u32 x (aF .u32 q (8:Int))) (i64 (r+1)) s∧p (gk .u32 x (aF .u32 q (8:Int))) (i64 (r+1)) s<p q r s)
 (h q (i64 (k+1)) s∧i q (i64 (k+1)) s<i j k l))
 (R (gk .u32 (if IntKind.signed .u32 then -1 else IntKind.max .u32) j) l)):Cl Pg [(aL .u32)] o0 ⟨[(.int .u32 a),(an b)]⟩ w R:=co Tryz.f88 [(9,[(0,(aL .u32)),(15,kI)]),(18,[(0,(aL .u32)),(21,kI)])] h
theorem DE.ok (R:(Array Value)→World→Prop) w (h:
 Nw 185 ⟨List.replicate 256 (.int .u32 0)⟩ w fun b a=>
 dN 0 a fun c d (e:Int) f=>
 aa (decide (e<256))
 (Cl Pg [(aL .u32)] p9 ⟨[(.int .u8 (u8 e))]⟩ f fun (h:Int) g=>
 aI ⟨b,0,none⟩ 256 e 1 fun i=>
 St i (.int .u32 h) g fun j=>
 c (i64 (e+1)) j∧d (i64 (e+1)) j<d e f)
 (Ld (.arr 256) ⟨b,0,none⟩ f fun k=>
 aw 256 ⟨b,0,none⟩ k f fun l=>
 Ld (.arr 256) ⟨b,0,none⟩ l fun m=>
 R m l)):Cl Pg [(.arr 256)] nT ⟨[]⟩ w R:=co Tryz.f132 [(5,[(2,kI)])] h
theorem HX.ok (a:Int) (R:Int→World→Prop) w (h:
 db (u32 a) 0 w fun b c (d:Int) (e:Int) f=>
 aa (decide (e<8))
 (0≤(1:Int)∧
 b (gk .u32 (aF .u32 d (1:Int)) (u32 ((3988292384:Int)*(bl .u32 d 1)))) (i64 (e+1)) f∧c (gk .u32 (aF .u32 d (1:Int)) (u32 ((3988292384:Int)*(bl .u32 d 1)))) (i64 (e+1)) f<c d e f)
 (R d f)):Cl Pg [(aL .u32)] p9 ⟨[(.int .u8 a)]⟩ w R:=co Tryz.f172 [(7,[(3,(aL .u32)),(6,kI)])] h
end Go.Proofs.YtcdpblipagajiaaGreat
namespace Go.Crc
theorem FQ (c:Nat):(c/2)^^^(3988292384*(c % 2))=half c:=by
 unfold half
 rcases Nat.mod_two_eq_zero_or_one c with e|e
 ·rw [e];rfl
 ·rw [e];rfl
def eY:Nat→Nat→Nat
 |0,c=>c
 |k+1,c=>half (eY k c)
theorem wo: ∀(k c:Nat),c<4294967296→eY k c<4294967296
 |0,_,h=>h
 |k+1,c,h=>fR (wo k c h)
end Go.Crc
namespace Go.Proofs.YtcdpblipagajiaaGreat
open Go Go.Vc Go.Crc
section
variable {E w:World} {F:List HP}
theorem I9 {b:Nat} {K:Int→World→Prop} (hb:b<256) (hK:K (row b:Int) w):Cl Tryz.prog [aL .u32] p9 ⟨[.int .u8 (b:Int)]⟩ w K:=by
 refine HX.ok _ _ _ ?_
 refine ⟨fun c i w'=>w'=w∧∃k:Nat,i=(k:Int)∧k≤8∧c=(eY k b:Int),fun _ i _=>8 - i.toNat,⟨rfl,0,rfl,by omega,by rw [kK (by omega)];rfl⟩,?_⟩
 rintro c i w' ⟨rfl,k,rfl,hk,rfl⟩
 refine aa.dm (fun hlt=> ?_) (fun hge=> ?_)
 ·have hlt:k<8:=by omega
  have hb:=wo k b (by omega)
  have hm:IntKind.max .u32=4294967295:=rfl
  have h2:=fR hb
  have e1:aF .u32 (eY k b:Int) 1=((eY k b/2:Nat):Int):=by
   rw [show (1:Int)=((1:Nat):Int) from rfl,bG (by decide)]
  have e2:bl .u32 (eY k b:Int) 1=((eY k b % 2:Nat):Int):=by
   rw [show (1:Int)=((1:Nat):Int) from rfl,eI (by omega) (by omega),Nat.and_one_is_mod]
  have e3:u32 ((3988292384:Int)*((eY k b % 2:Nat):Int))=((3988292384*(eY k b % 2):Nat):Int):=by
   rw [kK (by omega)];omega
  have e4:gk .u32 ((eY k b/2:Nat):Int) ((3988292384*(eY k b % 2):Nat):Int)=(eY (k+1) b:Int):=by
   have hh:=FQ (eY k b)
   rw [pk (by omega) (by omega) (by rw [hh];omega),hh];rfl
  rw [e1,e2,e3,e4,ag (by omega)]
  exact ⟨by decide,⟨rfl,k+1,rfl,by omega,rfl⟩,by dsimp only;omega⟩
 ·have:k=8:=by omega
  subst this
  exact hK
def eE:List Nat:=(List.range 256).map row
theorem mh:eE.length=256:=by unfold eE;simp
theorem yR {b:Nat} (h:b<256):eE[b]? =some (row b):=by unfold eE;rw [List.getElem?_map,List.getElem?_range h];rfl
abbrev il (l:List Nat):List Value:=l.map fun (n:Nat)=>Value.int .u32 (n:Int)
theorem ue {l:List Nat}:(il l).all ay=true:=by
 unfold il
 rw [List.all_map]
 exact List.all_eq_true.2 fun _ _=>rfl
set_option maxRecDepth 20000
theorem I1 {K:Array Value→World→Prop} (h:Hp E w F) (hK: ∀w',Hp E w' F→K ⟨il eE⟩ w'):Cl Tryz.prog [.arr 256] nT ⟨[]⟩ w K:=by
 refine DE.ok _ _ ?_
 refine Nw.mk h fun b2 w h=> ?_
 have hlen: ∀k,k≤256→(il (eE.take k++List.replicate (256 - k) 0)).length=256:=fun k hk=>by simp [mh];omega
 refine ⟨fun i w'=> ∃k:Nat,i=(k:Int)∧k≤256∧Hp E w' (aj b2 (.cells ⟨il (eE.take k++List.replicate (256 - k) 0)⟩ 185 (0,0))::F),fun i _=>256 - i.toNat,⟨0,rfl,by omega,by
  have:(⟨il (eE.take 0++List.replicate (256 - 0) 0)⟩:Array Value)=⟨List.replicate 256 (.int .u32 0)⟩:=by simp
  rw [this];exact h⟩,?_⟩
 rintro i w ⟨k,rfl,hk,h⟩
 refine aa.dm (fun hlt=> ?_) (fun hge=> ?_)
 ·have hlt:k<256:=by omega
  rw [oY (by omega)]
  refine I9 hlt ?_
  refine ⟨by omega,by omega,?_⟩
  rw [show ((k:Int)).toNat*1=k by omega]
  simp only [aq,Nat.zero_add]
  have hkl:=hlen k (by omega)
  refine St.xb h (by show k<(il (eE.take k++List.replicate (256 - k) 0)).length;omega) rfl fun w h=> ?_
  rw [ag (by omega)]
  refine ⟨⟨k+1,rfl,by omega,?_⟩,by first|omega|(dsimp only;omega)⟩
  have e:(⟨il (eE.take k++List.replicate (256 - k) 0)⟩:Array Value).setIfInBounds k (.int .u32 (row k:Int))=⟨il (eE.take (k+1)++List.replicate (256 - (k+1)) 0)⟩:=by
   apply Array.ext'
   rw [Array.toList_setIfInBounds]
   have:(il (eE.take k++List.replicate (256 - k) 0)).set k (.int .u32 (row k:Int))=il ((eE.take k++List.replicate (256 - k) 0).set k (row k)):=by rw [il,il,List.map_set]
   have hl:(eE.take k).length=k:=by rw [List.length_take,mh];omega
   rw [this,List.set_append_right _ _ (by omega),hl,Nat.sub_self]
   obtain ⟨m,hm⟩: ∃m,256 - k=m+1:=⟨255 - k,by omega⟩
   rw [hm,List.replicate_succ,List.set_cons_zero,List.take_add_one,yR hlt,show 256 - (k+1)=m by omega]
   simp
  rw [e] at h
  exact h
 ·have hk2:k=256:=by omega
  subst hk2
  have e:(⟨il (eE.take 256++List.replicate (256 - 256) 0)⟩:Array Value)=⟨il eE⟩:=by
   rw [List.take_of_length_le (by rw [mh];omega)];simp
  rw [e] at h
  have hn:(⟨il eE⟩:Array Value).size=256:=by simp [mh]
  refine Ld.xw h hn ?_
  refine aw.q h hn hn ue fun w h=> ?_
  exact Ld.xw h hn (hK _ h.tl)
theorem Ke:(if IntKind.signed .u32 then (-1:Int) else IntKind.max .u32)=((4294967295:Nat):Int):=rfl
theorem Hi {c:Nat} (h:c<4294967296):gk .u32 (if IntKind.signed .u32 then (-1:Int) else IntKind.max .u32) (c:Int)=((c^^^4294967295:Nat):Int):=by
 have hm:IntKind.max .u32=4294967295:=rfl
 have hx:4294967295^^^c<2^32:=Nat.xor_lt_two_pow (by decide) (by omega)
 rw [Ke,pk (by omega) (by omega) (by omega),Nat.xor_comm]
theorem Gl {c x:Nat} (hc:c<4294967296) (hx:x<256):gk .u8 (u8 (c:Int)) (x:Int)=((c % 256^^^x:Nat):Int):=by
 have hm:IntKind.max .u8=255:=rfl
 have h2:c % 256^^^x<2^8:=Nat.xor_lt_two_pow (by omega) (by omega)
 rw [te,show ((c:Int) % 256)=((c % 256:Nat):Int) by omega,pk (by omega) (by omega) (by omega)]
theorem uv {c x:Nat} (hx:x<256):c % 256^^^x<256:=by
 have:c % 256^^^x<2^8:=Nat.xor_lt_two_pow (by omega) (by omega)
 omega
theorem Dg {c x:Nat} (hc:c<4294967296) (hx:x<256):gk .u32 (row (c % 256^^^x):Int) (aF .u32 (c:Int) 8)=(Crc.step c x:Int):=by
 have hm:IntKind.max .u32=4294967295:=rfl
 have hr:=DZ (c:=c % 256^^^x) (by have:=uv (c:=c) hx;omega)
 have hs:=BF hc hx
 unfold Crc.step at hs⊢
 rw [show (8:Int)=((8:Nat):Int) from rfl,bG (by decide),show (2:Nat)^8=256 from rfl,pk (by omega) (by omega) (by omega)]
end
end Go.Proofs.YtcdpblipagajiaaGreat
namespace Go.Proofs.YtcdpblipagajiaaGreat
open Go Go.Vc Go.Bits
section
variable {E w:World} {F:List HP}
set_option maxRecDepth 20000
theorem Dn {bs:List (List Nat)} {k:Nat} (h:k<bs.length):(bs.take (k+1)).flatten=(bs.take k).flatten++bs.getD k []:=by
 rw [List.take_add_one,List.flatten_append]
 congr 1
 simp [h]
theorem KF {b:Nat} (h:b<256):(⟨il eE⟩:Array Value)[b]? =some (Sc.enc (.int .u32) (Crc.row b:Int)):=by
 rw [List.getElem?_toArray,il,List.getElem?_map,yR h];rfl
theorem H8 {c:Nat} {K:Int→World→Prop} {s:Sl} {cs:List Sl} {bs:List (List Nat)} (h:Hp E w F) (hc0:c<4294967296)
  (hs:ab F (aA 1 s (cs.map fun x=> .slice x.base x.len x.cap))) (hl:cs.length=bs.length) (hcl:cs.length≤bR) (hc: ∀i (h:i<cs.length),ab F (aA 1 cs[i] ((bs.getD i []).map vB)))
  (hby: ∀b∈bs,∀y∈b,y<256) (hbig: ∀b∈bs,b.length≤bR)
  (hK: ∀w',Hp E w' F→K ((Crc.feed (c^^^4294967295) bs.flatten^^^4294967295:Nat):Int) w'):Cl Tryz.prog [aL .u32] o0 ⟨[.int .u32 (c:Int),.slice s.base s.len s.cap]⟩ w K:=by
 refine Fi.ok _ _ _ _ ?_
 have hlen:s.len=cs.length:=by have:=(h.al hs).1;simpa using this.symm
 have hflat: ∀y∈bs.flatten,y<256:=fun y hy=>by
  obtain ⟨b,hb1,hb2⟩:=List.mem_flatten.1 hy
  exact hby b hb1 y hb2
 have hc1:c^^^4294967295<4294967296:=Nat.xor_lt_two_pow (n:=32) hc0 (by decide)
 rw [av] at hcl
 refine I1 h fun w h=>Nw.mk h fun b6 w h=> ?_
 have hn:(⟨il eE⟩:Array Value).size=256:=by simp [mh]
 refine aw.q h (by simp) hn ue fun w h=> ?_
 rw [Hi hc0]
 refine ⟨fun x i w'=> ∃k:Nat,i=(k:Int)∧k≤cs.length∧x=(Crc.feed (c^^^4294967295) (bs.take k).flatten:Int)∧Hp E w' (aj b6 (.cells ⟨il eE⟩ 185 (0,0))::F),fun _ i _=>cs.length - i.toNat,⟨0,rfl,by omega,rfl,h⟩,?_⟩
 rintro x i w ⟨k,rfl,hk,rfl,h⟩
 refine aa.dm (fun hlt=> ?_) (fun hge=> ?_)
 ·have hlt:k<cs.length:=by omega
  have hkb:k<bs.length:=by omega
  refine ar.rd (h.tl.al hs) (by omega) (by omega) fun q hi hq=> ?_
  have hq':w.cell? q=some (Sc.sl.enc cs[k]):=by simpa using hq
  refine Ld.sc _ hq' ?_
  have hgd:bs.getD k []=bs[k]:=by rw [List.getD_eq_getElem?_getD,List.getElem?_eq_getElem hkb];rfl
  have hck:=hc k hlt
  rw [hgd] at hck
  have hmem:=List.getElem_mem hkb
  have hblen:=hbig _ hmem
  rw [av] at hblen
  have hlk:=(h.tl.al hck).1
  simp only [List.length_map,Nat.mul_one] at hlk
  refine ⟨fun x i w'=> ∃j:Nat,i=(j:Int)∧j≤bs[k].length∧x=(Crc.feed (c^^^4294967295) ((bs.take k).flatten++bs[k].take j):Int)∧Hp E w' (aj b6 (.cells ⟨il eE⟩ 185 (0,0))::F),fun _ i _=>bs[k].length - i.toNat,⟨0,rfl,by omega,by simp,h⟩,?_⟩
  rintro x i w ⟨j,rfl,hj,rfl,h⟩
  have hpre: ∀y∈(bs.take k).flatten++bs[k].take j,y<256:=fun y hy=>by
   rcases List.mem_append.1 hy with hy|hy
   ·obtain ⟨b,hb1,hb2⟩:=List.mem_flatten.1 hy
    exact hby b (List.mem_of_mem_take hb1) y hb2
   ·exact hby _ hmem y (List.mem_of_mem_take hy)
  have hfl:=Crc.rj _ _ hc1 hpre
  refine aa.dm (fun hlt2=> ?_) (fun hge2=> ?_)
  ·have hjl:j<bs[k].length:=by omega
   have hy:=hby _ hmem _ (List.getElem_mem hjl)
   refine ar.rd (h.tl.al hck) (by omega) (by omega) fun q hi hq=> ?_
   refine Ld.sc (s:= .int .u8) (bs[k][j]:Int) (by simpa [vB] using hq) ?_
   rw [Gl hfl hy]
   refine aI.rd (s:= .int .u32) h (by omega) (by have:=uv (c:=Crc.feed (c^^^4294967295) ((bs.take k).flatten++bs[k].take j)) hy;omega) (Crc.row (Crc.feed (c^^^4294967295) ((bs.take k).flatten++bs[k].take j) % 256^^^bs[k][j]):Int) ?_ ?_
   ·rw [Int.toNat_natCast]
    exact KF (uv (c:=Crc.feed (c^^^4294967295) ((bs.take k).flatten++bs[k].take j)) hy)
   rw [Dg hfl hy,ag (by omega)]
   refine ⟨by decide,⟨j+1,rfl,by omega,?_,h⟩,by first|omega|(dsimp only;omega)⟩
   rw [List.take_add_one,List.getElem?_eq_getElem hjl,←List.append_assoc,Crc.F8 ((bs.take k).flatten++bs[k].take j)];rfl
  ·have hjl:j=bs[k].length:=by omega
   subst hjl
   rw [ag (by omega),List.take_length]
   exact ⟨⟨k+1,rfl,by omega,by rw [Dn hkb,hgd],h⟩,by first|omega|(dsimp only;omega)⟩
 ·have hkl:k=bs.length:=by omega
  subst hkl
  rw [List.take_length]
  have hfl:=Crc.rj _ _ hc1 hflat
  rw [Hi hfl]
  exact hK _ h.tl
theorem xg {K:Int→World→Prop} {s:Sl} {cs:List Sl} {bs:List (List Nat)} (h:Hp E w F)
  (hs:ab F (aA 1 s (cs.map fun x=> .slice x.base x.len x.cap))) (hl:cs.length=bs.length) (hcl:cs.length≤bR) (hc: ∀i (h:i<cs.length),ab F (aA 1 cs[i] ((bs.getD i []).map vB)))
  (hby: ∀b∈bs,∀y∈b,y<256) (hbig: ∀b∈bs,b.length≤bR)
  (hK: ∀w',Hp E w' F→K (Crc.fg bs.flatten:Int) w'):Cl Tryz.prog [aL .u32] j0 ⟨[.slice s.base s.len s.cap]⟩ w K:=by
 refine IP.ok _ _ _ ?_
 exact H8 (c:=0) h (by decide) hs hl hcl hc hby hbig hK
end
end Go.Proofs.YtcdpblipagajiaaGreat
namespace Go.Proofs.YtcdpblipagajiaaGreat
open Go Go.Vc Go.Bits
section
variable {E w:World} {F:List HP}
set_option maxRecDepth 20000
theorem IC {c k:Nat} (hk:k<4):(Hd.dU c)[k]? =some (c/2^(24 - 8*k) % 256):=by
 match k,hk with
 |0,_=>rfl
 |1,_=>rfl
 |2,_=>rfl
 |3,_=>simp [Hd.dU]
theorem EE {c:Nat} {K:Sl→World→Prop} (h:Hp E w F) (hc:c<4294967296) (hK: ∀s w',Hp E w' (ak 1 s ((Hd.dU c).map vB)::F)→K s w'):Cl Tryz.prog [kS] np ⟨[.int .u32 (c:Int)]⟩ w K:=by
 refine Hx.ok _ _ _ ?_
 refine Nw.mk h fun b3 w h=> ?_
 have hlen: ∀k,k≤4→(((Hd.dU c).take k++List.replicate (4 - k) 0).map vB).length=4:=fun k hk=>by
  rw [List.length_map,List.length_append,List.length_take,List.length_replicate,show (Hd.dU c).length=4 from rfl];omega
 refine ⟨fun i w'=> ∃k:Nat,i=(k:Int)∧k≤4∧Hp E w' (aj b3 (.cells ⟨((Hd.dU c).take k++List.replicate (4 - k) 0).map vB⟩ 184 (0,0))::F),fun i _=>4 - i.toNat,⟨0,rfl,by omega,h⟩,?_⟩
 rintro i w ⟨k,rfl,hk,h⟩
 refine aa.dm (fun hlt=> ?_) (fun hge=> ?_)
 ·have hlt:k<4:=by omega
  rw [ag (x:=(8:Int)*(k:Int)) (by omega),ag (by omega),show (24:Int) - 8*(k:Int)=((24 - 8*k:Nat):Int) by omega,bG (by have:IntKind.bits .u32=32:=rfl;omega),te,ag (by omega)]
  refine ⟨by omega,by omega,by omega,?_⟩
  rw [show ((k:Int)).toNat*1=k by omega]
  simp only [aq,Nat.zero_add]
  have hkl:=hlen k (by omega)
  refine St.xb h (by show k<(((Hd.dU c).take k++List.replicate (4 - k) 0).map vB).length;omega) rfl fun w h=> ?_
  refine ⟨⟨k+1,rfl,by omega,?_⟩,by first|omega|(dsimp only;omega)⟩
  have e:(⟨((Hd.dU c).take k++List.replicate (4 - k) 0).map vB⟩:Array Value).setIfInBounds k (.int .u8 (((c/2^(24 - 8*k):Nat):Int) % 256))=⟨((Hd.dU c).take (k+1)++List.replicate (4 - (k+1)) 0).map vB⟩:=by
   apply Array.ext'
   rw [Array.toList_setIfInBounds]
   have e1:(Value.int .u8 (((c/2^(24 - 8*k):Nat):Int) % 256))=vB (c/2^(24 - 8*k) % 256):=by
    unfold vB;congr 1
   have hl:((Hd.dU c).take k).length=k:=by rw [List.length_take,show (Hd.dU c).length=4 from rfl];omega
   obtain ⟨m,hm⟩: ∃m,4 - k=m+1:=⟨3 - k,by omega⟩
   show (((Hd.dU c).take k++List.replicate (4 - k) 0).map vB).set k _=_
   rw [e1,←List.map_set,List.set_append_right _ _ (by omega),hl,Nat.sub_self,hm,List.replicate_succ,List.set_cons_zero,List.take_add_one,IC hlt,show 4 - (k+1)=m by omega]
   simp
  rw [e] at h
  exact h
 ·have hk4:k=4:=by omega
  subst hk4
  rw [List.take_of_length_le (Nat.le_refl 4:(Hd.dU c).length≤4),Nat.sub_self,List.replicate_zero,List.append_nil] at h
  refine aZ.whole (by decide) rfl rfl ?_
  refine hK _ w (h.iw (n:=4) (sz:=1) rfl)
end
end Go.Proofs.YtcdpblipagajiaaGreat
set_option maxRecDepth 20000
namespace Go.Vc
open Go
section
variable {E w:World} {F:List HP}
theorem AI {P:Program} {t tx ty e:TypeId} {bytes n:Nat} {k:IntKind} {K:Sl→World→Prop} (he:bK P t e 1 bytes) (hx:P.underlying tx=some (.int k)) (h:Hp E w F) (hn:0<n) (hb:(2*n+1024)*bytes≤2^48) (hb2:n<2^62)
  (hK: ∀b c w',n≤c→Hp E w' (ak 1 ⟨some ⟨b,0,none⟩,0,c⟩ []::F)→K ⟨some ⟨b,0,none⟩,n,c⟩ w'):aD P (Builtin.append_ #[t,tx] ty ⟨[.slice none 0 0,.int .i64 (n:Int)]⟩) kS w K:=by
 obtain ⟨it,z,hi,hsz,hby,hze,hzs⟩:=he.info
 have hso: ∀w:World,(sizeOf e).run P w= .ok 1 w:=by intro w;rw [bH hi,hsz]
 have hwr:IntKind.i64.wrap (n:Int)=(n:Int):=ag (by omega)
 have hti: ∀w:World,(typeInfo e).run P w= .ok it w:=by intro w;simp [typeInfo,hi]
 have hz': ∀w:World,(zeroValue e).run P w= .ok z w:=by intro w;simp [zeroValue,typeInfo,hi,hze]
 have hnb:n*bytes≤2^48:=by
  have:n*bytes≤(2*n+1024)*bytes:=Nat.mul_le_mul_right _ (by omega)
  omega
 have h1: ¬((n:Int)*(it.bytes:Int)>2^48):=by rw [hby];exact_mod_cast Nat.not_lt.2 hnb
 have hnext: ¬Builtin.nextslicecap n 0*it.bytes>2^48:=by
  have:=uI (n:=n) (c:=0) (by omega)
  have h2:Builtin.nextslicecap n 0*it.bytes≤(2*n+1024)*bytes:=by rw [hby];exact Nat.mul_le_mul_right _ this
  omega
 have hmax: ¬((n:Nat):Int)>IntKind.i64.max:=by
  have:IntKind.i64.max=9223372036854775807:=rfl
  rw [this];omega
 have hfo:Question.forced (.appendCap n 0 e)=false:=rfl
 generalize hq:Question.cut (.appendCap n 0 e) (w.tape w.drawn (.appendCap n 0 e))=newCap
 have hnc:n≤newCap:=by rw [←hq];exact Nat.le_add_right _ _
 have hD:Hp E w.drew F:=h.drew (n:=w.drawn+1)
 have hA:=hD.alloc (.cells (#[]++Builtin.zeroCells z.cells n++Builtin.zeroCells z.cells (newCap - n)) e)
 have hrun:(Builtin.append_ #[t,tx] ty ⟨[.slice none 0 0,.int .i64 (n:Int)]⟩).run P w= .ok (.slice (some ⟨w.heap.size,0,none⟩) n newCap) (w.drew.alloc (.cells (#[]++Builtin.zeroCells z.cells n++Builtin.zeroCells z.cells (newCap - n)) e)):=by
  have hneg: ¬((n:Int)<0):=by omega
  have hn0: ¬(n=0):=by omega
  have hmax': ¬(9223372036854775807<(n:Int)):=by omega
  have h1': ¬(281474976710656<(n:Int)*(it.bytes:Int)):=by simpa using h1
  have hnext': ¬(281474976710656<Builtin.nextslicecap n 0*it.bytes):=by simpa using hnext
  have hai: ∀w:World,(asIntOf (Value.int .i64 (n:Int))).run P w= .ok (.i64,(n:Int)) w:=fun _=>rfl
  simp [Builtin.append_,run_underlying he.und,hso,run_underlying hx,asInt,hai,hwr,hneg,hti,h1',hn0,hmax',hnext',hfo,hq,hz',newRow,Builtin.firstCells]
 unfold aD
 rw [hrun]
 refine hK _ _ _ hnc (Hp.fM hA (by simp) rfl (Nat.zero_le _) ?_ (fun i hi=>by simp at hi))
 simp [kl,hzs]
 omega
end
end Go.Vc
namespace Go.Proofs.YtcdpblipagajiaaGreat
open Go Go.Vc
section
variable {E w:World} {F:List HP}
theorem jX:bK Tryz.prog 22 5 1 1:=bK.of (by kernel_rfl) (by kernel_rfl)
theorem rb {s:Sl} {bs:List Nat} {K:Sl→World→Prop} (h:Hp E w F) (hs:ab F (aA 1 s (bs.map vB))) (hb:bs.length≤2*bR) (hK: ∀s' w',Hp E w' (ak 1 s' (bs.map vB)::F)→K s' w'):
  Cl Tryz.prog [kS] cu ⟨[.slice s.base s.len s.cap]⟩ w K:=by
 refine rF.ok _ _ _ ?_
 have hl:bs.length=s.len:=by have:=(h.al hs).1;simpa using this
 rw [av] at hb
 cases hsb:s.base with
 |none=>
  have:bs= []:=by
   cases bs with
   |nil=>rfl
   |cons x bs=>
    obtain ⟨p,hp,_⟩:=(h.al hs).2 0 (by simp)
    rw [hsb] at hp;cases hp
  subst this
  exact aa.t rfl (hK _ _ (h.bJ 1))
 |some p=>
  refine aa.f rfl (Nw.mk h fun b w h=> ?_)
  have h2:=Hp.iw (n:=0) (sz:=1) h (by simp)
  have hsrc:Src 1 s.len (.slice s.base s.len s.cap) (bs.map vB) w:= .inl ⟨s.base,s.len,s.cap,rfl,rfl,h2.drop.al hs⟩
  refine aN (s:=⟨some ⟨b,0,none⟩,0,0⟩) jX (by decide) (.inl ⟨5,by kernel_rfl⟩) h2 hsrc (by simp [hl]) cy (by simp only;omega) (by simp only;omega) fun s' w' h3 _=>hK s' w' ?_
  simpa using h3
theorem C2 {n:Nat} {K:Sl→World→Prop} (h:Hp E w F) (hn:n≤4*bR) (hK: ∀s' w',s'.len=0→Hp E w' (ak 1 s' []::F)→K s' w'):
  Cl Tryz.prog [kS] dZ ⟨[.slice none 0 0,.int .i64 (n:Int)]⟩ w K:=by
 rw [av] at hn
 refine n9.ok ⟨none,0,0⟩ _ _ _ ?_
 refine aa.df (by omega) ?_
 dsimp only
 rw [ag (x:=((0:Nat):Int) - ((0:Nat):Int)) (by omega),ag (by omega)]
 by_cases h0:n=0
 ·subst h0
  exact aa.df (by omega) (hK _ _ rfl (h.bJ 1))
 ·refine aa.dt (by omega) ⟨by decide,by decide,by decide,by decide,?_⟩
  show aD _ (Builtin.append_ #[22,3] 22 ⟨[.slice none 0 0,.int .i64 ((n:Int) - (((0:Nat):Int) - ((0:Nat):Int)))]⟩) kS w _
  have e:((n:Int) - (((0:Nat):Int) - ((0:Nat):Int)))=(n:Int):=by omega
  rw [e]
  refine AI jX (k:= .i64) (by kernel_rfl) h (by omega) (by omega) (by omega) fun b c w' hc h=> ?_
  refine ⟨by decide,by decide,by omega,by simp,?_⟩
  have hne: ¬(((c:Int)).toNat=(0:Int).toNat):=by simp;omega
  rw [if_neg hne]
  have hk:=hK ⟨some ⟨b,0,none⟩,0,c⟩ w' rfl h
  simpa [aq] using hk
theorem Fs {s:Sl} {cs:List Sl} {bs:List (List Nat)} {K:Sl→World→Prop} (h:Hp E w F)
  (hs:ab F (aA 1 s (cs.map fun x=> .slice x.base x.len x.cap))) (hl:cs.length=bs.length) (hcl:cs.length≤bR) (hc: ∀i (h:i<cs.length),ab F (aA 1 cs[i] ((bs.getD i []).map vB)))
  (hbig:bs.flatten.length≤bR) (hK: ∀s' w',Hp E w' (ak 1 s' (bs.flatten.map vB)::F)→K s' w'):Cl Tryz.prog [kS] dC ⟨[.slice s.base s.len s.cap]⟩ w K:=by
 refine mS.ok _ _ _ ?_
 have hlen:s.len=cs.length:=by have:=(h.al hs).1;simpa using this.symm
 rw [av] at hcl hbig
 have hpart: ∀k,k≤bs.length→(bs.take k).flatten.length≤bs.flatten.length:=fun k _=>by
  conv=>rhs;rw [←List.take_append_drop k bs,List.flatten_append,List.length_append]
  omega
 have hnext: ∀k,k<bs.length→(bs.take (k+1)).flatten=(bs.take k).flatten++bs.getD k []:=fun k hk=>by
  rw [List.take_add_one,List.flatten_append]
  congr 1
  simp [hk]
 refine ⟨fun x i w'=> ∃k:Nat,i=(k:Int)∧k≤cs.length∧x=((bs.take k).flatten.length:Int)∧Hp E w' F,fun _ i _=>cs.length - i.toNat,⟨0,rfl,by omega,rfl,h⟩,?_⟩
 rintro x i w ⟨k,rfl,hk,rfl,h⟩
 refine aa.dm (fun hlt=> ?_) (fun hge=> ?_)
 ·have hlt:k<cs.length:=by omega
  have hkb:k<bs.length:=by omega
  refine ar.rd (h.al hs) (by omega) (by omega) fun q hi hq=> ?_
  refine Ld.sc (s:= .sl) cs[k] (by rw [hq];simp [Sc.enc,hlt]) ?_
  have hx:(bs.getD k []).length=cs[k].len:=by have:=(h.al (hc k hlt)).1;simpa using this
  have h1:=hpart (k+1) (by omega)
  rw [hnext k hkb,List.length_append,hx] at h1
  rw [ag (by omega)]
  refine aa.df (by omega) ?_
  rw [ag (by omega)]
  refine ⟨⟨k+1,rfl,by omega,?_,h⟩,by first|omega|(dsimp only;omega)⟩
  rw [hnext k hkb,List.length_append,hx];omega
 ·have hk2:k=cs.length:=by omega
  subst hk2
  have e:bs.take cs.length=bs:=List.take_of_length_le (by omega)
  rw [e]
  refine C2 h (by rw [av];omega) fun s' w h0 h=> ?_
  refine ⟨fun x i w'=> ∃k:Nat,i=(k:Int)∧k≤cs.length∧Hp E w' (ak 1 x ((bs.take k).flatten.map vB)::F),fun _ i _=>cs.length - i.toNat,⟨0,rfl,by omega,h⟩,?_⟩
  rintro x i w ⟨k,rfl,hk,h⟩
  refine aa.dm (fun hlt=> ?_) (fun hge=> ?_)
  ·have hlt:k<cs.length:=by omega
   have hkb:k<bs.length:=by omega
   refine ar.rd (h.drop.al hs) (by omega) (by omega) fun q hi hq=> ?_
   refine Ld.sc (s:= .sl) cs[k] (by rw [hq];simp [Sc.enc,hlt]) ?_
   have hx:(bs.getD k []).length=cs[k].len:=by have:=(h.drop.al (hc k hlt)).1;simpa using this
   have h1:=hpart (k+1) (by omega)
   rw [hnext k hkb,List.length_append,hx] at h1
   have hol:=h.aH
   rw [List.length_map,Nat.mul_one] at hol
   refine aN jX (by decide) (.inl ⟨5,by kernel_rfl⟩) h (.inl ⟨cs[k].base,cs[k].len,cs[k].cap,rfl,rfl,h.drop.al (hc k hlt)⟩) (by rw [List.length_map,hx,Nat.mul_one]) cy (by omega) (by omega) fun s' w' h _=> ?_
   rw [ag (by omega)]
   refine ⟨⟨k+1,rfl,by omega,?_⟩,by first|omega|(dsimp only;omega)⟩
   rw [hnext k hkb,List.map_append];exact h
  ·have hk3:k=cs.length:=by omega
   subst hk3
   rw [e] at h
   exact hK _ _ h
end
end Go.Proofs.YtcdpblipagajiaaGreat
set_option maxRecDepth 20000
namespace Go.Proofs.YtcdpblipagajiaaGreat
open Go Go.Vc Go.Srt Go.Inc Go.Hd
theorem dp {n:Nat} (h:n≤65536):(dX n).length≤4:=by
 unfold dX
 have: ∀k m:Nat,m<128^k→(na m).length≤k:=by
  intro k
  induction k with
  |zero=>intro m hm;have:m=0:=by simpa using hm
         rw [this,iR];exact Nat.le_refl _
  |succ k ih=>
   intro m hm
   rcases Nat.eq_zero_or_pos m with e|e
   ·rw [e,iR];exact Nat.zero_le _
   ·rw [lU e,List.length_append,List.length_singleton]
    have:=ih (m/128) (by rw [Nat.pow_succ] at hm;omega)
    omega
 have:=this 3 (n/128) (by omega)
 rw [List.length_append,List.length_singleton];omega
section
variable {E w:World} {F:List HP}
theorem nb {n:Nat} {most:Int} {K:Sl→Bool→World→Prop} (h:Hp E w F) (hn:n≤65536) (hK: ∀s w',Hp E w' (ak 1 s ((dX n).map vB)::F)→K s (decide (1≤(n:Int)∧(n:Int)≤most)) w'):
  Cl Tryz.prog [kS,kB] ej ⟨[.int .i64 (n:Int),.int .i64 most]⟩ w K:=by
 refine wO.ok _ _ _ _ ?_
 exact IT h hn fun s w h=>cg (hK _ _ h)
theorem JW {n:Nat} {K:Sl→Int→World→Prop} (h:Hp E w F) (hn:n≤65536) (h0:0<n) (hK: ∀s w',Hp E w' (ak 1 s ((fp n).map vB)::F)→K s 0 w'):
  Cl Tryz.prog [kS,kI] jO ⟨[.agg ⟨[.int .i64 (n:Int)]⟩]⟩ w K:=by
 refine sC.ok ((n:Int),()) _ _ ?_
 (try simp only [ax,au,aq,Nat.zero_add,Nat.add_zero,Nat.reduceAdd,Bool.not_true,Bool.not_false,aQ,aR,Option.isNone])
 (with_reducible repeat first|refine Nw.mk h fun b w h=> ?_|refine ao.mk h fun w h=> ?_|refine Ld.xb h rfl ?_|refine Ld.xt h rfl ?_|refine ad.xb (fun _ h=>h) rfl ?_|refine ad.xt (fun _ h=>h) rfl ?_|refine ⟨h.hb,?_⟩|refine af.xw h rfl rfl fun w h=> ?_|(refine af.xs h rfl rfl fun w h=> ?_;dsimp only [ah,ae] at h)|(refine St.xs h rfl rfl fun w h=> ?_;dsimp only [ah,ae] at h)|refine aa.yes ?_|refine aa.no ?_|refine ⟨by first|omega|decide,?_⟩)
 refine nb h hn fun s w h=> ?_
 rw [decide_eq_true (show 1≤(n:Int)∧(n:Int)≤65536 by omega)]
 (with_reducible repeat first|refine Nw.mk h fun b w h=> ?_|refine ao.mk h fun w h=> ?_|refine Ld.xb h rfl ?_|refine Ld.xt h rfl ?_|refine ad.xb (fun _ h=>h) rfl ?_|refine ad.xt (fun _ h=>h) rfl ?_|refine ⟨h.hb,?_⟩|refine af.xw h rfl rfl fun w h=> ?_|(refine af.xs h rfl rfl fun w h=> ?_;dsimp only [ah,ae] at h)|(refine St.xs h rfl rfl fun w h=> ?_;dsimp only [ah,ae] at h)|refine aa.yes ?_|refine aa.no ?_|refine ⟨by first|omega|decide,?_⟩)
 refine gF h fun w h=> ?_
 have hl:=(h.at 1).aH
 rw [List.length_map,Nat.mul_one] at hl
 have h4:=dp hn
 refine pP (s:=⟨some ⟨_,0,none⟩,3,3⟩) (xs:=([87,80,1]:List Nat).map vB) jX (.inl ⟨5,by kernel_rfl⟩) h (ab.aC rfl rfl) (n:=s.len) ?_ ((ab.at 1 ab.own).imp fun w hs=> .inl ⟨s.base,s.len,s.cap,rfl,rfl,hs⟩) (by rw [List.length_map,hl,Nat.mul_one]) (by simp only;omega) (by simp only;omega) fun s' w' h _=> ?_
 ·have:0<(dX n).length:=by unfold dX;simp
  simp only;omega
 ·refine hK _ _ ?_
  rw [←List.map_append] at h
  exact h.eA
theorem Ic {K:Sl→Int→World→Prop} (h:Hp E w F) (hK: ∀w',Hp E w' F→K ⟨none,0,0⟩ 2 w'):
  Cl Tryz.prog [kS,kI] jO ⟨[.agg ⟨[.int .i64 0]⟩]⟩ w K:=by
 refine sC.ok (0,()) _ _ ?_
 (try simp only [ax,au,aq,Nat.zero_add,Nat.add_zero,Nat.reduceAdd,Bool.not_true,Bool.not_false,aQ,aR,Option.isNone])
 (with_reducible repeat first|refine Nw.mk h fun b w h=> ?_|refine ao.mk h fun w h=> ?_|refine Ld.xb h rfl ?_|refine Ld.xt h rfl ?_|refine ad.xb (fun _ h=>h) rfl ?_|refine ad.xt (fun _ h=>h) rfl ?_|refine ⟨h.hb,?_⟩|refine af.xw h rfl rfl fun w h=> ?_|(refine af.xs h rfl rfl fun w h=> ?_;dsimp only [ah,ae] at h)|(refine St.xs h rfl rfl fun w h=> ?_;dsimp only [ah,ae] at h)|refine aa.yes ?_|refine aa.no ?_|refine ⟨by first|omega|decide,?_⟩)
 refine nb (n:=0) h (by omega) fun s w h=> ?_
 rw [decide_eq_false (show¬(1≤((0:Nat):Int)∧((0:Nat):Int)≤65536) by omega)]
 (with_reducible repeat first|refine Nw.mk h fun b w h=> ?_|refine ao.mk h fun w h=> ?_|refine Ld.xb h rfl ?_|refine Ld.xt h rfl ?_|refine ad.xb (fun _ h=>h) rfl ?_|refine ad.xt (fun _ h=>h) rfl ?_|refine ⟨h.hb,?_⟩|refine af.xw h rfl rfl fun w h=> ?_|(refine af.xs h rfl rfl fun w h=> ?_;dsimp only [ah,ae] at h)|(refine St.xs h rfl rfl fun w h=> ?_;dsimp only [ah,ae] at h)|refine aa.yes ?_|refine aa.no ?_|refine ⟨by first|omega|decide,?_⟩)
 exact hK _ h.tl
theorem II {c:Nat} {K:Sl→World→Prop} (h:Hp E w F) (hc:c<4294967296) (hK: ∀s w',Hp E w' (ak 1 s ((lb c).map vB)::F)→K s w'):Cl Tryz.prog [kS] jM ⟨[.int .u32 (c:Int)]⟩ w K:=by
 refine wB.ok _ _ _ ?_
 (try simp only [ax,au,aq,Nat.zero_add,Nat.add_zero,Nat.reduceAdd,Bool.not_true,Bool.not_false,aQ,aR,Option.isNone])
 (with_reducible repeat first|refine Nw.mk h fun b w h=> ?_|refine ao.mk h fun w h=> ?_|refine Ld.xb h rfl ?_|refine Ld.xt h rfl ?_|refine ad.xb (fun _ h=>h) rfl ?_|refine ad.xt (fun _ h=>h) rfl ?_|refine ⟨h.hb,?_⟩|refine af.xw h rfl rfl fun w h=> ?_|(refine af.xs h rfl rfl fun w h=> ?_;dsimp only [ah,ae] at h)|(refine St.xs h rfl rfl fun w h=> ?_;dsimp only [ah,ae] at h)|refine aa.yes ?_|refine aa.no ?_|refine ⟨by first|omega|decide,?_⟩)
 refine EE h hc fun s w h=> ?_
 have hl:=h.aH
 rw [List.length_map,Nat.mul_one] at hl
 have h4:(dU c).length=4:=rfl
 refine pP (s:=⟨some ⟨_,0,none⟩,1,1⟩) (xs:=([0]:List Nat).map vB) jX (.inl ⟨5,by kernel_rfl⟩) h (ab.cons (ab.aC rfl rfl)) (n:=s.len) (by simp only;omega) (ab.own.imp fun w hs=> .inl ⟨s.base,s.len,s.cap,rfl,rfl,hs⟩) (by rw [List.length_map,hl,Nat.mul_one]) (by simp only;omega) (by simp only;omega) fun s' w' h _=> ?_
 refine hK _ _ ?_
 rw [←List.map_append] at h
 exact h.eA
theorem EW {n:Int} {M P u:Nat} {K:Sl→Int→World→Prop} (h:Hp E w F) (hM:M≤65536) (hP:P≤65536) (hu:u<4294967296)
  (hgood:1≤n→n≤65536→1≤M→(M:Int)≤n→1≤P→P≤M→∀s w',Hp E w' (ak 1 s ((kn M P u).map vB)::F)→K s 0 w')
  (hbad: ¬(1≤n∧n≤65536∧1≤M∧(M:Int)≤n∧1≤P∧P≤M)→∀w',Hp E w' F→K ⟨none,0,0⟩ 2 w'):
  Cl Tryz.prog [kS,kI] ig ⟨[.int .i64 n,.agg ⟨[.int .i64 (M:Int),.int .i64 (P:Int),.int .u32 (u:Int)]⟩]⟩ w K:=by
 refine sI.ok _ ((M:Int),(P:Int),(u:Int),()) _ _ ?_
 (try simp only [ax,au,aq,Nat.zero_add,Nat.add_zero,Nat.reduceAdd,Bool.not_true,Bool.not_false,aQ,aR,Option.isNone])
 (with_reducible repeat first|refine Nw.mk h fun b w h=> ?_|refine ao.mk h fun w h=> ?_|refine Ld.xb h rfl ?_|refine Ld.xt h rfl ?_|refine ad.xb (fun _ h=>h) rfl ?_|refine ad.xt (fun _ h=>h) rfl ?_|refine ⟨h.hb,?_⟩|refine af.xw h rfl rfl fun w h=> ?_|(refine af.xs h rfl rfl fun w h=> ?_;dsimp only [ah,ae] at h)|(refine St.xs h rfl rfl fun w h=> ?_;dsimp only [ah,ae] at h)|refine aa.yes ?_|refine aa.no ?_|refine ⟨by first|omega|decide,?_⟩)
 refine nb h hM fun s1 w h=> ?_
 (with_reducible repeat first|refine Nw.mk h fun b w h=> ?_|refine ao.mk h fun w h=> ?_|refine Ld.xb h rfl ?_|refine Ld.xt h rfl ?_|refine ad.xb (fun _ h=>h) rfl ?_|refine ad.xt (fun _ h=>h) rfl ?_|refine ⟨h.hb,?_⟩|refine af.xw h rfl rfl fun w h=> ?_|(refine af.xs h rfl rfl fun w h=> ?_;dsimp only [ah,ae] at h)|(refine St.xs h rfl rfl fun w h=> ?_;dsimp only [ah,ae] at h)|refine aa.yes ?_|refine aa.no ?_|refine ⟨by first|omega|decide,?_⟩)
 refine nb h hP fun s2 w h=>cg ?_
 by_cases hn:1≤n∧n≤65536
 ·refine aa.Hr hn ?_
  by_cases hm:1≤(M:Int)∧(M:Int)≤n
  ·refine aa.Hr hm ?_
   by_cases hp:1≤(P:Int)∧(P:Int)≤(M:Int)
   ·refine aa.Hr hp ?_
    (with_reducible repeat first|refine Nw.mk h fun b w h=> ?_|refine ao.mk h fun w h=> ?_|refine Ld.xb h rfl ?_|refine Ld.xt h rfl ?_|refine ad.xb (fun _ h=>h) rfl ?_|refine ad.xt (fun _ h=>h) rfl ?_|refine ⟨h.hb,?_⟩|refine af.xw h rfl rfl fun w h=> ?_|(refine af.xs h rfl rfl fun w h=> ?_;dsimp only [ah,ae] at h)|(refine St.xs h rfl rfl fun w h=> ?_;dsimp only [ah,ae] at h)|refine aa.yes ?_|refine aa.no ?_|refine ⟨by first|omega|decide,?_⟩)
    refine EE h hu fun s3 w h=>Nw.mk h fun b22 w h=> ?_
    have l1:=dp hM
    have l2:=dp hP
    refine Fs (s:=⟨some ⟨b22,0,none⟩,4,4⟩) (cs:= [⟨some ⟨b,0,none⟩,1,1⟩,s1,s2,s3]) (bs:= [[1],dX M,dX P,dU u]) h (ab.aC rfl rfl) rfl (by rw [av];simp) ?_ ?_ fun s w h=> ?_
    ·intro i hi
     match i,hi with
     |0,_=>exact ab.at 2 (ab.aC rfl rfl)
     |1,_=>exact ab.at 4 ab.own
     |2,_=>exact ab.at 3 ab.own
     |3,_=>exact ab.at 1 ab.own
    ·rw [av]
     simp [dU]
     omega
    ·refine hgood hn.1 hn.2 (by omega) hm.2 (by omega) (by omega) s w ?_
     have e: [[1],dX M,dX P,dU u].flatten=kn M P u:=by simp [kn]
     rw [e] at h
     exact h.eA
   ·exact aa.G8 hp (hbad (by omega) _ h.tl)
  ·exact aa.G8 hm (hbad (by omega) _ h.tl)
 ·exact aa.G8 hn (hbad (by omega) _ h.tl)
theorem gq {α σ β ε:Type} {f:σ→α→rL σ β ε} {s s':σ} {l:List α} {k:Nat} (h:run f s (l.take k)= .short s'):run f s l=run f s' (l.drop k):=by
 conv=>lhs;rw [←List.take_append_drop k l]
 exact bQ h _
theorem HA {s:Sl} {bs:List Nat} {K:Int×Unit→Sl→Int→World→Prop} (h:Hp E w F) (hs:ab F (aA 1 s (bs.map vB))) (hb: ∀y∈bs,y<256) (hbig:bs.length≤bR) (hcap:s.len≤s.cap)
  (hshort: ∀s' w',run bE ⟨0,0⟩ bs= .short s'→Hp E w' F→K (0,()) ⟨none,0,0⟩ 50 w')
  (hbad: ∀e w',run bE ⟨0,0⟩ bs= .bad e→Hp E w' F→K (0,()) ⟨none,0,0⟩ (e:Int) w')
  (hfin: ∀n r s' w',run bE ⟨0,0⟩ bs= .fin n r→Hp E w' (ak 1 s' (r.map vB)::F)→K ((n:Int),()) s' 0 w'):
  Cl Tryz.prog [.st [.int .i64],kS,kI] lz ⟨[.slice s.base s.len s.cap]⟩ w K:=by
 refine AU.ok _ _ _ ?_
 (try simp only [ax,au,aq,Nat.zero_add,Nat.add_zero,Nat.reduceAdd,Bool.not_true,Bool.not_false,aQ,aR,Option.isNone])
 have hlen:bs.length=s.len:=by have:=(h.al hs).1;simpa using this
 rw [av] at hbig
 refine Nw.mk h fun b3 w h=>Nw.mk h fun b5 w h=> ?_
 refine ⟨fun i w'=> ∃(k:Nat) (st:HS),i=(k:Int)∧k≤bs.length∧uo st∧run bE ⟨0,0⟩ (bs.take k)= .short st∧
  Hp E w' (aj b5 (.cells ⟨[.int .i64 (st.at_:Int),.int .i64 (st.v:Int),.int .i64 (vm st.v:Int),.int .i64 0]⟩ 178 (0,0))::aj b3 (.cells ⟨[.int .i64 0]⟩ 117 (0,0))::F),
  fun i _=>bs.length - i.toNat,⟨0,⟨0,0⟩,rfl,by omega,⟨by decide,by simp,by decide⟩,rfl,h⟩,?_⟩
 rintro i w ⟨k,st,rfl,hk,hst,hrun,h⟩
 refine aa.dm (fun hlt=> ?_) (fun hge=> ?_)
 ·have hlt:k<bs.length:=by omega
  refine ar.rd (h.tl.al hs) (by omega) (by omega) fun q hi hq=> ?_
  have hby:bs[k]<256:=hb _ (List.getElem_mem _)
  refine Ld.sc (s:= .int .u8) (bs[k]:Int) (by rw [hq];simp [Sc.enc,vB]) ?_
  (with_reducible repeat first|refine Nw.mk h fun b w h=> ?_|refine ao.mk h fun w h=> ?_|refine Ld.xb h rfl ?_|refine Ld.xt h rfl ?_|refine ad.xb (fun _ h=>h) rfl ?_|refine ad.xt (fun _ h=>h) rfl ?_|refine ⟨h.hb,?_⟩|refine af.xw h rfl rfl fun w h=> ?_|(refine af.xs h rfl rfl fun w h=> ?_;dsimp only [ah,ae] at h)|(refine St.xs h rfl rfl fun w h=> ?_;dsimp only [ah,ae] at h)|refine aa.yes ?_|refine aa.no ?_|refine ⟨by first|omega|decide,?_⟩)
  refine Ig h hst hby (fun st' w he h=> ?_) (fun n w he h=> ?_) (fun e o w he h=> ?_)
  ·(with_reducible repeat first|refine Nw.mk h fun b w h=> ?_|refine ao.mk h fun w h=> ?_|refine Ld.xb h rfl ?_|refine Ld.xt h rfl ?_|refine ad.xb (fun _ h=>h) rfl ?_|refine ad.xt (fun _ h=>h) rfl ?_|refine ⟨h.hb,?_⟩|refine af.xw h rfl rfl fun w h=> ?_|(refine af.xs h rfl rfl fun w h=> ?_;dsimp only [ah,ae] at h)|(refine St.xs h rfl rfl fun w h=> ?_;dsimp only [ah,ae] at h)|refine aa.yes ?_|refine aa.no ?_|refine ⟨by first|omega|decide,?_⟩)
   rw [ag (by omega)]
   refine ⟨⟨k+1,st',rfl,by omega,yH hst hby he,?_,(h.no 0)⟩,by first|omega|(dsimp only;omega)⟩
   rw [List.take_add_one,List.getElem?_eq_getElem hlt]
   show run bE ⟨0,0⟩ (bs.take k++ [bs[k]])=_
   rw [bQ hrun,br he];rfl
  ·(with_reducible repeat first|refine Nw.mk h fun b w h=> ?_|refine ao.mk h fun w h=> ?_|refine Ld.xb h rfl ?_|refine Ld.xt h rfl ?_|refine ad.xb (fun _ h=>h) rfl ?_|refine ad.xt (fun _ h=>h) rfl ?_|refine ⟨h.hb,?_⟩|refine af.xw h rfl rfl fun w h=> ?_|(refine af.xs h rfl rfl fun w h=> ?_;dsimp only [ah,ae] at h)|(refine St.xs h rfl rfl fun w h=> ?_;dsimp only [ah,ae] at h)|refine aa.yes ?_|refine aa.no ?_|refine ⟨by first|omega|decide,?_⟩)
   have h:=h.drew (n:=w.drawn+1)
   refine ⟨bF b _ _ _,h.hb,?_⟩
   (with_reducible repeat first|refine Nw.mk h fun b w h=> ?_|refine ao.mk h fun w h=> ?_|refine Ld.xb h rfl ?_|refine Ld.xt h rfl ?_|refine ad.xb (fun _ h=>h) rfl ?_|refine ad.xt (fun _ h=>h) rfl ?_|refine ⟨h.hb,?_⟩|refine af.xw h rfl rfl fun w h=> ?_|(refine af.xs h rfl rfl fun w h=> ?_;dsimp only [ah,ae] at h)|(refine St.xs h rfl rfl fun w h=> ?_;dsimp only [ah,ae] at h)|refine aa.yes ?_|refine aa.no ?_|refine ⟨by first|omega|decide,?_⟩)
   rw [ag (by omega)]
   refine aZ.rd (h.tl.al hs) (by omega) (by omega) (by omega) (by omega) (by omega) fun s' hs' hl'=> ?_
   have e1:(bs.map vB).drop ((k:Int)+1).toNat=(bs.drop (k+1)).map vB:=by rw [show ((k:Int)+1).toNat=k+1 by omega,List.map_drop]
   rw [e1,List.take_of_length_le (by simp;omega)] at hs'
   have hT:ab F (aA 1 s' ((bs.drop (k+1)).map vB)):=hs.imp fun w h=>hs' w h
   refine rb h (ab.cons (ab.cons (ab.cons hT))) (by simp;rw [av];omega) fun s2 w h=>⟨h.hb,?_⟩
   (with_reducible repeat first|refine Nw.mk h fun b w h=> ?_|refine ao.mk h fun w h=> ?_|refine Ld.xb h rfl ?_|refine Ld.xt h rfl ?_|refine ad.xb (fun _ h=>h) rfl ?_|refine ad.xt (fun _ h=>h) rfl ?_|refine ⟨h.hb,?_⟩|refine af.xw h rfl rfl fun w h=> ?_|(refine af.xs h rfl rfl fun w h=> ?_;dsimp only [ah,ae] at h)|(refine St.xs h rfl rfl fun w h=> ?_;dsimp only [ah,ae] at h)|refine aa.yes ?_|refine aa.no ?_|refine ⟨by first|omega|decide,?_⟩)
   refine hfin n (bs.drop (k+1)) s2 w ?_ h.eA
   rw [gq hrun,List.drop_eq_getElem_cons hlt,fL he]
  ·by_cases he0:e=0
   ·exfalso
    subst he0
    unfold bE at he
    split at he
    ·split at he
     ·cases he
     ·split at he<;>simp at he
    ·split at he<;>simp at he
   ·(with_reducible repeat first|refine Nw.mk h fun b w h=> ?_|refine ao.mk h fun w h=> ?_|refine Ld.xb h rfl ?_|refine Ld.xt h rfl ?_|refine ad.xb (fun _ h=>h) rfl ?_|refine ad.xt (fun _ h=>h) rfl ?_|refine ⟨h.hb,?_⟩|refine af.xw h rfl rfl fun w h=> ?_|(refine af.xs h rfl rfl fun w h=> ?_;dsimp only [ah,ae] at h)|(refine St.xs h rfl rfl fun w h=> ?_;dsimp only [ah,ae] at h)|refine aa.yes ?_|refine aa.no ?_|refine ⟨by first|omega|decide,?_⟩)
    refine hbad e w ?_ h.tl
    rw [gq hrun,List.drop_eq_getElem_cons hlt,oa he]
 ·have hk2:k=bs.length:=by omega
  subst hk2
  rw [List.take_of_length_le (Nat.le_refl _)] at hrun
  (with_reducible repeat first|refine Nw.mk h fun b w h=> ?_|refine ao.mk h fun w h=> ?_|refine Ld.xb h rfl ?_|refine Ld.xt h rfl ?_|refine ad.xb (fun _ h=>h) rfl ?_|refine ad.xt (fun _ h=>h) rfl ?_|refine ⟨h.hb,?_⟩|refine af.xw h rfl rfl fun w h=> ?_|(refine af.xs h rfl rfl fun w h=> ?_;dsimp only [ah,ae] at h)|(refine St.xs h rfl rfl fun w h=> ?_;dsimp only [ah,ae] at h)|refine aa.yes ?_|refine aa.no ?_|refine ⟨by first|omega|decide,?_⟩)
  exact hshort st w hrun h.tl
theorem EN {n:Nat} {st:MS} {c e:Nat} (he:aB n st c= .bad e):e=242:=by
 unfold aB at he
 repeat' split at he
 all_goals first|cases he;rfl|cases he
abbrev D7:dP:=(0,0,0,0,0,0,0,())
theorem Ah {n:Int} {s:Sl} {K:dP→Sl→Int→World→Prop} (h:Hp E w F) (hn: ¬(1≤n∧n≤65536)) (hK: ∀w',Hp E w' F→K D7 ⟨none,0,0⟩ 2 w'):
  Cl Tryz.prog [.st [.int .i64,.int .i64,.int .i64,.int .i64,.int .i64,.int .u32,.int .i64],kS,kI] dv ⟨[.int .i64 n,.slice s.base s.len s.cap]⟩ w K:=by
 refine nk.ok _ _ _ _ ?_
 (try simp only [ax,au,aq,Nat.zero_add,Nat.add_zero,Nat.reduceAdd,Bool.not_true,Bool.not_false,aQ,aR,Option.isNone])
 refine Nw.mk h fun b w h=>cg (aa.G8 hn ?_)
 (with_reducible repeat first|refine Nw.mk h fun b w h=> ?_|refine ao.mk h fun w h=> ?_|refine Ld.xb h rfl ?_|refine Ld.xt h rfl ?_|refine ad.xb (fun _ h=>h) rfl ?_|refine ad.xt (fun _ h=>h) rfl ?_|refine ⟨h.hb,?_⟩|refine af.xw h rfl rfl fun w h=> ?_|(refine af.xs h rfl rfl fun w h=> ?_;dsimp only [ah,ae] at h)|(refine St.xs h rfl rfl fun w h=> ?_;dsimp only [ah,ae] at h)|refine aa.yes ?_|refine aa.no ?_|refine ⟨by first|omega|decide,?_⟩)
 exact hK w h.tl
theorem yX {n:Nat} {s:Sl} {bs:List Nat} {K:dP→Sl→Int→World→Prop} (h:Hp E w F) (hn:1≤n) (hn2:n≤65536) (hs:ab F (aA 1 s (bs.map vB))) (hb: ∀y∈bs,y<256) (hbig:bs.length≤bR) (hcap:s.len≤s.cap)
  (hshort: ∀s' w',run (aB n) dW bs= .short s'→Hp E w' F→K D7 ⟨none,0,0⟩ 50 w')
  (hbad: ∀w',run (aB n) dW bs= .bad 242→Hp E w' F→K D7 ⟨none,0,0⟩ 242 w')
  (hblk: ∀M P u r s' w',run (aB n) dW bs= .fin (.aC M P u) r→Hp E w' (ak 1 s' (r.map vB)::F)→K (4,0,0,(M:Int),(P:Int),(u:Int),4,()) s' 0 w')
  (htail: ∀u r s' w',run (aB n) dW bs= .fin (.tail u) r→Hp E w' (ak 1 s' (r.map vB)::F)→K (6,0,0,0,0,(u:Int),4,()) s' 0 w'):
  Cl Tryz.prog [.st [.int .i64,.int .i64,.int .i64,.int .i64,.int .i64,.int .u32,.int .i64],kS,kI] dv ⟨[.int .i64 (n:Int),.slice s.base s.len s.cap]⟩ w K:=by
 refine nk.ok _ _ _ _ ?_
 (try simp only [ax,au,aq,Nat.zero_add,Nat.add_zero,Nat.reduceAdd,Bool.not_true,Bool.not_false,aQ,aR,Option.isNone])
 have hlen:bs.length=s.len:=by have:=(h.al hs).1;simpa using this
 rw [av] at hbig
 refine Nw.mk h fun b4 w h=>cg (aa.Hr (show (1:Int)≤(n:Int)∧(n:Int)≤65536 by omega) ?_)
 refine ⟨fun i w'=> ∃(k:Nat) (st:MS),i=(k:Int)∧k≤bs.length∧iM n st∧run (aB n) dW (bs.take k)= .short st∧
  Hp E w' (aj b4 (.cells ⟨[.int .i64 (st.at_:Int),.int .i64 (st.v:Int),.int .i64 (vm st.v:Int),.int .i64 (st.M:Int),.int .i64 (st.P:Int),.int .u32 (st.sum:Int),.int .i64 (st.many:Int)]⟩ 74 (0,0))::F),
  fun i _=>bs.length - i.toNat,⟨0,dW,rfl,by omega,.inl ⟨rfl,rfl⟩,rfl,h⟩,?_⟩
 rintro i w ⟨k,st,rfl,hk,hst,hrun,h⟩
 refine aa.dm (fun hlt=> ?_) (fun hge=> ?_)
 ·have hlt:k<bs.length:=by omega
  refine ar.rd (h.tl.al hs) (by omega) (by omega) fun q hi hq=> ?_
  have hby:bs[k]<256:=hb _ (List.getElem_mem _)
  refine Ld.sc (s:= .int .u8) (bs[k]:Int) (by rw [hq];simp [Sc.enc,vB]) ?_
  (with_reducible repeat first|refine Nw.mk h fun b w h=> ?_|refine ao.mk h fun w h=> ?_|refine Ld.xb h rfl ?_|refine Ld.xt h rfl ?_|refine ad.xb (fun _ h=>h) rfl ?_|refine ad.xt (fun _ h=>h) rfl ?_|refine ⟨h.hb,?_⟩|refine af.xw h rfl rfl fun w h=> ?_|(refine af.xs h rfl rfl fun w h=> ?_;dsimp only [ah,ae] at h)|(refine St.xs h rfl rfl fun w h=> ?_;dsimp only [ah,ae] at h)|refine aa.yes ?_|refine aa.no ?_|refine ⟨by first|omega|decide,?_⟩)
  have done: ∀{w:World} {A B C D G:Int} {b:Nat},Hp E w (aj b (.cells ⟨[.int .i64 A,.int .i64 0,.int .i64 0,.int .i64 B,.int .i64 C,.int .u32 D,.int .i64 G]⟩ 74 (0,0))::aj b4 (.cells ⟨[.int .i64 A,.int .i64 0,.int .i64 0,.int .i64 B,.int .i64 C,.int .u32 D,.int .i64 G]⟩ 74 (0,0))::F)→
    (∀s' w',Hp E w' (ak 1 s' ((bs.drop (k+1)).map vB)::F)→K (A,0,0,B,C,D,G,()) s' 0 w')→
    cA w fun S28 w_29=>ad (.st [.int .i64,.int .i64,.int .i64,.int .i64,.int .i64,.int .u32,.int .i64]) (⟨b4,0,none⟩:Addr) S28 fun x30=>
     aZ s (i64 ((k:Int)+1)) (s.len:Int) (s.cap:Int) 1 fun s31=>Cl Tryz.prog [kS] cu ⟨[.slice s31.base s31.len s31.cap]⟩ w_29 fun r33 w_32=>S28 w_32∧
     af (⟨b4,0,none⟩:Addr) [(.int .i64 x30.1),(.int .i64 x30.2.1),(.int .i64 x30.2.2.1),(.int .i64 x30.2.2.2.1),(.int .i64 x30.2.2.2.2.1),(.int .u32 x30.2.2.2.2.2.1),(.int .i64 x30.2.2.2.2.2.2.1)] 0 w_32 fun w_34=>S28 w_34∧
     Ld (.st [.int .i64,.int .i64,.int .i64,.int .i64,.int .i64,.int .u32,.int .i64]) (⟨b4,0,none⟩:Addr) w_34 fun res35=>K res35 r33 0 w_34:=by
   intro w A B C D G b h hk
   have h:=h.drew (n:=w.drawn+1)
   refine ⟨bF b4 _ _ _,h.hb,?_⟩
   (with_reducible repeat first|refine Nw.mk h fun b w h=> ?_|refine ao.mk h fun w h=> ?_|refine Ld.xb h rfl ?_|refine Ld.xt h rfl ?_|refine ad.xb (fun _ h=>h) rfl ?_|refine ad.xt (fun _ h=>h) rfl ?_|refine ⟨h.hb,?_⟩|refine af.xw h rfl rfl fun w h=> ?_|(refine af.xs h rfl rfl fun w h=> ?_;dsimp only [ah,ae] at h)|(refine St.xs h rfl rfl fun w h=> ?_;dsimp only [ah,ae] at h)|refine aa.yes ?_|refine aa.no ?_|refine ⟨by first|omega|decide,?_⟩)
   rw [ag (by omega)]
   refine aZ.rd (h.tl.al hs) (by omega) (by omega) (by omega) (by omega) (by omega) fun s' hs' hl'=> ?_
   have e1:(bs.map vB).drop ((k:Int)+1).toNat=(bs.drop (k+1)).map vB:=by rw [show ((k:Int)+1).toNat=k+1 by omega,List.map_drop]
   rw [e1,List.take_of_length_le (by simp;omega)] at hs'
   have hT:ab F (aA 1 s' ((bs.drop (k+1)).map vB)):=hs.imp fun w h=>hs' w h
   refine rb h (ab.cons (ab.cons hT)) (by simp;rw [av];omega) fun s2 w h=>⟨h.hb,?_⟩
   (with_reducible repeat first|refine Nw.mk h fun b w h=> ?_|refine ao.mk h fun w h=> ?_|refine Ld.xb h rfl ?_|refine Ld.xt h rfl ?_|refine ad.xb (fun _ h=>h) rfl ?_|refine ad.xt (fun _ h=>h) rfl ?_|refine ⟨h.hb,?_⟩|refine af.xw h rfl rfl fun w h=> ?_|(refine af.xs h rfl rfl fun w h=> ?_;dsimp only [ah,ae] at h)|(refine St.xs h rfl rfl fun w h=> ?_;dsimp only [ah,ae] at h)|refine aa.yes ?_|refine aa.no ?_|refine ⟨by first|omega|decide,?_⟩)
   exact hk s2 w h.eA
  refine Ix h hn hn2 hst hby (fun st' w he h=> ?_) (fun M P u w he h=> ?_) (fun u w he h=> ?_) (fun e o w he h=> ?_)
  ·(with_reducible repeat first|refine Nw.mk h fun b w h=> ?_|refine ao.mk h fun w h=> ?_|refine Ld.xb h rfl ?_|refine Ld.xt h rfl ?_|refine ad.xb (fun _ h=>h) rfl ?_|refine ad.xt (fun _ h=>h) rfl ?_|refine ⟨h.hb,?_⟩|refine af.xw h rfl rfl fun w h=> ?_|(refine af.xs h rfl rfl fun w h=> ?_;dsimp only [ah,ae] at h)|(refine St.xs h rfl rfl fun w h=> ?_;dsimp only [ah,ae] at h)|refine aa.yes ?_|refine aa.no ?_|refine ⟨by first|omega|decide,?_⟩)
   rw [ag (by omega)]
   refine ⟨⟨k+1,st',rfl,by omega,sg hst hby he,?_,(h.no 0)⟩,by first|omega|(dsimp only;omega)⟩
   rw [List.take_add_one,List.getElem?_eq_getElem hlt]
   show run (aB n) dW (bs.take k++ [bs[k]])=_
   rw [bQ hrun,br he];rfl
  ·(with_reducible repeat first|refine Nw.mk h fun b w h=> ?_|refine ao.mk h fun w h=> ?_|refine Ld.xb h rfl ?_|refine Ld.xt h rfl ?_|refine ad.xb (fun _ h=>h) rfl ?_|refine ad.xt (fun _ h=>h) rfl ?_|refine ⟨h.hb,?_⟩|refine af.xw h rfl rfl fun w h=> ?_|(refine af.xs h rfl rfl fun w h=> ?_;dsimp only [ah,ae] at h)|(refine St.xs h rfl rfl fun w h=> ?_;dsimp only [ah,ae] at h)|refine aa.yes ?_|refine aa.no ?_|refine ⟨by first|omega|decide,?_⟩)
   refine done h fun s' w' h=>hblk M P u (bs.drop (k+1)) s' w' ?_ h
   rw [gq hrun,List.drop_eq_getElem_cons hlt,fL he]
  ·(with_reducible repeat first|refine Nw.mk h fun b w h=> ?_|refine ao.mk h fun w h=> ?_|refine Ld.xb h rfl ?_|refine Ld.xt h rfl ?_|refine ad.xb (fun _ h=>h) rfl ?_|refine ad.xt (fun _ h=>h) rfl ?_|refine ⟨h.hb,?_⟩|refine af.xw h rfl rfl fun w h=> ?_|(refine af.xs h rfl rfl fun w h=> ?_;dsimp only [ah,ae] at h)|(refine St.xs h rfl rfl fun w h=> ?_;dsimp only [ah,ae] at h)|refine aa.yes ?_|refine aa.no ?_|refine ⟨by first|omega|decide,?_⟩)
   refine done h fun s' w' h=>htail u (bs.drop (k+1)) s' w' ?_ h
   rw [gq hrun,List.drop_eq_getElem_cons hlt,fL he]
  ·have:=EN he
   subst this
   (with_reducible repeat first|refine Nw.mk h fun b w h=> ?_|refine ao.mk h fun w h=> ?_|refine Ld.xb h rfl ?_|refine Ld.xt h rfl ?_|refine ad.xb (fun _ h=>h) rfl ?_|refine ad.xt (fun _ h=>h) rfl ?_|refine ⟨h.hb,?_⟩|refine af.xw h rfl rfl fun w h=> ?_|(refine af.xs h rfl rfl fun w h=> ?_;dsimp only [ah,ae] at h)|(refine St.xs h rfl rfl fun w h=> ?_;dsimp only [ah,ae] at h)|refine aa.yes ?_|refine aa.no ?_|refine ⟨by first|omega|decide,?_⟩)
   refine hbad w ?_ h.tl
   rw [gq hrun,List.drop_eq_getElem_cons hlt,oa he]
 ·have hk2:k=bs.length:=by omega
  subst hk2
  rw [List.take_of_length_le (Nat.le_refl _)] at hrun
  (with_reducible repeat first|refine Nw.mk h fun b w h=> ?_|refine ao.mk h fun w h=> ?_|refine Ld.xb h rfl ?_|refine Ld.xt h rfl ?_|refine ad.xb (fun _ h=>h) rfl ?_|refine ad.xt (fun _ h=>h) rfl ?_|refine ⟨h.hb,?_⟩|refine af.xw h rfl rfl fun w h=> ?_|(refine af.xs h rfl rfl fun w h=> ?_;dsimp only [ah,ae] at h)|(refine St.xs h rfl rfl fun w h=> ?_;dsimp only [ah,ae] at h)|refine aa.yes ?_|refine aa.no ?_|refine ⟨by first|omega|decide,?_⟩)
  exact hshort st w hrun h.tl
end
end Go.Proofs.YtcdpblipagajiaaGreat
namespace Go.Proofs.YtcdpblipagajiaaGreat
open Go Go.Vc
set_option maxRecDepth 100000
theorem oS.ok (a:(Array Value)) (b:Int) (R:(Array Value)→Int→World→Prop) w (h:
 Nw 41 a w fun d c=>
 Nw 36 ⟨List.replicate 258 (.int .u8 0)⟩ c fun f e=>
 Ld (.arr 258) ⟨d,0,none⟩ e fun g=>
 Cl Pg [kS] fx ⟨[(.agg g)]⟩ e fun (i:Sl) h=>
 bo (fun (a1:World)=>
 aa ((i.len:Int)==1)
 (ar i 0 1 fun b1=>
 Ld kI b1 a1 fun (c1:Int)=>
 aI ⟨f,0,none⟩ 258 c1 1 fun d1=>
 St d1 (.int .u8 1) a1 fun e1=>
 Ld (.arr 258) ⟨f,0,none⟩ e1 fun f1=>
 aw 258 ⟨f,0,none⟩ f1 e1 fun g1=>
 Ld (.arr 258) ⟨f,0,none⟩ g1 fun h1=>
 R h1 0 g1)
 (Ld (.arr 258) ⟨d,0,none⟩ a1 fun i1=>
 Cl Pg [kS] eV ⟨[(.agg i1),(an i)]⟩ a1 fun (k1:Sl) j1=>
 Nw 189 ⟨[(an k1)]⟩ j1 fun m1 l1=>
 db (⟨some ⟨m1,0,none⟩,1,1⟩:Sl) 1 l1 fun n1 o1 (p1:Sl) (q1:Int) r1=>
 aa (decide (q1<b))
 (cA r1 fun s1 t1=>
 ar p1 0 1 fun u1=>
 ad kS u1 s1 fun (v1:Sl)=>
 ar p1 (i64 (q1 - 1)) 1 fun x1=>
 ad kS x1 s1 fun (y1:Sl)=>
 Cl Pg [kS] fV ⟨[(an v1),(an y1)]⟩ t1 fun (a2:Sl) z1=>
 s1 z1∧
 Nw 189 ⟨[(an a2)]⟩ z1 fun c2 b2=>
 s1 b2∧
 aD Pg (Builtin.append_ #[191,191] 191 ⟨[(an p1),(an (⟨some ⟨c2,0,none⟩,1,1⟩:Sl))]⟩) kS b2 fun (e2:Sl) d2=>
 s1 d2∧
 n1 e2 (i64 (q1+1)) d2∧o1 e2 (i64 (q1+1)) d2<o1 p1 q1 r1)
 (db (i64 ((i64 ((2:Int)*(i.len:Int))) - 2)) (i64 (b - 1)) r1 fun f2 g2 (h2:Int) (i2:Int) j2=>
 bo (fun (r2:World)=>
 ar p1 i2 1 fun s2=>
 Ld kS s2 r2 fun (t2:Sl)=>
 aZ t2 0 h2 (t2).cap 2 fun u2=>
 db 0 0 r2 fun v2 x2 (y2:Int) (z2:Int) a3=>
 aa (decide (z2<(u2.len:Int)))
 (ar u2 z2 2 fun b3=>
 Ld (.st [.int .i64,.bool]) b3 a3 fun c3=>
 Nw 194 ⟨[(ni 0),(.bool false)]⟩ a3 fun e3 d3=>
 af ⟨e3,0,none⟩ [(ni c3.1),(.bool c3.2.1)] 0 d3 fun f3=>
 Ld kB (Addr.add ⟨e3,0,none⟩ 1) f3 fun (g3:Bool)=>
 aa g3
 (ar i y2 1 fun h3=>
 Ld kI h3 f3 fun (i3:Int)=>
 aI ⟨f,0,none⟩ 258 i3 1 fun j3=>
 Ld (aL .u8) j3 f3 fun (k3:Int)=>
 aI ⟨f,0,none⟩ 258 i3 1 fun l3=>
 St l3 (.int .u8 (u8 (k3+1))) f3 fun m3=>
 v2 (i64 (y2+1)) (i64 (z2+1)) m3∧x2 (i64 (y2+1)) (i64 (z2+1)) m3<x2 y2 z2 a3)
 (v2 y2 (i64 (z2+1)) f3∧x2 y2 (i64 (z2+1)) f3<x2 y2 z2 a3))
 (f2 (i64 ((2:Int)*(i64 (h2 - y2)))) (i64 (i2 - 1)) a3∧g2 (i64 ((2:Int)*(i64 (h2 - y2)))) (i64 (i2 - 1)) a3<g2 h2 i2 j2)) fun k2=>
 aa (decide (i2≥0))
 (aa (decide (h2>0))
 (k2 j2)
 (Ld (.arr 258) ⟨f,0,none⟩ j2 fun l2=>
 aw 258 ⟨f,0,none⟩ l2 j2 fun m2=>
 Ld (.arr 258) ⟨f,0,none⟩ m2 fun n2=>
 R n2 0 m2))
 (Ld (.arr 258) ⟨f,0,none⟩ j2 fun o2=>
 aw 258 ⟨f,0,none⟩ o2 j2 fun p2=>
 Ld (.arr 258) ⟨f,0,none⟩ p2 fun q2=>
 R q2 0 p2)))) fun j=>
 Ld (.arr 258) ⟨d,0,none⟩ h fun k=>
 Cl Pg [kB] dz ⟨[(.agg k)]⟩ h fun (m:Bool) l=>
 aa (!m)
 (Ld (.arr 258) ⟨f,0,none⟩ l fun n=>
 aw 258 ⟨f,0,none⟩ n l fun o=>
 Ld (.arr 258) ⟨f,0,none⟩ o fun p=>
 R p 2 o)
 (aa (decide (b<1))
 (Ld (.arr 258) ⟨f,0,none⟩ l fun q=>
 aw 258 ⟨f,0,none⟩ q l fun r=>
 Ld (.arr 258) ⟨f,0,none⟩ r fun s=>
 R s 2 r)
 (aa (decide (b>15))
 (Ld (.arr 258) ⟨f,0,none⟩ l fun t=>
 aw 258 ⟨f,0,none⟩ t l fun u=>
 Ld (.arr 258) ⟨f,0,none⟩ u fun v=>
 R v 2 u)
 (0≤(u64 b)∧
 aa (decide ((i.len:Int)>(a8 .i64 (1:Int) (u64 b))))
 (Ld (.arr 258) ⟨f,0,none⟩ l fun x=>
 aw 258 ⟨f,0,none⟩ x l fun y=>
 Ld (.arr 258) ⟨f,0,none⟩ y fun z=>
 R z 2 y)
 (j l))))):Cl Pg [(.arr 258),kI] cQ ⟨[(.agg a),(ni b)]⟩ w R:=co Tryz.f93 [(4,[]),(21,[(7,kS),(8,kI)]),(33,[(9,kI),(10,kI)]),(34,[]),(43,[(11,kI),(86,kI)])] h
theorem qf.ok (a:(Array Value)) (R:Sl→World→Prop) w (h:
 Nw 41 a w fun c b=>
 Ld (.arr 258) ⟨c,0,none⟩ b fun d=>
 Cl Pg [kB] dz ⟨[(.agg d)]⟩ b fun (f:Bool) e=>
 aa (!f)
 (R (⟨none,0,0⟩:Sl) e)
 (Ld (.arr 258) ⟨c,0,none⟩ e fun g=>
 db (⟨none,0,0⟩:Sl) 0 e fun h i (j:Sl) (k:Int) l=>
 aa (decide (k<258))
 (eH (.int .i64) g 258 k fun (m:Int)=>
 aa (decide (m>0))
 (Nw 3 ⟨[(ni k)]⟩ l fun o n=>
 aD Pg (Builtin.append_ #[33,33] 33 ⟨[(an j),(an (⟨some ⟨o,0,none⟩,1,1⟩:Sl))]⟩) kS n fun (q:Sl) p=>
 h q (i64 (k+1)) p∧i q (i64 (k+1)) p<i j k l)
 (h j (i64 (k+1)) l∧i j (i64 (k+1)) l<i j k l))
 (Cl Pg [] bB ⟨[(an j),(.func (.func 180) ⟨[]⟩ ⟨[(.pointer (some ⟨c,0,none⟩))]⟩)]⟩ l fun r=>
 R j r))):Cl Pg [kS] fx ⟨[(.agg a)]⟩ w R:=co Tryz.f138 [(10,[(2,kS),(9,kI)])] h
theorem qt.ok (a:(Array Value)) (R:Bool→World→Prop) w (h:
 Nw 41 a w fun c b=>
 aZ (⟨some ⟨c,0,none⟩,258,258⟩:Sl) 0 258 258 1 fun d=>
 Cl Pg [kB] eO ⟨[(an d),(.func (.func 183) ⟨[]⟩ ⟨[]⟩)]⟩ b fun (f:Bool) e=>
 R (!f) e):Cl Pg [kB] dz ⟨[(.agg a)]⟩ w R:=co Tryz.f139 [] h
theorem pU.ok (a:(Array Value)) (b:Sl) (R:Sl→World→Prop) w (h:
 Nw 41 a w fun d c=>
 db (⟨none,0,0⟩:Sl) 0 c fun e f (g:Sl) (h:Int) i=>
 aa (decide (h<(b.len:Int)))
 (ar b h 1 fun j=>
 Ld kI j i fun (k:Int)=>
 aI ⟨d,0,none⟩ 258 k 1 fun l=>
 Ld kI l i fun (m:Int)=>
 Nw 194 ⟨[(ni m),(.bool true)]⟩ i fun o n=>
 aD Pg (Builtin.append_ #[189,189] 189 ⟨[(an g),(an (⟨some ⟨o,0,none⟩,1,1⟩:Sl))]⟩) kS n fun (q:Sl) p=>
 e q (i64 (h+1)) p∧f q (i64 (h+1)) p<f g h i)
 (R g i)):Cl Pg [kS] eV ⟨[(.agg a),(an b)]⟩ w R:=co Tryz.f140 [(5,[(4,kS),(9,kI)])] h
theorem rn.ok (a:Sl) (b:Sl) (R:Sl→World→Prop) w (h:
 El (⟨none,0,0⟩:Sl) 0 0 w fun c d (e:Sl) (f:Int) (g:Int) h=>
 aa (decide ((i64 (g+1))<(b.len:Int)))
 (cA h fun i j=>
 ar b g 2 fun k=>
 ad kI (k.add 0) i fun (l:Int)=>
 ar b (i64 (g+1)) 2 fun m=>
 ad kI (m.add 0) i fun (n:Int)=>
 Nw 194 ⟨[(ni 0),(.bool false)]⟩ j fun p o=>
 i o∧
 af ⟨p,0,none⟩ [(ni (i64 (l+n))),(.bool false)] 0 o fun q=>
 i q∧
 db e f q fun r s (t:Sl) (u:Int) v=>
 ao v fun x=>
 aa (decide (u<(a.len:Int)))
 (ar a u 2 fun y=>
 Ld kI (y.add 0) x fun (z:Int)=>
 Ld kI (Addr.add ⟨p,0,none⟩ 0) x fun (a1:Int)=>
 aa (decide (z≤a1))
 (ar a u 2 fun b1=>
 Ld (.st [.int .i64,.bool]) b1 x fun c1=>
 Nw 194 ⟨[(ni c1.1),(.bool c1.2.1)]⟩ x fun e1 d1=>
 aD Pg (Builtin.append_ #[189,189] 189 ⟨[(an t),(an (⟨some ⟨e1,0,none⟩,1,1⟩:Sl))]⟩) kS d1 fun (g1:Sl) f1=>
 r g1 (i64 (u+1)) f1∧s g1 (i64 (u+1)) f1<s t u v)
 (Ld (.st [.int .i64,.bool]) ⟨p,0,none⟩ x fun h1=>
 Nw 194 ⟨[(ni h1.1),(.bool h1.2.1)]⟩ x fun j1 i1=>
 aD Pg (Builtin.append_ #[189,189] 189 ⟨[(an t),(an (⟨some ⟨j1,0,none⟩,1,1⟩:Sl))]⟩) kS i1 fun (l1:Sl) k1=>
 c l1 u (i64 (g+2)) k1∧d l1 u (i64 (g+2)) k1<d e f g h))
 (Ld (.st [.int .i64,.bool]) ⟨p,0,none⟩ x fun m1=>
 Nw 194 ⟨[(ni m1.1),(.bool m1.2.1)]⟩ x fun o1 n1=>
 aD Pg (Builtin.append_ #[189,189] 189 ⟨[(an t),(an (⟨some ⟨o1,0,none⟩,1,1⟩:Sl))]⟩) kS n1 fun (q1:Sl) p1=>
 c q1 u (i64 (g+2)) p1∧d q1 u (i64 (g+2)) p1<d e f g h))
 (aZ a f (a).len (a).cap 2 fun r1=>
 aD Pg (Builtin.append_ #[189,189] 189 ⟨[(an e),(an r1)]⟩) kS h fun (t1:Sl) s1=>
 R t1 s1)):Cl Pg [kS] fV ⟨[(an a),(an b)]⟩ w R:=co Tryz.f141 [(7,[(4,kS),(5,kI),(6,kI)]),(15,[(4,kS),(5,kI)])] h
theorem oH.ok (a:Int) (b:Int) (c:Addr) (R:Int→World→Prop) w (h:
 ao w fun d=>
 aI c 258 a 1 fun e=>
 Ld kI e d fun (f:Int)=>
 aI c 258 b 1 fun g=>
 Ld kI g d fun (h:Int)=>
 Cl Pg [kI] cq ⟨[(ni f),(ni h)]⟩ d fun (j:Int) i=>
 R j i):Cl Pg [kI] iu ⟨[(ni a),(ni b),(.pointer (some c))]⟩ w R:=co Tryz.f180 [] h
theorem oL.ok (a:Int) (R:Bool→World→Prop) w (h:
 aa (decide (a<0))
 (R true w)
 (R (decide (a>2147483647)) w)):Cl Pg [kB] im ⟨[(ni a)]⟩ w R:=co Tryz.f183 [] h
end Go.Proofs.YtcdpblipagajiaaGreat
namespace Go.Pm
abbrev It:=Nat×Bool
def kQ (l:List It):Nat:=(l.map (·.1)).sum
def aX (l:List It):Nat:=(l.filter (·.2)).length
def Up (l:List It):Prop:=l.Pairwise fun a b=>a.1≤b.1
def aG:List It→List It
 |a::b::l=>(a.1+b.1,false)::aG l
 |_=> []
def fY (A:List It):List It→List It
 | []=>A
 |p::B=>A.takeWhile (fun a=>decide (a.1≤p.1))++p::fY (A.dropWhile fun a=>decide (a.1≤p.1)) B
theorem uU {A:List It}:fY A []=A:=rfl
theorem oC: ∀{B:List It},fY [] B=B
 | []=>rfl
 |p::B=>by simp [fY,oC]
theorem yo {a p:It} {A B:List It} (h:a.1≤p.1):fY (a::A) (p::B)=a::fY A (p::B):=by simp [fY,h]
theorem xr {a p:It} {A B:List It} (h: ¬a.1≤p.1):fY (a::A) (p::B)=p::fY (a::A) B:=by simp [fY,h]
theorem qV {P:List It→List It→Prop} (h1: ∀B,P [] B) (h2: ∀a A,P (a::A) []) (h3: ∀a A p B,a.1≤p.1→P A (p::B)→P (a::A) (p::B)) (h4: ∀a A p B,¬a.1≤p.1→P (a::A) B→P (a::A) (p::B)):
  ∀A B,P A B
 | [],B=>h1 B
 |a::A,[]=>h2 a A
 |a::A,p::B=>if h:a.1≤p.1 then h3 a A p B h (qV h1 h2 h3 h4 A (p::B)) else h4 a A p B h (qV h1 h2 h3 h4 (a::A) B)
theorem yP: ∀A B,(fY A B).Perm (A++B):=by
 refine qV (fun B=>by rw [oC];exact .refl _) (fun a A=>by rw [uU];simp) (fun a A p B h ih=> ?_) (fun a A p B h ih=> ?_)
 ·rw [yo h];exact ih.cons a
 ·rw [xr h]
  exact (ih.cons p).trans (List.perm_middle.symm)
theorem BL (A B:List It):(fY A B).length=A.length+B.length:=by rw [(yP A B).length_eq,List.length_append]
theorem Bb: ∀A B,Up A→∀m,m≤A.length+B.length→∃a b,a+b=m∧a≤A.length∧b≤B.length∧((fY A B).take m).Perm (A.take a++B.take b)∧∀x∈B.take b,∀y∈A.drop a,x.1<y.1:=by
 refine qV (fun B _ m hm=> ?_) (fun a A _ m hm=> ?_) (fun a A p B h ih hA m hm=> ?_) (fun a A p B h ih hA m hm=> ?_)
 ·exact ⟨0,m,by omega,Nat.le_refl _,by simpa using hm,by rw [oC];simp,by simp⟩
 ·exact ⟨m,0,rfl,by simpa using hm,Nat.le_refl _,by rw [uU];simp,by simp⟩
 ·cases m with
  |zero=>exact ⟨0,0,rfl,Nat.zero_le _,Nat.zero_le _,by simp,by simp⟩
  |succ m=>
   obtain ⟨x,y,h1,h2,h3,h4,h5⟩:=ih (List.pairwise_cons.1 hA).2 m (by simp at hm⊢;omega)
   refine ⟨x+1,y,by omega,by simpa using h2,h3,?_,by simpa using h5⟩
   rw [yo h,List.take_succ_cons,List.take_succ_cons]
   exact h4.cons a
 ·cases m with
  |zero=>exact ⟨0,0,rfl,Nat.zero_le _,Nat.zero_le _,by simp,by simp⟩
  |succ m=>
   obtain ⟨x,y,h1,h2,h3,h4,h5⟩:=ih hA m (by simp at hm⊢;omega)
   refine ⟨x,y+1,by omega,h2,by simpa using h3,?_,?_⟩
   ·rw [xr h,List.take_succ_cons,List.take_succ_cons]
    exact (h4.cons p).trans List.perm_middle.symm
   ·intro u hu v hv
    rw [List.take_succ_cons] at hu
    rcases List.mem_cons.1 hu with rfl|hu
    ·have hv:v∈a::A:=List.mem_of_mem_drop hv
     rcases List.mem_cons.1 hv with rfl|hv
     ·omega
     ·have:=(List.pairwise_cons.1 hA).1 v hv;omega
    ·exact h5 u hu v hv
theorem sx (a:It) (l:List It):kQ (a::l)=a.1+kQ l:=by simp [kQ]
theorem C9 (l l':List It):kQ (l++l')=kQ l+kQ l':=by simp [kQ]
theorem GM {l l':List It} (h:l.Perm l'):kQ l=kQ l':=(h.map _).sum_nat
theorem mg (l l':List It):aX (l++l')=aX l+aX l':=by simp [aX]
theorem tT {l l':List It} (h:l.Perm l'):aX l=aX l':=(h.filter _).length_eq
theorem cr: ∀l:List It,(aG l).length=l.length/2
 | []=>rfl
 | [_]=>by simp [aG]
 |_::_::l=>by
  simp only [aG,List.length_cons,cr l];omega
theorem pB: ∀(l:List It) (x:It),x∈aG l→x.2=false
 | [],_,h=>by simp [aG] at h
 | [_],_,h=>by simp [aG] at h
 |a::b::l,x,h=>by
  rw [aG] at h
  rcases List.mem_cons.1 h with rfl|h
  ·rfl
  ·exact pB l x h
theorem tV: ∀(l:List It) (b:Nat),2*b≤l.length→kQ ((aG l).take b)=kQ (l.take (2*b))
 |_,0,_=>by simp [kQ]
 | [],b+1,h=>by simp at h
 | [_],b+1,h=>by simp only [List.length_singleton] at h;omega
 |x::y::l,b+1,h=>by
  rw [aG,List.take_succ_cons,sx,show 2*(b+1)=(2*b+1)+1 by omega,List.take_succ_cons,List.take_succ_cons,sx,sx,tV l b (by simp only [List.length_cons] at h;omega)]
  omega
theorem yF: ∀(l:List It) (b:Nat) (x:It),2*b≤l.length→x∈l.take (2*b)→∃p∈(aG l).take b,x.1≤p.1
 |_,0,_,_,h=>by simp at h
 | [],b+1,_,h,_=>by simp at h
 | [_],b+1,_,h,_=>by simp only [List.length_singleton] at h;omega
 |u::v::l,b+1,x,h,hx=>by
  rw [show 2*(b+1)=(2*b+1)+1 by omega,List.take_succ_cons,List.take_succ_cons] at hx
  rw [aG,List.take_succ_cons]
  rcases List.mem_cons.1 hx with rfl|hx
  ·exact ⟨_,List.mem_cons_self,by simp⟩
  ·rcases List.mem_cons.1 hx with rfl|hx
   ·exact ⟨_,List.mem_cons_self,by simp⟩
   ·obtain ⟨p,hp,hl⟩:=yF l b x (by simp only [List.length_cons] at h;omega) hx
    exact ⟨p,List.mem_cons_of_mem _ hp,hl⟩
def gT (ws:List Nat):List It:=ws.map fun w=>(w,true)
def row (ws:List Nat):Nat→List It
 |0=>gT ws
 |k+1=>fY (gT ws) (aG (row ws k))
def qq (ws:List Nat):Prop:=ws.Pairwise (·≤·)
theorem DG {ws:List Nat} (h:qq ws):Up (gT ws):=List.Pairwise.map _ (fun _ _ h=>h) h
theorem de (ws:List Nat):(gT ws).length=ws.length:=List.length_map _
theorem rh (ws:List Nat) (k:Nat):(row ws (k+1)).length=ws.length+(row ws k).length/2:=by rw [row,BL,de,cr]
theorem B4 (ws:List Nat):kQ (gT ws)=ws.sum:=by
 unfold kQ gT
 rw [List.map_map]
 congr 1
 exact List.map_id _
theorem jV (ws:List Nat) (a:Nat):(gT ws).take a=gT (ws.take a):=List.map_take.symm
theorem qh (ws:List Nat):aX (gT ws)=ws.length:=by
 unfold aX gT
 rw [List.filter_eq_self.2]
 ·simp
 ·intro x hx;obtain ⟨w,_,rfl⟩:=List.mem_map.1 hx;rfl
theorem yO {l:List It} (h: ∀x∈l,x.2=false):aX l=0:=by
 unfold aX
 rw [List.length_eq_zero_iff,List.filter_eq_nil_iff]
 intro x hx;simp [h x hx]
theorem sP {ws:List Nat}: ∀k,ws.length≤2^(k+1)→2*ws.length - 2≤(row ws k).length:=by
 have key: ∀k c,2^k*c≥ws.length→1≤c→2*ws.length≤(row ws k).length+c:=by
  intro k
  induction k with
  |zero=>intro c h _;simp only [row,de];omega
  |succ k ih=>
   intro c h hc
   have:=ih (2*c) (by rw [Nat.pow_succ] at h;rw [←Nat.mul_assoc];exact h) (by omega)
   rw [rh];omega
 intro k h
 have:=key k 2 (by rw [Nat.pow_succ] at h;exact h) (by omega)
 omega
theorem l0 {ws:List Nat} (h:qq ws) (k m:Nat) (hm:m≤(row ws (k+1)).length):aX ((row ws (k+1)).take m)≤m∧aX ((row ws (k+1)).take m)≤ws.length∧2*(m - aX ((row ws (k+1)).take m))≤(row ws k).length∧
  kQ ((row ws (k+1)).take m)=(ws.take (aX ((row ws (k+1)).take m))).sum+kQ ((row ws k).take (2*(m - aX ((row ws (k+1)).take m))))∧
  (∀x∈(row ws k).take (2*(m - aX ((row ws (k+1)).take m))),∀y∈ws.drop (aX ((row ws (k+1)).take m)),x.1<y):=by
 have hl:=rh ws k
 obtain ⟨a,b,h1,h2,h3,h4,h5⟩:=Bb (gT ws) (aG (row ws k)) (DG h) m (by rw [de,cr,←hl];exact hm)
 rw [de] at h2
 rw [cr] at h3
 have hlf:aX ((row ws (k+1)).take m)=a:=by
  rw [row,tT h4,mg,jV,qh,yO fun x hx=>pB _ x (List.mem_of_mem_take hx),List.length_take]
  omega
 rw [hlf]
 have hb:m - a=b:=by omega
 rw [hb]
 refine ⟨by omega,h2,by omega,?_,?_⟩
 ·rw [row,GM h4,C9,jV,B4,tV _ _ (by omega)]
 ·intro x hx y hy
  obtain ⟨p,hp,hxp⟩:=yF _ _ _ (by omega) hx
  have:=h5 p hp (y,true) (by
   unfold gT
   rw [←List.map_drop]
   exact List.mem_map_of_mem hy)
  exact Nat.lt_of_le_of_lt hxp this
theorem sy {ws:List Nat} (m:Nat) (hm:m≤ws.length):aX ((row ws 0).take m)=m∧kQ ((row ws 0).take m)=(ws.take m).sum:=by
 rw [row,jV]
 exact ⟨by rw [qh,List.length_take];omega,B4 _⟩
def whole (ws:List Nat) (k m:Nat):Nat:=aX ((row ws k).take m)
def lv (ws:List Nat):Nat→Nat→Nat→Nat
 |0,m,i=>if i<whole ws 0 m then 1 else 0
 |k+1,m,i=>(if i<whole ws (k+1) m then 1 else 0)+lv ws k (2*(m - whole ws (k+1) m)) i
theorem nested {ws:List Nat} (h:qq ws) (k m:Nat) (hm:m≤(row ws (k+1)).length):whole ws k (2*(m - whole ws (k+1) m))≤whole ws (k+1) m:=by
 obtain ⟨c1,c2,c3,c4,c5⟩:=l0 h k m hm
 generalize hq:whole ws (k+1) m=a
 unfold whole at hq
 rw [hq] at c1 c2 c3 c4 c5
 rcases Nat.lt_or_ge a (whole ws k (2*(m - a))) with hlt|hge
 ·exfalso
  have hmem: ∀i,i<whole ws k (2*(m - a))→∃(hi:i<ws.length),(ws[i],true)∈(row ws k).take (2*(m - a)):=by
   cases k with
   |zero=>
    intro i hi
    have e0:=sy (ws:=ws) (2*(m - a)) (by rw [row,de] at c3;exact c3)
    unfold whole at hi
    rw [e0.1] at hi
    rw [row,de] at c3
    refine ⟨by omega,?_⟩
    rw [row,jV]
    unfold gT
    refine List.mem_map_of_mem ?_
    rw [List.mem_iff_getElem]
    exact ⟨i,by rw [List.length_take];omega,by simp⟩
   |succ k=>
    intro i hi
    obtain ⟨a',b',h1,h2,h3,h4,h5⟩:=Bb (gT ws) (aG (row ws k)) (DG h) (2*(m - a)) (by rw [de,cr,←rh];exact c3)
    rw [de] at h2
    have hlf:whole ws (k+1) (2*(m - a))=a':=by
     unfold whole
     rw [row,tT h4,mg,jV,qh,yO fun x hx=>pB _ x (List.mem_of_mem_take hx),List.length_take]
     omega
    rw [hlf] at hi
    refine ⟨by omega,?_⟩
    rw [row,h4.mem_iff,List.mem_append]
    left
    rw [jV]
    unfold gT
    refine List.mem_map_of_mem ?_
    rw [List.mem_iff_getElem]
    exact ⟨i,by rw [List.length_take];omega,by simp⟩
  obtain ⟨hi,hx⟩:=hmem a hlt
  have:=c5 _ hx ws[a] (by rw [List.mem_iff_getElem];exact ⟨0,by rw [List.length_drop];omega,by simp⟩)
  simp at this
 ·exact hge
theorem uT {ws:List Nat} (h:qq ws): ∀(k m i:Nat),m≤(row ws k).length→whole ws k m≤i→lv ws k m i=0
 |0,m,i,_,hi=>by unfold lv;rw [if_neg (by omega)]
 |k+1,m,i,hm,hi=>by
  have hn:=nested h k m hm
  unfold lv
  rw [if_neg (by omega),Nat.zero_add]
  exact uT h k _ i (l0 h k m hm).2.2.1 (by omega)
theorem xi (ws:List Nat): ∀(k m i:Nat),lv ws k m i≤k+1
 |0,m,i=>by unfold lv;split<;>omega
 |k+1,m,i=>by
  have:=xi ws k (2*(m - whole ws (k+1) m)) i
  unfold lv;split<;>omega
def ae (n:Nat) (f:Nat→Nat):Nat:=((List.range n).map f).sum
theorem ey (n:Nat) (f:Nat→Nat):ae (n+1) f=ae n f+f n:=by
 unfold ae
 rw [List.range_succ,List.map_append,List.sum_append];simp
theorem yY (n:Nat) (f g:Nat→Nat):ae n (fun i=>f i+g i)=ae n f+ae n g:=by
 induction n with
 |zero=>rfl
 |succ n ih=>rw [ey,ey,ey,ih];omega
theorem lF {n:Nat} {f g:Nat→Nat} (h: ∀i,i<n→f i=g i):ae n f=ae n g:=by
 unfold ae
 congr 1
 exact List.map_congr_left fun i hi=>h i (List.mem_range.1 hi)
theorem CP (n c:Nat):ae n (fun _=>c)=n*c:=by
 induction n with
 |zero=>simp [ae]
 |succ n ih=>rw [ey,ih,Nat.succ_mul]
theorem Fc (n c:Nat) (f:Nat→Nat):ae n (fun i=>c*f i)=c*ae n f:=by
 induction n with
 |zero=>rfl
 |succ n ih=>rw [ey,ey,ih,Nat.mul_add]
theorem sS (n a:Nat) (ha:a≤n) (c:Nat):ae n (fun i=>(if i<a then 1 else 0)*c)=a*c:=by
 have key: ∀n,ae n (fun i=>(if i<a then 1 else 0)*c)=min n a*c:=by
  intro n
  induction n with
  |zero=>simp [ae]
  |succ n ih=>
   rw [ey,ih]
   by_cases hna:n<a
   ·rw [if_pos hna,Nat.min_eq_left (by omega),Nat.min_eq_left (by omega),Nat.one_mul,Nat.succ_mul]
   ·rw [if_neg hna,Nat.min_eq_right (by omega),Nat.min_eq_right (by omega)];simp
 rw [key,Nat.min_eq_right ha]
def lw (ws:List Nat):Nat→Nat→Nat→Nat
 |0,m,i=>if i<whole ws 0 m then 1 else 0
 |k+1,m,i=>(if i<whole ws (k+1) m then 1 else 0)*2^(k+1)+lw ws k (2*(m - whole ws (k+1) m)) i
theorem ET {ws:List Nat} (h:qq ws): ∀(k m:Nat),m≤(row ws k).length→ae ws.length (lw ws k m)=m*2^k
 |0,m,hm=>by
  have hm':m≤ws.length:=by rw [row,de] at hm;exact hm
  have e:=sy (ws:=ws) m hm'
  have:=sS ws.length m hm' 1
  have e2:ae ws.length (lw ws 0 m)=ae ws.length (fun i=>(if i<m then 1 else 0)*1):=lF fun i _=>by
   unfold lw whole
   rw [e.1,Nat.mul_one]
  rw [e2,this]
 |k+1,m,hm=>by
  obtain ⟨c1,c2,c3,c4,c5⟩:=l0 h k m hm
  have ih:=ET h k (2*(m - whole ws (k+1) m)) c3
  have e:ae ws.length (lw ws (k+1) m)=ae ws.length (fun i=>(if i<whole ws (k+1) m then 1 else 0)*2^(k+1)+lw ws k (2*(m - whole ws (k+1) m)) i):=rfl
  have c1':whole ws (k+1) m≤m:=c1
  have c2':whole ws (k+1) m≤ws.length:=c2
  rw [e,yY,sS _ _ c2',ih,Nat.mul_comm 2,Nat.mul_assoc,←Nat.pow_succ',←Nat.add_mul]
  congr 1;omega
theorem G2 {ws:List Nat} (h:qq ws): ∀(k m i:Nat),m≤(row ws k).length→lw ws k m i+2^(k+1 - lv ws k m i)=2^(k+1)
 |0,m,i,_=>by unfold lw lv;split<;>rfl
 |k+1,m,i,hm=>by
  have c3:=(l0 h k m hm).2.2.1
  have ih:=G2 h k (2*(m - whole ws (k+1) m)) i c3
  have hle:=xi ws k (2*(m - whole ws (k+1) m)) i
  have hp:=Nat.pow_succ (n:=2) (m:=k+1)
  unfold lw lv
  by_cases hi:i<whole ws (k+1) m
  ·rw [if_pos hi,Nat.one_mul,show k+1+1 - (1+lv ws k (2*(m - whole ws (k+1) m)) i)=k+1 - lv ws k (2*(m - whole ws (k+1) m)) i by omega]
   omega
  ·have hn:=nested h k m hm
   have hz:=uT h k (2*(m - whole ws (k+1) m)) i c3 (by omega)
   rw [hz] at ih⊢
   rw [if_neg hi]
   simp only [Nat.zero_mul,Nat.zero_add,Nat.sub_zero] at ih⊢
   omega
theorem xV {ws:List Nat} (h:qq ws) (k:Nat) (hn:2≤ws.length) (hk:ws.length≤2^(k+1)):ae ws.length (fun i=>2^(k+1 - lv ws k (2*ws.length - 2) i))=2^(k+1):=by
 have hm:=sP (ws:=ws) k hk
 have h1:=ET h k _ hm
 have h2:=yY ws.length (lw ws k (2*ws.length - 2)) (fun i=>2^(k+1 - lv ws k (2*ws.length - 2) i))
 rw [lF (g:=fun _=>2^(k+1)) fun i _=>G2 h k _ i hm,CP,h1] at h2
 have e1:(2*ws.length - 2)*2^k+2^(k+1)=ws.length*2^(k+1):=by
  have:2*ws.length - 2=2*(ws.length - 1):=by omega
  rw [this,Nat.mul_comm 2,Nat.mul_assoc,←Nat.pow_succ']
  have:ws.length=ws.length - 1+1:=by omega
  conv=>rhs;rw [this,Nat.succ_mul]
 omega
theorem AJ {n:Nat} {f:Nat→Nat} {i:Nat} (hi:i<n):f i≤ae n f:=by
 induction n with
 |zero=>omega
 |succ n ih=>
  rw [ey]
  by_cases h:i=n
  ·subst h;omega
  ·have:=ih (by omega);omega
theorem zV {n:Nat} {f:Nat→Nat} {i j:Nat} (hi:i<n) (hj:j<n) (hij:i<j):f i+f j≤ae n f:=by
 induction n with
 |zero=>omega
 |succ n ih=>
  rw [ey]
  by_cases h:j=n
  ·subst h
   have:=AJ (f:=f) hij
   omega
  ·have:=ih (by omega) (by omega);omega
theorem Jy {ws:List Nat} (h:qq ws) (k:Nat) (hn:2≤ws.length) (hk:ws.length≤2^(k+1)) {i:Nat} (hi:i<ws.length):1≤lv ws k (2*ws.length - 2) i:=by
 have h1:=xV h k hn hk
 rcases Nat.eq_zero_or_pos (lv ws k (2*ws.length - 2) i) with h0|h0
 ·exfalso
  have hp: ∀j,0<2^(k+1 - lv ws k (2*ws.length - 2) j):=fun j=>Nat.two_pow_pos _
  have e:2^(k+1 - lv ws k (2*ws.length - 2) i)=2^(k+1):=by rw [h0,Nat.sub_zero]
  by_cases hi0:i=0
  ·subst hi0
   have:=zV (f:=fun i=>2^(k+1 - lv ws k (2*ws.length - 2) i)) hi (show 1<ws.length by omega) (by omega)
   have:=hp 1
   omega
  ·have:=zV (f:=fun i=>2^(k+1 - lv ws k (2*ws.length - 2) i)) (show 0<ws.length by omega) hi (by omega)
   have:=hp 0
   omega
 ·exact h0
end Go.Pm
set_option maxRecDepth 20000
namespace Go.Pm
def width (S:Nat→List Nat):Nat→Nat
 |0=>(S 0).length
 |k+1=>(S (k+1)).length*2^(k+1)+width S k
def lenOf (ws:List Nat) (L i:Nat):Nat:=if ws.length=1 then 1 else lv ws (L - 1) (2*ws.length - 2) i
theorem Fb {ws:List Nat} {L:Nat} (ha:qq ws) (hL:1≤L) (hn:ws.length≤2^L) {i:Nat} (hi:i<ws.length):1≤lenOf ws L i∧lenOf ws L i≤L:=by
 unfold lenOf
 split
 ·exact ⟨Nat.le_refl _,hL⟩
 ·obtain ⟨K,rfl⟩: ∃K,L=K+1:=⟨L - 1,by omega⟩
  exact ⟨Jy ha K (by omega) hn hi,xi ..⟩
end Go.Pm
set_option maxRecDepth 20000
namespace Go.Srt
def bf (t:List Int):Bool:=t.all fun x=>decide (0≤x)&&decide (x≤2147483647)
def nJ (l:List Nat):Prop:= ∀x∈l,x≤2147483647
def aP (l ys:List Nat):List Nat:=ys.map fun s=>l.getD s 0
end Go.Srt
namespace Go.Proofs.YtcdpblipagajiaaGreat
open Go Go.Vc Go.Srt Go.Pm
section
variable {E w:World} {F:List HP}
def aT (t:List Int):Array Value:=⟨t.map vI⟩
theorem dG {t:List Int}:(aT t).size=t.length:=by simp [aT]
theorem yM {t:List Int} {i:Nat} (h:i<t.length):(aT t)[i]? =some (Sc.enc (.int .i64) t[i]):=by simp [aT,h,vI]
theorem BK {l:List Nat}:aT (ints l)=ai .i64 l:=by
 unfold aT ints ai
 rw [List.map_map];rfl
theorem C3 {t:List Int} (h:bf t=true): ∃l:List Nat,t=ints l∧nJ l:=by
 have h:=List.all_eq_true.1 h
 have h': ∀x∈t,0≤x∧x≤2147483647:=fun x hx=>by have:=h x hx;simpa using this
 refine ⟨t.map Int.toNat,?_,fun y hy=> ?_⟩
 ·unfold ints
  rw [List.map_map]
  refine (List.map_id t).symm.trans (List.map_congr_left fun x hx=> ?_)
  have:=h' x hx
  simp;omega
 ·obtain ⟨x,hx,rfl⟩:=List.mem_map.1 hy
  have:=h' x hx
  omega
theorem oZ {l:List Nat} (h:nJ l):bf (ints l)=true:=by
 refine List.all_eq_true.2 fun x hx=> ?_
 obtain ⟨y,hy,rfl⟩:=List.mem_map.1 hx
 have:=h y hy
 simp;omega
theorem fh {l:List Nat}:(ints l).length=l.length:=List.length_map _
theorem Kd {x:Int} {K:Bool→World→Prop} (hK:K (!(decide (0≤x)&&decide (x≤2147483647))) w):gW Tryz.prog (.func (.func im) ⟨[]⟩ ⟨[]⟩) [kB] [.int .i64 x] w K:=by
 refine gW.mk (by kernel_rfl) (oL.ok x K w ?_)
 refine aa.mk (fun h=> ?_) (fun h=> ?_)
 ·have h:=of_decide_eq_true h
  have e:(!(decide (0≤x)&&decide (x≤2147483647)))=true:=by simp;omega
  rw [e] at hK;exact hK
 ·have h:=of_decide_eq_false h
  have e:(!(decide (0≤x)&&decide (x≤2147483647)))=decide (x>2147483647):=by
   rw [Bool.eq_iff_iff];simp;omega
  rw [e] at hK;exact hK
set_option maxRecDepth 20000 in
theorem pX {t:List Int} {K:Bool→World→Prop} (h:Hp E w F) (hl:t.length=258) (hK: ∀w',Hp E w' F→K (bf t) w'):Cl Tryz.prog [kB] dz ⟨[.agg (aT t)]⟩ w K:=by
 refine qt.ok _ _ _ ?_
 refine Nw.mk h fun b w1 h1=> ?_
 refine aZ.whole (by decide) rfl rfl ?_
 refine kH.ok _ _ _ _ ?_
 refine mu.ok _ _ _ _ ?_
 refine ⟨fun i w'=> ∃k:Nat,i=(k:Int)∧k≤258∧bf (t.take k)=true∧Hp E w' (aj b (.cells (aT t) 41 (0,0))::F),fun i _=>258 - i.toNat,⟨0,rfl,by omega,rfl,h1⟩,?_⟩
 rintro i w' ⟨k,rfl,hk,hv,hh⟩
 refine aa.mk (fun hlt=> ?_) (fun hge=> ?_)
 ·have hlt:k<258:=by have:=of_decide_eq_true hlt;simp only at this;omega
  have hkl:k<t.length:=by omega
  have hsl:aA 1 ⟨some ⟨b,0,none⟩,258,258⟩ (t.map vI) w':=hh.al (ab.aC (by simp [aT]) (by simpa using hl))
  refine ar.rd hsl (by omega) (by simp only;omega) fun q hq hc=>Ld.sc (s:= .int .i64) t[k] (by rw [hc];simp [vI]) (Kd ?_)
  have es:bf (t.take (k+1))=(bf (t.take k)&&(decide (0≤t[k])&&decide (t[k]≤2147483647))):=by
   unfold bf
   rw [List.take_add_one,List.all_append,List.getElem?_eq_getElem hkl];simp
  rw [hv,Bool.true_and] at es
  rw [←es]
  refine aa.mk (fun hb=> ?_) (fun hb=> ?_)
  ·have hb:bf (t.take (k+1))=false:=by simpa using hb
   have e1:bf t=false:=by
    have:=List.take_append_drop (k+1) t
    rw [←this]
    unfold bf at hb⊢
    rw [List.all_append,hb,Bool.false_and]
   have e2:decide ((k:Int)≥0)=true:=by simp
   show K (!decide ((k:Int)≥0)) w'
   rw [e2]
   have:=hK w' hh.drop
   rw [e1] at this;exact this
  ·have hb:bf (t.take (k+1))=true:=by simpa using hb
   rw [ag (by omega)]
   exact ⟨⟨k+1,rfl,by omega,hb,hh⟩,by dsimp only;omega⟩
 ·have hge:k=258:=by have:=of_decide_eq_false hge;simp only at this;omega
  subst hge
  have e2:decide ((-1:Int)≥0)=false:=by decide
  show K (!decide ((-1:Int)≥0)) w'
  rw [e2]
  have:=hK w' hh.drop
  rw [List.take_of_length_le (by omega)] at hv
  rw [hv] at this;exact this
theorem F6 {x y:Int} {K:Int→World→Prop} (hK: ∀z:Int,(z<0↔x<y)→K z w):Cl Tryz.prog [kI] cq ⟨[.int .i64 x,.int .i64 y]⟩ w K:=by
 refine nc.ok _ _ _ _ ?_
 refine cmp_isNaN_int.ok _ _ _ (cmp_isNaN_int.ok _ _ _ ?_)
 refine aa.f (by simp) (aa.f (by simp) (aa.mk (fun h=>hK _ ?_) (fun h=>aa.mk (fun h2=>hK _ ?_) (fun h2=>hK _ ?_))))
 ·have:=of_decide_eq_true h;omega
 ·have:=of_decide_eq_false h;omega
 ·have:=of_decide_eq_false h;omega
theorem Hm {l:List Nat} {i:Nat} {k:IntKind} (h:i<l.length):(ai k l)[i]? =some (Sc.enc (.int k) (l.getD i 0:Int)):=by
 rw [fH h,List.getD_eq_getElem?_getD,List.getElem?_eq_getElem h];rfl
theorem J9 {l:List Nat} {b:Nat} {t:TypeId} (hl:l.length=258):qL E (aj b (.cells (ai .i64 l) t (0,0))::F) (.func (.func iu) ⟨[]⟩ ⟨[.pointer (some ⟨b,0,none⟩)]⟩) (r5 l) (fun x=>0≤x∧x<258):=by
 rintro A w y x K h ⟨hx0,hx⟩ ⟨hy0,hy⟩ hK
 refine gW.mk (by kernel_rfl) ?_
 refine oH.ok y x ⟨b,0,none⟩ K w ?_
 refine ao.mk h fun w1 h1=> ?_
 have h1':=h1.perm List.perm_append_comm
 refine aI.rd (s:= .int .i64) h1' hy0 (by omega) _ (Hm (by omega)) ?_
 refine aI.rd (s:= .int .i64) h1' hx0 (by omega) _ (Hm (by omega)) ?_
 refine F6 fun z hz=>hK z w1 ?_ h1
 rw [hz];rfl
set_option maxRecDepth 20000 in
theorem Ev {t:List Int} {K:Sl→World→Prop} (h:Hp E w F) (hl:t.length=258) (hK1:bf t=false→∀w',Hp E w' F→K ⟨none,0,0⟩ w')
  (hK2: ∀l,t=ints l→nJ l→l.length=258→∀ys s w',bD l ys→Hp E w' (ak 1 s ((ints ys).map vI)::F)→K s w'):Cl Tryz.prog [kS] fx ⟨[.agg (aT t)]⟩ w K:=by
 refine qf.ok _ _ _ ?_
 refine Nw.mk h fun b w1 h1=>Ld.arr h1 (by rw [dG,hl]) (pX h1 hl fun w2 h2=> ?_)
 refine aa.mk (fun hv=>hK1 (by simpa using hv) w2 h2.drop) (fun hv=> ?_)
 have hv:bf t=true:=by simpa using hv
 obtain ⟨l,rfl,hm⟩:=C3 hv
 rw [fh] at hl
 rw [BK] at h2
 refine Ld.arr h2 (by rw [aM,hl]) ?_
 refine ⟨fun o i w'=> ∃k:Nat,i=(k:Int)∧k≤258∧Hp E w' (ak 1 o ((ints (eZ l k)).map vI)::aj b (.cells (ai .i64 l) 41 (0,0))::F),fun _ i _=>258 - i.toNat,⟨0,rfl,by omega,h2.bJ 1⟩,?_⟩
 intro o i w' hI
 obtain ⟨k,hi,hk,hh⟩:=hI
 subst hi
 refine aa.mk (fun hlt=> ?_) (fun hge=> ?_)
 ·have hlt:k<258:=by have:=of_decide_eq_true hlt;omega
  have hkl:k<l.length:=by omega
  refine eH.rd (s:= .int .i64) (by omega) (by omega) _ (FE hkl) ?_
  refine aa.mk (fun hp=> ?_) (fun hp=> ?_)
  ·have hp:0<l.getD k 0:=by have:=of_decide_eq_true hp;omega
   refine Nw.mk hh fun b2 w3 h3=> ?_
   have ho:=hh.aH
   have hu:=lP l k
   simp only [List.length_map,ints,Nat.mul_one] at ho
   refine aN (ys:= [vI (k:Int)]) (n:=1) iY (by decide) (.inl ⟨3,by kernel_rfl⟩) h3.p1 (.inl ⟨some ⟨b2,0,none⟩,1,1,rfl,rfl,h3.al (ab.aC rfl rfl)⟩) rfl sY (by omega) (by omega) fun s' w4 h4 hs'=> ?_
   rw [ag (by omega)]
   refine ⟨⟨k+1,rfl,by omega,?_⟩,by dsimp only;omega⟩
   rw [kF,if_pos hp,ya,List.map_append]
   exact h4.p1.drop
  ·have hp: ¬0<l.getD k 0:=by have:=of_decide_eq_false hp;omega
   rw [ag (by omega)]
   refine ⟨⟨k+1,rfl,by omega,?_⟩,by dsimp only;omega⟩
   rw [kF,if_neg hp,List.append_nil]
   exact hh
 ·have hge:k=258:=by have:=of_decide_eq_false hge;omega
  subst hge
  have hin: ∀x∈eZ l 258,x<258:=fun x hx=>by
   have:=(List.mem_filter.1 hx).1
   simpa using this
  refine qz (key:=r5 l) (D:=fun x=>0≤x∧x<258) hh (by have:=lP l 258;rw [av];simp only [ints,List.length_map];omega) (J9 hl) (fun x hx=> ?_) ?_ fun ys w3 hp hs h3=> ?_
  ·obtain ⟨y,hy,rfl⟩:=List.mem_map.1 hx
   have:=hin y hy
   omega
  ·unfold ints
   refine List.Pairwise.map _ (fun a b hab=>Int.ofNat_lt.2 hab) ?_
   exact List.Pairwise.filter _ List.pairwise_lt_range
  ·have hU:eZ l 258=used l:=by unfold eZ used;rw [hl]
   rw [hU] at hp
   have e:ys=ints (ys.map Int.toNat):=by
    unfold ints
    rw [List.map_map]
    refine (List.map_id ys).symm.trans (List.map_congr_left fun x hx=> ?_)
    obtain ⟨y,_,rfl⟩:=List.mem_map.1 (hp.mem_iff.1 hx)
    simp
   have pN:(ys.map Int.toNat).Perm (used l):=by
    have:=hp.map Int.toNat
    refine this.trans ?_
    unfold ints
    rw [List.map_map]
    refine List.Perm.of_eq ((List.map_congr_left fun x _=> ?_).trans (List.map_id _))
    simp
   rw [e] at h3 hs
   refine hK2 l rfl hm hl (ys.map Int.toNat) _ w3 ⟨pN,?_⟩ h3.p1.drop
   refine (List.pairwise_map.1 hs).imp fun {a b} hab=> ?_
   unfold Ky r5 at hab
   simp only [Int.toNat_natCast] at hab
   omega
def eM (x:It):List Value:= [.int .i64 (x.1:Int),.bool x.2]
theorem cH: ∀x,(eM x).length=2:=fun _=>rfl
theorem mD: ∀x,∀y∈eM x,ay y=true:=by
 intro x y hy
 simp only [eM,List.mem_cons,List.not_mem_nil,or_false] at hy
 rcases hy with rfl|rfl<;>rfl
theorem kT:bK Tryz.prog 189 194 2 16:=bK.of (by kernel_rfl) (by kernel_rfl)
theorem FP {ws:List Nat} {k:Nat} (h:k<ws.length):gT (ws.take (k+1))=gT (ws.take k)++ [(ws[k],true)]:=by
 unfold gT
 rw [List.take_add_one,List.map_append,List.getElem?_eq_getElem h];rfl
theorem EJ {s:Sl} {ys:List Nat} {i:Nat} {K:Int→Prop} (hs:aA 1 s ((ints ys).map vI) w) (hi:i<ys.length) (hK:K (ys[i]:Int)):ar s (i:Int) 1 fun q=>Ld kI q w K:=by
 have hl:=hs.1
 simp only [List.length_map,ints,Nat.mul_one] at hl
 refine ar.rd hs (by omega) (by omega) fun q hq hc=>Ld.sc (s:= .int .i64) (ys[i]:Int) ?_ hK
 rw [hc];simp [vI,ints]
set_option maxRecDepth 20000 in
theorem Gt {l ys:List Nat} {s:Sl} {K:Sl→World→Prop} (h:Hp E w F) (hl:l.length=258) (hs:ab F (aA 1 s ((ints ys).map vI))) (hin: ∀x∈ys,x<258) (hlen:ys.length≤258)
  (hK: ∀s' w',Hp E w' (ak 2 s' ((gT (aP l ys)).flatMap eM)::F)→K s' w'):Cl Tryz.prog [kS] eV ⟨[.agg (ai .i64 l),.slice s.base s.len s.cap]⟩ w K:=by
 refine pU.ok _ _ _ _ ?_
 have hsl:=(h.al hs).1
 simp only [List.length_map,ints,Nat.mul_one] at hsl
 have hwl:(aP l ys).length=ys.length:=List.length_map _
 refine Nw.mk h fun b w1 h1=>⟨fun o i w'=> ∃k:Nat,i=(k:Int)∧k≤ys.length∧Hp E w' (ak 2 o ((gT ((aP l ys).take k)).flatMap eM)::aj b (.cells (ai .i64 l) 41 (0,0))::F),fun _ i _=>ys.length - i.toNat,⟨0,rfl,by omega,by simpa [gT] using h1.bJ 2⟩,?_⟩
 rintro o i w' ⟨k,rfl,hk,hh⟩
 refine aa.mk (fun hlt=> ?_) (fun hge=> ?_)
 ·have hlt:k<ys.length:=by have:=of_decide_eq_true hlt;omega
  have hx:=hin _ (List.getElem_mem hlt)
  refine EJ (hh.drop.drop.al hs) hlt ?_
  refine aI.rd (s:= .int .i64) hh.p1 (by omega) (by omega) _ (FE (by omega)) ?_
  have hw:(aP l ys)[k]'(by omega)=l.getD ys[k] 0:=by simp [aP]
  refine CG (g:=eM) (x:=(l.getD ys[k] 0,true)) kT cH (by decide) rfl (mD _) hh (by rw [de,List.length_take];omega) (by rw [de,List.length_take];omega) fun s' w3 h3 _=> ?_
  rw [ag (by omega)]
  refine ⟨⟨k+1,rfl,by omega,?_⟩,by dsimp only;omega⟩
  rw [FP (by omega),hw];exact h3
 ·have hge:k=ys.length:=by have:=of_decide_eq_false hge;omega
  subst hge
  rw [List.take_of_length_le (by omega)] at hh
  exact hK _ _ hh.p1.drop
end
end Go.Proofs.YtcdpblipagajiaaGreat
set_option maxRecDepth 20000
namespace Go.Srt
def eN (ys:List Nat) (f:Nat→Nat):List Nat:=(List.range 258).map fun s=>if s∈ys then f (ys.idxOf s) else 0
theorem fQ (ys:List Nat) (f:Nat→Nat):(eN ys f).length=258:=by simp [eN]
theorem D3 {ys:List Nat} {f:Nat→Nat} {s:Nat} (hs:s<258):(eN ys f).getD s 0=if s∈ys then f (ys.idxOf s) else 0:=by
 unfold eN
 rw [List.getD_eq_getElem?_getD,List.getElem?_map,List.getElem?_range hs];rfl
theorem qF: ∀{ys:List Nat} (_:ys.Nodup) {i:Nat} (hi:i<ys.length),ys.idxOf ys[i]=i
 |y::ys,h,0,_=>by simp [List.idxOf_cons]
 |y::ys,h,i+1,hi=>by
  obtain ⟨h1,h2⟩:=List.nodup_cons.1 h
  have hi':i<ys.length:=by simpa using hi
  have hne: ¬y=ys[i]:=fun e=>h1 (e▸List.getElem_mem hi')
  have:=qF h2 hi'
  have e:(y==ys[i])=false:=by simpa using hne
  simp only [List.getElem_cons_succ,List.idxOf_cons,this,e,cond_false]
theorem u5 {ys:List Nat} {f:Nat→Nat} (hn:ys.Nodup) (hin: ∀s∈ys,s<258) {i:Nat} (hi:i<ys.length):(eN ys f).getD ys[i] 0=f i:=by
 rw [D3 (hin _ (List.getElem_mem hi)),if_pos (List.getElem_mem hi),qF hn hi]
theorem qo {ys:List Nat} {f g:Nat→Nat} (h: ∀i,i<ys.length→f i=g i):eN ys f=eN ys g:=by
 unfold eN
 refine List.map_congr_left fun s _=> ?_
 by_cases hs:s∈ys
 ·rw [if_pos hs,if_pos hs,h _ (List.idxOf_lt_length_of_mem hs)]
 ·rw [if_neg hs,if_neg hs]
theorem BI {ys:List Nat} {f:Nat→Nat} {i v:Nat} (hn:ys.Nodup) (hi:i<ys.length):(eN ys f).set ys[i] v=eN ys (fun j=>if j=i then v else f j):=by
 refine List.ext_getElem (by simp [eN]) fun s h1 h2=> ?_
 have hs:s<258:=by rw [fQ] at h2;exact h2
 rw [List.getElem_set]
 unfold eN
 simp only [List.getElem_map,List.getElem_range]
 by_cases e:ys[i]=s
 ·rw [if_pos e]
  subst e
  rw [if_pos (List.getElem_mem hi),qF hn hi,if_pos rfl]
 ·rw [if_neg e]
  by_cases hm:s∈ys
  ·rw [if_pos hm,if_pos hm]
   have hlt:=List.idxOf_lt_length_of_mem hm
   have:ys.idxOf s≠i:=by
    intro e2
    apply e
    have:=List.getElem_idxOf hlt
    rw [←this]
    simp only [e2]
   rw [if_neg this]
  ·rw [if_neg hm,if_neg hm]
theorem Ff (ys:List Nat):eN ys (fun _=>0)=List.replicate 258 0:=by
 refine List.eq_replicate_iff.2 ⟨fQ ..,fun x hx=> ?_⟩
 obtain ⟨s,_,rfl⟩:=List.mem_map.1 hx
 split<;>rfl
theorem qD {l ys:List Nat} (h:bD l ys):ys.Nodup:=h.2.imp fun {a b} hab e=>by subst e;omega
theorem uy {l ys:List Nat} (h:bD l ys):Pm.qq (aP l ys):=List.Pairwise.map _ (fun _ _ hab=>hab) (h.2.imp fun {a b} hab=>by omega)
end Go.Srt
namespace Go.Proofs.YtcdpblipagajiaaGreat
open Go Go.Vc Go.Srt Go.Pm
section
variable {E w:World} {F:List HP}
theorem Ge {R:List It} {j:Nat} (h:2*j+1<R.length):aG (R.drop (2*j))=((R[2*j]'(by omega)).1+R[2*j+1].1,false)::aG (R.drop (2*(j+1))):=by
 rw [List.drop_eq_getElem_cons (show 2*j<R.length by omega),List.drop_eq_getElem_cons (show 2*j+1<R.length by omega),aG]
 rfl
theorem Er {R:List It} {j:Nat} (h: ¬2*j+1<R.length):aG (R.drop (2*j))= []:=by
 have:(aG (R.drop (2*j))).length=0:=by rw [cr,List.length_drop];omega
 exact List.length_eq_zero_iff.1 this
set_option maxRecDepth 20000 in
theorem I3 {f1 f2:Sl} {A R:List It} {K:Sl→World→Prop} (h:Hp E w F) (hA:ab F (aA 2 f1 (A.flatMap eM))) (hR:ab F (aA 2 f2 (R.flatMap eM))) (hcap:f1.len≤f1.cap)
  (hb: ∀x∈R,x.1≤2^60) (hlA:A.length≤2^20) (hlR:R.length≤2^20)
  (hK: ∀s' w',Hp E w' (ak 2 s' ((fY A (aG R)).flatMap eM)::F)→K s' w'):Cl Tryz.prog [kS] fV ⟨[.slice f1.base f1.len f1.cap,.slice f2.base f2.len f2.cap]⟩ w K:=by
 refine rn.ok _ _ _ _ ?_
 have la:=aA.len cH (by decide) (h.al hA)
 have lr:=aA.len cH (by decide) (h.al hR)
 have hpl:=cr R
 have htl:(fY A (aG R)).length=A.length+R.length/2:=by rw [BL,hpl]
 have hsz: ∀o X:List It,o++X=fY A (aG R)→o.length≤2^21:=fun o X e=>by
  have:=congrArg List.length e
  rw [List.length_append,htl] at this
  omega
 refine ⟨fun o k i w'=> ∃(a j:Nat) (l:List It),k=(a:Int)∧i=((2*j:Nat):Int)∧a≤A.length∧2*j≤R.length∧l++fY (A.drop a) (aG (R.drop (2*j)))=fY A (aG R)∧Hp E w' (ak 2 o (l.flatMap eM)::F),
  fun _ _ i _=>R.length - i.toNat,⟨0,0,[],rfl,rfl,by omega,by omega,by simp,h.bJ 2⟩,?_⟩
 rintro o k i w' ⟨a,j,l,rfl,rfl,ha,hj,heq,hh⟩
 have hll:=hsz _ _ heq
 rw [ag (x:=((2*j:Nat):Int)+1) (by omega)]
 refine aa.mk (fun hlt=> ?_) (fun hge=> ?_)
 ·have hlt:2*j+1<R.length:=by have:=of_decide_eq_true hlt;omega
  rw [Ge hlt] at heq
  have hx1:=hb _ (List.getElem_mem (show 2*j<R.length by omega))
  have hx2:=hb _ (List.getElem_mem hlt)
  have hd:Hp E {w' with drawn:=w'.drawn+1} (ak 2 o (l.flatMap eM)::F):=hh.drew
  refine ⟨dy E F,dy.rJ hd,?_⟩
  refine ar.GX (n:=2*j) cH (by decide) hd.drop hR rfl (by omega) fun p hp=> ?_
  refine ad.sc (s:= .int .i64) ((R[2*j]'(by omega)).1:Int) (fun w2 h2=>(h2.al (hp 0 (by decide))).trans (by simp [eM])) ?_
  refine ar.GX (n:=2*j+1) cH (by decide) hd.drop hR (by omega) hlt fun q hq=> ?_
  refine ad.sc (s:= .int .i64) (R[2*j+1].1:Int) (fun w2 h2=>(h2.al (hq 0 (by decide))).trans (by simp [eM])) ?_
  rw [ag (x:=((R[2*j]'(by omega)).1:Int)+(R[2*j+1].1:Int)) (by omega)]
  generalize hp1:(R[2*j]'(by omega)).1+R[2*j+1].1=p1 at heq
  have hp1':((R[2*j]'(by omega)).1:Int)+(R[2*j+1].1:Int)=(p1:Int):=by omega
  rw [hp1']
  refine Nw.mk hd fun b w3 h3=>⟨dy.Jf h3,?_⟩
  refine af.aC h3 rfl (mD (p1,false)) fun w4 h4=>⟨dy.Jf h4,?_⟩
  refine ⟨fun o k w'=> ∃(a:Nat) (l:List It),k=(a:Int)∧a≤A.length∧l++fY (A.drop a) ((p1,false)::aG (R.drop (2*(j+1))))=fY A (aG R)∧Hp E w' (ak 2 o (l.flatMap eM)::aj b (.cells ⟨eM (p1,false)⟩ 194 (0,0))::F),
   fun _ k _=>A.length - k.toNat,⟨a,l,rfl,ha,heq,h4.p1⟩,?_⟩
  rintro o k w5 ⟨a,l,rfl,ha,heq,hh⟩
  have hll:=hsz _ _ heq
  refine ao.mk hh fun w6 h6=> ?_
  rw [ag (x:=((2*j:Nat):Int)+2) (by omega)]
  have last:A.drop a= []∨(∃(_:a<A.length),¬A[a].1≤p1)→(l++ [(p1,false)])++fY (A.drop a) (aG (R.drop (2*(j+1))))=fY A (aG R):=by
   rintro (e|⟨hal,hgt⟩)
   ·rw [e,oC] at heq
    rw [e,oC,←heq];simp
   ·rw [List.drop_eq_getElem_cons hal,xr hgt] at heq
    rw [List.drop_eq_getElem_cons hal,←heq];simp
  refine aa.mk (fun hka=> ?_) (fun hka=> ?_)
  ·have hka:a<A.length:=by have:=of_decide_eq_true hka;omega
   refine ar.el (n:=a) cH (by decide) (h6.drop.drop.al hA) rfl hka fun p hp=> ?_
   refine Ld.sc (s:= .int .i64) (A[a].1:Int) (by rw [hp 0 (by decide)];simp [eM]) ?_
   rw [aq]
   refine Ld.aC h6.p1 (p1:Int) (by simp [eM]) ?_
   refine aa.mk (fun hle=> ?_) (fun hgt=> ?_)
   ·have hle:A[a].1≤p1:=by have:=of_decide_eq_true hle;omega
    rw [List.drop_eq_getElem_cons hka,yo hle] at heq
    refine ar.el (n:=a) cH (by decide) (h6.drop.drop.al hA) rfl hka fun p hp=> ?_
    refine Ld.st (ks:= [.int .i64,.bool]) ((A[a].1:Int),A[a].2,()) (fun j hj=>hp j hj) ?_
    refine CG (g:=eM) (x:=A[a]) kT cH (by decide) rfl (mD _) h6 (by omega) (by omega) fun s' w7 h7 _=> ?_
    rw [ag (by omega)]
    refine ⟨⟨a+1,l++ [A[a]],rfl,by omega,?_,h7⟩,by dsimp only;omega⟩
    rw [←heq];simp
   ·have hgt: ¬A[a].1≤p1:=by have:=of_decide_eq_false hgt;omega
    refine Ld.pw (ks:= [.int .i64,.bool]) h6.p1 ((p1:Int),false,()) rfl ?_
    refine CG (g:=eM) (x:=(p1,false)) kT cH (by decide) rfl (mD _) h6 (by omega) (by omega) fun s' w7 h7 _=> ?_
    exact ⟨⟨a,j+1,l++ [(p1,false)],rfl,by omega,ha,by omega,last (.inr ⟨hka,hgt⟩),h7.p1.drop⟩,by dsimp only;omega⟩
  ·have hka:A.drop a= []:=by
    have:=of_decide_eq_false hka
    exact List.drop_eq_nil_of_le (by omega)
   refine Ld.pw (ks:= [.int .i64,.bool]) h6.p1 ((p1:Int),false,()) rfl ?_
   refine CG (g:=eM) (x:=(p1,false)) kT cH (by decide) rfl (mD _) h6 (by omega) (by omega) fun s' w7 h7 _=> ?_
   exact ⟨⟨a,j+1,l++ [(p1,false)],rfl,by omega,ha,by omega,last (.inl hka),h7.p1.drop⟩,by dsimp only;omega⟩
 ·have hge: ¬2*j+1<R.length:=by have:=of_decide_eq_false hge;omega
  rw [Er hge,uU] at heq
  refine aZ.el (a:=a) (b:=A.length) (l:=A) cH la rfl (by rw [la]) ha (Nat.le_refl _) (by omega) (Int.le_refl _) fun s' hs' hl' _=> ?_
  have hd:=hs' w' (hh.drop.al hA)
  rw [List.take_of_length_le (by rw [List.length_drop];omega)] at hd
  have hdl:(A.drop a).length≤2^20:=by rw [List.length_drop];omega
  refine JB (g:=eM) kT cH (by decide) mD hh hd (by omega) (by omega) fun s2 w2 h2 _=>hK s2 w2 ?_
  rw [←heq];exact h2
end
end Go.Proofs.YtcdpblipagajiaaGreat
set_option maxRecDepth 20000
namespace Go.Pm
theorem rC {M:Nat}: ∀{l:List It},(∀x∈l,x.1≤M)→∀x∈aG l,x.1≤2*M
 | [],_,x,h=>by simp [aG] at h
 | [_],_,x,h=>by simp [aG] at h
 |a::b::l,hl,x,h=>by
  rw [aG] at h
  rcases List.mem_cons.1 h with rfl|h
  ·have:=hl a (by simp);have:=hl b (by simp);simp only;omega
  ·exact rC (fun y hy=>hl y (by simp [hy])) x h
theorem vT {ws:List Nat} {M:Nat} (h: ∀x∈ws,x≤M): ∀k,∀x∈row ws k,x.1≤M*2^k
 |0,x,hx=>by
  obtain ⟨y,hy,rfl⟩:=List.mem_map.1 hx
  simpa using h y hy
 |k+1,x,hx=>by
  rcases List.mem_append.1 ((yP _ _).mem_iff.1 hx) with hx|hx
  ·obtain ⟨y,hy,rfl⟩:=List.mem_map.1 hx
   have:=h y hy
   have:=Nat.le_mul_of_pos_right M (Nat.two_pow_pos (k+1))
   simp only;omega
  ·have:=rC (vT h k) x hx
   rw [Nat.pow_succ];rw [←Nat.mul_assoc];omega
theorem o5 (ws:List Nat): ∀k,(row ws k).length≤2*ws.length
 |0=>by rw [row,de];omega
 |k+1=>by
  have:=o5 ws k
  rw [rh];omega
theorem Cg {l:List It} {j:Nat} (h:j<l.length):aX (l.take (j+1))=aX (l.take j)+if l[j].2=true then 1 else 0:=by
 unfold aX
 rw [List.take_add_one,List.filter_append,List.length_append,List.getElem?_eq_getElem h]
 congr 1
 by_cases e:l[j].2=true
 ·rw [if_pos e];simp [e]
 ·rw [if_neg e];simp [e]
theorem th {l:List It} {a b:Nat} (h:a≤b):aX (l.take a)≤aX (l.take b):=by
 have:=List.take_append_drop a (l.take b)
 rw [List.take_take,Nat.min_eq_left h] at this
 have h2:=congrArg aX this
 rw [mg] at h2
 omega
theorem FU (ws:List Nat) {L:Nat} (hL:1≤L) (i:Nat):lenOf ws L i≤L:=by
 unfold lenOf
 split
 ·exact hL
 ·have:=xi ws (L - 1) (2*ws.length - 2) i
  omega
theorem DA {ws:List Nat} (h:qq ws) (k m:Nat) (hm:m≤(row ws k).length):aX ((row ws k).take m)≤ws.length:=by
 cases k with
 |zero=>
  rw [row,de] at hm
  rw [(sy m hm).1];exact hm
 |succ k=>exact (l0 h k m hm).2.1
end Go.Pm
namespace Go.Proofs.YtcdpblipagajiaaGreat
open Go Go.Vc Go.Srt Go.Pm
section
variable {E w:World} {F:List HP}
theorem pH {b:Nat} {t:TypeId} {l:List Nat} {K:Array Value→World→Prop} (h:Hp E w (aj b (.cells (ai .u8 l) t (0,0))::F)) (hl:l.length=258) (hK: ∀w',Hp E w' (aj b (.cells (ai .u8 l) t (0,0))::F)→K (ai .u8 l) w'):
  Ld (.arr 258) ⟨b,0,none⟩ w fun x=>aw 258 ⟨b,0,none⟩ x w fun w2=>Ld (.arr 258) ⟨b,0,none⟩ w2 fun r=>K r w2:=
 Ld.arr h (by rw [aM,hl]) (aw.aC h (by rw [aM,hl]) (by rw [aM,hl]) fe fun w2 h2=>Ld.arr h2 (by rw [aM,hl]) (hK w2 h2))
def mV (s:Sl):List Value:= [.slice s.base s.len s.cap]
theorem nZ: ∀x,(mV x).length=1:=fun _=>rfl
theorem Jc: ∀x,∀y∈mV x,ay y=true:=by
 intro x y hy
 have:y= .slice x.base x.len x.cap:=by simpa [mV] using hy
 rw [this];rfl
theorem HN:bK Tryz.prog 191 189 1 24:=bK.of (by kernel_rfl) (by kernel_rfl)
def tq (ws:List Nat) (rs:List Sl) (G:List HP):Prop:= ∀j (hj:j<rs.length),ab G (aA 2 rs[j] ((row ws j).flatMap eM))∧rs[j].len≤rs[j].cap
theorem tq.more {ws:List Nat} {rs:List Sl} {G:List HP} {s:Sl} (h:tq ws rs G) (hc:s.len≤s.cap):tq ws (rs++ [s]) (ak 2 s ((row ws rs.length).flatMap eM)::G):=by
 intro j hj
 rcases Nat.lt_or_ge j rs.length with hlt|hge
 ·rw [List.getElem_append_left hlt]
  exact ⟨(h j hlt).1.cons,(h j hlt).2⟩
 ·have:j=rs.length:=by simp at hj;omega
  subst this
  simp only [List.getElem_append_right (Nat.le_refl _),Nat.sub_self,List.getElem_cons_zero]
  exact ⟨ab.own,hc⟩
theorem Ip {L:Nat} (hL:L≤15):a8 .i64 1 (u64 (L:Int))=((2^L:Nat):Int)∧(0:Int)≤u64 (L:Int):=by
 rw [mo (by omega)]
 have hp:2^L≤2^15:=Nat.pow_le_pow_right (by decide) hL
 have hm:IntKind.max .i64=9223372036854775807:=rfl
 have:=dJ (k:= .i64) (a:=1) (b:=L) (by have:IntKind.bits .i64=64:=rfl;omega) (by rw [hm];omega)
 rw [Nat.one_mul] at this
 exact ⟨this,by omega⟩
theorem De {l ys:List Nat} (hm:nJ l): ∀x∈aP l ys,x≤2147483647:=by
 intro x hx
 obtain ⟨s,_,rfl⟩:=List.mem_map.1 hx
 rw [List.getD_eq_getElem?_getD]
 cases h:l[s]? with
 |none=>simp
 |some y=>exact hm y (List.mem_of_getElem? h)
theorem KA {l ys:List Nat} (hm:nJ l) {k:Nat} (hk:k≤15): ∀x∈row (aP l ys) k,x.1≤2^60:=by
 intro x hx
 have h1:=vT (De (ys:=ys) hm) k x hx
 have hp:2^k≤2^15:=Nat.pow_le_pow_right (by decide) hk
 have:=Nat.mul_le_mul_left 2147483647 hp
 omega
set_option maxRecDepth 20000 in
theorem An {t:List Int} {L:Int} {K:Array Value→Int→World→Prop} (h:Hp E w F) (hl:t.length=258)
  (hK1:(bf t=false∨L<1∨15<L∨∃l,t=ints l∧(2:Int)^L.toNat<(used l).length)→∀w',Hp E w' F→K (ai .u8 (List.replicate 258 0)) 2 w')
  (hK2: ∀l ys w',t=ints l→nJ l→bD l ys→1≤L→L≤15→ys.length≤2^L.toNat→Hp E w' F→K (ai .u8 (eN ys (lenOf (aP l ys) L.toNat))) 0 w'):
  Cl Tryz.prog [.arr 258,kI] cQ ⟨[.agg (aT t),.int .i64 L]⟩ w K:=by
 refine oS.ok _ _ _ _ ?_
 rw [uh]
 simp only [ax]
 refine Nw.mk h fun b4 w1 h1=>Nw.mk h1 fun b6 w2 h2=>Ld.arr h2.p1 (by rw [dG,hl]) (Ev h2 hl (fun hv w3 h3=> ?_) (fun l hte hm hll ys s w3 hys h3=> ?_))
 ·refine Ld.arr h3.p1 (by rw [dG,hl]) (pX h3 hl fun w4 h4=>aa.t (by rw [hv];rfl) (pH h4 (by simp) fun w5 h5=>hK1 (.inl hv) w5 h5.drop.drop))
 ·subst hte
  have hlen:=Jt hll hys
  have hin:=Jn hll hys
  have hsl:s.len=ys.length:=by
   have:=(h3.al ab.own).1
   simp only [List.length_map,ints,Nat.mul_one] at this
   exact this.symm
  refine Ld.arr h3.p2 (by rw [dG,hl]) (pX h3 hl fun w4 h4=>aa.f (by rw [oZ hm];rfl) ?_)
  refine aa.mk (fun hlt=>pH h4.p1 (by simp) fun w5 h5=>hK1 (.inr (.inl (of_decide_eq_true hlt))) w5 h5.drop.drop.drop) (fun hge=> ?_)
  have hge:=of_decide_eq_false hge
  refine aa.mk (fun hgt=>pH h4.p1 (by simp) fun w5 h5=>hK1 (.inr (.inr (.inl (by have:=of_decide_eq_true hgt;omega)))) w5 h5.drop.drop.drop) (fun hle=> ?_)
  have hle:=of_decide_eq_false hle
  obtain ⟨N,rfl⟩:=Int.eq_ofNat_of_zero_le (show 0≤L by omega)
  have hN:N≤15:=by omega
  have hN1:1≤N:=by omega
  obtain ⟨e1,e2⟩:=Ip hN
  rw [e1]
  refine ⟨e2,aa.mk (fun hgt=>pH h4.p1 (by simp) fun w5 h5=>hK1 (.inr (.inr (.inr ⟨l,rfl,?_⟩))) w5 h5.drop.drop.drop) (fun hle2=> ?_)⟩
  ·have hgt:=of_decide_eq_true hgt
   rw [Int.toNat_natCast,←hys.1.length_eq,←hsl]
   rw [show (2:Int)^N=((2^N:Nat):Int) by norm_cast]
   exact hgt
  have hle2:ys.length≤2^N:=by have:=of_decide_eq_false hle2;omega
  have hasc:=uy hys
  have hwl:(aP l ys).length=ys.length:=List.length_map _
  have hnd:=qD hys
  have hin2: ∀s∈ys,s<258:=fun s hs=>(hin s hs).1
  have fine: ∀w',Hp E w' F→K (ai .u8 (eN ys (lenOf (aP l ys) N))) 0 w':=fun w' h'=>hK2 l ys w' rfl hm hys (by omega) (by omega) (by rw [Int.toNat_natCast];exact hle2) h'
  rw [←Ff ys] at h4
  refine aa.mk (fun h1=> ?_) (fun h1=> ?_)
  ·have h1:ys.length=1:=by have:(s.len:Int)=1:=by simpa using h1
                           omega
   refine EJ (i:=0) (h4.al ab.own) (by omega) ?_
   have hx:=hin2 _ (List.getElem_mem (show 0<ys.length by omega))
   refine aI.wr h4.p1 (by omega) (by omega) (by rw [aM,fQ]) rfl fun w5 h5=> ?_
   rw [Int.toNat_natCast] at h5
   have e:=xJ (k:= .u8) (l:=eN ys fun _=>0) (i:=ys[0]) (x:=1)
   rw [show (Value.int .u8 1)= .int .u8 ((1:Nat):Int) from rfl,e,BI hnd (by omega)] at h5
   have e3:eN ys (fun j=>if j=0 then 1 else 0)=eN ys (lenOf (aP l ys) N):=qo fun i hi=>by
    have:i=0:=by omega
    subst this
    unfold lenOf
    rw [if_pos rfl,if_pos (by omega)]
   rw [e3] at h5
   exact pH h5 (fQ ..) fun w6 h6=>fine w6 h6.drop.drop.drop
  ·have h1:ys.length≠1:=by
    intro e
    have: ¬(s.len:Int)=1:=by simpa using h1
    omega
   rw [BK] at h4
   refine Ld.arr h4.p2 (by rw [aM,hll]) (Gt h4 hll ab.own hin2 hlen fun s0 w5 h5=>Nw.mk h5 fun b38 w6 h6=> ?_)
   have hc0:=h5.dM
   refine ⟨fun rows k w'=> ∃(rs:List Sl) (G:List HP),k=(rs.length:Int)∧1≤rs.length∧rs.length≤N∧tq (aP l ys) rs G∧
     Hp E w' (ak 1 rows (rs.flatMap mV)::aj b6 (.cells (ai .u8 (eN ys fun _=>0)) 36 (0,0))::ak 1 s ((ints ys).map vI)::aj b4 (.cells (ai .i64 l) 41 (0,0))::(G++F)),
    fun _ k _=>N - k.toNat,⟨[s0],[ak 2 s0 ((gT (aP l ys)).flatMap eM)],rfl,Nat.le_refl _,hN1,?_,?_⟩,?_⟩
   ·intro j hj
    have:j=0:=by simp at hj;omega
    subst this
    exact ⟨ab.own,hc0⟩
   ·exact ((h6.iw (sz:=1) (n:=1) rfl).p1.q4).p2.p1
   rintro rows k w7 ⟨rs,G,rfl,hr1,hrN,hrs,hh⟩
   have hrl:=aA.len nZ (by decide) (hh.al ab.own)
   refine aa.mk (fun hlt=> ?_) (fun hge=> ?_)
   ·have hlt:rs.length<N:=by have:=of_decide_eq_true hlt;omega
    have hd:Hp E {w7 with drawn:=w7.drawn+1} _:=hh.drew
    have hrd: ∀w',Hp E w' (ak 1 rows (rs.flatMap mV)::aj b6 (.cells (ai .u8 (eN ys fun _=>0)) 36 (0,0))::ak 1 s ((ints ys).map vI)::aj b4 (.cells (ai .i64 l) 41 (0,0))::(G++F))→aA 1 rows (rs.flatMap mV) w':=fun w' h'=>h'.al ab.own
    have key: ∀(i:Nat) (hi:i<rs.length) {K:Addr→Prop},(∀p,(∀w,aA 1 rows (rs.flatMap mV) w→w.cell? p=some (.slice rs[i].base rs[i].len rs[i].cap))→K p)→ar rows (i:Int) 1 K:=by
     intro i hi K hK
     obtain ⟨p,hp,_⟩:=(hrd _ hd).2 i (by rw [cE nZ];omega)
     refine ⟨p,hp,by omega,by omega,hK _ fun w2 h2=> ?_⟩
     obtain ⟨q,hq,hc⟩:=h2.2 i (by rw [cE nZ];omega)
     have:q=p:=Option.some.inj (hq.symm.trans hp)
     subst this
     rw [Int.toNat_natCast,Nat.mul_one,hc]
     have:=ir nZ rs i 0 hi (by decide)
     rw [Nat.mul_one,Nat.add_zero] at this
     rw [←List.getElem?_eq_getElem,this];rfl
    have hr0:=hrs 0 (by omega)
    have hrk:=hrs (rs.length - 1) (by omega)
    refine ⟨aA 1 rows (rs.flatMap mV),hrd _ hd,?_⟩
    refine key 0 (by omega) fun p hp=>ad.sc (s:= .sl) rs[0] hp ?_
    rw [show i64 ((rs.length:Int) - 1)=((rs.length - 1:Nat):Int) by rw [ag (by omega)];omega]
    refine key (rs.length - 1) (by omega) fun q hq=>ad.sc (s:= .sl) rs[rs.length - 1] hq ?_
    have hlr:=o5 (aP l ys) (rs.length - 1)
    refine I3 hd (ab.cons (ab.cons (ab.cons (ab.cons hr0.1.CH)))) (ab.cons (ab.cons (ab.cons (ab.cons hrk.1.CH)))) hr0.2 (KA hm (by omega)) (by rw [row,de];omega) (by omega) fun s' w8 h8=> ?_
    have hcs:=h8.dM
    refine ⟨hrd _ h8.drop,Nw.mk h8 fun b53 w9 h9=>⟨hrd _ h9.drop.drop,?_⟩⟩
    refine rQ (ys:=mV s') (n:=1) HN (by decide) (.inl ⟨189,by kernel_rfl⟩) h9.p2 (.inl ⟨_,_,_,rfl,rfl,h9.al (ab.aC rfl rfl)⟩) rfl (Jc s') (by omega) (by omega) fun s2 w10 h10 _ hold=>⟨hold,?_⟩
    have e:rs.length - 1+1=rs.length:=by omega
    have er:fY (row (aP l ys) 0) (aG (row (aP l ys) (rs.length - 1)))=row (aP l ys) rs.length:=by
     conv=>rhs;rw [←e,row]
     rfl
    rw [er] at h10
    rw [ag (by omega)]
    refine ⟨⟨rs++ [s'],ak 2 s' ((row (aP l ys) rs.length).flatMap eM)::G,by simp,by simp,by simp;omega,hrs.more hcs,?_⟩,by dsimp only;omega⟩
    have h11:=h10.p1.drop
    rw [List.flatMap_append,show [s'].flatMap mV=mV s' by simp]
    exact h11.p1.q4
   ·have hge:rs.length=N:=by have:=of_decide_eq_false hge;omega
    have tot15: ∀i,lenOf (aP l ys) N i≤15:=fun i=>Nat.le_trans (FU _ hN1 i) hN
    have htot: ∀i,lenOf (aP l ys) N i=lv (aP l ys) (N - 1) (2*ys.length - 2) i:=fun i=>by
     unfold lenOf
     rw [if_neg (by omega),hwl]
    refine ⟨fun many k w'=> ∃f:Nat→Nat,(((k= -1∨many≤0)∧ -1≤k∧k<N∧∀i,i<ys.length→f i=lenOf (aP l ys) N i)∨
       (∃kk m:Nat,k=(kk:Int)∧kk<N∧many=(m:Int)∧m≤(row (aP l ys) kk).length∧∀i,i<ys.length→f i+lv (aP l ys) kk m i=lenOf (aP l ys) N i))∧
      Hp E w' (aj b6 (.cells (ai .u8 (eN ys f)) 36 (0,0))::ak 1 rows (rs.flatMap mV)::ak 1 s ((ints ys).map vI)::aj b4 (.cells (ai .i64 l) 41 (0,0))::(G++F)),
     fun _ k _=>(k+1).toNat,⟨fun _=>0,?_,hh.p1⟩,?_⟩
    ·rw [ag (x:=2*(s.len:Int)) (by omega),ag (x:=2*(s.len:Int) - 2) (by omega),ag (by omega)]
     rcases Nat.eq_zero_or_pos ys.length with h0|h0
     ·exact .inl ⟨.inr (by omega),by omega,by omega,fun i hi=>by omega⟩
     ·refine .inr ⟨N - 1,2*ys.length - 2,by omega,by omega,by omega,?_,fun i _=>by rw [htot,Nat.zero_add]⟩
      rw [←hwl]
      exact sP (N - 1) (by rw [hwl,show N - 1+1=N by omega];exact hle2)
    rintro many k w8 ⟨f,hf,hh⟩
    have done:(∀i,i<ys.length→f i=lenOf (aP l ys) N i)→Hp E w8 (aj b6 (.cells (ai .u8 (eN ys (lenOf (aP l ys) N))) 36 (0,0))::ak 1 rows (rs.flatMap mV)::ak 1 s ((ints ys).map vI)::aj b4 (.cells (ai .i64 l) 41 (0,0))::(G++F)):=fun hi=>by
     rw [←qo hi];exact hh
    refine aa.mk (fun hk=> ?_) (fun hk=> ?_)
    ·have hk:=of_decide_eq_true hk
     refine aa.mk (fun hmany=> ?_) (fun hmany=> ?_)
     ·have hmany:=of_decide_eq_true hmany
      rcases hf with ⟨h0,_⟩|⟨kk,m,rfl,hkN,rfl,hm2,hf⟩
      ·omega
      have hrk:=hrs kk (by omega)
      have hlr:=o5 (aP l ys) kk
      refine ar.el (n:=kk) nZ (by decide) (hh.p1.al ab.own) rfl (by omega) fun p hp=> ?_
      refine Ld.sc (s:= .sl) rs[kk] (by have:=hp 0 (by decide);rw [add_zero] at this;rw [this];rfl) ?_
      have hrt:ab (G++F) (aA 2 rs[kk] ((row (aP l ys) kk).flatMap eM)):=hrk.1.CH
      have hrl2:=aA.len cH (by decide) (hh.drop.drop.drop.drop.al hrt)
      refine aZ.el (a:=0) (b:=m) (l:=row (aP l ys) kk) cH hrl2 rfl rfl (by omega) hm2 (by omega) (Int.le_refl _) fun sm hsm hsml _=> ?_
      have hsm2:ab (G++F) (aA 2 sm (((row (aP l ys) kk).take m).flatMap eM)):=hrt.imp fun w' hw'=>by simpa using hsm w' hw'
      refine ⟨fun wh j w'=> ∃jj:Nat,j=(jj:Int)∧jj≤m∧wh=(aX ((row (aP l ys) kk).take jj):Int)∧
        Hp E w' (aj b6 (.cells (ai .u8 (eN ys fun i=>f i+if i<aX ((row (aP l ys) kk).take jj) then 1 else 0)) 36 (0,0))::ak 1 rows (rs.flatMap mV)::ak 1 s ((ints ys).map vI)::aj b4 (.cells (ai .i64 l) 41 (0,0))::(G++F)),
       fun _ j _=>m - j.toNat,⟨0,rfl,by omega,rfl,hh⟩,?_⟩
      rintro wh j w9 ⟨jj,rfl,hj,rfl,hh⟩
      have hlfm:=th (l:=row (aP l ys) kk) (show jj≤m from hj)
      have hlfn:=DA hasc kk m hm2
      refine aa.mk (fun hjm=> ?_) (fun hjm=> ?_)
      ·have hjm:jj<m:=by have:=of_decide_eq_true hjm;omega
       have hjr:jj<(row (aP l ys) kk).length:=by omega
       have hls:=Cg hjr
       have hlfm2:=th (l:=row (aP l ys) kk) (show jj+1≤m from hjm)
       refine ar.el (n:=jj) cH (by decide) (hh.drop.drop.drop.drop.al hsm2) rfl (by rw [List.length_take];omega) fun p hp=> ?_
       rw [List.getElem_take] at hp
       refine Ld.st (ks:= [.int .i64,.bool]) (((row (aP l ys) kk)[jj].1:Int),(row (aP l ys) kk)[jj].2,()) (fun j hj=>hp j hj) ?_
       refine Nw.mk hh fun b80 w10 h10=>af.aC h10 rfl (mD (row (aP l ys) kk)[jj]) fun w11 h11=> ?_
       rw [aq]
       refine Ld.aC h11 (row (aP l ys) kk)[jj].2 (by simp [eM]) ?_
       have h12:=h11.drop
       refine aa.mk (fun hlf=> ?_) (fun hlf=> ?_)
       ·rw [if_pos hlf] at hls
        have hwn:aX ((row (aP l ys) kk).take jj)<ys.length:=by omega
        have hx:=hin2 _ (List.getElem_mem hwn)
        have hfi:=hf _ hwn
        have h15:=tot15 (aX ((row (aP l ys) kk).take jj))
        have hlv:1≤lv (aP l ys) kk m (aX ((row (aP l ys) kk).take jj)):=by
         cases kk with
         |zero=>unfold lv whole;rw [if_pos (by omega)];exact Nat.le_refl _
         |succ kk=>unfold lv whole;rw [if_pos (by omega)];omega
        refine EJ (h12.p2.al ab.own) hwn ?_
        refine aI.rd (s:= .int .u8) h12 (by omega) (by omega) _ (FE (by rw [fQ];omega)) ?_
        rw [u5 hnd hin2 hwn,if_neg (by omega),Nat.add_zero]
        refine aI.wr h12 (by omega) (by omega) (by rw [aM,fQ]) rfl fun w13 h13=> ?_
        rw [Int.toNat_natCast,oY (by omega),show ((f (aX ((row (aP l ys) kk).take jj)):Int)+1)=((f (aX ((row (aP l ys) kk).take jj))+1:Nat):Int) by omega,xJ,BI hnd hwn] at h13
        rw [ag (x:=(aX ((row (aP l ys) kk).take jj):Int)+1) (by omega),ag (by omega)]
        refine ⟨⟨jj+1,rfl,by omega,by omega,?_⟩,by dsimp only;omega⟩
        rw [hls]
        have e:eN ys (fun i=>f i+if i<aX ((row (aP l ys) kk).take jj)+1 then 1 else 0)=eN ys (fun j=>if j=aX ((row (aP l ys) kk).take jj) then f (aX ((row (aP l ys) kk).take jj))+1 else f j+if j<aX ((row (aP l ys) kk).take jj) then 1 else 0):=qo fun i _=>by
         by_cases hi:i=aX ((row (aP l ys) kk).take jj)
         ·subst hi;rw [if_pos (by omega),if_pos rfl]
         ·rw [if_neg hi]
          congr 1
          by_cases hi2:i<aX ((row (aP l ys) kk).take jj)
          ·rw [if_pos hi2,if_pos (by omega)]
          ·rw [if_neg hi2,if_neg (by omega)]
        rw [e];exact h13
       ·rw [if_neg (by rw [hlf];simp)] at hls
        have hls:aX ((row (aP l ys) kk).take (jj+1))=aX ((row (aP l ys) kk).take jj):=hls
        rw [ag (by omega)]
        refine ⟨⟨jj+1,rfl,by omega,by rw [hls],?_⟩,by dsimp only;omega⟩
        rw [hls];exact h12
      ·have hjm:jj=m:=by have:=of_decide_eq_false hjm;omega
       subst hjm
       have hlj:aX ((row (aP l ys) kk).take jj)≤jj:=by
        unfold aX
        have:=List.length_filter_le (fun x:It=>x.2) ((row (aP l ys) kk).take jj)
        rw [List.length_take] at this;omega
       rw [ag (x:=(jj:Int) - _) (by omega),ag (x:=2*_) (by omega),ag (by omega)]
       refine ⟨⟨_,?_,hh⟩,by dsimp only;omega⟩
       cases kk with
       |zero=>
        refine .inl ⟨.inl (by omega),by omega,by omega,fun i hi=> ?_⟩
        have:=hf i hi
        unfold lv whole at this
        exact this
       |succ kk=>
        refine .inr ⟨kk,2*(jj - whole (aP l ys) (kk+1) jj),by omega,by omega,?_,(l0 hasc kk jj hm2).2.2.1,fun i hi=> ?_⟩
        ·show 2*((jj:Int) - (whole (aP l ys) (kk+1) jj:Int))=_
         have:whole (aP l ys) (kk+1) jj≤jj:=hlj
         omega
        ·have:=hf i hi
         rw [lv] at this
         rw [←this]
         unfold whole
         omega
     ·have hmany:=of_decide_eq_false hmany
      refine pH (done ?_) (fQ ..) fun w9 h9=>fine w9 h9.drop.drop.drop.drop.pC
      rcases hf with ⟨_,_,_,h0⟩|⟨kk,m,rfl,hkN,rfl,hm2,hf⟩
      ·exact h0
      ·intro i hi
       have h0:=hf i hi
       have hm0:m=0:=by omega
       subst hm0
       rw [uT hasc kk 0 i hm2 (by simp [whole,aX]),Nat.add_zero] at h0
       exact h0
    ·have hk:=of_decide_eq_false hk
     refine pH (done ?_) (fQ ..) fun w9 h9=>fine w9 h9.drop.drop.drop.drop.pC
     rcases hf with ⟨_,_,_,h0⟩|⟨kk,m,rfl,hkN,rfl,hm2,hf⟩
     ·exact h0
     ·omega
end
end Go.Proofs.YtcdpblipagajiaaGreat
set_option maxRecDepth 20000
namespace Go.Pm
structure Lf where
 w:Nat
 sym:Int
 one:Nat
 two:Nat
end Go.Pm
set_option maxRecDepth 20000
namespace Go.Proofs.YtcdpblipagajiaaGreat
open Go Go.Vc Go.Srt Go.Pm
section
variable {E w:World} {F:List HP}
abbrev RK:List Sc:= [.int .i64,.int .i64,.int .i64,.int .i64]
def tR (x:Lf):TT RK:=((x.w:Int),x.sym,(x.one:Int),(x.two:Int),())
end
end Go.Proofs.YtcdpblipagajiaaGreat
set_option maxRecDepth 20000
namespace Go.Srt
theorem tm (l:List Nat): ∃ys,bD l ys:=by
 have tr: ∀a b c:Nat,decide (l.getD a 0<l.getD b 0∨(l.getD a 0=l.getD b 0∧a≤b))=true→decide (l.getD b 0<l.getD c 0∨(l.getD b 0=l.getD c 0∧b≤c))=true→decide (l.getD a 0<l.getD c 0∨(l.getD a 0=l.getD c 0∧a≤c))=true:=by
  intro a b c h1 h2
  simp only [decide_eq_true_eq] at*;omega
 have to: ∀a b:Nat,(decide (l.getD a 0<l.getD b 0∨(l.getD a 0=l.getD b 0∧a≤b))||decide (l.getD b 0<l.getD a 0∨(l.getD b 0=l.getD a 0∧b≤a)))=true:=by
  intro a b
  simp only [Bool.or_eq_true,decide_eq_true_eq];omega
 have hs:=List.pairwise_mergeSort (le:=fun a b=>decide (l.getD a 0<l.getD b 0∨(l.getD a 0=l.getD b 0∧a≤b))) tr to (used l)
 have hp:=List.mergeSort_perm (used l) (fun a b=>decide (l.getD a 0<l.getD b 0∨(l.getD a 0=l.getD b 0∧a≤b)))
 have hn:(used l).Nodup:=List.Pairwise.filter _ (List.nodup_range (n:=l.length))
 have hn2:=hp.nodup_iff.2 hn
 exact ⟨_,hp,(hs.and hn2).imp fun {a b} h=>by have:=of_decide_eq_true h.1;have:=h.2;omega⟩
structure c7 (t:List Int) (L:Int) (u ys:List Nat) (N:Nat):Prop where
 eq:t=Proofs.YtcdpblipagajiaaGreat.ints u
 max:nJ u
 len:u.length=258
 ord:bD u ys
 lim:L=(N:Int)
 one:1≤N
 top:N≤15
 few:ys.length≤2^N
theorem yu {u v:List Nat} (h:Proofs.YtcdpblipagajiaaGreat.ints u=Proofs.YtcdpblipagajiaaGreat.ints v):u=v:=(List.map_inj_right (fun x y h=>by have h:(x:Int)=(y:Int):=h;omega)).1 h
end Go.Srt
namespace Go.Proofs.YtcdpblipagajiaaGreat
open Go Go.Vc Go.Srt Go.Pm
section
variable {E w:World} {F:List HP}
theorem HJ {t:List Int} {L:Int} {u ys:List Nat} {N:Nat} (hg:c7 t L u ys N): ¬(bf t=false∨L<1∨15<L∨∃l,t=ints l∧(2:Int)^L.toNat<(used l).length):=by
 obtain ⟨rfl,hm,hl,hys,rfl,h1,h2,h3⟩:=hg
 rintro (h|h|h|⟨l,h,h4⟩)
 ·rw [oZ hm] at h;cases h
 ·omega
 ·omega
 ·obtain rfl:=yu h
  rw [←hys.1.length_eq,Int.toNat_natCast,show (2:Int)^N=((2^N:Nat):Int) by norm_cast] at h4
  omega
def iz (u ys:List Nat) (N:Nat):List Nat:=eN ys (lenOf (aP u ys) N)
theorem tI (u ys:List Nat) (N:Nat):(iz u ys N).length=258:=fQ ..
theorem FV {t:List Int} {L:Int} {u ys:List Nat} {N:Nat} {K:Array Value→Int→World→Prop} (hg:c7 t L u ys N) (h:Hp E w F) (hK: ∀w',Hp E w' F→K (ai .u8 (iz u ys N)) 0 w'):Cl Tryz.prog [.arr 258,kI] cQ ⟨[.agg (aT t),.int .i64 L]⟩ w K:=by
 refine An h (by rw [hg.eq,fh,hg.len]) (fun hb=>absurd hb (HJ hg)) fun l zs w' h0 hm hzs h1 h2 h3 h'=> ?_
 have:l=u:=yu (h0.symm.trans hg.eq)
 subst this
 obtain rfl:=Fy hzs hg.ord
 have hk:=hK w' h'
 rw [hg.lim,Int.toNat_natCast]
 exact hk
end
end Go.Proofs.YtcdpblipagajiaaGreat
namespace Go.Srt
open Go.Pm
theorem Fg (ys:List Nat) (g:Nat→Nat):(ys.map g).sum=ae ys.length fun i=>g (ys.getD i 0):=by
 unfold ae
 congr 1
 refine List.ext_getElem (by simp) fun i h1 h2=> ?_
 have hi:i<ys.length:=by simpa using h1
 simp [hi]
theorem E0 {u ys:List Nat} {f:Nat→Nat} (hl:u.length=258) (hys:bD u ys) (hf: ∀i,i<ys.length→1≤f i):used (eN ys f)=used u:=by
 unfold used
 rw [fQ,hl]
 refine List.filter_congr fun s hs=> ?_
 have hs:s<258:=by simpa using hs
 rw [D3 hs]
 have hm:s∈ys↔0<u.getD s 0:=by
  rw [hys.1.mem_iff,dH,hl]
  exact ⟨fun h=>h.2,fun h=>⟨hs,h⟩⟩
 by_cases h:s∈ys
 ·have:=hf _ (List.idxOf_lt_length_of_mem h)
  rw [if_pos h,decide_eq_true (hm.1 h),decide_eq_true (by omega)]
 ·rw [if_neg h,decide_eq_false (fun h'=>h (hm.2 h'))];rfl
theorem Ez {u ys:List Nat} {f:Nat→Nat} (hl:u.length=258) (hys:bD u ys) (hf: ∀i,i<ys.length→1≤f i∧f i≤15):aV (eN ys f)=ae ys.length fun i=>2^(15 - f i):=by
 have hin: ∀s∈ys,s<258:=fun s hs=>by have:=(dH.1 (hys.1.mem_iff.1 hs)).1;omega
 rw [vx,E0 hl hys fun i hi=>(hf i hi).1,←(hys.1.map _).sum_nat,Fg]
 refine lF fun i hi=> ?_
 rw [q5 hi,u5 (qD hys) hin hi]
 have:=hf i hi
 unfold wt
 rw [if_neg (by omega),if_neg (by omega)]
section
variable {t:List Int} {L:Int} {u ys:List Nat} {N:Nat}
theorem c7.wl (hg:c7 t L u ys N):(aP u ys).length=ys.length:=List.length_map _
theorem c7.Ci (hg:c7 t L u ys N) {i:Nat} (hi:i<ys.length):1≤lenOf (aP u ys) N i∧lenOf (aP u ys) N i≤N:=
 Fb (uy hg.ord) hg.one (by rw [hg.wl];exact hg.few) (by rw [hg.wl];exact hi)
theorem K9:2^15=32768:=by decide
theorem c7.KW (hg:c7 t L u ys N) (hn:2≤ys.length):aV (Proofs.YtcdpblipagajiaaGreat.iz u ys N)=32768:=by
 have hN:=hg.top
 have h1:=hg.one
 have e:=Ez (f:=lenOf (aP u ys) N) hg.len hg.ord fun i hi=>by have:=hg.Ci hi;omega
 have hk:=xV (uy hg.ord) (N - 1) (by rw [hg.wl];exact hn) (by rw [hg.wl,show N - 1+1=N by omega];exact hg.few)
 rw [hg.wl,show N - 1+1=N by omega] at hk
 unfold Proofs.YtcdpblipagajiaaGreat.iz
 rw [e,lF (g:=fun i=>2^(15 - N)*2^(N - lv (aP u ys) (N - 1) (2*ys.length - 2) i)) fun i hi=>by
  have:=hg.Ci hi
  have e2:lenOf (aP u ys) N i=lv (aP u ys) (N - 1) (2*ys.length - 2) i:=by
   unfold lenOf;rw [if_neg (by rw [hg.wl];omega),hg.wl]
  rw [e2] at this⊢
  rw [←Nat.pow_add,show 15 - N+(N - lv (aP u ys) (N - 1) (2*ys.length - 2) i)=15 - lv (aP u ys) (N - 1) (2*ys.length - 2) i by omega],Fc,hk,←Nat.pow_add,show 15 - N+N=15 by omega,K9]
theorem c7.bytes (hg:c7 t L u ys N): ∀y∈Proofs.YtcdpblipagajiaaGreat.iz u ys N,y<256:=by
 intro y hy
 obtain ⟨s,_,rfl⟩:=List.mem_map.1 hy
 have hN:=hg.top
 split
 ·rename_i h
  have:=hg.Ci (List.idxOf_lt_length_of_mem h)
  omega
 ·decide
theorem c7.at (hg:c7 t L u ys N) {i:Nat} (hi:i<ys.length):(Proofs.YtcdpblipagajiaaGreat.iz u ys N).getD ys[i] 0=lenOf (aP u ys) N i:=
 u5 (qD hg.ord) (fun s hs=>by have:=(dH.1 (hg.ord.1.mem_iff.1 hs)).1;have:=hg.len;omega) hi
end
end Go.Srt
set_option maxRecDepth 20000
namespace Go.Sym
theorem p7: ∀(b L:List Nat) (r:Nat),a6 L→(∀x∈b,x<256)→(b≠ []∨0<r)→∃s∈bV L r b,s<257
 | [],L,r,_,_,h=>by
  have hr:0<r:=by
   rcases h with h|h
   ·exact absurd rfl h
   ·exact h
  rw [jK,l5 hr]
  exact ⟨(r - 1) % 2,by simp,by omega⟩
 |c::b,L,r,hL,hb,_=>by
  by_cases h0:L.idxOf c=0
  ·rw [iI h0]
   exact p7 b _ _ (hL.take (by decide)) (fun x hx=>hb x (List.mem_cons_of_mem _ hx)) (.inr (by omega))
  ·rw [jw h0]
   have:=hL.idx (hb c List.mem_cons_self)
   exact ⟨L.idxOf c+1,by simp,by omega⟩
theorem E4 {b:List Nat} (h:b≠ []) (hb: ∀x∈b,x<256): ∃s∈syms b,s<257:=p7 b _ 0 a6.range hb (.inl h)
theorem FG (b:List Nat):257∈syms b:=by unfold syms bV;simp
theorem BO (n:Nat):(bL n).length≤n:=by
 induction n using Nat.strongRecOn with
 |ind n ih=>
  by_cases h:n=0
  ·subst h;rw [ma];exact Nat.le_refl _
  ·rw [l5 (by omega),List.length_cons]
   have:=ih ((n - 1)/2) (by omega)
   omega
theorem mc: ∀(b L:List Nat) (r:Nat),(bV L r b).length≤r+b.length+1
 | [],L,r=>by
  rw [jK,List.length_append]
  have:=BO r
  simp;omega
 |c::b,L,r=>by
  by_cases h0:L.idxOf c=0
  ·rw [iI h0]
   have:=mc b (bu L 0) (r+1)
   rw [List.length_cons];omega
  ·rw [jw h0,List.length_append,List.length_cons,List.length_cons]
   have:=mc b (bu L (L.idxOf c)) 0
   have:=BO r
   omega
theorem mj (b:List Nat):(syms b).length≤b.length+1:=by
 have:=mc b (List.range 256) 0
 unfold syms;omega
end Go.Sym
namespace Go.aj
open Go.Inc Go.Srt Go.Sym Go.Bits Go.Tab Go.Bw Go.Pm
def jT (ss:List Nat):List Nat:=(List.range 258).map fun s=>ss.count s
theorem jZ (ss:List Nat):(jT ss).length=258:=by unfold jT;simp
theorem BH (ss:List Nat) {s:Nat} (h:s<258):(jT ss).getD s 0=ss.count s:=by
 unfold jT
 rw [List.getD_eq_getElem?_getD,List.getElem?_map,List.getElem?_range h];rfl
theorem uq {ss:List Nat} (h:ss.length≤2147483647):nJ (jT ss):=fun x hx=>by
 obtain ⟨s,_,rfl⟩:=List.mem_map.1 hx
 exact Nat.le_trans List.count_le_length h
theorem dH {u:List Nat} {s:Nat}:s∈used u↔s<u.length∧0<u.getD s 0:=by
 unfold used
 rw [List.mem_filter,List.mem_range,decide_eq_true_iff]
theorem ur {u ys:List Nat} (h:bD u ys) {s:Nat}:s∈ys↔s<u.length∧0<u.getD s 0:=by rw [h.1.mem_iff,dH]
theorem Ik {u ys:List Nat} (hl:u.length=258) (h:bD u ys):ys.length≤258:=by
 rw [h.1.length_eq,←hl]
 unfold used
 exact Nat.le_trans (List.length_filter_le ..) (by simp)
theorem Bo {u ys:List Nat} (hl:u.length=258) (hm:nJ u) (hys:bD u ys):c7 (Proofs.YtcdpblipagajiaaGreat.ints u) 15 u ys 15 where
 eq:=rfl
 max:=hm
 len:=hl
 ord:=hys
 lim:=rfl
 one:=by decide
 top:=by decide
 few:=Nat.le_trans (Ik hl hys) (by decide)
theorem Be {u ys last:List Nat} (hl:u.length=258) (hm:nJ u) (hys:bD u ys) (h257:0<u.getD 257 0) (hs: ∃s,s<257∧0<u.getD s 0) (hg: ∀s∈syms last,0<u.getD s 0) (hb: ∀x∈last,x<256):
  nK (Proofs.YtcdpblipagajiaaGreat.iz u ys 15) last:=by
 have g:=Bo hl hm hys
 have hpos: ∀s,s<258→0<u.getD s 0→0<(Proofs.YtcdpblipagajiaaGreat.iz u ys 15).getD s 0:=by
  intro s h1 h2
  have hmem:s∈ys:=(ur hys).2 ⟨by omega,h2⟩
  obtain ⟨i,hi,e⟩:=List.mem_iff_getElem.1 hmem
  have h3:=g.at hi
  have h4:=(g.Ci hi).1
  rw [e] at h3
  omega
 have h2:2≤ys.length:=by
  obtain ⟨s,h1,h3⟩:=hs
  have m1:s∈ys:=(ur hys).2 ⟨by omega,h3⟩
  have m2:257∈ys:=(ur hys).2 ⟨by omega,h257⟩
  match ys,m1,m2 with
  | [a],m1,m2=>
   rw [List.mem_singleton] at m1 m2
   omega
  |_::_::_,_,_=>simp
 refine ⟨Proofs.YtcdpblipagajiaaGreat.tI _ _ _,lW.2 ⟨g.KW h2,hpos 257 (by decide) h257⟩,fun s h=> ?_⟩
 have:=qX hb s h
 exact ⟨by omega,hpos s (by omega) (hg s h)⟩
noncomputable def Cc (u:List Nat):List Nat:=Classical.choose (tm u)
theorem uO (u:List Nat):bD u (Cc u):=Classical.choose_spec (tm u)
noncomputable def tM (ss:List Nat):List Nat:=Proofs.YtcdpblipagajiaaGreat.iz (jT ss) (Cc (jT ss)) 15
theorem D9 (ss:List Nat):(tM ss).length=258:=Proofs.YtcdpblipagajiaaGreat.tI _ _ _
noncomputable def fZ (x:List Nat):List Nat:=tM (syms (aW x.reverse))
theorem Cn {ss:List Nat} (h:ss.length≤2147483647):c7 (Proofs.YtcdpblipagajiaaGreat.ints (jT ss)) 15 (jT ss) (Cc (jT ss)) 15:=Bo (jZ ss) (uq h) (uO _)
theorem lG {x:List Nat} (h0:0<x.length) (hl:x.length≤1000000) (hx: ∀c∈x,c<256):nK (fZ x) (aW x.reverse):=by
 have hb:=Stm.Hb hx
 have hn:aW x.reverse≠ []:=by
  intro e
  have:=congrArg List.length e
  rw [cY,List.length_reverse,List.length_nil] at this;omega
 have hlen:(syms (aW x.reverse)).length≤2147483647:=by
  have:=mj (aW x.reverse)
  rw [cY,List.length_reverse] at this;omega
 have hp: ∀s∈syms (aW x.reverse),0<(jT (syms (aW x.reverse))).getD s 0:=by
  intro s h
  have:=qX hb s h
  rw [BH _ (by omega)]
  exact List.count_pos_iff.2 h
 obtain ⟨s,hs,hlt⟩:=E4 hn hb
 exact Be (jZ _) (uq hlen) (uO _) (hp 257 (FG _)) ⟨s,hlt,hp s hs⟩ hp hb
theorem H4 {ss:List Nat} (h: ∀s∈ss,s≤257):Hs.gV (List.replicate 258 0) (Proofs.YtcdpblipagajiaaGreat.ints ss)=Proofs.YtcdpblipagajiaaGreat.ints (jT ss):=by
 have hall:(Proofs.YtcdpblipagajiaaGreat.ints ss).all Hs.lA=true:=by
  refine List.all_eq_true.2 fun z hz=> ?_
  obtain ⟨s,hs,rfl⟩:=List.mem_map.1 hz
  have:=h s hs
  exact Hs.n4.2 (by omega)
 refine List.ext_getElem? fun i=> ?_
 have hl:(Hs.gV (List.replicate 258 0) (Proofs.YtcdpblipagajiaaGreat.ints ss)).length=258:=by rw [Hs.oe];simp
 by_cases hi:i<258
 ·have h1:=Hs.qQ (zs:=Proofs.YtcdpblipagajiaaGreat.ints ss) (t:=List.replicate 258 0) hall (by simp) i
  rw [List.getD_eq_getElem?_getD,List.getElem?_eq_getElem (by omega)] at h1
  rw [List.getElem?_eq_getElem (by omega)]
  have h2:=BH ss hi
  rw [List.getD_eq_getElem?_getD,List.getElem?_eq_getElem (by rw [jZ];exact hi)] at h2
  have h4:(Proofs.YtcdpblipagajiaaGreat.ints (jT ss))[i]? =some (((jT ss)[i]'(by rw [jZ];exact hi):Nat):Int):=by
   unfold Proofs.YtcdpblipagajiaaGreat.ints
   rw [List.getElem?_map,List.getElem?_eq_getElem (by rw [jZ];exact hi)];rfl
  rw [h4]
  simp only [Option.getD_some] at h1 h2
  rw [h1,h2]
  have h3:((Proofs.YtcdpblipagajiaaGreat.ints ss).count (i:Int))=ss.count i:=by
   unfold Proofs.YtcdpblipagajiaaGreat.ints
   rw [List.count_eq_countP,List.countP_map,List.count_eq_countP]
   refine List.countP_congr fun x _=> ?_
   simp only [Function.comp,beq_iff_eq]
   omega
  rw [h3,List.getD_eq_getElem?_getD,List.getElem?_replicate,if_pos hi]
  simp
 ·rw [List.getElem?_eq_none (by omega),List.getElem?_eq_none (by rw [Proofs.YtcdpblipagajiaaGreat.fh,jZ];omega)]
end Go.aj
namespace Go.Proofs.YtcdpblipagajiaaGreat
open Go Go.Vc
set_option maxRecDepth 100000
theorem zJ.ok (a:Sl) (R:(Array Value)→Int→World→Prop) w (h:
 Nw 41 ⟨List.replicate 258 (ni 0)⟩ w fun c b=>
 cO Pg 41 [] fun d=>
 Cl Pg [(.arr 258),kI] jo ⟨[(.agg d),(an a)]⟩ b fun f (g:Int) e=>
 aw 258 ⟨c,0,none⟩ f e fun h=>
 Ld (.arr 258) ⟨c,0,none⟩ h fun i=>
 R i g h):Cl Pg [(.arr 258),kI] j7 ⟨[(an a)]⟩ w R:=co Tryz.f92 [] h
theorem wG.ok (a:(Array Value)) (b:Sl) (R:(Array Value)→Int→World→Prop) w (h:
 Nw 41 a w fun d c=>
 Nw 41 ⟨List.replicate 258 (ni 0)⟩ c fun f e=>
 Ld (.arr 258) ⟨d,0,none⟩ e fun g=>
 Cl Pg [kB] ic ⟨[(.agg g)]⟩ e fun (i:Bool) h=>
 aa (!i)
 (Ld (.arr 258) ⟨d,0,none⟩ h fun j=>
 aw 258 ⟨f,0,none⟩ j h fun k=>
 Ld (.arr 258) ⟨f,0,none⟩ k fun l=>
 R l 2 k)
 (Ld (.arr 258) ⟨d,0,none⟩ h fun m=>
 Nw 41 ⟨List.replicate 258 (ni 0)⟩ h fun o n=>
 aw 258 ⟨o,0,none⟩ m n fun p=>
 dN 0 p fun q r (s:Int) t=>
 aa (decide (s<(b.len:Int)))
 (ar b s 1 fun u=>
 Ld kI u t fun (v:Int)=>
 Cl Pg [kB] jW ⟨[(ni v)]⟩ t fun (y:Bool) x=>
 aa (!y)
 (Ld (.arr 258) ⟨o,0,none⟩ x fun z=>
 aw 258 ⟨f,0,none⟩ z x fun a1=>
 Ld (.arr 258) ⟨f,0,none⟩ a1 fun b1=>
 R b1 2 a1)
 (aI ⟨d,0,none⟩ 258 v 1 fun c1=>
 Ld kI c1 x fun (d1:Int)=>
 aa (d1==2147483647)
 (Ld (.arr 258) ⟨o,0,none⟩ x fun e1=>
 aw 258 ⟨f,0,none⟩ e1 x fun f1=>
 Ld (.arr 258) ⟨f,0,none⟩ f1 fun g1=>
 R g1 2 f1)
 (aI ⟨d,0,none⟩ 258 v 1 fun h1=>
 Ld kI h1 x fun (i1:Int)=>
 aI ⟨d,0,none⟩ 258 v 1 fun j1=>
 St j1 (ni (i64 (i1+1))) x fun k1=>
 q (i64 (s+1)) k1∧r (i64 (s+1)) k1<r s t)))
 (Ld (.arr 258) ⟨d,0,none⟩ t fun l1=>
 aw 258 ⟨f,0,none⟩ l1 t fun m1=>
 Ld (.arr 258) ⟨f,0,none⟩ m1 fun n1=>
 R n1 0 m1))):Cl Pg [(.arr 258),kI] jo ⟨[(.agg a),(an b)]⟩ w R:=co Tryz.f137 [(12,[(16,kI)])] h
theorem sD.ok (a:(Array Value)) (R:Bool→World→Prop) w (h:
 Nw 41 a w fun c b=>
 Ld (.arr 258) ⟨c,0,none⟩ b fun d=>
 dN 0 b fun e f (g:Int) h=>
 aa (decide (g<258))
 (eH (.int .i64) d 258 g fun (i:Int)=>
 aa (decide (i<0))
 (R false h)
 (aa (decide (i>2147483647))
 (R false h)
 (e (i64 (g+1)) h∧f (i64 (g+1)) h<f g h)))
 (R true h)):Cl Pg [kB] ic ⟨[(.agg a)]⟩ w R:=co Tryz.f177 [(5,[(6,kI)])] h
theorem yW.ok (a:Int) (R:Bool→World→Prop) w (h:
 aa (decide (a≥0))
 (R (decide (a<258)) w)
 (R false w)):Cl Pg [kB] jW ⟨[(ni a)]⟩ w R:=co Tryz.f178 [] h
end Go.Proofs.YtcdpblipagajiaaGreat
set_option maxRecDepth 20000
namespace Go.Proofs.YtcdpblipagajiaaGreat
open Go Go.Vc Go.Hs
section
variable {E w:World} {F:List HP}
set_option maxRecDepth 20000 in
theorem Ft {t:List Int} {K:Bool→World→Prop} (h:Hp E w F) (ht:t.length=258) (hK: ∀w',Hp E w' F→K (bf t) w'):Cl Tryz.prog [kB] ic ⟨[.agg (Vc.aT t)]⟩ w K:=by
 refine sD.ok _ _ _ ?_
 have hT:(Vc.aT t).size=258:=by rw [Vc.dG,ht]
 refine Nw.mk h fun b3 w1 h1=>Ld.arr h1 hT ?_
 refine ⟨fun i w'=> ∃k:Nat,i=(k:Int)∧k≤258∧(∀j,j<k→0≤t.getD j 0∧t.getD j 0≤2147483647)∧Hp E w' F,fun i _=>258 - i.toNat,⟨0,rfl,by omega,fun j hj=>by omega,h1.drop⟩,?_⟩
 rintro i w2 ⟨k,rfl,hk,hg,hh⟩
 have bad: ∀hlt:k<258,¬(0≤t.getD k 0∧t.getD k 0≤2147483647)→K false w2:=fun hlt hb=>by
  have:=hK w2 hh
  rwa [GR (by omega) hb] at this
 refine aa.mk (fun hlt=> ?_) (fun hge=> ?_)
 ·have hlt:k<258:=by have:=of_decide_eq_true hlt;omega
  refine eH.aT rfl ht hlt ?_
  refine aa.mk (fun h0=>bad hlt (by have:=of_decide_eq_true h0;omega)) (fun h0=>aa.mk (fun h9=>bad hlt (by have:=of_decide_eq_true h9;omega)) (fun h9=> ?_))
  have h0:=of_decide_eq_false h0
  have h9:=of_decide_eq_false h9
  rw [ag (by omega)]
  refine ⟨⟨k+1,by omega,by omega,fun j hj=> ?_,hh⟩,by dsimp only;omega⟩
  by_cases e:j=k
  ·subst e;omega
  ·exact hg j (by omega)
 ·have hge:k=258:=by have:=of_decide_eq_false hge;omega
  subst hge
  have:=hK w2 hh
  rwa [gM.2 fun i hi=>hg i (by omega)] at this
theorem Kp {z:Int} {K:Bool→World→Prop} (hK:K (lA z) w):Cl Tryz.prog [kB] jW ⟨[.int .i64 z]⟩ w K:=by
 refine yW.ok _ _ _ ?_
 unfold lA at hK
 refine aa.mk (fun h=> ?_) (fun h=> ?_)
 ·rw [show decide (0≤z)=true from decide_eq_true (of_decide_eq_true h)] at hK;exact hK
 ·rw [show decide (0≤z)=false from decide_eq_false (of_decide_eq_false h)] at hK;exact hK
set_option maxRecDepth 20000 in
theorem Jo {t zs:List Int} {s:Sl} {K:Array Value→Int→World→Prop} (h:Hp E w F) (ht:t.length=258) (hs:ab F (aA 1 s (zs.map vI))) (hn:zs.length≤bR)
  (hK: ∀w',Hp E w' F→K (Vc.aT ((fw t zs).getD t)) (KJ (fw t zs)) w'):Cl Tryz.prog [.arr 258,kI] jo ⟨[.agg (Vc.aT t),.slice s.base s.len s.cap]⟩ w K:=by
 refine wG.ok _ _ _ _ ?_
 rw [Vc.uE]
 have hz:(Vc.aT (List.replicate 258 0)).size=258:=by rw [Vc.dG];exact List.length_replicate
 have hT: ∀{u:List Int},u.length=258→(Vc.aT u).size=258:=fun hu=>by rw [Vc.dG,hu]
 have hsl:=(h.al hs).1
 simp only [List.length_map,Nat.mul_one] at hsl
 rw [av] at hn
 have hKn:fw t zs=none→∀w',Hp E w' F→K (Vc.aT t) 2 w':=fun e w' h'=>by have:=hK w' h';rwa [e] at this
 refine Nw.mk h fun b4 w1 h1=>Nw.mk h1 fun b6 w2 h2=>Ld.arr h2.p1 (hT ht) (Ft h2 ht fun w3 h3=> ?_)
 refine aa.mk (fun hv=> ?_) (fun hv=> ?_)
 ·have hv:bf t=false:=by simpa using hv
  exact Ld.arr h3.p1 (hT ht) (aw.aC h3 hz (hT ht) Vc.jd fun w4 h4=>Ld.arr h4 (hT ht) (hKn (zo hv) w4 h4.drop.drop))
 have hv:bf t=true:=by simpa using hv
 refine Ld.arr h3.p1 (hT ht) (Nw.mk h3 fun b15 w4 h4=>aw.aC h4 hz (hT ht) Vc.jd fun w5 h5=> ?_)
 refine ⟨fun i w'=> ∃k:Nat,i=(k:Int)∧k≤zs.length∧(zs.take k).all lA=true∧bf (gV t (zs.take k))=true∧Hp E w' (aj b15 (.cells (Vc.aT t) 41 (0,0))::aj b6 (.cells (Vc.aT (List.replicate 258 0)) 41 (0,0))::aj b4 (.cells (Vc.aT (gV t (zs.take k))) 41 (0,0))::F),fun i _=>zs.length - i.toNat,⟨0,rfl,by omega,rfl,hv,h5⟩,?_⟩
 rintro i w6 ⟨k,rfl,hk,hg,hvk,hh⟩
 have bad:fw t zs=none→Ld (.arr 258) ⟨b15,0,none⟩ w6 fun x30=>aw 258 ⟨b6,0,none⟩ x30 w6 fun w31=>Ld (.arr 258) ⟨b6,0,none⟩ w31 fun res=>K res 2 w31:=fun e=>
  Ld.arr hh (hT ht) (aw.aC hh.p1 hz (hT ht) Vc.jd fun w7 h7=>Ld.arr h7 (hT ht) (hKn e w7 h7.drop.drop.drop))
 have hcl:(gV t (zs.take k)).length=258:=by rw [oe,ht]
 refine aa.mk (fun hlt=> ?_) (fun hge=> ?_)
 ·have hlt:k<zs.length:=by have:=of_decide_eq_true hlt;omega
  refine ar.nI (hh.al (ab.cons (ab.cons (ab.cons hs)))) rfl hlt (Kp ?_)
  refine aa.mk (fun hb=>bad (Gw hlt (by simpa using hb))) (fun hb=> ?_)
  have hb:lA (zs.getD k 0)=true:=by simpa using hb
  have hr:=n4.1 hb
  have hvz:=gM.1 hvk (zs.getD k 0).toNat (by omega)
  refine aI.aT hh.p2 (j:=(zs.getD k 0).toNat) (by omega) hcl (by omega) ?_
  refine aa.mk (fun hm=>bad (EL ht hlt hg hb (by have:=beq_iff_eq.1 hm;omega))) (fun hm=> ?_)
  have hm: ¬(gV t (zs.take k)).getD (zs.getD k 0).toNat 0=2147483647:=beq_eq_false_iff_ne.1 hm
  refine aI.aT hh.p2 (j:=(zs.getD k 0).toNat) (by omega) hcl (by omega) ?_
  rw [ag (x:=(gV t (zs.take k)).getD (zs.getD k 0).toNat 0+1) (by omega),ag (by omega)]
  refine aI.wT hh.p2 (j:=(zs.getD k 0).toNat) (by omega) hcl (by omega) fun w7 h7=>⟨⟨k+1,by omega,by omega,?_,?_,?_⟩,by dsimp only;omega⟩
  ·rw [o6 hlt,List.all_append,hg,List.all_cons,hb];rfl
  ·rw [o6 hlt,zU]
   refine gM.2 fun i hi=> ?_
   have:=gM.1 hvk i (by rw [uG] at hi;exact hi)
   rw [B6 hb hcl]
   split
   ·rename_i e
    rw [e,Int.toNat_natCast] at hm hvz
    omega
   ·omega
  ·rw [o6 hlt,zU]
   exact h7.q2
 ·have hge:k=zs.length:=by have:=of_decide_eq_false hge;omega
  subst hge
  rw [List.take_length] at hg hvk hh hcl
  refine Ld.arr hh.p2 (hT hcl) (aw.aC hh.p1 hz (hT hcl) Vc.jd fun w7 h7=>Ld.arr h7 (hT hcl) ?_)
  have:=hK w7 h7.drop.drop.drop
  rwa [xp hv hg hvk] at this
def eX:List Int:=List.replicate 258 0
theorem nU:eX.length=258:=List.length_replicate
theorem E7 {K:Array Value→Prop} (hK:K (Vc.aT eX)):cO Tryz.prog 41 [] K:=⟨Vc.aT eX,by kernel_rfl,hK⟩
set_option maxRecDepth 20000 in
theorem Km {zs:List Int} {s:Sl} {K:Array Value→Int→World→Prop} (h:Hp E w F) (hs:ab F (aA 1 s (zs.map vI))) (hn:zs.length≤bR)
  (hK: ∀w',Hp E w' F→K (Vc.aT ((fw eX zs).getD eX)) (KJ (fw eX zs)) w'):Cl Tryz.prog [.arr 258,kI] j7 ⟨[.slice s.base s.len s.cap]⟩ w K:=by
 refine zJ.ok _ _ _ ?_
 rw [Vc.uE]
 have hl:((fw eX zs).getD eX).length=258:=by
  cases ha:fw eX zs with
  |none=>exact nU
  |some u=>
   obtain ⟨_,_,rfl,_⟩:=DK ha
   show (gV eX zs).length=258
   rw [oe,nU]
 refine Nw.mk h fun b3 w1 h1=>E7 (Jo h1 nU (ab.cons hs) hn fun w2 h2=>aw.aC h2 (by rw [Vc.dG];exact List.length_replicate) (by rw [Vc.dG,hl]) Vc.jd fun w3 h3=>Ld.arr h3 (by rw [Vc.dG,hl]) (hK w3 h3.drop))
end
end Go.Proofs.YtcdpblipagajiaaGreat
namespace Go.Proofs.YtcdpblipagajiaaGreat
open Go Go.Vc Go.Srt Go.Inc Go.Sym Go.Tab Go.Hd Go.Bw Go.Bits Go.aj Go.Crc
section
variable {E w:World} {F:List HP}
set_option maxRecDepth 20000
theorem vu {s:Sl} {b:List Nat} {K:Sl→World→Prop} (h:Hp E w F) (hs:ab F (aA 1 s (b.map vB))) (hn:b.length≤bR) (hK: ∀s' w',Hp E w' (ak 1 s' (b.reverse.map vB)::F)→K s' w'):
  Cl Tryz.prog [kS] gH ⟨[.slice s.base s.len s.cap]⟩ w K:=by
 refine zh.ok _ _ _ ?_
 exact rb h hs (by omega) fun s' w h=>vR h hn fun w h=>hK s' w h
theorem E3 {s:Sl} {x:List Nat} {K:Sl→Int→World→Prop} (h:Hp E w F) (hs:ab F (aA 1 s (x.map vB))) (hb: ∀y∈x,y<256) (hn:x.length≤400000) (hK: ∀s' w',Hp E w' (ak 1 s' ((aW x.reverse).map vB)::F)→K s' (bU x.reverse:Int) w'):
  Cl Tryz.prog [kS,kI] kq ⟨[.slice s.base s.len s.cap]⟩ w K:=by
 refine zF.ok _ _ _ ?_
 refine vu h hs (by rw [av];omega) fun s' w h=> ?_
 exact GB h ab.own (fun y hy=>hb y (List.mem_reverse.1 hy)) (by simpa using hn) fun s2 w h=>hK s2 w h.eA
theorem DY {s:Sl} {ss:List Nat} {K:Array Value→World→Prop} (h:Hp E w F) (hs:ab F (aA 1 s ((ints ss).map vI))) (hb: ∀y∈ss,y≤257) (hn:ss.length≤1000000) (hK: ∀w',Hp E w' F→K (ai .u8 (tM ss)) w'):
  Cl Tryz.prog [.arr 258] jr ⟨[.slice s.base s.len s.cap]⟩ w K:=by
 refine wR.ok _ _ _ ?_
 have hct:=H4 hb
 have hall:(ints ss).all Hs.lA=true:=by
  refine List.all_eq_true.2 fun z hz=> ?_
  obtain ⟨y,hy,rfl⟩:=List.mem_map.1 hz
  have:=hb y hy
  exact Hs.n4.2 (by omega)
 have hmx:=uq (ss:=ss) (by omega)
 have hval:Hs.bf (ints (jT ss))=true:=oZ hmx
 have hadd:Hs.fw (List.replicate 258 0) (ints ss)=some (ints (jT ss)):=by
  rw [←hct]
  exact Hs.xp (by decide) hall (by rw [hct];exact hval)
 have hsz:(aT (ints (jT ss))).size=258:=by rw [dG,fh,jZ]
 have hsc:(aT (ints (jT ss))).toList.all ay=true:=List.all_eq_true.2 Vc.jd
 have hlen:=D9 ss
 have hls:(ai .u8 (tM ss)).size=258:=by rw [aM,hlen]
 have hlc:(ai .u8 (tM ss)).toList.all ay=true:=List.all_eq_true.2 fe
 refine Nw.mk h fun b3 w h=>Km h (ab.cons hs) (by rw [fh,av];omega) fun w h=> ?_
 rw [show eX=List.replicate 258 0 from rfl,hadd]
 refine Nw.mk h fun b8 w h=>aw.q h (by simp) hsz hsc fun w h=>Ld.xw h hsz ?_
 refine FV (Cn (by omega)) h fun w h=> ?_
 refine Nw.mk h fun b15 w h=>aw.q h (by simp) hls hlc fun w h=>Ld.xw h hls ?_
 refine aw.q h (by simp) hls hlc fun w h=>Ld.xw h hls (hK w h.tl)
theorem zL {x:List Nat} (hn:x.length≤400000):(syms (aW x.reverse)).length≤400001:=by
 have:=mj (aW x.reverse)
 rw [cY,List.length_reverse] at this
 omega
theorem xH {x:List Nat} (hb: ∀y∈x,y<256): ∀y∈syms (aW x.reverse),y≤257:=fun y hy=>by
 have:=Sym.qX (b:=aW x.reverse) (qR fun y hy=>hb y (List.mem_reverse.1 hy)) y hy
 omega
theorem nC (l ss:List Nat):jy l (ints ss)=enc l ss:=by
 unfold jy ints
 rw [List.map_map]
 congr 1
 exact (List.map_congr_left fun x _=>by simp).trans (List.map_id _)
theorem EP {l ss:List Nat} (h: ∀s∈ss,jF l s) (hs: ∀s∈ss,s≤257):k6 l (ints ss)=true:=by
 refine List.all_eq_true.2 fun z hz=> ?_
 obtain ⟨y,hy,rfl⟩:=List.mem_map.1 hz
 have:=h y hy
 have:=hs y hy
 exact qu.2 ⟨by omega,by omega,by simpa using (h y hy).2⟩
theorem I7 {n:Int} {s:Sl} {x:List Nat} {K:Sl→Int→World→Prop} (h:Hp E w F) (hs:ab F (aA 1 s (x.map vB))) (hb: ∀y∈x,y<256) (hn:x.length≤65536)
  (hgood:1≤n→n≤65536→1≤x.length→(x.length:Int)≤n→∀s' w',Hp E w' (ak 1 s' ((lg (fZ x) x).map vB)::F)→K s' 0 w')
  (hbad: ¬(1≤n∧n≤65536∧1≤x.length∧(x.length:Int)≤n)→∀w',Hp E w' F→K ⟨none,0,0⟩ 2 w'):
  Cl Tryz.prog [kS,kI] mG ⟨[.int .i64 n,.slice s.base s.len s.cap]⟩ w K:=by
 refine Dc.ok _ _ _ _ ?_
 have hlen:x.length=s.len:=by have:=(h.al hs).1;simpa using this
 refine E3 h hs hb (by omega) fun s4 w h=>Nw.mk h fun b7 w h=> ?_
 have hcrc:fg x<4294967296:=p5 hb
 refine xg (s:=⟨some ⟨b7,0,none⟩,1,1⟩) (cs:= [s]) (bs:= [x]) h (ab.aC rfl rfl) rfl (by rw [av];simp) (fun i hi=> ?_) (by simpa using hb) (by simp [av];omega) fun w h=> ?_
 ·match i,hi with
  |0,_=>exact ab.cons (ab.cons hs)
 rw [show [x].flatten=x by simp,←hlen]
 have hidx:bU x.reverse≤x.length:=by
  by_cases h0:x= []
  ·subst h0;decide
  ·have:=oD (t:=x.reverse) (by rw [List.length_reverse];exact List.length_pos_iff.2 h0)
   rw [List.length_reverse] at this;omega
 refine EW h (by omega) (by omega) hcrc (fun h1 h2 h3 h4 h5 h6 s11 w h=> ?_) (fun hno w h=> ?_)
 ·refine aa.nf rfl ?_
  have hL:=lG h3 (by omega) hb
  have hbl: ∀y∈aW x.reverse,y<256:=qR fun y hy=>hb y (List.mem_reverse.1 hy)
  have hls:(ai .u8 (fZ x)).size=258:=by rw [aM];exact hL.len
  have hlc:(ai .u8 (fZ x)).toList.all ay=true:=List.all_eq_true.2 fe
  refine Hy h (ab.at 2 ab.own) hbl (by rw [cY,List.length_reverse];omega) fun s14 w h=> ?_
  refine DY h ab.own (xH hb) (by have:=zL (x:=x) (by omega);omega) fun w h=> ?_
  refine Nw.mk h fun b18 w h=>aw.q h (by simp) hls hlc fun w h=>JM h fun b w h=>Ld.xw h hls ?_
  refine Il h hL.len hL.ok (by simp) fun w h=>Ld.xw h hls ?_
  have hsl:=zL (x:=x) (by omega)
  refine JR h hL.len (ab.at 1 ab.own) (by rw [fh];have:=mj (aW x.reverse);rw [cY,List.length_reverse] at this;omega) ?_ (fun hno=>absurd ⟨hL.v,EP hL.good (xH hb)⟩ hno) fun _ _ w h=> ?_
  ·have:=ju hL.len hL.ok
   rw [List.nil_append];omega
  rw [List.nil_append,nC] at h
  refine Fl h fun s29 w h=> ?_
  have hpl:=j8 (eG (fZ x)++enc (fZ x) (syms (aW x.reverse)))
  have hel:=l7 hL.v (ints (syms (aW x.reverse)))
  rw [nC,fh] at hel
  have htl:=ju hL.len hL.ok
  have l1:=h.aH
  have l2:=(h.at 4).aH
  rw [List.length_map,Nat.mul_one] at l1 l2
  have hml:(kn x.length (bU x.reverse) (fg x)).length≤20:=by
   have h1:=dp (n:=x.length) (by omega)
   have h2:=dp (n:=bU x.reverse) (by omega)
   unfold kn
   simp [dU]
   omega
  rw [List.length_append] at hpl
  refine aN (s:=s11) (n:=s29.len) jX (by decide) (.inl ⟨5,by kernel_rfl⟩) (h.at 4) (.inl ⟨s29.base,s29.len,s29.cap,rfl,rfl,h.al ab.own⟩) (by rw [List.length_map,l1,Nat.mul_one]) cy (by omega) (by omega) fun s31 w h _=>hgood h1 h2 h3 h4 s31 w ?_
  rw [show (lg (fZ x) x).map vB=(kn x.length (bU x.reverse) (fg x)).map vB++(pack (eG (fZ x)++enc (fZ x) (syms (aW x.reverse)))).map vB by unfold lg body;rw [List.map_append]]
  exact h.eA
 ·refine aa.nt (by decide) (hbad (fun hh=>hno ?_) w h.tl)
  have:=oD (t:=x.reverse) (by rw [List.length_reverse];omega)
  rw [List.length_reverse] at this
  exact ⟨hh.1,hh.2.1,hh.2.2.1,hh.2.2.2,this.1,this.2⟩
end
end Go.Proofs.YtcdpblipagajiaaGreat
namespace Go.aj
open Go.Inc Go.Srt Go.Sym Go.Bits Go.Tab Go.Hd Go.Crc Go.Bw Go.Proofs.YtcdpblipagajiaaGreat
theorem wq {x:List Nat} (h0:0<x.length) (hb: ∀y∈x,y<256) (hn:x.length≤65536):(lg (fZ x) x).length≤200000:=by
 have hL:=lG h0 (by omega) hb
 have h1:=dp (n:=x.length) (by omega)
 have hidx:=oD (t:=x.reverse) (by rw [List.length_reverse];exact h0)
 rw [List.length_reverse] at hidx
 have h2:=dp (n:=bU x.reverse) (by omega)
 have h3:=ju hL.len hL.ok
 have h4:=l7 hL.v (ints (syms (aW x.reverse)))
 rw [nC,fh] at h4
 have h5:=mj (aW x.reverse)
 rw [cY,List.length_reverse] at h5
 unfold lg kn body
 rw [List.length_append,j8,List.length_append,List.length_cons,List.length_append,List.length_append,show (dU (fg x)).length=4 from rfl]
 omega
end Go.aj
set_option maxRecDepth 20000
namespace Go.aj
open Go.Inc Go.Srt Go.Sym Go.Bits Go.Tab Go.Bw Go.Pm
noncomputable def Hh:List Nat:=Proofs.YtcdpblipagajiaaGreat.iz (List.replicate 258 1) (Cc (List.replicate 258 1)) 15
theorem uK {s:Nat} (h:s<258):(List.replicate 258 1).getD s 0=1:=by
 rw [List.getD_eq_getElem?_getD,List.getElem?_replicate,if_pos h];rfl
theorem C6 {last:List Nat} (hb: ∀x∈last,x<256):nK Hh last:=
 Be List.length_replicate (fun x hx=>by rw [(List.mem_replicate.1 hx).2];decide) (uO _) (by rw [uK (by decide)];decide) ⟨0,by decide,by rw [uK (by decide)];decide⟩ (fun s hs=>by rw [uK (by have:=qX hb s hs;omega)];decide) hb
noncomputable def cp (x:List Nat):List Nat:=if x.length≤1000000 then fZ x else Hh
theorem nO {x:List Nat} (h:x.length≤1000000):cp x=fZ x:=by unfold cp;rw [if_pos h]
theorem G9:Stm.c7 cp:=fun x h0 hb=>by
 unfold cp
 split
 ·rename_i h
  exact lG h0 h hb
 ·exact C6 (qR fun y hy=>hb y (List.mem_reverse.1 hy))
end Go.aj
namespace Go.aj
open Go.Inc Go.Srt Go.Sym Go.Bits Go.Tab Go.Hd Go.Crc Go.Bw Go.Proofs.YtcdpblipagajiaaGreat
theorem mM: ∀(l:List (List Nat)),(∀x∈l,0<x.length∧x.length≤65536∧∀y∈x,y<256)→(Stm.blocks cp l).length≤200000*l.length
 | [],_=>by simp [Stm.blocks]
 |x::l,h=>by
  have h1:=h x List.mem_cons_self
  have h2:=wq h1.1 h1.2.2 h1.2.1
  have h3:=mM l fun y hy=>h y (List.mem_cons_of_mem _ hy)
  unfold Stm.blocks at h3⊢
  rw [List.flatMap_cons,List.length_append,List.length_cons]
  unfold Stm.oO at h3⊢
  rw [nO (by omega)]
  omega
end Go.aj
namespace Go.Proofs.YtcdpblipagajiaaGreat
open Go Go.Vc Go.Srt Go.Inc Go.Sym Go.Tab Go.Hd Go.Bw Go.Bits Go.aj Go.Crc Go.Stm
section
variable {E w:World} {F:List HP}
set_option maxRecDepth 20000
abbrev uV (b:Nat) (xs:List Nat):HP:=G4 (fun (_:Sl)=>True) fun s=> [aj b (.cells ⟨[lB s]⟩ 22 (0,0)),ak 1 s (xs.map vB)]
theorem uV.shut {b:Nat} {s:Sl} {xs:List Nat} (h:Hp E w (aj b (.cells ⟨[lB s]⟩ 22 (0,0))::ak 1 s (xs.map vB)::F)):Hp E w (uV b xs::F):=Hp.IH s trivial h
theorem GQ {n:Nat} {ps:List (Sl×List Nat)} {i:Nat} {s:Sl} (hn:0<n) (hp:jB ps) (hi:i<(bk n ps).length):(∀w,ch s ps w→aA 1 ((bk n ps).getD i (⟨none,0,0⟩,[])).1 ((((aY n (ps.map Prod.snd)).getD i []).map vB)) w)∧
  ((bk n ps).getD i (⟨none,0,0⟩,[])).1.len≤((bk n ps).getD i (⟨none,0,0⟩,[])).1.cap:=by
 have h1:(bk n ps).getD i (⟨none,0,0⟩,[])=(bk n ps)[i]:=by rw [List.getD_eq_getElem?_getD,List.getElem?_eq_getElem hi];rfl
 have h2:(aY n (ps.map Prod.snd)).getD i []=(bk n ps)[i].2:=by
  rw [←vM hn,List.getD_eq_getElem?_getD,List.getElem?_map,List.getElem?_eq_getElem hi];rfl
 rw [h1,h2]
 have hm:(bk n ps)[i]∈bk n ps:=List.getElem_mem hi
 generalize (bk n ps)[i]=x at hm
 obtain ⟨y,hy,hx⟩:=List.mem_flatMap.1 hm
 refine ⟨fun w hw=>(Eh hn _ _ _ (Nat.le_refl _) (hw.each y hy) (hp.caps y hy) x hx).1,?_⟩
 have: ∀(m:Nat) (p:Sl) (b:List Nat),b.length≤m→p.len≤p.cap→∀x∈lj n p b,x.1.len≤x.1.cap:=by
  intro m
  induction m with
  |zero=>
   intro p b hb _ x hx
   rw [List.length_eq_zero_iff.1 (show b.length=0 by omega),iS] at hx
   cases hx
  |succ m ih=>
   intro p b hb hc x hx
   by_cases h0:b= []
   ·rw [h0,iS] at hx;cases hx
   ·have:0<b.length:=List.length_pos_iff.2 h0
    rw [oM h0 hn] at hx
    rcases List.mem_cons.1 hx with rfl|hx
    ·dsimp only;omega
    ·exact ih _ _ (by simp;omega) (by rw [q8,uj];omega) x hx
 exact this _ _ _ (Nat.le_refl _) (hp.caps y hy) x hx
theorem u7 {n:Nat} (hn:0<n) (ps:List (Sl×List Nat)):(bk n ps).length=(aY n (ps.map Prod.snd)).length:=by rw [←vM hn,List.length_map]
theorem r6 {n:Nat} {s:Sl} {ps:List (Sl×List Nat)} {K:Sl→Int→World→Prop} (h:Hp E w F) (hn:1≤n) (hn2:n≤65536) (hg:ab F (ch s ps)) (hp:jB ps) (hb: ∀x∈ps,∀y∈x.2,y<256) (hq:(aY n (ps.map Prod.snd)).length≤100000)
  (hK: ∀s' w',Hp E w' (ak 1 s' ((iP cp n (ps.map Prod.snd)).map vB)::F)→K s' 0 w'):Cl Tryz.prog [kS,kI] cL ⟨[.int .i64 (n:Int),.slice s.base s.len s.cap]⟩ w K:=by
 refine qe.ok _ _ _ _ ?_
 have hbf: ∀c∈(ps.map Prod.snd).flatten,c<256:=fun c hc=>by
  obtain ⟨l,hl,hc⟩:=List.mem_flatten.1 hc
  obtain ⟨x,hx,rfl⟩:=List.mem_map.1 hl
  exact hb x hx c hc
 have hok:=fP (n:=n) (by omega) hbf
 have hok2: ∀x∈aY n (ps.map Prod.snd),0<x.length∧x.length≤65536∧∀y∈x,y<256:=fun x hx=>⟨(hok x hx).1,by have:=(hok x hx).2.1;omega,(hok x hx).2.2⟩
 refine Nw.mk h fun b4 w h=>Ld.xb (x:=(n:Int)) h rfl (JW h hn2 (by omega) fun s7 w h=>Nw.mk h fun b10 w h=>St.xs h rfl rfl fun w h=>aa.nf rfl (Ld.xb (x:=(n:Int)) h rfl ?_))
 dsimp only [ah,ae] at h
 refine rR.ok _ _ _ _ ?_
 refine Nw.mk h fun b4' w h=>Nw.mk h fun b6 w h=> ?_
 have h0:Hp E w ([aj b6 (.cells ⟨[.slice s.base s.len s.cap]⟩ 51 (0,0)),aj b4' (.cells ⟨[.int .i64 (n:Int)]⟩ 3 (0,0))]++(uV b10 (fp n++blocks cp ((aY n (ps.map Prod.snd)).take 0))::aj b4 (.cells ⟨[.int .i64 (n:Int)]⟩ 3 (0,0))::F)):=by
  rw [List.take_zero,show blocks cp []= [] from rfl,List.append_nil]
  have h1:Hp E w (aj b10 (.cells ⟨[lB s7]⟩ 22 (0,0))::ak 1 s7 ((fp n).map vB)::aj b6 (.cells ⟨[.slice s.base s.len s.cap]⟩ 51 (0,0))::aj b4' (.cells ⟨[.int .i64 (n:Int)]⟩ 3 (0,0))::aj b4 (.cells ⟨[.int .i64 (n:Int)]⟩ 3 (0,0))::F):=(h.at 3).at 3
  exact ((uV.shut h1).at 2).at 2
 have hcl:=u7 (n:=n) (by omega) ps
 have hhl:(fp n).length≤7:=by
  have:=dp hn2
  unfold fp;simp;omega
 have hblen: ∀i,(blocks cp ((aY n (ps.map Prod.snd)).take i)).length≤200000*100000:=fun i=>by
  have h1:=mM ((aY n (ps.map Prod.snd)).take i) fun x hx=>hok2 x (List.mem_of_mem_take hx)
  have h2:((aY n (ps.map Prod.snd)).take i).length≤100000:=by rw [List.length_take];omega
  exact Nat.le_trans h1 (Nat.mul_le_mul_left _ h2)
 refine ek.CZ (E:=E) (k:=kS) (x:=fun i=>((bk n ps).getD i (⟨none,0,0⟩,[])).1) (n:=(bk n ps).length) (Φ:=ch s ps) (fun i=>uV b10 (fp n++blocks cp ((aY n (ps.map Prod.snd)).take i))::aj b4 (.cells ⟨[.int .i64 (n:Int)]⟩ 3 (0,0))::F) (fun _=> [uD])
  h0 (fun _=>hg.cons.cons) (vV (by omega) (by rw [av];omega) hp) ?_ ?_ ?_
 ·intro lr rec i A w Kt Kf hi h hKt _
  have hpo:=GQ (s:=s) (n:=n) (by omega) hp hi
  have hi2:i<(aY n (ps.map Prod.snd)).length:=by omega
  have hpm:=hok2 _ (List.getElem_mem hi2)
  have hgd:(aY n (ps.map Prod.snd)).getD i []=(aY n (ps.map Prod.snd))[i]:=by rw [List.getD_eq_getElem?_getD,List.getElem?_eq_getElem hi2];rfl
  rw [hgd] at hpo
  have hle:=(hok _ (List.getElem_mem hi2)).2.1
  generalize ((bk n ps).getD i (⟨none,0,0⟩,[])).1=y20 at hpo⊢
  refine om.mk h fun w h=> ?_
  obtain ⟨so,_,h⟩:=(h.p1).ex
  have h:Hp E w (aj b10 (.cells ⟨[lB so]⟩ 22 (0,0))::ak 1 so ((fp n++blocks cp ((aY n (ps.map Prod.snd)).take i)).map vB)::aj lr (rec 1)::aj b4 (.cells ⟨[.int .i64 (n:Int)]⟩ 3 (0,0))::(F++A)):=h
  refine Ld.xb (b:=b4) (x:=(n:Int)) h rfl ?_
  refine I7 h (hg.CH.cons.cons.cons.cons.imp fun w hw=>hpo.1 w hw) hpm.2.2 hpm.2.1 (fun _ _ _ _ s24 w h=> ?_) (fun hno=>absurd ⟨by omega,by omega,hpm.1,by omega⟩ hno)
  have l1:=h.aH
  have l2:=(h.at 2).aH
  rw [List.length_map,Nat.mul_one] at l1 l2
  have hbs:=wq hpm.1 hpm.2.2 hpm.2.1
  have hbi:=hblen i
  rw [List.length_append] at l2
  refine Ld.xb (b:=b10) (x:=so) h rfl ?_
  refine aN (s:=so) (n:=s24.len) jX (by decide) (.inl ⟨5,by kernel_rfl⟩) (h.at 2) (.inl ⟨s24.base,s24.len,s24.cap,rfl,rfl,h.al ab.own⟩) (by rw [List.length_map,l1,Nat.mul_one]) cy (by omega) (by omega) fun s28 w h _=> ?_
  refine St.xs (b:=b10) h rfl rfl fun w h=> ?_
  dsimp only [ah,ae] at h
  have h:=(h.no 1).at 2
  refine km.mk h fun w h=>hKt w ?_
  rw [←List.map_append] at h
  have e:fp n++blocks cp ((aY n (ps.map Prod.snd)).take i)++lg (fZ (aY n (ps.map Prod.snd))[i]) (aY n (ps.map Prod.snd))[i]=fp n++blocks cp ((aY n (ps.map Prod.snd)).take (i+1)):=by
   rw [List.append_assoc,List.take_add_one,List.getElem?_eq_getElem hi2]
   unfold blocks oO
   rw [List.flatMap_append,Option.toList_some,List.flatMap_singleton,nO (by omega)]
  rw [e] at h
  have h:=((h.at 2).at 2).p1
  exact (uV.shut h).p1
 ·intro D w h
  rw [List.take_of_length_le (by omega)] at h
  obtain ⟨so,_,h⟩:=(h.p1).ex
  have h:Hp E w (aj b10 (.cells ⟨[lB so]⟩ 22 (0,0))::ak 1 so ((fp n++blocks cp (aY n (ps.map Prod.snd))).map vB)::aj D (.deferred (some []))::aj b4 (.cells ⟨[.int .i64 (n:Int)]⟩ 3 (0,0))::F):=h
  have h:=h.drew (n:=w.drawn+1)
  refine ⟨bF b10 _ _ _,h.hb,ad.xb (x:=so) (fun _ h=>h) rfl ?_⟩
  have hfm:((ps.map Prod.snd).length)=(ps.map Prod.fst).length:=by simp
  refine xg (cs:=ps.map Prod.fst) (bs:=ps.map Prod.snd) h ((hg.cons.cons.cons.cons).imp fun w hw=>by have:=hw.tab;rwa [List.map_map]) hfm.symm (by rw [List.length_map];exact hp.few) (fun i hi=> ?_) (fun b hbm y hy=> ?_) (fun b hbm=> ?_) fun w h=>⟨h.hb,?_⟩
  ·rw [List.length_map] at hi
   refine (hg.cons.cons.cons.cons).imp fun w hw=> ?_
   have:=hw.each ps[i] (List.getElem_mem hi)
   rw [List.getD_eq_getElem?_getD,List.getElem?_map,List.getElem?_eq_getElem hi]
   simpa using this
  ·obtain ⟨x,hx,rfl⟩:=List.mem_map.1 hbm
   exact hb x hx y hy
  ·obtain ⟨x,hx,rfl⟩:=List.mem_map.1 hbm
   exact hp.small x hx
  refine II h (p5 hbf) fun s38 w h=>⟨h.hb,?_⟩
  have l1:=h.aH
  have l2:=(h.at 2).aH
  rw [List.length_map,Nat.mul_one] at l1 l2
  have hbi:=hblen (aY n (ps.map Prod.snd)).length
  rw [List.take_of_length_le (Nat.le_refl _)] at hbi
  have hml:(lb (fg (ps.map Prod.snd).flatten)).length=5:=rfl
  rw [List.length_append] at l2
  refine aN (s:=so) (n:=s38.len) jX (by decide) (.inl ⟨5,by kernel_rfl⟩) (h.at 2) (.inl ⟨s38.base,s38.len,s38.cap,rfl,rfl,h.al ab.own⟩) (by rw [List.length_map,l1,Nat.mul_one]) cy (by omega) (by omega) fun s40 w h _=>⟨h.hb,?_⟩
  refine gm.rJ (h.at 3) fun w h=>hK s40 w ?_
  rw [←List.map_append,List.append_assoc] at h
  exact h.eA
 ·intro i D w hi h
  exact (Hp.Ab h).elim
theorem Di {s:Sl} {K:Sl→Int→World→Prop} (h:Hp E w F) (hK: ∀w',Hp E w' F→K ⟨none,0,0⟩ 2 w'):Cl Tryz.prog [kS,kI] cL ⟨[.int .i64 0,.slice s.base s.len s.cap]⟩ w K:=by
 refine qe.ok _ _ _ _ ?_
 refine Nw.mk h fun b4 w h=>Ld.xb (x:=(0:Int)) h rfl (Ic h fun w h=>Nw.mk h fun b10 w h=>St.xs h rfl rfl fun w h=>aa.nt (by decide) (hK _ h.tl))
theorem Ep {n:Nat} {s:Sl} {ps:List (Sl×List Nat)} {K:Int→World→Prop} (h:Hp E w F) (hn:1≤n) (hn2:n≤65536) (hg:ab F (ch s ps)) (hp:jB ps) (hq:(aY n (ps.map Prod.snd)).length≤100000)
  (hK: ∀w',Hp E w' F→K ((aY n (ps.map Prod.snd)).length:Int) w'):Cl Tryz.prog [kI] ez ⟨[.int .i64 (n:Int),.slice s.base s.len s.cap]⟩ w K:=by
 refine pQ.ok _ _ _ _ ?_
 have hcl:=u7 (n:=n) (by omega) ps
 refine Nw.mk h fun b w h=>aa.df (by omega) (aa.df (by omega) ?_)
 refine rR.ok _ _ _ _ ?_
 refine Nw.mk h fun b4' w h=>Nw.mk h fun b6 w h=> ?_
 refine ek.CZ (E:=E) (k:=kS) (x:=fun i=>((bk n ps).getD i (⟨none,0,0⟩,[])).1) (n:=(bk n ps).length) (Φ:=ch s ps) (fun i=>bI b i::F) (fun _=> [uD]) (A:= [aj b6 (.cells ⟨[.slice s.base s.len s.cap]⟩ 51 (0,0)),aj b4' (.cells ⟨[.int .i64 (n:Int)]⟩ 3 (0,0))])
  h (fun _=>hg.cons) (vV (by omega) (by rw [av];omega) hp) ?_ ?_ ?_
 ·intro lr rec i A w Kt Kf hi h hKt _
  refine om.mk h fun w h=> ?_
  have h:Hp E w (aj lr (rec 1)::bI b i::(F++A)):=h
  refine Ld.xb (b:=b) (x:=(i:Int)) h rfl ?_
  rw [ag (by omega)]
  refine St.xs (b:=b) h rfl rfl fun w h=>km.mk h fun w h=>hKt w ?_
  dsimp only [ah,ae] at h
  rw [show (i:Int)+1=((i+1:Nat):Int) by omega] at h
  exact h
 ·intro D w h
  rw [hcl] at h
  have h:Hp E w (aj D (.deferred (some []))::bI b (aY n (ps.map Prod.snd)).length::F):=h
  refine Ld.xb (b:=b) (x:=((aY n (ps.map Prod.snd)).length:Int)) h rfl (St.xs (b:=b) h rfl rfl fun w h=> ?_)
  dsimp only [ah,ae] at h
  exact gm.rJ h fun w h=>Ld.xb (b:=b) (x:=((aY n (ps.map Prod.snd)).length:Int)) h rfl (hK w h.tl)
 ·intro i D w hi h
  exact (Hp.Ab h).elim
theorem Cy {s:Sl} {K:Int→World→Prop} (h:Hp E w F) (hK: ∀w',Hp E w' F→K 0 w'):Cl Tryz.prog [kI] ez ⟨[.int .i64 0,.slice s.base s.len s.cap]⟩ w K:=by
 refine pQ.ok _ _ _ _ ?_
 refine Nw.mk h fun b w h=>aa.dt (by omega) (St.xs h rfl rfl fun w h=> ?_)
 dsimp only [ah,ae] at h
 exact Ld.xb (x:=(0:Int)) h rfl (hK w h.tl)
end
end Go.Proofs.YtcdpblipagajiaaGreat
set_option maxRecDepth 20000
namespace Go.Srt
theorem FR {l:List Nat} {c b x:Nat} (hl:l.length=258) (h:oE l c b) (hx:x≤1):(dV l c b x).2=fm l (2*c+x) (b+1):=by
 cases hs:(dV l c b x).2 with
 |some s=>
  obtain ⟨h1,h2,h3,h4⟩:=xL hl h hx hs
  have:=sB hl (s:=s) ⟨h1,by omega⟩
  rw [h2,h3] at this
  exact this.symm
 |none=>
  cases hf:fm l (2*c+x) (b+1) with
  |none=>rfl
  |some s=>
   obtain ⟨⟨h1,h2⟩,h3,h4⟩:=pv hf
   have hr:=Bp (l:=l) (s:=s) (by omega) h2
   unfold code at h4
   unfold dV at hs
   split at hs
   ·rename_i hle
    rw [h3] at h4 hr
    omega
   ·cases hs
theorem HU {l:List Nat} {c b x:Nat}:(dV l c b x).1=match (dV l c b x).2 with|none=>(2*c+x,b+1)|some _=>(0,0):=by
 cases hs:(dV l c b x).2 with
 |none=>exact FN hs
 |some s=>exact Fw hs
end Go.Srt
namespace Go.Proofs.YtcdpblipagajiaaGreat
open Go Go.Vc
set_option maxRecDepth 100000
theorem CJ.ok (a:Int) (R:(Array Value)→World→Prop) w (h:
 Nw 149 ⟨List.replicate 256 (.int .u8 0)++ [(ni 0),(ni 0),(ni 0),(.bool false)]⟩ w fun c b=>
 aa (decide (a<1))
 (Ld (.arr 260) ⟨c,0,none⟩ b fun d=>
 aw 260 ⟨c,0,none⟩ d b fun e=>
 Ld (.arr 260) ⟨c,0,none⟩ e fun f=>
 R f e)
 (aa (decide (a>65536))
 (Ld (.arr 260) ⟨c,0,none⟩ b fun g=>
 aw 260 ⟨c,0,none⟩ g b fun h=>
 Ld (.arr 260) ⟨c,0,none⟩ h fun i=>
 R i h)
 (Cl Pg [(.arr 256)] nA ⟨[]⟩ b fun k j=>
 cO Pg 149 [(0,(.agg k)),(1,(ni a))] fun l=>
 aw 260 ⟨c,0,none⟩ l j fun m=>
 Ld (.arr 260) ⟨c,0,none⟩ m fun n=>
 R n m))):Cl Pg [(.arr 260)] mE ⟨[(ni a)]⟩ w R:=co Tryz.f102 [] h
theorem AP.ok (a:(Array Value)) (b:Int) (R:(Array Value)→Sl→Bool→Int→World→Prop) w (h:
 Nw 149 a w fun d c=>
 Nw 149 ⟨List.replicate 256 (.int .u8 0)++ [(ni 0),(ni 0),(ni 0),(.bool false)]⟩ c fun f e=>
 bo (fun (y:World)=>
 Ld (.arr 260) ⟨d,0,none⟩ y fun z=>
 Cl Pg [(.arr 260),kS,kB] ly ⟨[(.agg z),(ni b)]⟩ y fun b1 (c1:Sl) (d1:Bool) a1=>
 aw 260 ⟨f,0,none⟩ b1 a1 fun e1=>
 aa (!d1)
 (Ld (.arr 260) ⟨d,0,none⟩ e1 fun f1=>
 aw 260 ⟨f,0,none⟩ f1 e1 fun g1=>
 Ld (.arr 260) ⟨f,0,none⟩ g1 fun h1=>
 R h1 (⟨none,0,0⟩:Sl) false 160 g1)
 (Ld (.arr 260) ⟨f,0,none⟩ e1 fun i1=>
 Ld kB (Addr.add ⟨f,0,none⟩ 259) e1 fun (j1:Bool)=>
 aw 260 ⟨f,0,none⟩ i1 e1 fun k1=>
 Ld (.arr 260) ⟨f,0,none⟩ k1 fun l1=>
 R l1 c1 j1 0 k1)) fun g=>
 Ld (.arr 260) ⟨d,0,none⟩ e fun h=>
 Cl Pg [kB] kh ⟨[(.agg h)]⟩ e fun (j:Bool) i=>
 aa (!j)
 (Ld (.arr 260) ⟨d,0,none⟩ i fun k=>
 aw 260 ⟨f,0,none⟩ k i fun l=>
 Ld (.arr 260) ⟨f,0,none⟩ l fun m=>
 R m (⟨none,0,0⟩:Sl) false 2 l)
 (Ld kB (Addr.add ⟨d,0,none⟩ 259) i fun (n:Bool)=>
 aa n
 (Ld (.arr 260) ⟨d,0,none⟩ i fun o=>
 aw 260 ⟨f,0,none⟩ o i fun p=>
 Ld (.arr 260) ⟨f,0,none⟩ p fun q=>
 R q (⟨none,0,0⟩:Sl) false 2 p)
 (aa (decide (b<0))
 (Ld (.arr 260) ⟨d,0,none⟩ i fun r=>
 aw 260 ⟨f,0,none⟩ r i fun s=>
 Ld (.arr 260) ⟨f,0,none⟩ s fun t=>
 R t (⟨none,0,0⟩:Sl) false 2 s)
 (aa (decide (b>257))
 (Ld (.arr 260) ⟨d,0,none⟩ i fun u=>
 aw 260 ⟨f,0,none⟩ u i fun v=>
 Ld (.arr 260) ⟨f,0,none⟩ v fun x=>
 R x (⟨none,0,0⟩:Sl) false 2 v)
 (g i))))):Cl Pg [(.arr 260),kS,kB,kI] lp ⟨[(.agg a),(ni b)]⟩ w R:=co Tryz.f104 [(2,[])] h
theorem zO.ok (a:(Array Value)) (R:Bool→World→Prop) w (h:
 Nw 149 a w fun c b=>
 bo (fun (o:World)=>
 Ld kI (Addr.add ⟨c,0,none⟩ 258) o fun (p:Int)=>
 0≤p∧
 Ld kI (Addr.add ⟨c,0,none⟩ 257) o fun (q:Int)=>
 aa (decide (q<(i64 ((a8 .i64 (1:Int) p) - 1))))
 (R false o)
 (Ld kI (Addr.add ⟨c,0,none⟩ 257) o fun (r:Int)=>
 aa (decide (r>(i64 ((2:Int)*(i64 ((a8 .i64 (1:Int) p) - 1))))))
 (R false o)
 (Ld kB (Addr.add ⟨c,0,none⟩ 259) o fun (s:Bool)=>
 aa (!s)
 (R true o)
 (Ld (.arr 260) ⟨c,0,none⟩ o fun t=>
 Ld (.arr 256) (Addr.add ⟨c,0,none⟩ 0) o fun u=>
 cO Pg 149 [(0,(.agg u)),(4,(.bool true))] fun v=>
 sA Pg 149 t v fun x=>
 R x o)))) fun d=>
 Ld (.arr 256) (Addr.add ⟨c,0,none⟩ 0) b fun e=>
 Cl Pg [kB] kG ⟨[(.agg e)]⟩ b fun (g:Bool) f=>
 aa (!g)
 (R false f)
 (Ld kI (Addr.add ⟨c,0,none⟩ 256) f fun (h:Int)=>
 aa (decide (h<0))
 (R false f)
 (Ld kI (Addr.add ⟨c,0,none⟩ 256) f fun (i:Int)=>
 aa (decide (i>65536))
 (R false f)
 (Ld kI (Addr.add ⟨c,0,none⟩ 257) f fun (j:Int)=>
 aa (decide (j<0))
 (R false f)
 (Ld kI (Addr.add ⟨c,0,none⟩ 257) f fun (k:Int)=>
 Ld kI (Addr.add ⟨c,0,none⟩ 256) f fun (l:Int)=>
 aa (decide (k>l))
 (R false f)
 (Ld kI (Addr.add ⟨c,0,none⟩ 258) f fun (m:Int)=>
 aa (decide (m<0))
 (R false f)
 (Ld kI (Addr.add ⟨c,0,none⟩ 258) f fun (n:Int)=>
 aa (decide (n>16))
 (R false f)
 (d f)))))))):Cl Pg [kB] kh ⟨[(.agg a)]⟩ w R:=co Tryz.f157 [(2,[])] h
theorem AS.ok (a:(Array Value)) (b:Int) (R:(Array Value)→Sl→Bool→World→Prop) w (h:
 Nw 149 a w fun d c=>
 Nw 149 ⟨List.replicate 256 (.int .u8 0)++ [(ni 0),(ni 0),(ni 0),(.bool false)]⟩ c fun f e=>
 bo (fun (h:Bool) (i:World)=>
 aa h
 (Ld kI (Addr.add ⟨d,0,none⟩ 257) i fun (j:Int)=>
 Ld kI (Addr.add ⟨d,0,none⟩ 258) i fun (k:Int)=>
 Cl Pg [kI,kI] iC ⟨[(ni j),(ni k),(ni b)]⟩ i fun (m:Int) (n:Int) l=>
 St (Addr.add ⟨d,0,none⟩ 257) (ni m) l fun o=>
 Ld kI (Addr.add ⟨d,0,none⟩ 258) o fun (p:Int)=>
 St (Addr.add ⟨d,0,none⟩ 258) (ni (i64 (p+1))) o fun q=>
 cA q fun r s=>
 ad (.arr 260) ⟨d,0,none⟩ r fun t=>
 ad kI (Addr.add ⟨d,0,none⟩ 257) r fun (u:Int)=>
 ad kI (Addr.add ⟨d,0,none⟩ 256) r fun (v:Int)=>
 aw 260 ⟨f,0,none⟩ t s fun x=>
 r x∧
 Ld (.arr 260) ⟨f,0,none⟩ x fun y=>
 R y (⟨none,0,0⟩:Sl) (decide (u≤v)) x)
 (aa (b==257)
 (cA i fun z a1=>
 ad (.arr 256) (Addr.add ⟨d,0,none⟩ 0) z fun b1=>
 cO Pg 149 [(0,(.agg b1)),(4,(.bool true))] fun c1=>
 ad (.arr 260) ⟨d,0,none⟩ z fun d1=>
 ad kI (Addr.add ⟨d,0,none⟩ 257) z fun (e1:Int)=>
 ad kI (Addr.add ⟨d,0,none⟩ 256) z fun (f1:Int)=>
 Cl Pg [kS] jE ⟨[(.agg d1)]⟩ a1 fun (h1:Sl) g1=>
 z g1∧
 aw 260 ⟨f,0,none⟩ c1 g1 fun i1=>
 z i1∧
 Ld (.arr 260) ⟨f,0,none⟩ i1 fun j1=>
 R j1 h1 (e1==f1) i1)
 (Ld kI (Addr.add ⟨d,0,none⟩ 257) i fun (k1:Int)=>
 Ld kI (Addr.add ⟨d,0,none⟩ 256) i fun (l1:Int)=>
 aa (k1==l1)
 (Ld (.arr 260) ⟨d,0,none⟩ i fun m1=>
 aw 260 ⟨f,0,none⟩ m1 i fun n1=>
 Ld (.arr 260) ⟨f,0,none⟩ n1 fun o1=>
 R o1 (⟨none,0,0⟩:Sl) false n1)
 (Ld (.arr 256) (Addr.add ⟨d,0,none⟩ 0) i fun p1=>
 Cl Pg [(.arr 256),(aL .u8),kB] lH ⟨[(.agg p1),(ni (i64 (b - 1)))]⟩ i fun r1 (s1:Int) (t1:Bool) q1=>
 Nw 108 ⟨List.replicate 256 (.int .u8 0)⟩ q1 fun v1 u1=>
 aw 256 ⟨v1,0,none⟩ r1 u1 fun x1=>
 Ld (.arr 260) ⟨d,0,none⟩ x1 fun y1=>
 Cl Pg [kS] jE ⟨[(.agg y1)]⟩ x1 fun (a2:Sl) z1=>
 Nw 5 ⟨[(.int .u8 s1)]⟩ z1 fun c2 b2=>
 aD Pg (Builtin.append_ #[22,22] 22 ⟨[(an a2),(an (⟨some ⟨c2,0,none⟩,1,1⟩:Sl))]⟩) kS b2 fun (e2:Sl) d2=>
 Ld (.arr 256) ⟨v1,0,none⟩ d2 fun f2=>
 Ld kI (Addr.add ⟨d,0,none⟩ 256) d2 fun (g2:Int)=>
 cO Pg 149 [(0,(.agg f2)),(1,(ni (i64 (g2 - (e2.len:Int)))))] fun h2=>
 aw 260 ⟨f,0,none⟩ h2 d2 fun i2=>
 Ld (.arr 260) ⟨f,0,none⟩ i2 fun j2=>
 R j2 e2 true i2)))) fun g=>
 aa (b==0)
 (g true e)
 (g (b==1) e)):Cl Pg [(.arr 260),kS,kB] ly ⟨[(.agg a),(ni b)]⟩ w R:=co Tryz.f158 [(3,[(10,kB)])] h
theorem CC.ok (a:(Array Value)) (R:Sl→World→Prop) w (h:
 Nw 149 a w fun c b=>
 ao b fun d=>
 aZ (⟨some (Addr.add ⟨c,0,none⟩ 0),256,256⟩:Sl) 0 1 256 1 fun e=>
 Ld kI (Addr.add ⟨c,0,none⟩ 257) d fun (f:Int)=>
 Cl Pg [kS] kj ⟨[(an e),(ni f)]⟩ d fun (h:Sl) g=>
 R h g):Cl Pg [kS] jE ⟨[(.agg a)]⟩ w R:=co Tryz.f194 [] h
end Go.Proofs.YtcdpblipagajiaaGreat
namespace Go.Proofs.YtcdpblipagajiaaGreat
open Go Go.Vc
set_option maxRecDepth 100000
theorem wI.ok (a:Int) (b:Int) (R:Int→Int→World→Prop) w (h:
 Cl Pg [(aL .u64),(aL .u64)] lD ⟨[(.int .u64 a),(.int .u64 b)]⟩ w fun (d:Int) (e:Int) c=>
 R d e c):Cl Pg [(aL .u64),(aL .u64)] jL ⟨[(.int .u64 a),(.int .u64 b)]⟩ w R:=co Tryz.f216 [] h
theorem sV.ok (a:Int) (b:Int) (R:Int→Int→World→Prop) w (h:
 0≤(32:Int)∧
 0≤(32:Int)∧
 0≤(32:Int)∧
 0≤(32:Int)∧
 0≤(32:Int)∧
 R (u64 ((u64 ((u64 ((aF .u64 a (32:Int))*(aF .u64 b (32:Int))))+(aF .u64 (u64 ((u64 ((aF .u64 a (32:Int))*(bl .u64 b 4294967295)))+(aF .u64 (u64 ((bl .u64 a 4294967295)*(bl .u64 b 4294967295))) (32:Int)))) (32:Int))))+(aF .u64 (u64 ((bl .u64 (u64 ((u64 ((aF .u64 a (32:Int))*(bl .u64 b 4294967295)))+(aF .u64 (u64 ((bl .u64 a 4294967295)*(bl .u64 b 4294967295))) (32:Int)))) 4294967295)+(u64 ((bl .u64 a 4294967295)*(aF .u64 b (32:Int)))))) (32:Int)))) (u64 (a*b)) w):Cl Pg [(aL .u64),(aL .u64)] lD ⟨[(.int .u64 a),(.int .u64 b)]⟩ w R:=co Tryz.f222 [] h
end Go.Proofs.YtcdpblipagajiaaGreat
namespace Go.Vc
open Go
section
variable {E w:World} {l:List HP} {b:Nat} {c:Array Value} {t:TypeId} {fr:Nat×Nat} {put:Obj→List HP}
theorem Hp.K7 {n m:Nat} {xs:List Value} [bC b l c t fr put] (h:Hp E w l) (hl:xs.length=n) (hx: ∀i (hi:i<xs.length),c[i]? =some xs[i]):aA 1 ⟨some ⟨b,0,none⟩,n,m⟩ xs w:=
 ⟨by simpa using hl,fun i hi=>⟨_,rfl,by rw [aq,h.fc,Nat.zero_add];exact hx i hi⟩⟩
end
end Go.Vc
namespace Go.Proofs.YtcdpblipagajiaaGreat
open Go Go.Vc
section
variable {E w:World} {F:List HP}
theorem Jj {n:Nat} {K:Int→Int→World→Prop} (hn:n≤4294967295) (hK:K 0 (n:Int) w):Cl Tryz.prog [aL .u64,aL .u64] jL ⟨[.int .u64 1,.int .u64 (n:Int)]⟩ w K:=by
 refine wI.ok _ _ _ _ ?_
 refine sV.ok _ _ _ _ ?_
 refine ⟨by decide,by decide,by decide,by decide,by decide,?_⟩
 have hmx:IntKind.max .u64=18446744073709551615:=rfl
 have e1:aF .u64 1 32=0:=by decide
 have e2:aF .u64 (n:Int) 32=0:=by
  have:=bG (k:= .u64) (a:=n) (b:=32) (by decide)
  rw [Nat.div_eq_of_lt (by omega)] at this
  simpa using this
 have e3:bl .u64 1 4294967295=1:=by decide
 have e4:bl .u64 (n:Int) 4294967295=(n:Int):=by
  have:=eI (k:= .u64) (a:=n) (b:=4294967295) (by rw [hmx];omega) (by rw [hmx];omega)
  rw [show n&&&4294967295=n % 2^32 from Nat.and_two_pow_sub_one_eq_mod n 32,Nat.mod_eq_of_lt (by omega)] at this
  simpa using this
 have e5:u64 (n:Int)=(n:Int):=mo (by omega)
 have e6:u64 0=0:=by decide
 have e7:aF .u64 0 32=0:=by decide
 have e8:bl .u64 0 4294967295=0:=by decide
 simp only [e1,e2,e3,e4,Int.zero_mul,Int.one_mul,Int.mul_zero,e5,e6,Int.add_zero,e7,e8]
 exact hK
set_option maxRecDepth 20000
theorem Cw:Tryz.prog.underlying 22=some (.slice 5):=by kernel_rfl
theorem KR:(Tryz.prog.info? 5).map (·.size)=some 1:=by kernel_rfl
theorem Fq {n:Nat} {K:Sl→World→Prop} (h:Hp E w F) (hn:n≤65536) (hK: ∀b cs w',n≤cs.size→Hp E w' (aj b (.cells cs 5 (0,0))::F)→K ⟨some ⟨b,0,none⟩,n,cs.size⟩ w'):
  Ext Tryz.prog bM ⟨[.int .i64 (n:Int)]⟩ [kS] w K:=by
 obtain ⟨cs,hrun,hcs,_⟩:=Go.Lib.run_makeNoZero (P:=Tryz.prog) w #[3] 22 5 Cw n (by omega)
 have hx:(callFunc bM #[.int .i64 (n:Int)]).run Tryz.prog w= .ok (.value (.slice (some ⟨w.heap.size,0,none⟩) n cs.size)) (w.drew.drew.alloc (.cells cs 5)):=by
  rw [run_callFunc_extern Tryz.func217 (by kernel_rfl) (by kernel_rfl) (by kernel_rfl) (e:=Extern.BytealgMakeNoZero.makeNoZero #[3] #[22]) (by kernel_rfl),hrun];rfl
 unfold Ext
 rw [show (⟨[.int .i64 (n:Int)]⟩:Array Value)= #[.int .i64 (n:Int)] from rfl,hx]
 have h2:Hp E w.drew.drew F:=h.same rfl rfl rfl rfl
 exact hK _ _ _ hcs (h2.alloc _)
set_option maxRecDepth 20000
theorem Gb {s:Sl} {c n:Nat} {K:Sl→World→Prop} (h:Hp E w F) (hs:ab F (aA 1 s [.int .u8 (c:Int)])) (hn:n≤65536) (hK: ∀s' w',Hp E w' (ak 1 s' ((List.replicate n c).map vB)::F)→K s' w'):
  Cl Tryz.prog [kS] kj ⟨[.slice s.base s.len s.cap,.int .i64 (n:Int)]⟩ w K:=by
 refine zW.ok _ _ _ _ ?_
 have hl1:s.len=1:=by have:=(h.al hs).1;simpa using this.symm
 obtain ⟨sb,sl,sc⟩:=s
 dsimp only at hl1⊢
 subst hl1
 (try simp only [ax,au,aq,Nat.zero_add,Nat.add_zero,Nat.reduceAdd,Bool.not_true,Bool.not_false,aQ,aR,Option.isNone])
 by_cases h0:n=0
 ·subst h0
  refine aa.et (by omega) ?_
  refine Nw.mk h fun b w h=> ?_
  exact hK _ _ (h.iw (n:=0) (sz:=1) rfl)
 refine aa.ef (by omega) (aa.df (by omega) ?_)
 rw [mo (x:=((1:Nat):Int)) (by omega),mo (x:=(n:Int)) (by omega)]
 refine Jj (by omega) ?_
 refine aa.df (by omega) (aa.df (by omega) ?_)
 refine aa.ef (by omega) ?_
 rw [ag (x:=(n:Int)) (by omega)]
 have main: ∀mx:Int,1≤mx→Ext Tryz.prog bM ⟨[.int .i64 (n:Int)]⟩ [kS] w fun r21 w_20=>
   aZ r21 0 (n:Int) (n:Int) 1 fun s22=>
   aD Tryz.prog (Builtin.copy_ #[22,22] 3 ⟨[(.slice s22.base s22.len s22.cap),(.slice sb (1:Nat) sc)]⟩) kI w_20 fun (n24:Int) w_23=>
   ∃(I_25:Int→World→Prop) (m_26:Int→World→Nat),I_25 (n24) w_23∧
   ∀(bp27:Int),∀(w_28:World),I_25 bp27 w_28→
   aa (decide (bp27<(n:Int)))
   (ao w_28 fun w_29=>
   aZ s22 bp27 (s22).len (s22).cap 1 fun s30=>
   aZ s22 0 (if mx<bp27 then mx else bp27) (s22).cap 1 fun s31=>
   aD Tryz.prog (Builtin.copy_ #[22,22] 3 ⟨[(.slice s30.base s30.len s30.cap),(.slice s31.base s31.len s31.cap)]⟩) kI w_29 fun (n33:Int) w_32=>
   I_25 ((i64 (bp27+n33))) w_32∧m_26 ((i64 (bp27+n33))) w_32<m_26 bp27 w_28)
   (K (s22) w_28):=by
  intro mx hmx
  refine Fq h hn fun b cs w hcs h=> ?_
  refine ⟨by omega,by omega,by omega,by simp only;omega,?_⟩
  simp only [Int.toNat_natCast,Int.toNat_zero,Nat.sub_zero,if_neg h0,Option.map_some,Nat.zero_mul,aq,Nat.zero_add]
  have hs1:=h.al hs.cons
  refine qg (s:=⟨sb,1,sc⟩) (ys:= [.int .u8 (c:Int)]) Cw KR h hs1 (by simp [ay]) (by omega) fun w h=> ?_
  have e0:(⟨cs.toList.take 0++(([.int .u8 (c:Int)]:List Value).take n++cs.toList.drop (0+min ([.int .u8 (c:Int)]:List Value).length n))⟩:Array Value)=⟨(List.replicate 1 c).map vB++cs.toList.drop 1⟩:=by
   rw [List.take_zero,List.nil_append,List.take_of_length_le (by simp;omega),show min ([.int .u8 (c:Int)]:List Value).length n=1 by simp;omega,Nat.zero_add]
   rfl
  rw [e0] at h
  rw [show ((min ([.int .u8 (c:Int)]:List Value).length n:Nat):Int)=((1:Nat):Int) by congr 1;simp;omega]
  refine ⟨fun bp w'=> ∃k:Nat,bp=(k:Int)∧1≤k∧k≤n∧Hp E w' (aj b (.cells ⟨(List.replicate k c).map vB++cs.toList.drop k⟩ 5 (0,0))::F),fun bp _=>n - bp.toNat,⟨1,rfl,by omega,by omega,h⟩,?_⟩
  rintro bp w ⟨k,rfl,hk1,hkn,h⟩
  have hsz:(⟨(List.replicate k c).map vB++cs.toList.drop k⟩:Array Value).size=cs.size:=by simp;omega
  (first|refine aa.dm (fun hb=> ?_) (fun hb=> ?_)|refine aa.em (fun hb=> ?_) (fun hb=> ?_)|refine aa.nm (fun hb=> ?_) (fun hb=> ?_)|refine aa.mk (fun hb=> ?_) (fun hb=> ?_))
  ·obtain ⟨q,hq,hq1,hqk⟩: ∃q:Nat,(if mx<(k:Int) then mx else (k:Int))=(q:Int)∧1≤q∧q≤k:=by
    by_cases hm:mx<(k:Int)
    ·rw [if_pos hm];exact ⟨mx.toNat,by omega,by omega,by omega⟩
    ·rw [if_neg hm];exact ⟨k,rfl,hk1,Nat.le_refl _⟩
   rw [hq]
   refine ao.mk h fun w h=> ?_
   dsimp only
   refine ⟨by omega,by omega,by omega,by dsimp only;omega,?_⟩
   rw [if_neg (by omega)]
   simp only [Int.toNat_natCast,Option.map_some,aq,Nat.zero_add,Nat.mul_one]
   refine ⟨by omega,by omega,by omega,by dsimp only;omega,?_⟩
   rw [if_neg (by simp only [Int.toNat_natCast,Int.toNat_zero];omega)]
   simp only [Int.toNat_natCast,Int.toNat_zero,Nat.sub_zero,Option.map_some,aq,Nat.zero_add,Nat.zero_mul]
   have hsrc:aA 1 ⟨some ⟨b,0,none⟩,q,n⟩ ((List.replicate q c).map vB) w:=h.K7 (by simp) (fun i hi=>by
    simp at hi
    simp [List.getElem?_append,show i<k by omega])
   refine qg (ys:=(List.replicate q c).map vB) Cw KR h hsrc cy (by rw [hsz];omega) fun w h=> ?_
   have hlen:((List.replicate q c).map vB).length=q:=by simp
   rw [hlen] at h⊢
   have e1:(⟨(⟨(List.replicate k c).map vB++cs.toList.drop k⟩:Array Value).toList.take k++(((List.replicate q c).map vB).take (n - k)++(⟨(List.replicate k c).map vB++cs.toList.drop k⟩:Array Value).toList.drop (k+min q (n - k)))⟩:Array Value)
     =⟨(List.replicate (k+min q (n - k)) c).map vB++cs.toList.drop (k+min q (n - k))⟩:=by
    dsimp only
    rw [List.take_left' (by simp),←List.map_take,List.take_replicate,List.drop_append,List.drop_of_length_le (by simp),List.nil_append,List.drop_drop,←List.append_assoc,←List.map_append,List.replicate_append_replicate]
    simp only [List.length_map,List.length_replicate]
    rw [show k+(k+min q (n - k) - k)=k+min q (n - k) by omega,Nat.min_comm (n - k) q]
   rw [e1] at h
   rw [ag (by omega)]
   refine ⟨⟨k+min q (n - k),by omega,by omega,by omega,h⟩,by omega⟩
  ·have hk:k=n:=by omega
   subst hk
   refine hK _ _ (h.fM (by simp) rfl (by simp) (by simp<;>omega) fun i hi=> ?_)
   simp at hi
   simp [List.getElem?_append,hi]
 by_cases hbig:(n:Int)>8192
 ·refine aa.dt hbig ⟨by omega,?_⟩
  refine aa.ef (by decide) ?_
  exact main _ (by decide)
 ·exact aa.df hbig (main _ (by omega))
end
end Go.Proofs.YtcdpblipagajiaaGreat
