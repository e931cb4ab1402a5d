/- Texts packed together by program; spaces struck by program. Conditions: as each theorem states. -/
import Derived.Carry
import Derived.Laws.AppendOwn
import Derived.Laws.BytesArg
import Derived.Laws.CopyRow
import Derived.Laws.IdiomCopy
import Derived.Laws.IdiomStrings
import Derived.Laws.MakeOwn
import Derived.Lib.BytesEntry
import Derived.Lib.MakeNoZero
import Derived.MapKept
import Derived.OpenShut
import Derived.OrdersIn
import Derived.ProofKit
import Derived.RangeFuncRecord
import Derived.ScopeJumps
import Derived.SizedLaws
import Derived.TacticsIn
import Derived.Test.YtgglghjnakclmaaGreatChecked
import Derived.Test.YtgglghjnakclmaaGreatQfa
set_option linter.unusedSimpArgs false
set_option linter.unusedVariables false
namespace Go.aX
end Go.aX
namespace Go.aq
end Go.aq
namespace Go.Bw
end Go.Bw
namespace Go.ChangeShapes
end Go.ChangeShapes
namespace Go.Crc
end Go.Crc
namespace Go.Hd
end Go.Hd
namespace Go.Hs
end Go.Hs
namespace Go.Inc
end Go.Inc
namespace Go.Pm
end Go.Pm
namespace Go.Prs
end Go.Prs
namespace Go.Rk
end Go.Rk
namespace Go.RowKit
end Go.RowKit
namespace Go.Srt
end Go.Srt
namespace Go.Stm
end Go.Stm
namespace Go.Sym
end Go.Sym
namespace Go.Tab
end Go.Tab
namespace Go.Vc
end Go.Vc
namespace Go.WideShapes
end Go.WideShapes
namespace Go.Vc
open Go
noncomputable section
variable {nn:Nat} {dfs:List Deferred}
def mark (r:Nat):Deferred:={target:= .collected r,args:= #[]}
end
end Go.Vc
set_option maxRecDepth 20000
namespace Go.Vc
open Go
noncomputable section
variable {nn:Nat} {dfs:List Deferred}
end
end Go.Vc
namespace Go.Proofs.YtgglghjnakclmaaGreat
open Go Go.Vc
abbrev dN:Nat:=3
abbrev ie:Nat:=11
abbrev eo:Nat:=12
abbrev dz:Nat:=13
abbrev dO:Nat:=14
abbrev br:Nat:=15
abbrev gQ:Nat:=16
abbrev kx:Nat:=17
abbrev bH:Nat:=18
abbrev aE:Nat:=19
abbrev cB:Nat:=20
abbrev bF:Nat:=21
abbrev jh:Nat:=22
abbrev ia:Nat:=23
abbrev bR:Nat:=28
abbrev eE:Nat:=56
abbrev jn:Nat:=57
abbrev de:Nat:=58
abbrev fP:Nat:=59
abbrev il:Nat:=60
abbrev iq:Nat:=61
abbrev dH:Nat:=62
abbrev dw:Nat:=63
abbrev dK:Nat:=64
abbrev cZ:Nat:=65
abbrev dB:Nat:=66
abbrev dA:Nat:=67
abbrev c9:Nat:=68
abbrev dy:Nat:=69
abbrev c8:Nat:=70
abbrev dj:Nat:=71
abbrev dJ:Nat:=72
abbrev ee:Nat:=73
abbrev ea:Nat:=74
abbrev eR:Nat:=75
abbrev dG:Nat:=76
abbrev gT:Nat:=108
abbrev dc:Nat:=109
abbrev kU:Nat:=110
abbrev ja:Nat:=111
abbrev gx:Nat:=112
abbrev bP:Nat:=113
abbrev iv:Nat:=114
abbrev a8:Nat:=115
abbrev cM:Nat:=116
abbrev eM:Nat:=117
abbrev gg:Nat:=118
abbrev jm:Nat:=119
abbrev fK:Nat:=120
abbrev ij:Nat:=121
abbrev cY:Nat:=122
abbrev cm:Nat:=123
abbrev eh:Nat:=156
abbrev gI:Nat:=157
abbrev eu:Nat:=158
abbrev iz:Nat:=159
abbrev jO:Nat:=160
abbrev jq:Nat:=161
abbrev jf:Nat:=162
abbrev bS:Nat:=163
abbrev gN:Nat:=164
abbrev ed:Nat:=165
abbrev cI:Nat:=166
abbrev cH:Nat:=167
abbrev cy:Nat:=168
abbrev bG:Nat:=169
abbrev eK:Nat:=170
abbrev eA:Nat:=171
abbrev eT:Nat:=172
abbrev dh:Nat:=173
abbrev lN:Nat:=174
abbrev fm:Nat:=175
abbrev dE:Nat:=176
abbrev ff:Nat:=177
abbrev gR:Nat:=178
abbrev ig:Nat:=179
abbrev iB:Nat:=182
abbrev bJ:Nat:=199
abbrev jb:Nat:=219
abbrev fD:Nat:=220
abbrev iw:Nat:=221
abbrev jS:Nat:=222
abbrev ix:Nat:=223
abbrev fe:Nat:=224
abbrev gP:Nat:=225
abbrev jc:Nat:=226
abbrev da:Nat:=227
abbrev dL:Nat:=228
abbrev ic:Nat:=229
abbrev fz:Nat:=230
abbrev cv:Nat:=231
abbrev bu:Nat:=232
abbrev eB:Nat:=233
abbrev dX:Nat:=234
abbrev fJ:Nat:=235
abbrev gL:Nat:=236
abbrev jK:Nat:=237
abbrev fC:Nat:=238
abbrev gy:Nat:=239
abbrev kD:Nat:=240
abbrev jR:Nat:=246
abbrev ib:Nat:=286
abbrev jM:Nat:=287
abbrev iy:Nat:=288
abbrev fg:Nat:=289
abbrev jN:Nat:=290
abbrev ku:Nat:=291
abbrev gK:Nat:=292
abbrev iu:Nat:=295
abbrev fE:Nat:=319
abbrev ir:Nat:=320
abbrev gp:Nat:=321
abbrev bN:Nat:=322
abbrev iC:Nat:=331
noncomputable abbrev Pg:Program:=Tryz.prog
theorem Tryz.mix:Tryz.prog.follows .mixedOrders=true:=by kernel_rfl
theorem co {i:FuncId} {w:World} {F:Prop} {args:List Value} {ks:List Ki} {K:gZ ks (World→Prop)} (fn:Func) (L:List (Nat×List (Nat×Ki))) (h:F) (hf:Pg.funcs[i]? =some fn:=by kernel_rfl) (hb:fn.body=some (fn.body.getD .skip):=by kernel_rfl) (hl:Nat.ble args.length fn.ntmps=true:=by kernel_rfl) (he:vc Pg fn.ntmps (fn.body.getD .skip) (n0 (fn.body.getD .skip) 0 L).1 (rT Pg fn.results.toList ks K) (kT args fn.ntmps) w=F:=by kernel_rfl):Cl Pg ks i ⟨args⟩ w K:=
 mK Tryz.mix fn args ks K fn.ntmps fn.results.toList hf hb rfl hl rfl (n0 (fn.body.getD .skip) 0 L).1 he h
abbrev aI:List Sc:= [.int .u8,.int .i64,.int .i64,.int .i64,.int .u32,.sl,.int .i64]
abbrev aS:List Sc:= [.int .i64,.int .i64,.int .i64,.int .i64,.int .i64,.int .u32,.int .i64]
abbrev bO:List Sc:= [.int .i64,.int .i64,.int .i64,.int .i64]
abbrev wc:List Sc:= [.int .i64,.int .i64,.int .i64,.int .i64,.int .i64,.int .i64,.int .i64,.int .i64,.int .i64,.int .i64,.int .i64,.int .i64,.int .i64,.int .i64,.int .i64,.int .i64]
end Go.Proofs.YtgglghjnakclmaaGreat
namespace Go.Proofs.YtgglghjnakclmaaGreat
open Go Go.Vc
set_option maxRecDepth 100000
theorem ld.ok (a:Sl) (b:(TT aI)) (c:(TT aI)) (R:Bool→World→Prop) w (h:
 Nw 29 ⟨[(.int .u8 b.1),(ni b.2.1),(ni b.2.2.1),(ni b.2.2.2.1),(.int .u32 b.2.2.2.2.1),(av b.2.2.2.2.2.1),(ni b.2.2.2.2.2.2.1)]⟩ w fun e d=>
 Nw 29 ⟨[(.int .u8 c.1),(ni c.2.1),(ni c.2.2.1),(ni c.2.2.2.1),(.int .u32 c.2.2.2.2.1),(av c.2.2.2.2.2.1),(ni c.2.2.2.2.2.2.1)]⟩ d fun g f=>
 bf (fun (r:World)=>
 Cl Pg [kP] dz ⟨[]⟩ r fun t s=>
 Cl Pg [kP] dO ⟨[]⟩ s fun v u=>
 bf (fun (b1:World)=>
 DL (⟨none,0,0⟩:Sl) (⟨none,0,0⟩:Sl) false 0 false 0 b1 fun c1 d1 (e1:Sl) (f1:Sl) (g1:Bool) (h1:Int) (i1:Bool) (j1:Int) k1=>
 aa (decide (j1<(a.len:Int)))
 (bf (fun (n3:Sl) (o3:Sl) (p3:Bool) (q3:Int) (r3:Bool) (s3:World)=>
 c1 n3 o3 p3 q3 r3 (i64 (j1+1)) s3∧d1 n3 o3 p3 q3 r3 (i64 (j1+1)) s3<d1 e1 f1 g1 h1 i1 j1 k1) fun l1=>
 bf (fun (d3:Sl) (e3:Sl) (f3:Bool) (g3:Int) (h3:Bool) (i3:World)=>
 Cl Pg [kI] bF ⟨[(.pointer v)]⟩ i3 fun (k3:Int) j3=>
 Cl Pg [kI] jh ⟨[(av e3),(ni g3)]⟩ j3 fun (m3:Int) l3=>
 aa (k3 !=m3)
 (R false l3)
 (l1 d3 e3 f3 g3 h3 l3)) fun m1=>
 ba a j1 2 fun n1=>
 Ld kI (n1.add 0) k1 fun (o1:Int)=>
 aa (o1==0)
 (ba a j1 2 fun p1=>
 Ld kS (p1.add 1) k1 fun (q1:Sl)=>
 Nw 26 ⟨[(av q1)]⟩ k1 fun s1 r1=>
 Cl Pg [kB] br ⟨[(.pointer t),(av (⟨some ⟨s1,0,none⟩,1,1⟩:Sl))]⟩ r1 fun (u1:Bool) t1=>
 aa (u1==g1)
 (R false t1)
 (aa (!g1)
 (ba a j1 2 fun v1=>
 Ld kS (v1.add 1) t1 fun (x1:Sl)=>
 aA Pg (Builtin.append_ #[26,26] 26 ⟨[(av e1),(av x1)]⟩) kS t1 fun (z1:Sl) y1=>
 m1 z1 f1 g1 h1 false y1)
 (m1 e1 f1 g1 h1 i1 t1)))
 (aa (o1==1)
 (bf (fun (d2:Sl) (e2:Bool) (f2:World)=>
 Cl Pg [(.st aI)] kx ⟨[(av d2),(ni h1)]⟩ f2 fun h2 g2=>
 Nw 29 ⟨[(.int .u8 0),(ni 0),(ni 0),(ni 0),(.int .u32 0),(.slice none 0 0),(ni 0)]⟩ g2 fun j2 i2=>
 ae ⟨j2,0,none⟩ [(.int .u8 h2.1),(ni h2.2.1),(ni h2.2.2.1),(ni h2.2.2.2.1),(.int .u32 h2.2.2.2.2.1),(av h2.2.2.2.2.2.1),(ni h2.2.2.2.2.2.2.1)] 0 i2 fun k2=>
 cJ k2 fun t2 u2=>
 ab (.st aI) ⟨j2,0,none⟩ t2 fun v2=>
 Cl Pg [(.st aI)] aE ⟨[(.pointer v),(.pointer t)]⟩ u2 fun y2 x2=>
 t2 x2∧
 Cl Pg [kB] bH ⟨[(.agg ⟨[(.int .u8 y2.1),(ni y2.2.1),(ni y2.2.2.1),(ni y2.2.2.2.1),(.int .u32 y2.2.2.2.2.1),(av y2.2.2.2.2.2.1),(ni y2.2.2.2.2.2.2.1)]⟩),(.agg ⟨[(.int .u8 v2.1),(ni v2.2.1),(ni v2.2.2.1),(ni v2.2.2.2.1),(.int .u32 v2.2.2.2.2.1),(av v2.2.2.2.2.2.1),(ni v2.2.2.2.2.2.2.1)]⟩)]⟩ x2 fun (a3:Bool) z2=>
 t2 z2∧
 aa (!a3)
 (R false z2)
 (aa (decide (h1<(d2.len:Int)))
 (m1 e1 d2 g1 (i64 (h1+1)) e2 z2)
 (m1 e1 d2 g1 h1 e2 z2))) fun a2=>
 aa (!i1)
 (Cl Pg [kS] gQ ⟨[(av e1),(.bool g1)]⟩ k1 fun (c2:Sl) b2=>
 a2 c2 true b2)
 (a2 f1 i1 k1))
 (Cl Pg [kB] cB ⟨[(.pointer t)]⟩ k1 fun (c3:Bool) b3=>
 aa (c3==g1)
 (R false b3)
 (m1 e1 f1 true h1 false b3))))
 (bf (fun (h4:Bool) (i4:World)=>
 R h4 i4) fun t3=>
 cJ k1 fun u3 v3=>
 ab (.st aI) ⟨e,0,none⟩ u3 fun x3=>
 ab (.st aI) ⟨g,0,none⟩ u3 fun y3=>
 ab (.st aI) ⟨e,0,none⟩ u3 fun z3=>
 ab (.st aI) ⟨g,0,none⟩ u3 fun a4=>
 Cl Pg [kB] bH ⟨[(.agg ⟨[(.int .u8 x3.1),(ni x3.2.1),(ni x3.2.2.1),(ni x3.2.2.2.1),(.int .u32 x3.2.2.2.2.1),(av x3.2.2.2.2.2.1),(ni x3.2.2.2.2.2.2.1)]⟩),(.agg ⟨[(.int .u8 y3.1),(ni y3.2.1),(ni y3.2.2.1),(ni y3.2.2.2.1),(.int .u32 y3.2.2.2.2.1),(av y3.2.2.2.2.2.1),(ni y3.2.2.2.2.2.2.1)]⟩)]⟩ v3 fun (c4:Bool) b4=>
 u3 b4∧
 Cl Pg [kB] ia ⟨[(.agg ⟨[(.int .u8 z3.1),(ni z3.2.1),(ni z3.2.2.1),(ni z3.2.2.2.1),(.int .u32 z3.2.2.2.2.1),(av z3.2.2.2.2.2.1),(ni z3.2.2.2.2.2.2.1)]⟩),(.agg ⟨[(.int .u8 a4.1),(ni a4.2.1),(ni a4.2.2.1),(ni a4.2.2.2.1),(.int .u32 a4.2.2.2.2.1),(av a4.2.2.2.2.2.1),(ni a4.2.2.2.2.2.2.1)]⟩)]⟩ b4 fun (e4:Bool) d4=>
 u3 d4∧
 aa (c4==e4)
 (Cl Pg [kB] eo ⟨[]⟩ d4 fun (g4:Bool) f4=>
 u3 f4∧
 t3 g4 f4)
 (t3 false d4))) fun x=>
 bf (fun (z:Bool) (a1:World)=>
 aa z
 (R false a1)
 (x a1)) fun y=>
 aa (Option.isNone (t:Option Addr))
 (y true u)
 (y (Option.isNone (v:Option Addr)) u)) fun h=>
 bf (fun (n:Bool) (o:World)=>
 aa n
 (Cl Pg [kB] eo ⟨[]⟩ o fun (q:Bool) p=>
 R q p)
 (h o)) fun i=>
 Cl Pg [kB] ie ⟨[(av a)]⟩ f fun (k:Bool) j=>
 aa (!k)
 (i true j)
 (Ld kS (Addr.add ⟨e,0,none⟩ 5) j fun (l:Sl)=>
 aa (decide ((l.len:Int)>100))
 (i true j)
 (Ld kS (Addr.add ⟨g,0,none⟩ 5) j fun (m:Sl)=>
 i (decide ((m.len:Int)>100)) j))):Cl Pg [kB] dN ⟨[(av a),(.agg ⟨[(.int .u8 b.1),(ni b.2.1),(ni b.2.2.1),(ni b.2.2.2.1),(.int .u32 b.2.2.2.2.1),(av b.2.2.2.2.2.1),(ni b.2.2.2.2.2.2.1)]⟩),(.agg ⟨[(.int .u8 c.1),(ni c.2.1),(ni c.2.2.1),(ni c.2.2.2.1),(.int .u32 c.2.2.2.2.1),(av c.2.2.2.2.2.1),(ni c.2.2.2.2.2.2.1)]⟩)]⟩ w R:=co Tryz.f3 [(2,[]),(3,[(30,kB)]),(9,[]),(10,[(39,kB)]),(23,[(9,kS),(10,kS),(11,kB),(12,kI),(13,kB),(14,kI)]),(27,[(9,kS),(10,kS),(11,kB),(12,kI),(13,kB)]),(28,[(9,kS),(10,kS),(11,kB),(12,kI),(13,kB)]),(45,[(10,kS),(13,kB)])] h
theorem sY.ok (a:Sl) (R:Bool→World→Prop) w (h:
 gA 0 0 w fun b c (d:Int) (e:Int) f=>
 aa (decide (e<(a.len:Int)))
 (aa (decide (e≤200))
 (ba a e 2 fun g=>
 Ld kS (g.add 1) f fun (h:Sl)=>
 b (i64 (d+(if (1000:Int)<(h.len:Int) then (1000:Int) else (h.len:Int)))) (i64 (e+1)) f∧c (i64 (d+(if (1000:Int)<(h.len:Int) then (1000:Int) else (h.len:Int)))) (i64 (e+1)) f<c d e f)
 (aa (decide ((a.len:Int)≤200))
 (R (decide (d≤800)) f)
 (R false f)))
 (aa (decide ((a.len:Int)≤200))
 (R (decide (d≤800)) f)
 (R false f))):Cl Pg [kB] ie ⟨[(av a)]⟩ w R:=co Tryz.f11 [(7,[(3,kI),(4,kI)])] h
theorem tw.ok (R:Bool→World→Prop) w (h:
 Cl Pg [kP] dz ⟨[]⟩ w fun b a=>
 Cl Pg [kP] dO ⟨[]⟩ a fun d c=>
 Cl Pg [kP] dz ⟨[]⟩ c fun f e=>
 Cl Pg [kP] dO ⟨[]⟩ e fun h g=>
 bf (fun (j:World)=>
 Cl Pg [(.st aI)] aE ⟨[(.pointer d),(.pointer b)]⟩ j fun l k=>
 Nw 29 ⟨[(.int .u8 0),(ni 0),(ni 0),(ni 0),(.int .u32 0),(.slice none 0 0),(ni 0)]⟩ k fun n m=>
 ae ⟨n,0,none⟩ [(.int .u8 l.1),(ni l.2.1),(ni l.2.2.1),(ni l.2.2.2.1),(.int .u32 l.2.2.2.2.1),(av l.2.2.2.2.2.1),(ni l.2.2.2.2.2.2.1)] 0 m fun o=>
 Nw 5 ⟨[(.int .u8 87),(.int .u8 80),(.int .u8 1),(.int .u8 2),(.int .u8 0),(.int .u8 0),(.int .u8 0),(.int .u8 0)]⟩ o fun q p=>
 Nw 26 ⟨[(av (⟨some ⟨q,0,none⟩,8,8⟩:Sl))]⟩ p fun s r=>
 Cl Pg [kB] br ⟨[(.pointer b),(av (⟨some ⟨s,0,none⟩,1,1⟩:Sl))]⟩ r fun (u:Bool) t=>
 Cl Pg [(.st aI)] aE ⟨[(.pointer d),(.pointer b)]⟩ t fun x v=>
 Cl Pg [(.st aI)] aE ⟨[(.pointer d),(.pointer b)]⟩ v fun z y=>
 Nw 29 ⟨[(.int .u8 0),(ni 0),(ni 0),(ni 0),(.int .u32 0),(.slice none 0 0),(ni 0)]⟩ y fun b1 a1=>
 Nw 29 ⟨[(.int .u8 0),(ni 0),(ni 0),(ni 0),(.int .u32 0),(.slice none 0 0),(ni 0)]⟩ a1 fun d1 c1=>
 ae ⟨b1,0,none⟩ [(.int .u8 x.1),(ni x.2.1),(ni x.2.2.1),(ni x.2.2.2.1),(.int .u32 x.2.2.2.2.1),(av x.2.2.2.2.2.1),(ni x.2.2.2.2.2.2.1)] 0 c1 fun e1=>
 ae ⟨d1,0,none⟩ [(.int .u8 z.1),(ni z.2.1),(ni z.2.2.1),(ni z.2.2.2.1),(.int .u32 z.2.2.2.2.1),(av z.2.2.2.2.2.1),(ni z.2.2.2.2.2.2.1)] 0 e1 fun f1=>
 Nw 5 ⟨[(.int .u8 0)]⟩ f1 fun h1 g1=>
 Nw 26 ⟨[(av (⟨some ⟨h1,0,none⟩,1,1⟩:Sl))]⟩ g1 fun j1 i1=>
 Cl Pg [kB] br ⟨[(.pointer b),(av (⟨some ⟨j1,0,none⟩,1,1⟩:Sl))]⟩ i1 fun (l1:Bool) k1=>
 Cl Pg [(.st aI)] aE ⟨[(.pointer d),(.pointer b)]⟩ k1 fun n1 m1=>
 Cl Pg [(.st aI)] aE ⟨[(.pointer d),(.pointer b)]⟩ m1 fun p1 o1=>
 Nw 29 ⟨[(.int .u8 0),(ni 0),(ni 0),(ni 0),(.int .u32 0),(.slice none 0 0),(ni 0)]⟩ o1 fun r1 q1=>
 Nw 29 ⟨[(.int .u8 0),(ni 0),(ni 0),(ni 0),(.int .u32 0),(.slice none 0 0),(ni 0)]⟩ q1 fun t1 s1=>
 ae ⟨r1,0,none⟩ [(.int .u8 n1.1),(ni n1.2.1),(ni n1.2.2.1),(ni n1.2.2.2.1),(.int .u32 n1.2.2.2.2.1),(av n1.2.2.2.2.2.1),(ni n1.2.2.2.2.2.2.1)] 0 s1 fun u1=>
 ae ⟨t1,0,none⟩ [(.int .u8 p1.1),(ni p1.2.1),(ni p1.2.2.1),(ni p1.2.2.2.1),(.int .u32 p1.2.2.2.2.1),(av p1.2.2.2.2.2.1),(ni p1.2.2.2.2.2.2.1)] 0 u1 fun v1=>
 Cl Pg [kB] cB ⟨[(.pointer b)]⟩ v1 fun (y1:Bool) x1=>
 Cl Pg [(.st aI)] aE ⟨[(.pointer d),(.pointer b)]⟩ x1 fun a2 z1=>
 Cl Pg [(.st aI)] aE ⟨[(.pointer d),(.pointer b)]⟩ z1 fun c2 b2=>
 Nw 29 ⟨[(.int .u8 0),(ni 0),(ni 0),(ni 0),(.int .u32 0),(.slice none 0 0),(ni 0)]⟩ b2 fun e2 d2=>
 Nw 29 ⟨[(.int .u8 0),(ni 0),(ni 0),(ni 0),(.int .u32 0),(.slice none 0 0),(ni 0)]⟩ d2 fun g2 f2=>
 ae ⟨e2,0,none⟩ [(.int .u8 a2.1),(ni a2.2.1),(ni a2.2.2.1),(ni a2.2.2.2.1),(.int .u32 a2.2.2.2.2.1),(av a2.2.2.2.2.2.1),(ni a2.2.2.2.2.2.2.1)] 0 f2 fun h2=>
 ae ⟨g2,0,none⟩ [(.int .u8 c2.1),(ni c2.2.1),(ni c2.2.2.1),(ni c2.2.2.2.1),(.int .u32 c2.2.2.2.2.1),(av c2.2.2.2.2.2.1),(ni c2.2.2.2.2.2.2.1)] 0 h2 fun i2=>
 Nw 5 ⟨[(.int .u8 87),(.int .u8 81),(.int .u8 1)]⟩ i2 fun k2 j2=>
 Nw 26 ⟨[(av (⟨some ⟨k2,0,none⟩,3,3⟩:Sl))]⟩ j2 fun m2 l2=>
 Cl Pg [kB] br ⟨[(.pointer f),(av (⟨some ⟨m2,0,none⟩,1,1⟩:Sl))]⟩ l2 fun (o2:Bool) n2=>
 Cl Pg [(.st aI)] aE ⟨[(.pointer h),(.pointer f)]⟩ n2 fun q2 p2=>
 Cl Pg [(.st aI)] aE ⟨[(.pointer h),(.pointer f)]⟩ p2 fun s2 r2=>
 Nw 29 ⟨[(.int .u8 0),(ni 0),(ni 0),(ni 0),(.int .u32 0),(.slice none 0 0),(ni 0)]⟩ r2 fun u2 t2=>
 Nw 29 ⟨[(.int .u8 0),(ni 0),(ni 0),(ni 0),(.int .u32 0),(.slice none 0 0),(ni 0)]⟩ t2 fun x2 v2=>
 ae ⟨u2,0,none⟩ [(.int .u8 q2.1),(ni q2.2.1),(ni q2.2.2.1),(ni q2.2.2.2.1),(.int .u32 q2.2.2.2.2.1),(av q2.2.2.2.2.2.1),(ni q2.2.2.2.2.2.2.1)] 0 v2 fun y2=>
 ae ⟨x2,0,none⟩ [(.int .u8 s2.1),(ni s2.2.1),(ni s2.2.2.1),(ni s2.2.2.2.1),(.int .u32 s2.2.2.2.2.1),(av s2.2.2.2.2.2.1),(ni s2.2.2.2.2.2.2.1)] 0 y2 fun z2=>
 Ld (aJ .u8) (Addr.add ⟨n,0,none⟩ 0) z2 fun (a3:Int)=>
 aa (a3==1)
 (Ld (.st aI) ⟨b1,0,none⟩ z2 fun b3=>
 Cl Pg [kB] bH ⟨[(.agg ⟨[(.int .u8 b3.1),(ni b3.2.1),(ni b3.2.2.1),(ni b3.2.2.2.1),(.int .u32 b3.2.2.2.2.1),(av b3.2.2.2.2.2.1),(ni b3.2.2.2.2.2.2.1)]⟩),(.agg ⟨[(.int .u8 2),(ni 2),(ni 0),(ni 0),(.int .u32 0),(.slice none 0 0),(ni 0)]⟩)]⟩ z2 fun (d3:Bool) c3=>
 aa d3
 (Ld (aJ .u8) (Addr.add ⟨d1,0,none⟩ 0) c3 fun (e3:Int)=>
 aa (e3==1)
 (Ld (.st aI) ⟨r1,0,none⟩ c3 fun f3=>
 Cl Pg [kB] bH ⟨[(.agg ⟨[(.int .u8 f3.1),(ni f3.2.1),(ni f3.2.2.1),(ni f3.2.2.2.1),(.int .u32 f3.2.2.2.2.1),(av f3.2.2.2.2.2.1),(ni f3.2.2.2.2.2.2.1)]⟩),(.agg ⟨[(.int .u8 6),(ni 0),(ni 0),(ni 0),(.int .u32 0),(.slice none 0 0),(ni 0)]⟩)]⟩ c3 fun (h3:Bool) g3=>
 aa h3
 (Ld (aJ .u8) (Addr.add ⟨t1,0,none⟩ 0) g3 fun (i3:Int)=>
 aa (i3==1)
 (Ld (aJ .u8) (Addr.add ⟨e2,0,none⟩ 0) g3 fun (j3:Int)=>
 aa (j3==7)
 (Ld (aJ .u8) (Addr.add ⟨g2,0,none⟩ 0) g3 fun (k3:Int)=>
 aa (k3==7)
 (Cl Pg [kI] bF ⟨[(.pointer d)]⟩ g3 fun (m3:Int) l3=>
 aa (m3==2)
 (Ld (.st aI) ⟨u2,0,none⟩ l3 fun n3=>
 Cl Pg [kB] bH ⟨[(.agg ⟨[(.int .u8 n3.1),(ni n3.2.1),(ni n3.2.2.1),(ni n3.2.2.2.1),(.int .u32 n3.2.2.2.2.1),(av n3.2.2.2.2.2.1),(ni n3.2.2.2.2.2.2.1)]⟩),(.agg ⟨[(.int .u8 8),(ni 0),(ni 0),(ni 0),(.int .u32 0),(.slice none 0 0),(ni 240)]⟩)]⟩ l3 fun (p3:Bool) o3=>
 aa p3
 (Ld (.st aI) ⟨x2,0,none⟩ o3 fun q3=>
 Ld (.st aI) ⟨u2,0,none⟩ o3 fun r3=>
 Cl Pg [kB] bH ⟨[(.agg ⟨[(.int .u8 q3.1),(ni q3.2.1),(ni q3.2.2.1),(ni q3.2.2.2.1),(.int .u32 q3.2.2.2.2.1),(av q3.2.2.2.2.2.1),(ni q3.2.2.2.2.2.2.1)]⟩),(.agg ⟨[(.int .u8 r3.1),(ni r3.2.1),(ni r3.2.2.1),(ni r3.2.2.2.1),(.int .u32 r3.2.2.2.2.1),(av r3.2.2.2.2.2.1),(ni r3.2.2.2.2.2.2.1)]⟩)]⟩ o3 fun (t3:Bool) s3=>
 aa t3
 (Cl Pg [kI] bR ⟨[(.pointer f)]⟩ s3 fun (v3:Int) u3=>
 aa (v3==8)
 (Cl Pg [kI] bF ⟨[(.pointer h)]⟩ u3 fun (y3:Int) x3=>
 aa (y3==0)
 (Cl Pg [(.st aI)] aE ⟨[(.pointer none),(.pointer b)]⟩ x3 fun a4 z3=>
 aa ((a4.1:Int)==0)
 (Cl Pg [kI] bF ⟨[(.pointer none)]⟩ z3 fun (c4:Int) b4=>
 aa (c4==0)
 (Cl Pg [kP] dO ⟨[]⟩ b4 fun e4 d4=>
 Cl Pg [(.st aI)] aE ⟨[(.pointer e4),(.pointer none)]⟩ d4 fun g4 f4=>
 aa ((g4.1:Int)==1)
 (Ld (.st aI) ⟨n,0,none⟩ f4 fun h4=>
 Ld (.st aI) ⟨b1,0,none⟩ f4 fun i4=>
 Cl Pg [kB] bH ⟨[(.agg ⟨[(.int .u8 h4.1),(ni h4.2.1),(ni h4.2.2.1),(ni h4.2.2.2.1),(.int .u32 h4.2.2.2.2.1),(av h4.2.2.2.2.2.1),(ni h4.2.2.2.2.2.2.1)]⟩),(.agg ⟨[(.int .u8 i4.1),(ni i4.2.1),(ni i4.2.2.1),(ni i4.2.2.2.1),(.int .u32 i4.2.2.2.2.1),(av i4.2.2.2.2.2.1),(ni i4.2.2.2.2.2.2.1)]⟩)]⟩ f4 fun (k4:Bool) j4=>
 R (!k4) j4)
 (R false f4))
 (R false b4))
 (R false z3))
 (R false x3))
 (R false u3))
 (R false s3))
 (R false o3))
 (R false l3))
 (R false g3))
 (R false g3))
 (R false g3))
 (R false g3))
 (R false c3))
 (R false c3))
 (R false z2)) fun i=>
 aa (Option.isNone (b:Option Addr))
 (R false g)
 (aa (Option.isNone (d:Option Addr))
 (R false g)
 (aa (Option.isNone (f:Option Addr))
 (R false g)
 (aa (Option.isNone (h:Option Addr))
 (R false g)
 (i g))))):Cl Pg [kB] eo ⟨[]⟩ w R:=co Tryz.f12 [(6,[])] h
end Go.Proofs.YtgglghjnakclmaaGreat
namespace Go.Proofs.YtgglghjnakclmaaGreat
open Go Go.Vc
set_option maxRecDepth 100000
theorem tf.ok (a:(Array Value)) (R:Bool→World→Prop) w (h:
 Nw 104 a w fun c b=>
 Ld (.arr 258) ⟨c,0,none⟩ b fun d=>
 Cl Pg [kB] fJ ⟨[(.agg d)]⟩ b fun (f:Bool) e=>
 aa f
 (aY ⟨c,0,none⟩ 258 257 1 fun g=>
 Ld (aJ .u8) g e fun (h:Int)=>
 R (decide (h>0)) e)
 (R false e)):Cl Pg [kB] dh ⟨[(.agg a)]⟩ w R:=co Tryz.f173 [] h
theorem o6.ok (a:(Array Value)) (R:Bool→World→Prop) w (h:
 Nw 104 a w fun c b=>
 Ld (.arr 258) ⟨c,0,none⟩ b fun d=>
 Cl Pg [kI] jN ⟨[(.agg d)]⟩ b fun (f:Int) e=>
 R (f==32768) e):Cl Pg [kB] fJ ⟨[(.agg a)]⟩ w R:=co Tryz.f235 [] h
theorem qV.ok (a:(Array Value)) (R:(TT wc)→World→Prop) w (h:
 Nw 104 a w fun c b=>
 Nw 309 ⟨List.replicate 16 (ni 0)⟩ b fun e d=>
 Ld (.arr 258) ⟨c,0,none⟩ d fun f=>
 hY 0 d fun g h (i:Int) j=>
 aa (decide (i<258))
 (gB (.int .u8) f 258 i fun (k:Int)=>
 aa (decide ((i64 k)<16))
 (aY ⟨e,0,none⟩ 16 k 1 fun l=>
 Ld kI l j fun (m:Int)=>
 aY ⟨e,0,none⟩ 16 k 1 fun n=>
 St n (ni (i64 (m+1))) j fun o=>
 g (i64 (i+1)) o∧h (i64 (i+1)) o<h i j)
 (g (i64 (i+1)) j∧h (i64 (i+1)) j<h i j))
 (Ld (.st wc) ⟨e,0,none⟩ j fun p=>
 ae ⟨e,0,none⟩ [(ni p.1),(ni p.2.1),(ni p.2.2.1),(ni p.2.2.2.1),(ni p.2.2.2.2.1),(ni p.2.2.2.2.2.1),(ni p.2.2.2.2.2.2.1),(ni p.2.2.2.2.2.2.2.1),(ni p.2.2.2.2.2.2.2.2.1),(ni p.2.2.2.2.2.2.2.2.2.1),(ni p.2.2.2.2.2.2.2.2.2.2.1),(ni p.2.2.2.2.2.2.2.2.2.2.2.1),(ni p.2.2.2.2.2.2.2.2.2.2.2.2.1),(ni p.2.2.2.2.2.2.2.2.2.2.2.2.2.1),(ni p.2.2.2.2.2.2.2.2.2.2.2.2.2.2.1),(ni p.2.2.2.2.2.2.2.2.2.2.2.2.2.2.2.1)] 0 j fun q=>
 Ld (.st wc) ⟨e,0,none⟩ q fun r=>
 R r q)):Cl Pg [(.st wc)] gL ⟨[(.agg a)]⟩ w R:=co Tryz.f236 [(5,[(6,kI)])] h
theorem xe.ok (a:(Array Value)) (R:Int→World→Prop) w (h:
 Nw 104 a w fun c b=>
 Ld (.arr 258) ⟨c,0,none⟩ b fun d=>
 gA 0 0 b fun e f (g:Int) (h:Int) i=>
 aa (decide (h<258))
 (gB (.int .u8) d 258 h fun (j:Int)=>
 Cl Pg [kI] ir ⟨[(.int .u8 j)]⟩ i fun (l:Int) k=>
 e (i64 (g+l)) (i64 (h+1)) k∧f (i64 (g+l)) (i64 (h+1)) k<f g h i)
 (R g i)):Cl Pg [kI] jN ⟨[(.agg a)]⟩ w R:=co Tryz.f290 [(5,[(2,kI),(6,kI)])] h
theorem ti.ok (a:Int) (R:Int→World→Prop) w (h:
 aa (a==0)
 (R 0 w)
 (aa (decide (a>15))
 (R 32769 w)
 (0≤a∧
 R (cl .i64 (32768:Int) a) w))):Cl Pg [kI] ir ⟨[(.int .u8 a)]⟩ w R:=co Tryz.f320 [] h
end Go.Proofs.YtgglghjnakclmaaGreat
set_option maxRecDepth 20000
namespace Go.Vc
open Go
abbrev aM:=Nat→Option Obj
abbrev HP:=aM→Prop
def aM.emp:aM:=fun _=>none
def aM.one (b:Nat) (o:Obj):aM:=fun r=>if r=b then some o else none
def aM.add (f g:aM):aM:=fun r=>match f r with|some o=>some o|none=>g r
def fB (f g:aM):Prop:= ∀r,f r=none∨g r=none
def aq (b:Nat) (o:Obj):HP:=fun f=>f=aM.one b o
def Sat:List HP→HP
 | [],f=>f=aM.emp
 |A::l,f=> ∃g h,fB g h∧f=g.add h∧A g∧Sat l h
def By (f:aM) (w:World):Prop:= ∀r o,f r=some o→w.heap[r]? =some o
structure Hp (E:World) (w:World) (l:List HP):Prop where
 os:w.os=E.os
 output:w.output=E.output
 tape:w.tape=E.tape
 frag: ∃f,By f w∧Sat l f
theorem fB.comm {f g:aM} (h:fB f g):fB g f:=fun r=>(h r).symm
theorem aM.add_comm {f g:aM} (h:fB f g):f.add g=g.add f:=by
 funext r
 unfold aM.add
 rcases h r with h|h
 ·rw [h];cases g r<;>rfl
 ·rw [h];cases f r<;>rfl
theorem aM.add_assoc (f g h:aM):(f.add g).add h=f.add (g.add h):=by
 funext r
 unfold aM.add
 cases f r<;>rfl
theorem aM.zJ (f:aM):f.add aM.emp=f:=by
 funext r;unfold aM.add aM.emp;cases f r<;>rfl
theorem aM.oI (f:aM):aM.emp.add f=f:=by
 funext r;rfl
theorem ga {f g h:aM}:fB f (g.add h)↔fB f g∧fB f h:=by
 constructor
 ·intro H
  refine ⟨fun r=> ?_,fun r=> ?_⟩
  ·rcases H r with h1|h1
   ·exact .inl h1
   ·right;unfold aM.add at h1;cases hg:g r<;>simp_all
  ·rcases H r with h1|h1
   ·exact .inl h1
   ·right;unfold aM.add at h1;cases hg:g r<;>simp_all
 ·rintro ⟨h1,h2⟩ r
  rcases h1 r with h|h
  ·exact .inl h
  ·rcases h2 r with h'|h'
   ·exact .inl h'
   ·right;simp [aM.add,h,h']
theorem pz {f g h:aM}:fB (f.add g) h↔fB f h∧fB g h:=
 ⟨fun H=>let ⟨a,b⟩:=ga.1 H.comm;⟨a.comm,b.comm⟩,fun ⟨a,b⟩=>(ga.2 ⟨a.comm,b.comm⟩).comm⟩
theorem Sat.swap {A B:HP} {l:List HP} {f:aM} (h:Sat (A::B::l) f):Sat (B::A::l) f:=by
 obtain ⟨g,h1,hd,rfl,hA,g2,h2,hd2,rfl,hB,hl⟩:=h
 obtain ⟨d1,d2⟩:=ga.1 hd
 refine ⟨g2,g.add h2,ga.2 ⟨d1.comm,hd2⟩,?_,hB,g,h2,d2,rfl,hA,hl⟩
 rw [←aM.add_assoc,←aM.add_assoc,aM.add_comm d1]
theorem Sat.tail {A:HP} {l l':List HP} (h: ∀f,Sat l f→Sat l' f) {f:aM} (hs:Sat (A::l) f):Sat (A::l') f:=by
 obtain ⟨g,k,hd,rfl,hA,hl⟩:=hs
 exact ⟨g,k,hd,rfl,hA,h _ hl⟩
theorem Sat.perm {l l':List HP} (hp:l.Perm l'): ∀f,Sat l f→Sat l' f:=by
 induction hp with
 |nil=>exact fun _ h=>h
 |cons A _ ih=>exact fun f h=>h.tail ih
 |swap A B l=>exact fun f h=>h.swap
 |trans _ _ ih1 ih2=>exact fun f h=>ih2 f (ih1 f h)
theorem Sat.append {l l':List HP} {f:aM}:Sat (l++l') f↔∃g h,fB g h∧f=g.add h∧Sat l g∧Sat l' h:=by
 induction l generalizing f with
 |nil=>exact ⟨fun h=>⟨aM.emp,f,fun _=> .inl rfl,(aM.oI f).symm,rfl,h⟩,fun ⟨g,h,_,e,hg,hh⟩=>by
   have:g=aM.emp:=hg
   rw [e,this,aM.oI];exact hh⟩
 |cons A l ih=>
  constructor
  ·rintro ⟨g,h,hd,rfl,hA,hs⟩
   obtain ⟨g2,h2,hd2,rfl,hs2,hs3⟩:=ih.1 hs
   obtain ⟨d1,d2⟩:=ga.1 hd
   exact ⟨g.add g2,h2,pz.2 ⟨d2,hd2⟩,(aM.add_assoc _ _ _).symm,⟨g,g2,d1,rfl,hA,hs2⟩,hs3⟩
  ·rintro ⟨g,h,hd,rfl,⟨g2,h2,hd2,rfl,hA,hs2⟩,hs3⟩
   obtain ⟨d1,d2⟩:=pz.1 hd
   exact ⟨g2,h2.add h,ga.2 ⟨hd2,d1⟩,aM.add_assoc _ _ _,hA,ih.2 ⟨h2,h,d2,rfl,hs2,hs3⟩⟩
section
variable {E w w':World} {A B C D G:HP} {l l' F:List HP}
theorem Hp.perm (h:Hp E w l) (hp:l.Perm l'):Hp E w l':=
 ⟨h.os,h.output,h.tape,let ⟨f,a,b⟩:=h.frag;⟨f,a,Sat.perm hp f b⟩⟩
theorem Hp.p1 (h:Hp E w (A::B::F)):Hp E w (B::A::F):=h.perm (.swap ..)
theorem Hp.p2 (h:Hp E w (A::B::C::F)):Hp E w (C::A::B::F):=h.perm ((List.Perm.cons A (.swap ..)).trans (.swap ..))
theorem Hp.p3 (h:Hp E w (A::B::C::D::F)):Hp E w (D::A::B::C::F):=
 h.perm ((List.Perm.cons A ((List.Perm.cons B (.swap ..)).trans (.swap ..))).trans (.swap ..))
theorem Hp.q2 (h:Hp E w (A::B::C::F)):Hp E w (B::C::A::F):=h.p1.perm (.cons B (.swap ..))
theorem Hp.q3 (h:Hp E w (A::B::C::D::F)):Hp E w (B::C::D::A::F):=h.q2.perm (.cons B (.cons C (.swap ..)))
theorem Hp.flat (h:Hp E w (Sat l::F)):Hp E w (l++F):=
 ⟨h.os,h.output,h.tape,let ⟨f,a,g,k,hd,e,h1,h2⟩:=h.frag;⟨f,a,Sat.append.2 ⟨g,k,hd,e,h1,h2⟩⟩⟩
theorem Hp.fold (h:Hp E w (l++F)):Hp E w (Sat l::F):=
 ⟨h.os,h.output,h.tape,let ⟨f,a,h1⟩:=h.frag;let ⟨g,k,hd,e,h1,h2⟩:=Sat.append.1 h1;⟨f,a,g,k,hd,e,h1,h2⟩⟩
theorem Hp.uE {α:Sort _} {X:α→Prop} {L:α→List HP} (hA: ∀f,A f→∃x,X x∧Sat (L x) f) (h:Hp E w (A::F)): ∃x,X x∧Hp E w (L x++F):=by
 obtain ⟨f,a,g,k,hd,e,h1,h2⟩:=h.frag
 obtain ⟨x,hx,h3⟩:=hA g h1
 exact ⟨x,hx,h.os,h.output,h.tape,f,a,Sat.append.2 ⟨g,k,hd,e,h3,h2⟩⟩
theorem Hp.uO (hA: ∀f,Sat l f→A f) (h:Hp E w (l++F)):Hp E w (A::F):=by
 obtain ⟨f,a,h1⟩:=h.frag
 obtain ⟨g,k,hd,e,h1,h2⟩:=Sat.append.1 h1
 exact ⟨h.os,h.output,h.tape,f,a,g,k,hd,e,hA _ h1,h2⟩
theorem Hp.xJ (hA: ∀f,A f→B f) (h:Hp E w (A::F)):Hp E w (B::F):=by
 obtain ⟨f,a,g,k,hd,e,h1,h2⟩:=h.frag
 exact ⟨h.os,h.output,h.tape,f,a,g,k,hd,e,hA _ h1,h2⟩
theorem Hp.drop (h:Hp E w (A::F)):Hp E w F:=by
 obtain ⟨f,a,g,k,hd,rfl,h1,h2⟩:=h.frag
 refine ⟨h.os,h.output,h.tape,k,fun r o hr=>a r o ?_,h2⟩
 rcases hd r with hg|hk
 ·simp [aM.add,hg,hr]
 ·rw [hk] at hr;cases hr
theorem Hp.emp (h:Hp E w F) (hA:A aM.emp):Hp E w (A::F):=by
 obtain ⟨f,a,h1⟩:=h.frag
 exact ⟨h.os,h.output,h.tape,f,a,aM.emp,f,fun _=> .inl rfl,(aM.oI f).symm,hA,h1⟩
theorem Hp.same (h:Hp E w l) (h1:w'.heap=w.heap) (h2:w'.os=w.os) (h3:w'.output=w.output) (h4:w'.tape=w.tape):Hp E w' l:=
 ⟨h2.trans h.os,h3.trans h.output,h4.trans h.tape,let ⟨f,a,b⟩:=h.frag;⟨f,fun r o hr=>by rw [h1];exact a r o hr,b⟩⟩
theorem Hp.drew {n:Nat} (h:Hp E w l):Hp E {w with drawn:=n} l:=h.same rfl rfl rfl rfl
theorem Hp.aN {b:Nat} {o:Obj} (h:Hp E w (aq b o::F)):w.heap[b]? =some o:=by
 obtain ⟨f,a,g,k,hd,rfl,rfl,h2⟩:=h.frag
 exact a b o (by simp [aM.add,aM.one])
theorem Hp.cell {b i:Nat} {c:Array Value} {t:TypeId} {fr:Nat×Nat} (h:Hp E w (aq b (.cells c t fr)::F)):w.cell? ⟨b,i,none⟩=c[i]? :=by
 simp [World.cell?,h.aN]
theorem Hp.alloc (h:Hp E w F) (o:Obj):Hp E (w.alloc o) (aq w.heap.size o::F):=by
 obtain ⟨f,a,h1⟩:=h.frag
 have hn:f w.heap.size=none:=by
  cases hf:f w.heap.size with
  |none=>rfl
  |some o=>have:=a _ _ hf;simp at this
 refine ⟨h.os,h.output,h.tape,(aM.one w.heap.size o).add f,fun r o' hr=> ?_,_,_,fun r=> ?_,rfl,rfl,h1⟩
 ·show (w.heap.push o)[r]? =_
  rw [Array.getElem?_push]
  by_cases hr0:r=w.heap.size
  ·subst hr0;simp [aM.add,aM.one] at hr;simp [hr]
  ·simp [aM.add,aM.one,hr0] at hr
   rw [if_neg hr0];exact a r o' hr
 ·by_cases hr0:r=w.heap.size
  ·subst hr0;exact .inr hn
  ·exact .inl (by simp [aM.one,hr0])
theorem Hp.setObj {b:Nat} {o o':Obj} (h:Hp E w (aq b o::F)) (h1:w'.heap=w.heap.set! b o') (h2:w'.os=w.os) (h3:w'.output=w.output) (h4:w'.tape=w.tape):Hp E w' (aq b o'::F):=by
 have hb:=h.aN
 obtain ⟨f,a,g,k,hd,rfl,rfl,h5⟩:=h.frag
 have hk:k b=none:=by
  rcases hd b with hh|hh
  ·simp [aM.one] at hh
  ·exact hh
 refine ⟨h2.trans h.os,h3.trans h.output,h4.trans h.tape,(aM.one b o').add k,fun r x hr=> ?_,_,_,fun r=> ?_,rfl,rfl,h5⟩
 ·rw [h1]
  have hlt:b<w.heap.size:=by
   rcases Nat.lt_or_ge b w.heap.size with hh|hh
   ·exact hh
   ·simp [Array.getElem?_eq_none hh] at hb
  by_cases hr0:r=b
  ·subst hr0
   simp [aM.add,aM.one] at hr
   simp [hr,hlt]
  ·simp [aM.add,aM.one,hr0] at hr
   have:=a r x (by simp [aM.add,aM.one,hr0,hr])
   rw [Array.set!_eq_setIfInBounds,Array.getElem?_setIfInBounds_ne (Ne.symm hr0)]
   exact this
 ·by_cases hr0:r=b
  ·subst hr0;exact .inr hk
  ·exact .inl (by simp [aM.one,hr0])
theorem Hp.setCell {b i:Nat} {c:Array Value} {t:TypeId} {fr:Nat×Nat} (h:Hp E w (aq b (.cells c t fr)::F)) (v:Value):
  Hp E (w.setCell ⟨b,i,none⟩ v) (aq b (.cells (c.setIfInBounds i v) t fr)::F):=by
 have hb:=h.aN
 refine h.setObj (o':= .cells (c.setIfInBounds i v) t fr) ?_ rfl rfl rfl
 apply Array.ext_getElem?
 intro r
 have hlt:b<w.heap.size:=by
  rcases Nat.lt_or_ge b w.heap.size with hh|hh
  ·exact hh
  ·simp [Array.getElem?_eq_none hh] at hb
 simp only [World.setCell,Array.getElem?_modify,Array.set!_eq_setIfInBounds,Array.getElem?_setIfInBounds]
 by_cases hr:b=r
 ·subst hr
  have hv:w.heap[b]= .cells c t fr:=by simpa [hlt] using hb
  simp [hlt,hv]
 ·simp [hr]
def ao (F:List HP) (φ:World→Prop):Prop:= ∀w f,By f w→Sat F f→φ w
theorem Hp.aB {φ:World→Prop} (h:Hp E w F) (ht:ao F φ):φ w:=let ⟨f,a,b⟩:=h.frag;ht w f a b
theorem ao.cons {φ:World→Prop} (ht:ao F φ):ao (A::F) φ:=by
 rintro w f a ⟨g,k,hd,rfl,h1,h2⟩
 refine ht w k (fun r o hr=>a r o ?_) h2
 rcases hd r with hg|hk
 ·simp [aM.add,hg,hr]
 ·rw [hk] at hr;cases hr
theorem ao.perm {φ:World→Prop} (ht:ao l φ) (hp:l.Perm l'):ao l' φ:=fun w f a b=>ht w f a (Sat.perm hp.symm f b)
theorem ao.imp {φ ψ:World→Prop} (ht:ao F φ) (h: ∀w,φ w→ψ w):ao F ψ:=fun w f a b=>h w (ht w f a b)
theorem ao.and {φ ψ:World→Prop} (h1:ao F φ) (h2:ao F ψ):ao F (fun w=>φ w∧ψ w):=fun w f a b=>⟨h1 w f a b,h2 w f a b⟩
theorem ao.all {α:Sort _} {φ:α→World→Prop} (h: ∀x,ao F (φ x)):ao F (fun w=> ∀x,φ x w):=fun w f a b x=>h x w f a b
theorem ao.const {p:Prop} (h:p):ao F (fun _=>p):=fun _ _ _ _=>h
def Old (W:World):HP:=fun f=> ∀r,f r=W.heap[r]?
theorem Hp.start (W:World):Hp W W [Old W]:=
 ⟨rfl,rfl,rfl,fun r=>W.heap[r]?,fun _ _ h=>h,fun r=>W.heap[r]?,aM.emp,fun _=> .inr rfl,(aM.zJ _).symm,fun _=>rfl,rfl⟩
theorem ao.CA {W:World} {φ:World→Prop} (h: ∀w,(∀r,r<W.heap.size→w.heap[r]? =W.heap[r]?)→φ w):ao (Old W::F) φ:=by
 rintro w f a ⟨g,k,hd,rfl,h1,h2⟩
 refine h w fun r hr=> ?_
 have:g r=some W.heap[r]:=by rw [h1 r];simp [hr]
 rw [a r W.heap[r] (by simp [aM.add,this])]
 simp [hr]
theorem Hp.below {W:World} (h:Hp W w (Old W::F)):Go.RowKit.Below W.heap.size W w:=by
 have hk:=h.aB (ao.CA (φ:=fun w=> ∀r,r<W.heap.size→w.heap[r]? =W.heap[r]?) fun w h=>h)
 refine ⟨h.os,h.tape,h.output,?_,hk⟩
 rcases Nat.lt_or_ge w.heap.size W.heap.size with hlt|hge
 ·have:=hk w.heap.size hlt
  simp [hlt] at this
 ·exact hge
end
section
variable {E w:World} {F:List HP}
theorem aa.mk {b:Bool} {X Y:Prop} (h1:b=true→X) (h2:b=false→Y):aa b X Y:=by
 cases b
 ·exact h2 rfl
 ·exact h1 rfl
theorem aa.t {b:Bool} {X Y:Prop} (hb:b=true) (h:X):aa b X Y:=by subst hb;exact h
theorem aa.f {b:Bool} {X Y:Prop} (hb:b=false) (h:Y):aa b X Y:=by subst hb;exact h
theorem Ld.sc {s:Sc} {p:Addr} {K:s.T→Prop} (x:s.T) (hc:w.cell? p=some (s.enc x)) (h:K x):Ld (.sc s) p w K:=
 ⟨x,fun w' hw=>by subst hw;exact hc,h⟩
theorem St.mk {p:Addr} {v:Value} {K:World→Prop} {b i:Nat} {c:Array Value} {t:TypeId} (hp:p=⟨b,i,none⟩) (hh:Hp E w (aq b (.cells c t (0,0))::F)) (hi:i<c.size) (hv:ay v=true)
  (h: ∀w',Hp E w' (aq b (.cells (c.setIfInBounds i v) t (0,0))::F)→K w'):St p v w K:=by
 subst hp
 unfold St
 rw [hv]
 refine ⟨?_,?_,h _ (hh.setCell v)⟩
 ·rw [hh.cell];simp [hi]
 ·simp [World.frozen?,hh.aN]
theorem Nw.mk {t:TypeId} {cs:Array Value} {K:Nat→World→Prop} (hh:Hp E w F) (h: ∀b w',Hp E w' (aq b (.cells cs t (0,0))::F)→K b w'):Nw t cs w K:=h _ _ (hh.alloc _)
theorem ag.mk {K:World→Prop} (hh:Hp E w F) (h: ∀w',Hp E w' F→K w'):ag w K:=h _ hh.drew
theorem Cl.imp {P:Program} {ks:List Ki} {i:FuncId} {args:Array Value} {K K':gZ ks (World→Prop)} (h:Cl P ks i args w K) (hk: ∀e w',mf ks K e w'→mf ks K' e w'):Cl P ks i args w K':=
 Calls.mono h hk
end
end Go.Vc
set_option maxRecDepth 20000
namespace Go.Vc
open Go
theorem aj {x:Int} (h: -9223372036854775808≤x∧x≤9223372036854775807):i64 x=x:=IntWalk.i64_in x h
theorem eW {x:Int} (h:0≤x∧x≤18446744073709551615):u64 x=x:=IntWalk.u64_in x h
theorem eV {x:Int} (h:0≤x∧x≤4294967295):u32 x=x:=IntWalk.u32_in x h
theorem Bp (x:Int):u8 x=x % 256:=by
 show IntKind.wrap .u8 x=x % 256
 simp [IntKind.wrap,IntKind.bits,IntKind.signed]
theorem jB {x:Int} (h:0≤x∧x≤255):u8 x=x:=by rw [Bp];omega
theorem jG (n a:Nat) (h:a<2^n):(BitVec.ofInt n (a:Int)).toNat=a:=by
 rw [BitVec.toNat_ofInt]
 have:((a:Int) % ((2^n:Nat):Int))=((a % 2^n:Nat):Int):=by omega
 rw [this,Int.toNat_natCast,Nat.mod_eq_of_lt h]
theorem nE {k:IntKind} {a:Nat} (h:(a:Int)≤k.max):k.wrap (a:Int)=a:=by
 cases k
 ·have:IntKind.max .i8=127:=rfl
  exact IntWalk.i8_in _ (by omega)
 ·have:IntKind.max .i16=32767:=rfl
  exact IntWalk.i16_in _ (by omega)
 ·have:IntKind.max .i32=2147483647:=rfl
  exact IntWalk.i32_in _ (by omega)
 ·have:IntKind.max .i64=9223372036854775807:=rfl
  exact IntWalk.i64_in _ (by omega)
 ·have:IntKind.max .u8=255:=rfl
  exact IntWalk.u8_in _ (by omega)
 ·have:IntKind.max .u16=65535:=rfl
  exact IntWalk.u16_in _ (by omega)
 ·have:IntKind.max .u32=4294967295:=rfl
  exact IntWalk.u32_in _ (by omega)
 ·have:IntKind.max .u64=18446744073709551615:=rfl
  exact IntWalk.u64_in _ (by omega)
theorem max_lt (k:IntKind):(k.max:Int)<2^k.bits:=by cases k<;>decide
theorem my {k:IntKind} {a:Nat} (ha:(a:Int)≤k.max):a<2^k.bits:=by
 have:=max_lt k
 have h2:(a:Int)<2^k.bits:=Int.lt_of_le_of_lt ha this
 exact_mod_cast h2
theorem mz {k:IntKind} {a b:Nat} (ha:(a:Int)≤k.max) (hb:(b:Int)≤k.max) (h:((a|||b:Nat):Int)≤k.max):hX k a b=((a|||b:Nat):Int):=by
 unfold hX
 rw [BitVec.toNat_or,jG _ _ (my ha),jG _ _ (my hb),nE h]
theorem kH {k:IntKind} {a b:Nat} (ha:(a:Int)≤k.max) (hb:(b:Int)≤k.max):cQ k a b=((a&&&b:Nat):Int):=by
 unfold cQ
 rw [BitVec.toNat_and,jG _ _ (my ha),jG _ _ (my hb),nE]
 have:=Nat.and_le_left (n:=a) (m:=b)
 omega
theorem eL {k:IntKind} {a b:Nat} (hb:b≤k.bits):cl k a b=((a/2^b:Nat):Int):=by
 unfold cl
 rw [Int.toNat_natCast,Nat.min_eq_left hb,Int.fdiv_eq_ediv_of_nonneg _ (by exact_mod_cast Nat.zero_le _)]
 exact_mod_cast rfl
theorem cW {k:IntKind} {a b:Nat} (hb:b≤k.bits) (h:((a*2^b:Nat):Int)≤k.max):bg k a b=((a*2^b:Nat):Int):=by
 unfold bg
 rw [Int.toNat_natCast,Nat.min_eq_left hb]
 have:(a:Int)*2^b=((a*2^b:Nat):Int):=by push_cast;rfl
 rw [this,nE h]
theorem ak (b o n:Nat):(⟨b,o,none⟩:Addr).add n=⟨b,o+n,none⟩:=by
 unfold Addr.add
 split
 ·rename_i h;subst h;rfl
 ·rfl
theorem add_zero (p:Addr):p.add 0=p:=by simp [Addr.add]
def aR (sz:Nat) (s:Sl) (xs:List Value) (w:World):Prop:=
 xs.length=s.len*sz∧∀i (h:i<xs.length),∃p,s.base=some p∧w.cell? (p.add i)=some xs[i]
def aT (sz:Nat) (s:Sl) (xs:List Value):HP:=fun f=>
 xs.length=s.len*sz∧((s.base=none∧s.len=0∧s.cap=0∧f=aM.emp)∨
 ∃b off arr t,s.base=some ⟨b,off,none⟩∧s.len≤s.cap∧off+s.cap*sz≤arr.size∧(∀i (h:i<xs.length),arr[off+i]? =some xs[i])∧f=aM.one b (.cells arr t (0,0)))
section
variable {E w w':World} {F:List HP} {sz:Nat} {s:Sl} {xs ys:List Value}
theorem aT.nil (sz:Nat):aT sz ⟨none,0,0⟩ [] aM.emp:=⟨by simp,.inl ⟨rfl,rfl,rfl,rfl⟩⟩
theorem Hp.bh (h:Hp E w F) (sz:Nat):Hp E w (aT sz ⟨none,0,0⟩ []::F):=h.emp (aT.nil sz)
theorem Hp.nY {b:Nat} {arr:Array Value} {t:TypeId} {n:Nat} (h:Hp E w (aq b (.cells arr t (0,0))::F)) (hn:arr.toList.length=n*sz):
  Hp E w (aT sz ⟨some ⟨b,0,none⟩,n,n⟩ arr.toList::F):=by
 refine h.xJ fun f hf=>⟨hn,.inr ⟨b,0,arr,t,rfl,Nat.le_refl _,?_,?_,hf⟩⟩
 ·have:arr.size=n*sz:=by simpa using hn
  simp only [this];omega
 ·intro i hi
  have hi':i<arr.size:=by simpa using hi
  simp [hi']
theorem Hp.cN (h:Hp E w (aT sz s xs::F)):xs.length=s.len*sz:=by
 obtain ⟨f,a,g,k,hd,e,h1,h2⟩:=h.frag
 exact h1.1
theorem Hp.jg (h:Hp E w (aT sz s xs::F)):s.len≤s.cap:=by
 obtain ⟨f,a,g,k,hd,e,h1,h2⟩:=h.frag
 rcases h1.2 with ⟨h1,h2,h3,_⟩|⟨b,off,arr,t,h1,h2,_⟩
 ·omega
 ·exact h2
theorem Hp.oR (h:Hp E w (aT sz s xs::F)):(s=⟨none,0,0⟩∧xs= []∧Hp E w F)∨
  ∃b off arr t,s.base=some ⟨b,off,none⟩∧s.len≤s.cap∧off+s.cap*sz≤arr.size∧(∀i (h:i<xs.length),arr[off+i]? =some xs[i])∧Hp E w (aq b (.cells arr t (0,0))::F):=by
 have hl:=h.cN
 obtain ⟨f,a,g,k,hd,rfl,h1,h2⟩:=h.frag
 rcases h1.2 with ⟨h3,h4,h5,h6⟩|⟨b,off,arr,t,h3,h4,h5,h6,h7⟩
 ·refine .inl ⟨by cases s;simp_all,?_,h.drop⟩
  have:xs.length=0:=by rw [hl,h4];simp
  exact List.length_eq_zero_iff.1 this
 ·exact .inr ⟨b,off,arr,t,h3,h4,h5,h6,h.os,h.output,h.tape,_,a,g,k,hd,rfl,h7,h2⟩
theorem Hp.iO {b off:Nat} {arr:Array Value} {t:TypeId} (h:Hp E w (aq b (.cells arr t (0,0))::F)) (hl:xs.length=s.len*sz) (h1:s.base=some ⟨b,off,none⟩) (h2:s.len≤s.cap) (h3:off+s.cap*sz≤arr.size)
  (h4: ∀i (h:i<xs.length),arr[off+i]? =some xs[i]):Hp E w (aT sz s xs::F):=
 h.xJ fun _ hf=>⟨hl,.inr ⟨b,off,arr,t,h1,h2,h3,h4,hf⟩⟩
theorem ao.own:ao (aT sz s xs::F) (aR sz s xs):=by
 rintro w f a ⟨g,k,hd,rfl,⟨hl,h1⟩,h2⟩
 refine ⟨hl,fun i hi=> ?_⟩
 rcases h1 with ⟨h3,h4,h5,_⟩|⟨b,off,arr,t,h3,h4,h5,h6,rfl⟩
 ·rw [hl,h4] at hi;simp at hi
 ·refine ⟨_,h3,?_⟩
  have:w.heap[b]? =some (.cells arr t (0,0)):=a b _ (by simp [aM.add,aM.one])
  rw [ak]
  simp only [World.cell?,this]
  exact h6 i hi
theorem ao.cell {W:World} {p:Addr} {v:Value} (h:W.cell? p=some v):ao (Old W::F) (fun w=>w.cell? p=some v):=by
 refine ao.CA fun w hw=> ?_
 have hlt:p.block<W.heap.size:=by
  unfold World.cell? at h
  rcases Nat.lt_or_ge p.block W.heap.size with hh|hh
  ·exact hh
  ·simp [Array.getElem?_eq_none hh] at h
 rw [←h]
 unfold World.cell?
 rw [hw _ hlt]
theorem ao.yJ {W:World} (h:aR sz s xs W):ao (Old W::F) (aR sz s xs):=by
 intro w f a b
 refine ⟨h.1,fun i hi=> ?_⟩
 obtain ⟨p,hp,hc⟩:=h.2 i hi
 exact ⟨p,hp,(ao.cell hc) w f a b⟩
theorem ba.mk {i:Int} {K:Addr→Prop} {p:Addr} (hp:s.base=some p) (h0:0≤i) (h1:i<(s.len:Int)) (h:K (p.add (i.toNat*sz))):ba s i sz K:=⟨p,hp,h0,h1,h⟩
theorem ba.rd {i:Int} {K:Addr→Prop} (hs:aR 1 s xs w) (h0:0≤i) (h1:i<(s.len:Int)) (h: ∀p (hi:i.toNat<xs.length),w.cell? p=some xs[i.toNat]→K p):ba s i 1 K:=by
 have hl:i.toNat<xs.length:=by rw [hs.1];omega
 obtain ⟨p,hp,hc⟩:=hs.2 _ hl
 exact ⟨p,hp,h0,h1,h _ hl (by simpa using hc)⟩
theorem ba.Bj {i:Int} {K:Addr→Prop} (hs:aR sz s xs w) (hz:0<sz) (h0:0≤i) (h1:i<(s.len:Int)) (h: ∀p,(∀j (hj:i.toNat*sz+j<xs.length),j<sz→w.cell? (p.add j)=some xs[i.toNat*sz+j])→K p):ba s i sz K:=by
 have hlt:i.toNat<s.len:=by omega
 have hmul:i.toNat*sz+sz≤s.len*sz:=by
  have:(i.toNat+1)*sz≤s.len*sz:=Nat.mul_le_mul_right _ hlt
  rw [Nat.succ_mul] at this;exact this
 obtain ⟨p,hp,_⟩:=hs.2 (i.toNat*sz) (by rw [hs.1];omega)
 refine ⟨p,hp,h0,h1,h _ fun j hj hjs=> ?_⟩
 obtain ⟨q,hq,hc⟩:=hs.2 (i.toNat*sz+j) hj
 have:q=p:=Option.some.inj (hq.symm.trans hp)
 subst this
 rw [←hc]
 congr 1
 unfold Addr.add
 by_cases e1:i.toNat*sz=0<;>by_cases e2:j=0<;>simp [e1,e2,Nat.add_assoc]
theorem Hp.setRow {b off:Nat} {t:TypeId}: ∀(vs:List Value) (i:Nat) (w:World) (arr:Array Value),Hp E w (aq b (.cells arr t (0,0))::F)→off+i+vs.length≤arr.size→
  ∃arr':Array Value,arr'.size=arr.size∧(∀j (h:j<vs.length),arr'[off+i+j]? =some vs[j])∧(∀j,j<off+i→arr'[j]? =arr[j]?)∧
   Hp E (an.setRow w ⟨b,off,none⟩ vs i) (aq b (.cells arr' t (0,0))::F)
 | [],i,w,arr,h,_=>⟨arr,rfl,fun j h=>by simp at h,fun _ _=>rfl,h⟩
 |v::vs,i,w,arr,h,hl=>by
  simp only [List.length_cons] at hl
  have h1:=h.setCell (i:=off+i) v
  have hsz:off+(i+1)+vs.length≤(arr.setIfInBounds (off+i) v).size:=by rw [Array.size_setIfInBounds];omega
  obtain ⟨arr',e1,e2,e3,h2⟩:=Hp.setRow (b:=b) (off:=off) (t:=t) vs (i+1) _ (arr.setIfInBounds (off+i) v) h1 hsz
  refine ⟨arr',by simpa using e1,fun j hj=> ?_,fun j hj=> ?_,?_⟩
  ·cases j with
   |zero=>
    rw [Nat.add_zero,e3 _ (by omega)]
    simp [show off+i<arr.size by omega]
   |succ j=>
    have:=e2 j (by simp at hj;omega)
    rw [show off+i+(j+1)=off+(i+1)+j by omega]
    simpa using this
  ·rw [e3 _ (by omega),Array.getElem?_setIfInBounds_ne (by omega)]
  ·rw [an.setRow,ak];exact h2
theorem zF {P:Program} {b off:Nat} {arr:Array Value} {t:TypeId} (h:Hp E w (aq b (.cells arr t (0,0))::F)) (vs:List Value) (i:Nat) (hl:off+i+vs.length≤arr.size) (hv: ∀v∈vs,ay v=true):
  (storeCells ⟨b,off,none⟩ vs i).run P w= .ok () (an.setRow w ⟨b,off,none⟩ vs i):=by
 refine kq vs i w fun j hj=>⟨hv _ (List.getElem_mem hj),?_,?_⟩
 ·rw [ak,h.cell];simp;omega
 ·rw [ak];simp [World.frozen?,h.aN]
theorem ew: ∀(r c n:Nat),c≤2*n+1024→Builtin.growBy n r c≤2*n+1024
 |0,c,n,h=>h
 |r+1,c,n,h=>by
  unfold Builtin.growBy
  split
  ·exact h
  ·exact ew r _ n (by omega)
theorem zg {n c:Nat} (h:c<n):Builtin.nextslicecap n c≤2*n+1024:=by
 unfold Builtin.nextslicecap
 split
 ·omega
 ·split
  ·omega
  ·exact ew 4 c n (by omega)
structure fh (P:Program) (t e:TypeId) (sz bytes:Nat):Prop where
 und:P.underlying t=some (.slice e)
 info: ∃it z,P.info? e=some it∧it.size=sz∧it.bytes=bytes∧it.zero=some z∧z.cells.size=sz
def yN (P:Program) (e:TypeId) (sz bytes:Nat):Bool:=
 match P.info? e with
 |some it=>it.size==sz&&it.bytes==bytes&&(match it.zero with|some z=>z.cells.size==sz|none=>false)
 |none=>false
theorem fh.of {P:Program} {t e:TypeId} {sz bytes:Nat} (h1:P.underlying t=some (.slice e)) (h2:yN P e sz bytes=true):fh P t e sz bytes:=by
 refine ⟨h1,?_⟩
 unfold yN at h2
 split at h2
 ·rename_i it hi
  simp only [Bool.and_eq_true,beq_iff_eq] at h2
  obtain ⟨⟨h2,h3⟩,h4⟩:=h2
  split at h4
  ·rename_i z hz
   exact ⟨it,z,hi,h2,h3,hz,by simpa using h4⟩
  ·simp at h4
 ·simp at h2
theorem pC {P:Program} {vs:List Value} {p:Addr} (h: ∀i (hi:i<vs.length),w.cell? (p.add i)=some vs[i]):(loadCells p vs.length).run P w= .ok vs.toArray w:=by
 have:=fl (P:=P) (w:=w) (a:=p) vs 0 #[] (fun j hj=>by simpa using h j hj)
 simpa [loadCells] using this
def Src (sz n:Nat) (x:Value) (ys:List Value) (w:World):Prop:=
 (∃b l c,x= .slice b l c∧n=l∧aR sz ⟨b,l,c⟩ ys w)∨(∃s:ByteArray,x= .string s∧n=s.size∧ys=s.data.toList.map fun b=> .int .u8 b.toNat)
theorem Src.run {P:Program} {n:Nat} {x:Value} (h:Src sz n x ys w):(Builtin.firstCells sz n x).run P w= .ok ys.toArray w∧(Builtin.lenOf x).run P w= .ok n w:=by
 rcases h with ⟨b,l,c,rfl,rfl,hl,hc⟩|⟨s,rfl,rfl,rfl⟩
 ·refine ⟨?_,rfl⟩
  simp only at hl
  cases b with
  |none=>
   cases ys with
   |nil=>rfl
   |cons y ys=>obtain ⟨p,hp,_⟩:=hc 0 (by simp);cases hp
  |some p=>
   show (loadCells p (n*sz)).run P w=_
   rw [←hl]
   exact pC fun i hi=>by obtain ⟨q,hq,hc⟩:=hc i hi;cases hq;exact hc
 ·refine ⟨?_,rfl⟩
  show Result.ok ((s.extract 0 s.size).data.map fun b=>Value.int .u8 b.toNat) w=_
  congr 1
  have:s.extract 0 s.size=s:=by simp
  rw [this]
  apply Array.ext'
  simp
theorem Src.len {n:Nat} {x:Value} (h:Src 1 n x ys w):ys.length=n:=by
 rcases h with ⟨b,l,c,rfl,rfl,hl,hc⟩|⟨s,rfl,rfl,rfl⟩
 ·simpa using hl
 ·simp
theorem oK (z:Array Value) (n:Nat):(Builtin.zeroCells z n).size=n*z.size:=by simp [Builtin.zeroCells]
theorem tA {P:Program} {t tx ty e:TypeId} {bytes n:Nat} {x:Value} {K:Sl→World→Prop} (he:fh P t e sz bytes) (_:0<sz) (hx:(∃e2,P.underlying tx=some (.slice e2))∨P.underlying tx=some .string)
  (hh:Hp E w (aT sz s xs::F)) (hs:Src sz n x ys w) (hyl:ys.length=n*sz) (hys: ∀y∈ys,ay y=true) (hb:(2*(s.len+n)+1024)*bytes≤2^48) (hb2:s.len+n<2^62)
  (h: ∀s' w',Hp E w' (aT sz s' (xs++ys)::F)→s'.len=s.len+n→aR sz s xs w'→K s' w'):aA P (Builtin.append_ #[t,tx] ty ⟨[.slice s.base s.len s.cap,x]⟩) kS w K:=by
 obtain ⟨it,z,hi,hsz,hby,hze,hzs⟩:=he.info
 obtain ⟨hs1,hs2⟩:=hs.run (P:=P)
 have hlen:=hh.cN
 have hcap:=hh.jg
 have hso:(sizeOf e).run P w= .ok sz w:=by rw [bV hi,hsz]
 have step: ∀v w',(Builtin.append_ #[t,tx] ty ⟨[.slice s.base s.len s.cap,x]⟩).run P w= .ok v w'→(∃s':Sl,v= .slice s'.base s'.len s'.cap∧Hp E w' (aT sz s' (xs++ys)::F)∧s'.len=s.len+n∧aR sz s xs w')→
   aA P (Builtin.append_ #[t,tx] ty ⟨[.slice s.base s.len s.cap,x]⟩) kS w K:=by
  rintro v w' h1 ⟨s',rfl,h2,h3,h4⟩
  unfold aA
  rw [h1]
  exact h s' w' h2 h3 h4
 have hlen2:(xs++ys).length=(s.len+n)*sz:=by rw [List.length_append,hlen,hyl,Nat.add_mul]
 by_cases hfit:s.len+n≤s.cap
 ·rcases hh.oR with ⟨rfl,rfl,hF⟩|⟨b,off,arr,tt,h1,h2,h3,h4,hB⟩
  ·have hn0:n=0:=by simp at hfit;exact hfit
   subst hn0
   have hy0:ys= []:=by simpa using hyl
   subst hy0
   refine step (.slice none 0 0) w ?_ ⟨⟨none,0,0⟩,rfl,hh,rfl,hh.aB ao.own⟩
   rcases hx with ⟨e2,hd⟩|hd<;>simp [Builtin.append_,run_underlying he.und,hso,run_underlying hd,hs1,hs2]
  ·have hmul:(s.len+n)*sz≤s.cap*sz:=Nat.mul_le_mul_right _ hfit
   rw [Nat.add_mul] at hmul
   have hlr:off+s.len*sz+ys.length≤arr.size:=by omega
   obtain ⟨arr',e1,e2,e3,hB'⟩:=Hp.setRow (off:=off) ys (s.len*sz) w arr hB (by omega)
   have hrow:=zF (P:=P) (off:=off+s.len*sz) hB ys 0 (by omega) hys
   have hro2:an.setRow w ⟨b,off+s.len*sz,none⟩ ys 0=an.setRow w ⟨b,off,none⟩ ys (s.len*sz):=by
    have key: ∀(vs:List Value) (w:World) (i:Nat),an.setRow w ⟨b,off+s.len*sz,none⟩ vs i=an.setRow w ⟨b,off,none⟩ vs (s.len*sz+i):=by
     intro vs
     induction vs with
     |nil=>intro w i;rfl
     |cons v vs ih=>intro w i;simp only [an.setRow,ih,ak,Nat.add_assoc]
    simpa using key ys w 0
   refine step (.slice s.base (s.len+n) s.cap) (an.setRow w ⟨b,off,none⟩ ys (s.len*sz)) ?_ ⟨⟨s.base,s.len+n,s.cap⟩,rfl,?_,rfl,⟨hlen,fun i hi=>⟨_,h1,by rw [ak,hB'.cell,e3 _ (by omega)];exact h4 i hi⟩⟩⟩
   ·rw [hro2] at hrow
    rcases hx with ⟨e2,hd⟩|hd<;>simp [Builtin.append_,run_underlying he.und,hso,run_underlying hd,hs1,hs2,hfit,h1,ak,hrow]
   ·refine Hp.iO hB' hlen2 h1 hfit (by simp only;omega) fun i hi=> ?_
    by_cases hi2:i<xs.length
    ·rw [e3 _ (by omega),List.getElem_append_left hi2];exact h4 i hi2
    ·rw [List.getElem_append_right (by omega)]
     have:=e2 (i - xs.length) (by simp at hi;omega)
     rw [←this]
     congr 1
     omega
 ·have hnext: ¬Builtin.nextslicecap (s.len+n) s.cap*it.bytes>2^48:=by
   have:=zg (n:=s.len+n) (c:=s.cap) (by omega)
   have h2:Builtin.nextslicecap (s.len+n) s.cap*it.bytes≤(2*(s.len+n)+1024)*bytes:=by rw [hby];exact Nat.mul_le_mul_right _ this
   omega
  have hmax: ¬((s.len+n:Nat):Int)>IntKind.i64.max:=by
   have:IntKind.i64.max=9223372036854775807:=rfl
   rw [this];omega
  have hold:(Builtin.firstCells sz s.len (.slice s.base s.len s.cap)).run P w= .ok xs.toArray w:=by
   have:Src sz s.len (.slice s.base s.len s.cap) xs w:= .inl ⟨s.base,s.len,s.cap,rfl,rfl,hh.aB ao.own⟩
   exact (this.run (P:=P)).1
  generalize hq:Question.cut (.appendCap (s.len+n) s.cap e) (w.tape w.drawn (.appendCap (s.len+n) s.cap e))=newCap
  have hnc:s.len+n≤newCap:=by rw [←hq];exact Nat.le_add_right _ _
  have hF:Hp E w F:=hh.drop
  have hD:Hp E w.drew F:=hF.drew (n:=w.drawn+1)
  have hold':(Builtin.firstCells sz s.len (.slice s.base s.len s.cap)).run P w.drew= .ok xs.toArray w.drew:=by
   have:Src sz s.len (.slice s.base s.len s.cap) xs w.drew:= .inl ⟨s.base,s.len,s.cap,rfl,rfl,(hh.drew (n:=w.drawn+1)).aB ao.own⟩
   exact (this.run (P:=P)).1
  have hs1':(Builtin.firstCells sz n x).run P w.drew= .ok ys.toArray w.drew:=(Src.run (P:=P) (w:=w.drew) hs).1
  have hA:=hD.alloc (.cells (xs.toArray++ys.toArray++Builtin.zeroCells z.cells (newCap - (s.len+n))) e)
  refine step (.slice (some ⟨w.heap.size,0,none⟩) (s.len+n) newCap) _ ?_ ⟨⟨some ⟨w.heap.size,0,none⟩,s.len+n,newCap⟩,rfl,Hp.iO hA hlen2 rfl hnc ?_ ?_,rfl,((hh.drew (n:=w.drawn+1)).alloc (.cells (xs.toArray++ys.toArray++Builtin.zeroCells z.cells (newCap - (s.len+n))) e)).aB (ao.cons ao.own)⟩
  ·have hz': ∀w:World,(zeroValue e).run P w= .ok z w:=by intro w;simp [zeroValue,typeInfo,hi,hze]
   have hti: ∀w:World,(typeInfo e).run P w= .ok it w:=by intro w;simp [typeInfo,hi]
   have hmax': ¬(9223372036854775807<(s.len:Int)+(n:Int)∧it.bytes=0):=by omega
   have hfo:Question.forced (.appendCap (s.len+n) s.cap e)=false:=rfl
   rcases hx with ⟨e2,hd⟩|hd<;>simp [Builtin.append_,run_underlying he.und,hso,run_underlying hd,hs2,hfit,hmax',hti,hnext,hfo,hq,hold',hs1',hz',newRow]
   all_goals rw [←Array.append_assoc,show xs.toArray++ys.toArray=(xs++ys).toArray by simp]
  ·simp only [Array.size_append,List.size_toArray,oK,hzs,hlen,hyl]
   have:newCap*sz=(s.len+n)*sz+(newCap - (s.len+n))*sz:=by rw [←Nat.add_mul];congr 1;omega
   rw [this,Nat.add_mul];omega
  ·intro i hi
   have h1:i<(xs.toArray++ys.toArray).size:=by simpa using hi
   rw [Nat.zero_add,Array.getElem?_append_left h1]
   have:(xs.toArray++ys.toArray)=(xs++ys).toArray:=by simp
   rw [this]
   simp only [List.getElem?_toArray]
   exact List.getElem?_eq_getElem hi
theorem cC {P:Program} {t tx ty e:TypeId} {bytes n:Nat} {x:Value} {K:Sl→World→Prop} (he:fh P t e sz bytes) (hz:0<sz) (hx:(∃e2,P.underlying tx=some (.slice e2))∨P.underlying tx=some .string)
  (hh:Hp E w (aT sz s xs::F)) (hs:Src sz n x ys w) (hyl:ys.length=n*sz) (hys: ∀y∈ys,ay y=true) (hb:(2*(s.len+n)+1024)*bytes≤2^48) (hb2:s.len+n<2^62)
  (h: ∀s' w',Hp E w' (aT sz s' (xs++ys)::F)→s'.len=s.len+n→K s' w'):aA P (Builtin.append_ #[t,tx] ty ⟨[.slice s.base s.len s.cap,x]⟩) kS w K:=
 tA he hz hx hh hs hyl hys hb hb2 fun s' w' h1 h2 _=>h s' w' h1 h2
end
theorem jx.mk {P:Program} {i:FuncId} {first captured:Array Value} {ks:List Ki} {args:List Value} {w:World} {K:gZ ks (World→Prop)} (ok:jY P i=true) (h:Cl P ks i ⟨first.toList++args++captured.toList⟩ w K):
  jx P (.func (.func i) first captured) ks args w K:=by
 unfold jx
 simp only [ok]
 exact h
theorem aD {X Y:Prop}:aa true X Y=X:=rfl
theorem aC {X Y:Prop}:aa false X Y=Y:=rfl
theorem ah {p:Addr} {K:Addr→Prop}:aO (some p) K=K p:=rfl
theorem au {α:Type} (r:α) (k:α→Prop):bf r k=k r:=rfl
section
variable {E w:World} {F:List HP}
theorem Ld.aN {s:Sc} {b i:Nat} {c:Array Value} {t:TypeId} {fr:Nat×Nat} {K:s.T→Prop} (h:Hp E w (aq b (.cells c t fr)::F)) (x:s.T) (hx:c[i]? =some (s.enc x)) (hk:K x):Ld (.sc s) ⟨b,i,none⟩ w K:=
 Ld.sc x (by rw [h.cell];exact hx) hk
theorem St.aN {v:Value} {K:World→Prop} {b i:Nat} {c:Array Value} {t:TypeId} (hh:Hp E w (aq b (.cells c t (0,0))::F)) (hi:i<c.size) (hv:ay v=true)
  (h: ∀w',Hp E w' (aq b (.cells (c.setIfInBounds i v) t (0,0))::F)→K w'):St ⟨b,i,none⟩ v w K:=St.mk rfl hh hi hv h
end
def mO:Nat:=1099511627776
theorem eU:mO=1099511627776:=rfl
def vB (x:Nat):Value:= .int .u8 (x:Int)
def vI (x:Int):Value:= .int .i64 x
theorem lI {xs:List Nat}: ∀y∈xs.map vB,ay y=true:=by
 intro y hy
 obtain ⟨x,_,rfl⟩:=List.mem_map.1 hy
 rfl
theorem pT {xs:List Int}: ∀y∈xs.map vI,ay y=true:=by
 intro y hy
 obtain ⟨x,_,rfl⟩:=List.mem_map.1 hy
 rfl
theorem St.BK {E w:World} {F:List HP} {sz j:Nat} {s:Sl} {xs:List Value} {i:Int} {v:Value} {K:World→Prop} (hh:Hp E w (aT sz s xs::F)) (hj:j<sz) (h0:0≤i) (h1:i<(s.len:Int)) (hv:ay v=true)
  (h: ∀w',Hp E w' (aT sz s (xs.set (i.toNat*sz+j) v)::F)→K w'):ba s i sz (fun q=>St (q.add j) v w K):=by
 have hl:=hh.cN
 have hlt:i.toNat<s.len:=by omega
 have hmul:i.toNat*sz+sz≤s.len*sz:=by
  have:(i.toNat+1)*sz≤s.len*sz:=Nat.mul_le_mul_right _ hlt
  rw [Nat.succ_mul] at this;exact this
 rcases hh.oR with ⟨rfl,rfl,hF⟩|⟨b,off,arr,t,e1,e2,e3,e4,hB⟩
 ·simp at hlt
 ·have hcm:s.len*sz≤s.cap*sz:=Nat.mul_le_mul_right _ e2
  refine ⟨_,e1,h0,h1,?_⟩
  rw [ak]
  show St (Addr.add _ j) v w K
  rw [ak]
  refine St.mk rfl hB (by omega) hv fun w' h'=>h _ ?_
  refine h'.iO (by simpa using hl) e1 e2 (by simpa using e3) fun r hr=> ?_
  rw [List.length_set] at hr
  rw [Array.getElem?_setIfInBounds,List.getElem_set]
  by_cases hq:i.toNat*sz+j=r
  ·rw [if_pos (by omega),if_pos (by omega),if_pos hq]
  ·rw [if_neg (by omega),if_neg hq];exact e4 r hr
theorem St.own {E w:World} {F:List HP} {s:Sl} {xs:List Value} {i:Int} {v:Value} {K:World→Prop} (hh:Hp E w (aT 1 s xs::F)) (h0:0≤i) (h1:i<(s.len:Int)) (hv:ay v=true)
  (h: ∀w',Hp E w' (aT 1 s (xs.set i.toNat v)::F)→K w'):ba s i 1 (fun q=>St q v w K):=by
 have:=St.BK (sz:=1) (j:=0) (K:=K) hh (by decide) h0 h1 hv (by simpa using h)
 simpa only [add_zero] using this
theorem ao.aN {F:List HP} {b n m sz:Nat} {arr:Array Value} {xs:List Value} {t:TypeId} {fr:Nat×Nat} (hx:arr.toList=xs) (hl:xs.length=n*sz):ao (aq b (.cells arr t fr)::F) (aR sz ⟨some ⟨b,0,none⟩,n,m⟩ xs):=by
 subst hx
 rintro w f a ⟨g,k,hd,rfl,rfl,h2⟩
 refine ⟨hl,fun i hi=>⟨_,rfl,?_⟩⟩
 have:w.heap[b]? =some (.cells arr t fr):=a b _ (by simp [aM.add,aM.one])
 rw [ak]
 simp only [World.cell?,this,Nat.zero_add]
 have hi':i<arr.size:=by simpa using hi
 simp [hi']
theorem ao.nil {F:List HP} {sz:Nat}:ao F (aR sz ⟨none,0,0⟩ []):=fun _ _ _ _=>⟨by simp,fun i hi=>by simp at hi⟩
theorem cc.own {E w:World} {F:List HP} {s:Sl} {xs:List Value} {lo hi:Int} {K:Sl→Prop} (hh:Hp E w (aT 1 s xs::F)) (h0:0≤lo) (h1:lo≤hi) (h2:hi≤(s.len:Int))
  (h: ∀s':Sl,Hp E w (aT 1 s' ((xs.drop lo.toNat).take (hi.toNat - lo.toNat))::F)→s'.len=hi.toNat - lo.toNat→K s'):cc s lo hi s.cap 1 K:=by
 have hl:=hh.cN
 have hc:=hh.jg
 refine ⟨h0,h1,by omega,by omega,h _ ?_ rfl⟩
 rcases hh.oR with ⟨rfl,rfl,hF⟩|⟨b,off,arr,t,e1,e2,e3,e4,hB⟩
 ·simp only at h2
  have e1:lo.toNat=0:=by omega
  have e2:hi.toNat=0:=by omega
  simpa [e1,e2] using hh
 ·have key:(if (s.cap:Int).toNat=lo.toNat then s.base else s.base.map (·.add (lo.toNat*1)))=if s.cap=lo.toNat then s.base else some ⟨b,off+lo.toNat,none⟩:=by
   rw [Int.toNat_natCast,e1]
   simp only [Option.map_some,ak,Nat.mul_one]
  rw [key,Int.toNat_natCast]
  have hlen:((xs.drop lo.toNat).take (hi.toNat - lo.toNat)).length=(hi.toNat - lo.toNat)*1:=by simp [hl];omega
  by_cases hcl:s.cap=lo.toNat
  ·rw [if_pos hcl]
   refine hB.iO hlen e1 (by simp only;omega) (by simp only;omega) fun i hi'=> ?_
   rw [hlen] at hi';omega
  ·rw [if_neg hcl]
   refine hB.iO hlen rfl (by simp only;omega) (by simp only;omega) fun i hi'=> ?_
   have hi2:lo.toNat+i<xs.length:=by rw [hlen] at hi';omega
   rw [Nat.add_assoc,e4 _ hi2]
   simp
theorem cc.rd {w:World} {s:Sl} {xs:List Value} {lo hi mx:Int} {K:Sl→Prop} (hs:aR 1 s xs w) (h0:0≤lo) (h1:lo≤hi) (h2:hi≤(s.len:Int)) (h3:hi≤mx) (h4:mx≤(s.cap:Int))
  (h: ∀s':Sl,(∀w',aR 1 s xs w'→aR 1 s' ((xs.drop lo.toNat).take (hi.toNat - lo.toNat)) w')→s'.len=hi.toNat - lo.toNat→K s'):cc s lo hi mx 1 K:=by
 have hl:=hs.1
 refine ⟨h0,h1,h3,h4,h _ (fun w' hs'=> ?_) rfl⟩
 have hlen:((xs.drop lo.toNat).take (hi.toNat - lo.toNat)).length=(hi.toNat - lo.toNat)*1:=by simp [hl];omega
 refine ⟨hlen,fun i hi'=> ?_⟩
 have hi2:lo.toNat+i<xs.length:=by rw [hlen] at hi';omega
 obtain ⟨p,hp,hcell⟩:=hs'.2 _ hi2
 have hne:mx.toNat≠lo.toNat:=by rw [hlen] at hi';omega
 refine ⟨p.add lo.toNat,by simp [hne,hp],?_⟩
 have:(p.add lo.toNat).add i=p.add (lo.toNat+i):=by
  unfold Addr.add
  by_cases e1:lo.toNat=0<;>by_cases e2:i=0<;>simp [e1,e2,Nat.add_assoc]
 rw [this,hcell]
 simp
end Go.Vc
set_option maxRecDepth 20000
namespace Go.Vc
open Go
section
variable {E w:World} {F:List HP}
theorem Ld.arr {b n:Nat} {cs:Array Value} {t:TypeId} {fr:Nat×Nat} {K:Array Value→Prop} (h:Hp E w (aq b (.cells cs t fr)::F)) (hn:cs.size=n) (hK:K cs):Ld (.arr n) ⟨b,0,none⟩ w K:=by
 refine ⟨cs,hn,fun w' hw i hi=> ?_,hK⟩
 subst hw
 rw [ak,h.cell,Nat.zero_add]
 simp [hn,hi]
theorem an.aN {b n:Nat} {c0 cs:Array Value} {t:TypeId} {K:World→Prop} (h:Hp E w (aq b (.cells c0 t (0,0))::F)) (h0:c0.size=n) (hn:cs.size=n) (hs: ∀v∈cs.toList,ay v=true)
  (hK: ∀w',Hp E w' (aq b (.cells cs t (0,0))::F)→K w'):an n ⟨b,0,none⟩ cs w K:=by
 refine ⟨hn,fun i hi=>⟨?_,?_,?_⟩,?_⟩
 ·have:cs.getD i undef∈cs.toList:=by simp [hn,hi]
  exact hs _ this
 ·rw [ak,h.cell];simp [h0,hi]
 ·rw [ak];simp [World.frozen?,h.aN]
 ·obtain ⟨arr',e1,e2,e3,h'⟩:=Hp.setRow (b:=b) (off:=0) cs.toList 0 w c0 h (by simp;omega)
  have:arr'=cs:=by
   apply Array.ext
   ·omega
   ·intro i hi1 hi2
    have:=e2 i (by simpa using hi2)
    rw [show 0+0+i=i by omega,Array.getElem?_eq_getElem hi1] at this
    simpa using this
  subst this
  exact hK _ h'
theorem aY.rd {b n:Nat} {cs:Array Value} {t:TypeId} {fr:Nat×Nat} {i:Int} {s:Sc} {K:s.T→Prop} (h:Hp E w (aq b (.cells cs t fr)::F)) (h0:0≤i) (h1:i<(n:Int)) (x:s.T) (hx:cs[i.toNat]? =some (s.enc x)) (hK:K x):
  aY ⟨b,0,none⟩ n i 1 fun q=>Ld (.sc s) q w K:=by
 refine ⟨h0,h1,?_⟩
 rw [ak]
 exact Ld.aN h x (by simpa using hx) hK
theorem aY.wr {b n:Nat} {cs:Array Value} {t:TypeId} {i:Int} {v:Value} {K:World→Prop} (h:Hp E w (aq b (.cells cs t (0,0))::F)) (h0:0≤i) (h1:i<(n:Int)) (hn:cs.size=n) (hv:ay v=true)
  (hK: ∀w',Hp E w' (aq b (.cells (cs.setIfInBounds i.toNat v) t (0,0))::F)→K w'):aY ⟨b,0,none⟩ n i 1 fun q=>St q v w K:=by
 refine ⟨h0,h1,?_⟩
 rw [ak]
 exact St.aN h (by omega) hv (by simpa using hK)
theorem gB.rd {s:Sc} {cs:Array Value} {n:Nat} {i:Int} {K:s.T→Prop} (h0:0≤i) (h1:i<(n:Int)) (x:s.T) (hx:cs[i.toNat]? =some (s.enc x)) (hK:K x):gB s cs n i K:=⟨h0,h1,x,hx,hK⟩
end
def ai (k:IntKind) (l:List Nat):Array Value:=⟨l.map fun (n:Nat)=> .int k (n:Int)⟩
theorem bQ {k:IntKind} {l:List Nat}:(ai k l).size=l.length:=by simp [ai]
theorem j5 {k:IntKind} {l:List Nat} {i:Nat} (h:i<l.length):(ai k l)[i]? =some (Sc.enc (.int k) (l[i]:Int)):=by simp [ai,h]
theorem g7 {k:IntKind} {l:List Nat}: ∀v∈(ai k l).toList,ay v=true:=by
 intro v hv
 simp only [ai,List.mem_map] at hv
 obtain ⟨x,_,rfl⟩:=hv
 rfl
theorem BD {k:IntKind} {l:List Nat} {i x:Nat}:(ai k l).setIfInBounds i (.int k (x:Int))=ai k (l.set i x):=by
 unfold ai
 apply Array.ext'
 simp [List.map_set]
theorem zh {k:IntKind} {n:Nat}:(⟨List.replicate n (.int k 0)⟩:Array Value)=ai k (List.replicate n 0):=by
 unfold ai;simp
theorem qN.mk {k:IntKind} {n:Nat} {a b:List Nat} {K:Bool→Prop} (ha:a.length=n) (hb:b.length=n) (h:K (a==b)):qN k n (ai k a) (ai k b) K:=by
 refine ⟨a.map fun (x:Nat)=>(x:Int),b.map fun (x:Nat)=>(x:Int),by simp [ai],by simp [ai],by simpa using ha,by simpa using hb,?_⟩
 have:((a.map fun (x:Nat)=>(x:Int))==(b.map fun (x:Nat)=>(x:Int)))=(a==b):=by
  rw [Bool.eq_iff_iff,beq_iff_eq,beq_iff_eq]
  constructor
  ·intro h
   exact (List.map_inj_right (fun x y h=>by have h:(x:Int)=(y:Int):=h;omega)).1 h
  ·rintro rfl;rfl
 rw [this];exact h
end Go.Vc
set_option maxRecDepth 20000
namespace Go.Vc
open Go
section
variable {E w w':World} {F G:List HP} {sz:Nat} {s:Sl} {xs ys:List Value}
theorem Hp.uU {l:List HP} (h:Hp E w (l++F)):Hp E w F:=by
 induction l with
 |nil=>exact h
 |cons A l ih=>exact ih h.drop
theorem ao.app {φ:World→Prop} (l:List HP) (ht:ao F φ):ao (l++F) φ:=by
 induction l with
 |nil=>exact ht
 |cons A l ih=>exact ih.cons
theorem cc.Bj {lo hi mx:Int} {K:Sl→Prop} (hl:xs.length=s.len*sz) (h0:0≤lo) (h1:lo≤hi) (h2:hi≤(s.len:Int)) (h3:hi≤mx) (h4:mx≤(s.cap:Int))
  (h: ∀s':Sl,(∀w',aR sz s xs w'→aR sz s' ((xs.drop (lo.toNat*sz)).take ((hi.toNat - lo.toNat)*sz)) w')→s'.len=hi.toNat - lo.toNat→s'.len≤s'.cap→K s'):cc s lo hi mx sz K:=by
 refine ⟨h0,h1,h3,h4,h _ (fun w' hs'=> ?_) rfl (by simp only;omega)⟩
 have hm:hi.toNat*sz≤s.len*sz:=Nat.mul_le_mul_right _ (by omega)
 have hsub:(hi.toNat - lo.toNat)*sz=hi.toNat*sz - lo.toNat*sz:=Nat.sub_mul ..
 have hmono:lo.toNat*sz≤hi.toNat*sz:=Nat.mul_le_mul_right _ (by omega)
 have hlen:((xs.drop (lo.toNat*sz)).take ((hi.toNat - lo.toNat)*sz)).length=(hi.toNat - lo.toNat)*sz:=by
  rw [List.length_take,List.length_drop];omega
 refine ⟨hlen,fun i hi'=> ?_⟩
 rw [hlen] at hi'
 obtain ⟨p,hp,hcell⟩:=hs'.2 (lo.toNat*sz+i) (by omega)
 have hne:mx.toNat≠lo.toNat:=by
  intro e
  have:hi.toNat - lo.toNat=0:=by omega
  rw [this] at hi';omega
 refine ⟨p.add (lo.toNat*sz),by simp [hne,hp],?_⟩
 have:(p.add (lo.toNat*sz)).add i=p.add (lo.toNat*sz+i):=by
  unfold Addr.add
  by_cases e1:lo.toNat*sz=0<;>by_cases e2:i=0<;>simp [e1,e2,Nat.add_assoc]
 rw [this,hcell]
 simp
theorem ab.sc {S:World→Prop} {s:Sc} {p:Addr} {K:s.T→Prop} (x:s.T) (hc: ∀w,S w→w.cell? p=some (s.enc x)) (h:K x):ab (.sc s) p S K:=⟨x,hc,h⟩
theorem cc.whole {b n:Nat} {hi mx:Int} {K:Sl→Prop} (hn:0<n) (h1:hi=(n:Int)) (h2:mx=(n:Int)) (h:K ⟨some ⟨b,0,none⟩,n,n⟩):cc ⟨some ⟨b,0,none⟩,n,n⟩ 0 hi mx 1 K:=by
 subst h1;subst h2
 refine ⟨by omega,by omega,by omega,by simp,?_⟩
 have e:(if ((n:Int)).toNat=(0:Int).toNat then (some ⟨b,0,none⟩:Option Addr) else (some ⟨b,0,none⟩:Option Addr).map (·.add ((0:Int).toNat*1)))=some ⟨b,0,none⟩:=by
  rw [if_neg (by simp;omega)];simp [Addr.add]
 rw [e]
 simpa using h
end
section
variable {α:Type} {g:α→List Value} {sz:Nat} {l:List α}
theorem jd (hg: ∀x,(g x).length=sz) (l:List α):(l.flatMap g).length=l.length*sz:=by
 induction l with
 |nil=>simp
 |cons x l ih=>rw [List.flatMap_cons,List.length_append,ih,hg,List.length_cons,Nat.succ_mul];omega
theorem uo (hg: ∀x,(g x).length=sz): ∀(l:List α) (n:Nat),(l.flatMap g).drop (n*sz)=(l.drop n).flatMap g
 |l,0=>by simp
 | [],n+1=>by simp
 |x::l,n+1=>by
  rw [List.drop_succ_cons,List.flatMap_cons,Nat.succ_mul,Nat.add_comm,←List.drop_drop,←hg x,List.drop_left,hg x]
  exact uo hg l n
theorem tP (hg: ∀x,(g x).length=sz): ∀(l:List α) (n:Nat),(l.flatMap g).take (n*sz)=(l.take n).flatMap g
 |l,0=>by simp
 | [],n+1=>by simp
 |x::l,n+1=>by
  rw [List.take_succ_cons,List.flatMap_cons,List.flatMap_cons,Nat.succ_mul,Nat.add_comm,List.take_append,hg x,List.take_of_length_le (by rw [hg x];omega),show sz+n*sz - sz=n*sz by omega,tP hg l n]
theorem oo (hg: ∀x,(g x).length=sz): ∀(l:List α) (i j:Nat) (hi:i<l.length),j<sz→(l.flatMap g)[i*sz+j]? =(g l[i])[j]?
 |x::l,0,j,_,hj=>by rw [List.flatMap_cons,List.getElem?_append_left (by rw [hg];omega),Nat.zero_mul,Nat.zero_add];rfl
 |x::l,i+1,j,hi,hj=>by
  rw [List.flatMap_cons,List.getElem?_append_right (by rw [hg,Nat.succ_mul];omega),hg,show (i+1)*sz+j - sz=i*sz+j by rw [Nat.succ_mul];omega,oo hg l i j (by simpa using hi) hj]
  rfl
end
section
variable {E w w':World} {F G:List HP} {sz:Nat} {s:Sl} {α:Type} {g:α→List Value} {l:List α}
theorem ba.el {i:Int} {n:Nat} {K:Addr→Prop} (hg: ∀x,(g x).length=sz) (hz:0<sz) (hs:aR sz s (l.flatMap g) w) (hn:i=(n:Int)) (hi:n<l.length) (h: ∀p,(∀j,j<sz→w.cell? (p.add j)=(g l[n])[j]?)→K p):ba s i sz K:=by
 subst hn
 have hl:=hs.1
 rw [jd hg] at hl
 have hle:l.length=s.len:=Nat.eq_of_mul_eq_mul_right hz hl
 refine ba.Bj hs hz (by omega) (by omega) fun p hp=>h p fun j hj=> ?_
 have e:=oo hg l n j hi hj
 have hlt:n*sz+j<(l.flatMap g).length:=by
  rw [jd hg]
  have:(n+1)*sz≤l.length*sz:=Nat.mul_le_mul_right _ hi
  rw [Nat.succ_mul] at this;omega
 rw [hp j (by rw [Int.toNat_natCast];exact hlt) hj]
 simp only [Int.toNat_natCast]
 rw [←e,List.getElem?_eq_getElem hlt]
theorem aR.len (hg: ∀x,(g x).length=sz) (hz:0<sz) (hs:aR sz s (l.flatMap g) w):s.len=l.length:=by
 have hl:=hs.1
 rw [jd hg] at hl
 exact (Nat.eq_of_mul_eq_mul_right hz hl).symm
theorem cc.el {lo hi mx:Int} {a b:Nat} {K:Sl→Prop} (hg: ∀x,(g x).length=sz) (hl:s.len=l.length) (ha:lo=(a:Int)) (hb:hi=(b:Int)) (h1:a≤b) (h2:b≤l.length) (h3:hi≤mx) (h4:mx≤(s.cap:Int))
  (h: ∀s':Sl,(∀w',aR sz s (l.flatMap g) w'→aR sz s' (((l.drop a).take (b - a)).flatMap g) w')→s'.len=b - a→s'.len≤s'.cap→K s'):cc s lo hi mx sz K:=by
 subst ha;subst hb
 refine cc.Bj (xs:=l.flatMap g) (by rw [jd hg,hl]) (by omega) (by omega) (by omega) h3 h4 fun s' hs' hl' hc'=>h s' (fun w' hw'=> ?_) (by simpa using hl') hc'
 have:=hs' w' hw'
 simp only [Int.toNat_natCast] at this
 rw [uo hg,tP hg] at this
 exact this
theorem rO {S:World→Prop} {p:Addr}: ∀{ks:List Sc} {i:Nat} {K:TT ks→Prop} (x:TT ks) (_: ∀w,S w→∀j (hj:j<(bK ks x).length),w.cell? (p.add (i+j))=some (bK ks x)[j]) (_:K x),tJ S p ks i K
 | [],_,_,_,_,h=>h
 |k::ks,i,K,(x,y),hc,h=>⟨x,fun w hw=>by have:=hc w hw 0 (by simp);simpa using this,rO (ks:=ks) (i:=i+1) y (fun w hw j hj=>by
   have:=hc w hw (j+1) (by simp;omega)
   simpa [Nat.add_assoc,Nat.add_comm 1 j] using this) h⟩
theorem Ld.st {ks:List Sc} {p:Addr} {K:TT ks→Prop} (x:TT ks) (hc: ∀j,j<(bK ks x).length→w.cell? (p.add j)=(bK ks x)[j]?) (h:K x):Ld (.st ks) p w K:=
 rO x (fun w' hw' j hj=>by
  have hw':w'=w:=hw'
  subst hw'
  rw [Nat.zero_add,hc j hj,List.getElem?_eq_getElem hj]) h
theorem Ld.yX {ks:List Sc} {b:Nat} {cs:Array Value} {t:TypeId} {fr:Nat×Nat} {K:TT ks→Prop} (hh:Hp E w (aq b (.cells cs t fr)::F)) (x:TT ks) (hc:cs=⟨bK ks x⟩) (h:K x):Ld (.st ks) ⟨b,0,none⟩ w K:=by
 subst hc
 refine Ld.st x (fun j hj=> ?_) h
 rw [ak,hh.cell];simp
theorem ae.go {b:Nat} {t:TypeId} {K:World→Prop}: ∀(vs:List Value) (i:Nat) (w:World) (c:Array Value),Hp E w (aq b (.cells c t (0,0))::F)→i+vs.length=c.size→(∀v∈vs,ay v=true)→
  (∀c' w',c'.toList=c.toList.take i++vs→Hp E w' (aq b (.cells c' t (0,0))::F)→K w')→ae ⟨b,0,none⟩ vs i w K
 | [],i,w,c,hh,hi,_,hK=>hK c w (by rw [List.append_nil,List.take_of_length_le (by simp;simp at hi;omega)]) hh
 |v::vs,i,w,c,hh,hi,hv,hK=>by
  have h1:=hv v (by simp)
  simp only [List.length_cons] at hi
  unfold ae
  rw [h1]
  have h2:=hh.setCell (i:=i) v
  refine ⟨?_,?_,?_⟩
  ·rw [ak,hh.cell];simp;omega
  ·rw [ak];simp [World.frozen?,hh.aN]
  ·rw [ak,Nat.zero_add]
   refine ae.go vs (i+1) _ _ h2 (by simp;omega) (fun x hx=>hv x (List.mem_cons_of_mem _ hx)) fun c' w' e h3=>hK c' w' ?_ h3
   rw [e,Array.toList_setIfInBounds,List.take_add_one,List.take_set_of_le (by omega)]
   rw [List.getElem?_set_self (by simp;omega)]
   simp
theorem ae.aN {b:Nat} {c:Array Value} {t:TypeId} {vs:List Value} {K:World→Prop} (hh:Hp E w (aq b (.cells c t (0,0))::F)) (hi:vs.length=c.size) (hv: ∀v∈vs,ay v=true)
  (hK: ∀w',Hp E w' (aq b (.cells ⟨vs⟩ t (0,0))::F)→K w'):ae ⟨b,0,none⟩ vs 0 w K:=
 ae.go vs 0 w c hh (by omega) hv fun c' w' e h=>by
  have:c'=⟨vs⟩:=by apply Array.ext';simpa using e
  subst this
  exact hK w' h
end
end Go.Vc
set_option maxRecDepth 20000
namespace Go.Vc
open Go
section
variable {E w:World} {F:List HP} {A:HP}
theorem ab.aN {S:World→Prop} {s:Sc} {b i:Nat} {c:Array Value} {t:TypeId} {fr:Nat×Nat} {K:s.T→Prop} (hS: ∀w,S w→∃G,Hp E w (aq b (.cells c t fr)::G)) (x:s.T) (hx:c[i]? =some (s.enc x)) (hk:K x):ab (.sc s) ⟨b,i,none⟩ S K:=by
 refine ab.sc x (fun w' hw=> ?_) hk
 obtain ⟨G,h⟩:=hS w' hw
 rw [h.cell];exact hx
theorem ab.sub {S:World→Prop} {b n off:Nat} {pre mid post:List Value} {t:TypeId} {fr:Nat×Nat} {K:Array Value→Prop} (hS: ∀w,S w→∃G,Hp E w (aq b (.cells ⟨pre++mid++post⟩ t fr)::G)) (ho:pre.length=off) (hn:mid.length=n) (hK:K ⟨mid⟩):ab (.arr n) ⟨b,off,none⟩ S K:=by
 refine ⟨⟨mid⟩,hn,fun w' hw i hi=> ?_,hK⟩
 obtain ⟨G,h⟩:=hS w' hw
 rw [ak,h.cell]
 subst ho
 rw [List.getElem?_toArray,List.append_assoc,List.getElem?_append_right (by omega),List.getElem?_append_left (by omega),show pre.length+i - pre.length=i by omega]
 rw [List.getElem?_eq_getElem (by omega)]
 simp [show i<mid.length by omega]
theorem Ld.sub {b n off:Nat} {pre mid post:List Value} {t:TypeId} {fr:Nat×Nat} {K:Array Value→Prop} (h:Hp E w (aq b (.cells ⟨pre++mid++post⟩ t fr)::F)) (ho:pre.length=off) (hn:mid.length=n) (hK:K ⟨mid⟩):Ld (.arr n) ⟨b,off,none⟩ w K:=
 ab.sub (E:=E) (fun w' hw=>⟨F,by rw [hw];exact h⟩) ho hn hK
end
def cF (n:Nat) (f:Nat→Int):Array Value:=⟨(List.range n).map fun j=> .int .i64 (f j)⟩
theorem cE {n:Nat} {f:Nat→Int}:(cF n f).size=n:=by simp [cF]
theorem nh {n:Nat} {f:Nat→Int} {i:Nat} (h:i<n):(cF n f)[i]? =some (Sc.enc (.int .i64) (f i)):=by
 unfold cF
 rw [List.getElem?_toArray,List.getElem?_map,List.getElem?_range h];rfl
theorem kv {n:Nat} {f:Nat→Int} {i:Nat} {v:Int}:(cF n f).setIfInBounds i (.int .i64 v)=cF n fun j=>if j=i then v else f j:=by
 apply Array.ext_getElem?
 intro j
 rw [Array.getElem?_setIfInBounds]
 unfold cF
 simp only [List.getElem?_toArray,List.getElem?_map,List.size_toArray,List.length_map,List.length_range]
 by_cases hj:j<n
 ·rw [List.getElem?_range hj]
  by_cases e:i=j
  ·subst e;simp [hj]
  ·rw [if_neg e];simp [Ne.symm e]
 ·rw [List.getElem?_eq_none (by simpa using hj)]
  by_cases e:i=j
  ·subst e;simp [hj]
  ·simp [e]
theorem dU {n:Nat} {f g:Nat→Int} (h: ∀i,i<n→f i=g i):cF n f=cF n g:=by
 unfold cF
 congr 1
 exact List.map_congr_left fun j hj=>by rw [h j (by simpa using hj)]
theorem q0 {off:Nat}: ∀(vs:List Value) (k:Nat) (pre mid post:List Value),mid.length=vs.length→pre.length=off+k→
  (vs.zipIdx k).foldl (fun (cs:Array Value) (x:Value×Nat)=>cs.setIfInBounds (off+x.2) x.1) ⟨pre++mid++post⟩=⟨pre++vs++post⟩
 | [],k,pre,mid,post,hm,_=>by
  have:mid= []:=List.length_eq_zero_iff.1 hm
  subst this;rfl
 |v::vs,k,pre,mid,post,hm,hp=>by
  obtain ⟨m,mid,rfl⟩: ∃m mid',mid=m::mid':=by
   cases mid with
   |nil=>simp at hm
   |cons m mid=>exact ⟨m,mid,rfl⟩
  rw [List.zipIdx_cons,List.foldl_cons]
  have e:(⟨pre++m::mid++post⟩:Array Value).setIfInBounds (off+k) v=⟨(pre++ [v])++mid++post⟩:=by
   rw [←hp]
   apply Array.ext'
   simp
  show ((vs.zipIdx (k+1)).foldl _ ((⟨pre++m::mid++post⟩:Array Value).setIfInBounds (off+k) v))=_
  rw [e,q0 vs (k+1) (pre++ [v]) mid post (by simpa using hm) (by simp;omega)]
  simp
theorem eY {place:Nat→Option (Nat×Nat)} {i off size:Nat} {v:Value} {rest:List (Nat×Value)} {pre mid post:List Value} (hpl:place i=some (off,size)) (ho:pre.length=off) (hm:mid.length=size) (hv:v.cells.size=size):
  Instr.fill place ⟨pre++mid++post⟩ ((i,v)::rest)=Instr.fill place ⟨pre++v.cells.toList++post⟩ rest:=by
 rw [Instr.fill,hpl]
 simp only
 rw [if_neg (by simp [hv];omega)]
 congr 1
 rw [←Array.foldl_toList,Array.toList_zipIdx]
 exact q0 (off:=off) v.cells.toList 0 pre mid post (by simp [hm,hv]) (by omega)
end Go.Vc
set_option maxRecDepth 20000
namespace Go.Srt
def wt (n:Nat):Nat:=if n=0 then 0 else if n>15 then 32769 else 2^(15 - n)
def aZ (l:List Nat):Nat:=(l.map wt).sum
theorem Cg (n:Nat):wt n≤32769:=by
 unfold wt
 split
 ·omega
 ·split
  ·omega
  ·have:2^(15 - n)≤2^15:=Nat.pow_le_pow_right (by decide) (by omega)
   omega
theorem lW: ∀l:List Nat,aZ l≤32769*l.length
 | []=>by simp [aZ]
 |x::l=>by
  have:=lW l
  have:=Cg x
  simp only [aZ,List.map_cons,List.sum_cons,List.length_cons] at*
  omega
theorem hZ {l:List Nat} {k:Nat} (h:k<l.length):aZ (l.take (k+1))=aZ (l.take k)+wt l[k]:=by
 unfold aZ
 rw [List.take_add_one,List.map_append,List.sum_append,List.getElem?_eq_getElem h]
 simp only [Option.toList,List.map_cons,List.map_nil,List.sum_cons,List.sum_nil,Nat.add_zero]
theorem jD {l:List Nat} {k:Nat}:aZ (l.take k)≤aZ l:=by
 have:=congrArg aZ (List.take_append_drop k l)
 unfold aZ at this⊢
 rw [List.map_append,List.sum_append] at this
 omega
theorem BO {l:List Nat} {x:Nat} (h:x∈l):wt x≤aZ l:=by
 obtain ⟨i,hi,rfl⟩:=List.getElem_of_mem h
 have:=hZ hi
 have:=jD (l:=l) (k:=i+1)
 omega
def used (l:List Nat):List Nat:=(List.range l.length).filter fun s=>decide (0<l.getD s 0)
def c7 (l ys:List Nat):Prop:=ys.Perm (used l)∧ys.Pairwise fun a b=>l.getD a 0<l.getD b 0∨(l.getD a 0=l.getD b 0∧a<b)
end Go.Srt
set_option maxRecDepth 20000
namespace Go.Proofs.YtgglghjnakclmaaGreat
open Go Go.Vc Go.Srt
section
variable {E w:World} {F:List HP}
theorem zZ {n:Nat} {K:Int→World→Prop} (hK:K (wt n:Int) w):Cl Tryz.prog [kI] ir ⟨[.int .u8 (n:Int)]⟩ w K:=by
 refine ti.ok _ _ _ ?_
 unfold wt at hK
 refine aa.mk (fun h=> ?_) (fun h=>aa.mk (fun h2=> ?_) (fun h2=>⟨by omega,?_⟩))
 ·have h:n=0:=by have:=of_decide_eq_true h;omega
  rw [if_pos h] at hK;exact hK
 ·have h:n≠0:=by have:=of_decide_eq_false h;omega
  have h2:n>15:=by have:=of_decide_eq_true h2;omega
  rw [if_neg h,if_pos h2] at hK;exact hK
 ·have h:n≠0:=by have:=of_decide_eq_false h;omega
  have h2: ¬n>15:=by have:=of_decide_eq_false h2;omega
  rw [if_neg h,if_neg h2] at hK
  have e:=eL (k:= .i64) (a:=32768) (b:=n) (by have:IntKind.bits .i64=64:=rfl;omega)
  rw [show (32768:Int)=((32768:Nat):Int) from rfl,e]
  have:32768/2^n=2^(15 - n):=by
   have e15:(2:Nat)^15=32768:=by decide
   have e2:=Nat.pow_sub_mul_pow 2 (show n≤15 by omega)
   rw [e15] at e2
   exact Nat.div_eq_of_eq_mul_left (Nat.two_pow_pos n) e2.symm
  rw [this];exact hK
set_option maxRecDepth 20000 in
theorem uF {l:List Nat} {K:Int→World→Prop} (h:Hp E w F) (hl:l.length=258) (hK: ∀w',Hp E w' F→K (aZ l:Int) w'):Cl Tryz.prog [kI] jN ⟨[.agg (ai .u8 l)]⟩ w K:=by
 refine xe.ok _ _ _ ?_
 refine Nw.mk h fun b w1 h1=>Ld.arr h1 (by rw [bQ,hl]) ?_
 have hb:=lW l
 refine ⟨fun sm i w'=> ∃k:Nat,i=(k:Int)∧k≤258∧sm=(aZ (l.take k):Int)∧Hp E w' F,fun _ i _=>258 - i.toNat,⟨0,rfl,by omega,by simp [aZ],h1.drop⟩,?_⟩
 intro sm i w' hI
 obtain ⟨k,hi,hk,hs,hh⟩:=hI
 subst hi
 subst hs
 refine aa.mk (fun hlt=> ?_) (fun hge=> ?_)
 ·have hlt:k<258:=by have:=of_decide_eq_true hlt;omega
  have hkl:k<l.length:=by omega
  refine gB.rd (s:= .int .u8) (by omega) (by omega) (l[k]:Int) (by rw [Int.toNat_natCast];exact j5 hkl) (zZ ?_)
  have e:=hZ hkl
  have:=jD (l:=l) (k:=k+1)
  rw [aj (x:=(aZ (l.take k):Int)+(wt l[k]:Int)) (by omega),aj (by omega)]
  exact ⟨⟨k+1,rfl,by omega,by rw [e];rfl,hh⟩,by dsimp only;omega⟩
 ·have hge:k=258:=by have:=of_decide_eq_false hge;omega
  subst hge
  rw [←hl,List.take_length]
  exact hK _ hh
end
end Go.Proofs.YtgglghjnakclmaaGreat
set_option maxRecDepth 20000
namespace Go.Proofs.YtgglghjnakclmaaGreat
open Go Go.Vc Go.Srt
section
variable {E w:World} {F:List HP}
theorem mi:fh Tryz.prog 142 3 1 8:=fh.of (by kernel_rfl) (by kernel_rfl)
theorem u5 {z:Int}: ∀y∈ [vI z],ay y=true:=by
 intro y hy
 have:y=vI z:=by simpa using hy
 rw [this];rfl
def ints (l:List Nat):List Int:=l.map fun (x:Nat)=>(x:Int)
theorem yv {a b:List Nat}:ints (a++b)=ints a++ints b:=List.map_append
end
end Go.Proofs.YtgglghjnakclmaaGreat
set_option maxRecDepth 20000
namespace Go.Vc
open Go
section
variable {E w:World} {F A:List HP}
theorem Hp.put {b:Nat} {o:Obj} (h:Hp E w (aq b o::F)) (o':Obj):Hp E (w.putObj b o') (aq b o'::F):=h.setObj rfl rfl rfl rfl
end
end Go.Vc
set_option maxRecDepth 20000
namespace Go.Vc
open Go
section
variable {E w:World} {F A:List HP}
def Aa {α:Type} (X:α→Prop) (L:α→List HP):HP:=fun f=> ∃x,X x∧Sat (L x) f
theorem Hp.ex {α:Type} {X:α→Prop} {L:α→List HP} (h:Hp E w (Aa X L::F)): ∃x,X x∧Hp E w (L x++F):=h.uE fun _ hf=>hf
theorem Hp.Da {α:Type} {X:α→Prop} {L:α→List HP} (x:α) (hx:X x) (h:Hp E w (L x++F)):Hp E w (Aa X L::F):=h.uO fun _ hf=>⟨x,hx,hf⟩
end
end Go.Vc
set_option maxRecDepth 20000
namespace Go.Vc
open Go
class bl (b:Nat) (l:List HP) (c:outParam (Array Value)) (t:outParam TypeId) (fr:outParam (Nat×Nat)) (put:outParam (Obj→List HP)):Prop where
 perm: ∃r,l.Perm (aq b (.cells c t fr)::r)∧∀o,(aq b o::r).Perm (put o)
instance bl.head {b:Nat} {l:List HP} {c:Array Value} {t:TypeId} {fr:Nat×Nat}:bl b (aq b (.cells c t fr)::l) c t fr (fun o=>aq b o::l):=
 ⟨l,.refl _,fun _=> .refl _⟩
instance bl.tail {b:Nat} {A:HP} {l:List HP} {c:Array Value} {t:TypeId} {fr:Nat×Nat} {put:Obj→List HP} [h:bl b l c t fr put]:bl b (A::l) c t fr (fun o=>A::put o):=
 ⟨by
  obtain ⟨r,h1,h2⟩:=h.perm
  exact ⟨A::r,(h1.cons A).trans (.swap ..),fun o=>(List.Perm.swap ..).trans ((h2 o).cons A)⟩⟩
class pL (n:Nat) (l:List HP) (A:outParam HP) (r:outParam (List HP)):Prop where
 perm:l.Perm (A::r)
instance pL.zero {A:HP} {l:List HP}:pL 0 (A::l) A l:=⟨.refl _⟩
instance pL.succ {n:Nat} {A B:HP} {l r:List HP} [h:pL n l A r]:pL (n+1) (B::l) A (B::r):=⟨(h.perm.cons B).trans (.swap ..)⟩
section
variable {E w:World} {l:List HP} {b i:Nat} {c:Array Value} {t:TypeId} {fr:Nat×Nat} {put:Obj→List HP}
theorem Hp.at {A:HP} {r:List HP} (h:Hp E w l) (n:Nat) [hn:pL n l A r]:Hp E w (A::r):=h.perm hn.perm
theorem Hp.no {A:HP} {r:List HP} (h:Hp E w l) (n:Nat) [hn:pL n l A r]:Hp E w r:=(h.perm hn.perm).drop
theorem ao.at {A:HP} {r:List HP} {φ:World→Prop} (n:Nat) [hn:pL n l A r] (ht:ao (A::r) φ):ao l φ:=ht.perm hn.perm.symm
theorem Hp.fb [hf:bl b l c t fr put] (h:Hp E w l):w.heap[b]? =some (.cells c t fr):=by
 obtain ⟨r,h1,_⟩:=hf.perm
 exact (h.perm h1).aN
theorem Hp.fc [bl b l c t fr put] (h:Hp E w l):w.cell? ⟨b,i,none⟩=c[i]? :=by
 simp [World.cell?,h.fb]
def bq (b:Nat) (c:Array Value) (t:TypeId) (fr:Nat×Nat) (w:World):Prop:=w.heap[b]? =some (.cells c t fr)
theorem Hp.hb [bl b l c t fr put] (h:Hp E w l):bq b c t fr w:=h.fb
theorem bq.cell (h:bq b c t fr w):w.cell? ⟨b,i,none⟩=c[i]? :=by simp [World.cell?,show w.heap[b]? =_ from h]
def Sc.yo:(s:Sc)→Value→Option s.T
 | .int k,.int k' n=>match k==k' with|true=>some n|false=>none
 | .bool,.bool b=>some b
 | .ptr,.pointer p=>some p
 | .sl,.slice b l c=>some ⟨b,l,c⟩
 | .str,.string s=>some s
 | .mp,.map m=>some m
 | .any,v=>some v
 | .addr,.pointer (some p)=>some p
 |_,_=>none
def oc:(l:List Sc)→List Value→Option (TT l)
 | [],_=>some ()
 |s::l,v::vs=>match s.yo v,oc l vs with
  |some x,some y=>some (x,y)
  |_,_=>none
 |_::_,[]=>none
theorem Sc.xB {s:Sc} {v:Value} {x:s.T} (h:s.yo v=some x):v=s.enc x:=by
 cases s<;>cases v<;>simp only [Sc.yo] at h<;>first|cases h;rfl|cases h|skip
 ·rename_i k k' n
  by_cases e:k=k'
  ·subst e;simp at h;subst h;rfl
  ·have:(k==k')=false:=by simpa using e
   rw [this] at h;cases h
 ·rename_i p
  cases p with
  |none=>cases h
  |some p=>simp only [Option.some.injEq] at h;subst h;rfl
theorem pD: ∀{l:List Sc} {vs:List Value} {x:TT l},oc l vs=some x→∃r,vs=bK l x++r
 | [],vs,(),_=>⟨vs,rfl⟩
 |s::l,v::vs,(x,y),h=>by
  simp only [oc] at h
  split at h
  ·rename_i x' y' hx hy
   simp only [Option.some.injEq,Prod.mk.injEq] at h
   obtain ⟨rfl,rfl⟩:=h
   obtain ⟨r,e⟩:=pD hy
   exact ⟨r,by rw [e,Sc.xB hx];rfl⟩
  ·cases h
 |_::_,[],_,h=>by cases h
class hH (l F:List HP):Prop where
 sub: ∃p,l=p++F
instance hH.refl {F:List HP}:hH F F:=⟨[],rfl⟩
instance hH.cons {A:HP} {l F:List HP} [h:hH l F]:hH (A::l) F:=⟨by obtain ⟨p,e⟩:=h.sub;exact ⟨A::p,by rw [e];rfl⟩⟩
theorem Hp.tl {F:List HP} [h2:hH l F] (h:Hp E w l):Hp E w F:=by
 obtain ⟨p,e⟩:=h2.sub
 subst e;exact h.uU
theorem cR {α β:Type} {K:α→β→Prop} {a a':α} {w:β} (e:a=a') (h:K a' w):K a w:=e▸h
theorem aa.yes {b:Bool} {X Y:Prop} (k:X) (h:b=true:=by with_reducible first|rfl|exact decide_eq_true (by omega)|exact beq_iff_eq.2 (by omega)|exact bne_iff_ne.2 (by omega)|exact Bool.not_false|exact Bool.not_eq_true' _▸decide_eq_false (by omega)):aa b X Y:=aa.t h k
theorem aa.no {b:Bool} {X Y:Prop} (k:Y) (h:b=false:=by with_reducible first|rfl|exact decide_eq_false (by omega)|exact beq_eq_false_iff_ne.2 (by omega)|exact bne_eq_false_iff_eq.2 (by omega)|exact Bool.not_true|exact Bool.not_eq_false' _▸decide_eq_true (by omega)):aa b X Y:=aa.f h k
theorem aa.dt {p:Prop} [Decidable p] {X Y:Prop} (hp:p) (h:X):aa (decide p) X Y:=aa.t (decide_eq_true hp) h
theorem aa.df {p:Prop} [Decidable p] {X Y:Prop} (hp: ¬p) (h:Y):aa (decide p) X Y:=aa.f (decide_eq_false hp) h
theorem aa.eF {p:Prop} [Decidable p] {X Y:Prop} (hp:p) (h:Y):aa (!decide p) X Y:=aa.f (by rw [decide_eq_true hp];rfl) h
theorem aa.eC {p:Prop} [Decidable p] {X Y:Prop} (hp: ¬p) (h:X):aa (!decide p) X Y:=aa.t (by rw [decide_eq_false hp];rfl) h
theorem aa.dk {X Y:Prop} (h:Y):aa (!true) X Y:=h
theorem aa.dM {X Y:Prop} (h:X):aa (!false) X Y:=h
theorem aa.et {a b:Int} {X Y:Prop} (hp:a=b) (h:X):aa (a==b) X Y:=aa.t (beq_iff_eq.2 hp) h
theorem aa.ef {a b:Int} {X Y:Prop} (hp: ¬a=b) (h:Y):aa (a==b) X Y:=aa.f (beq_eq_false_iff_ne.2 hp) h
theorem aa.nt {a b:Int} {X Y:Prop} (hp: ¬a=b) (h:X):aa (a !=b) X Y:=aa.t (bne_iff_ne.2 hp) h
theorem aa.nf {a b:Int} {X Y:Prop} (hp:a=b) (h:Y):aa (a !=b) X Y:=aa.f (bne_eq_false_iff_eq.2 hp) h
theorem aa.dm {p:Prop} [Decidable p] {X Y:Prop} (h1:p→X) (h2: ¬p→Y):aa (decide p) X Y:=aa.mk (fun h=>h1 (of_decide_eq_true h)) (fun h=>h2 (of_decide_eq_false h))
theorem aa.em {a b:Int} {X Y:Prop} (h1:a=b→X) (h2: ¬a=b→Y):aa (a==b) X Y:=aa.mk (fun h=>h1 (beq_iff_eq.1 h)) (fun h=>h2 (beq_eq_false_iff_ne.1 h))
theorem aa.nm {a b:Int} {X Y:Prop} (h1: ¬a=b→X) (h2:a=b→Y):aa (a !=b) X Y:=aa.mk (fun h=>h1 (bne_iff_ne.1 h)) (fun h=>h2 (bne_eq_false_iff_eq.1 h))
theorem ab.xb {S:World→Prop} {s:Sc} {K:s.T→Prop} {x:s.T} (hS: ∀w,S w→bq b c t fr w) (hx:c.toList[i]? =some (s.enc x)) (hK:K x):ab (.sc s) ⟨b,i,none⟩ S K:=
 ⟨x,fun w hw=>by rw [(hS w hw).cell];rw [←hx];simp,hK⟩
theorem ab.xt {S:World→Prop} {ks:List Sc} {K:TT ks→Prop} {x:TT ks} (hS: ∀w,S w→bq b c t fr w) (hx:oc ks (c.toList.drop i)=some x) (hK:K x):ab (.st ks) ⟨b,i,none⟩ S K:=by
 obtain ⟨r,e⟩:=pD hx
 refine rO x (fun w hw j hj=> ?_) hK
 rw [Nat.zero_add,ak,(hS w hw).cell]
 have h1:(c.toList.drop i)[j]? =(bK ks x)[j]? :=by rw [e,List.getElem?_append_left hj]
 rw [List.getElem?_drop,List.getElem?_eq_getElem hj] at h1
 rw [←h1];simp
theorem ab.xa {S:World→Prop} {n:Nat} {mid post:List Value} {K:Array Value→Prop} (hS: ∀w,S w→bq b c t fr w) (hx:c.toList.drop i=mid++post) (hn:mid.length=n) (hK:K ⟨mid⟩):ab (.arr n) ⟨b,i,none⟩ S K:=by
 refine ⟨⟨mid⟩,hn,fun w hw j hj=> ?_,hK⟩
 rw [ak,(hS w hw).cell]
 have h1:(c.toList.drop i)[j]? =mid[j]? :=by rw [hx,List.getElem?_append_left (by omega)]
 rw [List.getElem?_drop] at h1
 rw [show c[i+j]? =c.toList[i+j]? by simp,h1]
 simp [show j<mid.length by omega]
theorem Ld.xb {s:Sc} {K:s.T→Prop} {x:s.T} [bl b l c t fr put] (h:Hp E w l) (hx:c.toList[i]? =some (s.enc x)) (hK:K x):Ld (.sc s) ⟨b,i,none⟩ w K:=ab.xb (fun w' hw=>by rw [hw];exact h.fb) hx hK
theorem Ld.xt {ks:List Sc} {K:TT ks→Prop} {x:TT ks} [bl b l c t fr put] (h:Hp E w l) (hx:oc ks (c.toList.drop i)=some x) (hK:K x):Ld (.st ks) ⟨b,i,none⟩ w K:=ab.xt (fun w' hw=>by rw [hw];exact h.fb) hx hK
theorem Ld.xa {n:Nat} {mid post:List Value} {K:Array Value→Prop} [bl b l c t fr put] (h:Hp E w l) (hx:c.toList.drop i=mid++post) (hn:mid.length=n) (hK:K ⟨mid⟩):Ld (.arr n) ⟨b,i,none⟩ w K:=ab.xa (fun w' hw=>by rw [hw];exact h.fb) hx hn hK
theorem Ld.xw {n:Nat} {K:Array Value→Prop} [bl b l c t fr put] (h:Hp E w l) (hn:c.size=n) (hK:K c):Ld (.arr n) ⟨b,0,none⟩ w K:=
 Ld.xa (mid:=c.toList) (post:= []) h (by simp) (by simpa using hn) (by simpa using hK)
theorem ab.xw {S:World→Prop} {n:Nat} {K:Array Value→Prop} (hS: ∀w,S w→bq b c t fr w) (hn:c.size=n) (hK:K c):ab (.arr n) ⟨b,0,none⟩ S K:=
 ab.xa (mid:=c.toList) (post:= []) hS (by simp) (by simpa using hn) (by simpa using hK)
theorem ae.Ct {b:Nat} {t:TypeId} {F:List HP} {K:World→Prop}: ∀(vs:List Value) (i o:Nat) (w:World) (c:Array Value),Hp E w (aq b (.cells c t (0,0))::F)→o+i+vs.length≤c.size→(∀v∈vs,ay v=true)→
  (∀c' w',c'.toList=c.toList.take (o+i)++vs++c.toList.drop (o+i+vs.length)→Hp E w' (aq b (.cells c' t (0,0))::F)→K w')→ae ⟨b,o,none⟩ vs i w K
 | [],i,o,w,c,hh,hi,_,hK=>hK c w (by simp) hh
 |v::vs,i,o,w,c,hh,hi,hv,hK=>by
  have h1:=hv v (by simp)
  simp only [List.length_cons] at hi
  unfold ae
  rw [h1]
  have h2:=hh.setCell (i:=o+i) v
  refine ⟨?_,?_,?_⟩
  ·rw [ak,hh.cell];simp;omega
  ·rw [ak];simp [World.frozen?,hh.aN]
  ·rw [ak]
   refine ae.Ct vs (i+1) o _ _ h2 (by simp;omega) (fun x hx=>hv x (List.mem_cons_of_mem _ hx)) fun c' w' e h3=>hK c' w' ?_ h3
   rw [e,Array.toList_setIfInBounds,show o+(i+1)=o+i+1 by omega,List.take_add_one,List.take_set_of_le (by omega)]
   rw [List.getElem?_set_self (by simp;omega)]
   rw [List.drop_set_of_lt (by omega),List.length_cons]
   simp only [Option.toList_some,List.append_assoc,List.cons_append,List.nil_append]
   rw [show o+i+1+vs.length=o+i+(vs.length+1) by omega]
theorem ae.xm {o:Nat} {vs pre mid post:List Value} {K:World→Prop} [hf:bl b l c t (0,0) put] (h:Hp E w l) (hc:c.toList=pre++(mid++post)) (ho:pre.length=o) (hn:mid.length=vs.length) (hv:vs.all ay=true)
  (hK: ∀w',Hp E w' (put (.cells ⟨pre++(vs++post)⟩ t (0,0)))→K w'):ae ⟨b,o,none⟩ vs 0 w K:=by
 obtain ⟨r,h1,h2⟩:=hf.perm
 have hs:c.size=pre.length+(mid.length+post.length):=by rw [←Array.length_toList,hc];simp
 refine ae.Ct vs 0 o w c (h.perm h1) (by omega) (List.all_eq_true.1 hv) fun c' w' e h'=>hK w' ?_
 have:c'=⟨pre++(vs++post)⟩:=by
  apply Array.ext'
  rw [e,hc,Nat.add_zero,←ho,List.take_left,←hn,←List.length_append,←List.append_assoc,List.drop_left,List.append_assoc]
 rw [this] at h'
 exact h'.perm (h2 _)
theorem ae.xw {vs:List Value} {K:World→Prop} [hf:bl b l c t (0,0) put] (h:Hp E w l) (hn:vs.length=c.size) (hv:vs.all ay=true)
  (hK: ∀w',Hp E w' (put (.cells ⟨vs⟩ t (0,0)))→K w'):ae ⟨b,0,none⟩ vs 0 w K:=
 ae.xm (pre:= []) (mid:=c.toList) (post:= []) h (by simp) rfl (by simpa using hn.symm) hv (by simpa using hK)
theorem St.xb {o:Nat} {v:Value} {K:World→Prop} [hf:bl b l c t (0,0) put] (h:Hp E w l) (hi:o<c.size) (hv:ay v=true)
  (hK: ∀w',Hp E w' (put (.cells (c.setIfInBounds o v) t (0,0)))→K w'):St ⟨b,o,none⟩ v w K:=by
 obtain ⟨r,h1,h2⟩:=hf.perm
 exact St.mk rfl (h.perm h1) hi hv fun w' h'=>hK w' (h'.perm (h2 _))
theorem St.xm {o:Nat} {v u:Value} {pre post:List Value} {K:World→Prop} [hf:bl b l c t (0,0) put] (h:Hp E w l) (hc:c.toList=pre++(u::post)) (ho:pre.length=o) (hv:ay v=true)
  (hK: ∀w',Hp E w' (put (.cells ⟨pre++(v::post)⟩ t (0,0)))→K w'):St ⟨b,o,none⟩ v w K:=by
 refine St.xb h ?_ hv fun w' h'=>hK w' ?_
 ·rw [←Array.length_toList,hc];simp;omega
 ·have:c.setIfInBounds o v=⟨pre++(v::post)⟩:=by
   apply Array.ext'
   rw [Array.toList_setIfInBounds,hc,←ho]
   simp
  rwa [this] at h'
def ad:List Value→List Value→List Value
 | [],l=>l
 |_::_,[]=> []
 |v::vs,_::l=>v::ad vs l
def af:List Value→Nat→List Value→List Value
 |l,0,vs=>ad vs l
 |a::l,o+1,vs=>a::af l o vs
 | [],_+1,_=> []
theorem uh: ∀{l vs:List Value},vs.length≤l.length→ad vs l=vs++l.drop vs.length
 |_,[],_=>rfl
 | [],_::_,h=>by simp at h
 |a::l,v::vs,h=>by
  rw [ad,uh (by simpa using h)];rfl
theorem qO: ∀{l:List Value} {o:Nat} {vs:List Value},o+vs.length≤l.length→af l o vs=l.take o++(vs++l.drop (o+vs.length))
 |l,0,vs,h=>by
  have:af l 0 vs=ad vs l:=by cases l<;>rfl
  rw [this,uh (by omega)];simp
 |a::l,o+1,vs,h=>by
  rw [af,qO (by simp at h;omega),show o+1+vs.length=o+vs.length+1 by omega];rfl
 | [],o+1,vs,h=>by simp at h
theorem ae.xs {o:Nat} {vs:List Value} {K:World→Prop} [hf:bl b l c t (0,0) put] (h:Hp E w l) (hb:Nat.ble (o+vs.length) c.toList.length=true) (hv:vs.all ay=true)
  (hK: ∀w',Hp E w' (put (.cells ⟨af c.toList o vs⟩ t (0,0)))→K w'):ae ⟨b,o,none⟩ vs 0 w K:=by
 have hb:=Nat.le_of_ble_eq_true hb
 rw [qO hb] at hK
 refine ae.xm (mid:=(c.toList.drop o).take vs.length) h ?_ (by simp;simp at hb;omega) (by simp;simp at hb;omega) hv hK
 rw [←List.drop_drop,List.take_append_drop,List.take_append_drop]
theorem St.xs {o:Nat} {v:Value} {K:World→Prop} [hf:bl b l c t (0,0) put] (h:Hp E w l) (hb:Nat.ble (o+1) c.toList.length=true) (hv:ay v=true)
  (hK: ∀w',Hp E w' (put (.cells ⟨af c.toList o [v]⟩ t (0,0)))→K w'):St ⟨b,o,none⟩ v w K:=by
 have hb:=Nat.le_of_ble_eq_true hb
 have hb2:o<c.toList.length:=by omega
 rw [qO (by simpa using hb)] at hK
 refine St.xm (u:=c.toList[o]'hb2) (pre:=c.toList.take o) (post:=c.toList.drop (o+1)) h ?_ (by simp;simp at hb;omega) hv (by simpa using hK)
 rw [List.getElem_cons_drop,List.take_append_drop]
theorem an.xm {n o:Nat} {cs:Array Value} {pre mid post:List Value} {K:World→Prop} [hf:bl b l c t (0,0) put] (h:Hp E w l) (hc:c.toList=pre++(mid++post)) (ho:pre.length=o) (hn:mid.length=n) (hcs:cs.size=n) (hv: ∀v∈cs.toList,ay v=true)
  (hK: ∀w',Hp E w' (put (.cells ⟨pre++(cs.toList++post)⟩ t (0,0)))→K w'):an n ⟨b,o,none⟩ cs w K:=by
 obtain ⟨r,h1,h2⟩:=hf.perm
 have hh:=h.perm h1
 have hs:c.size=pre.length+(mid.length+post.length):=by rw [←Array.length_toList,hc];simp
 refine ⟨hcs,fun i hi=>⟨?_,?_,?_⟩,?_⟩
 ·have:cs.getD i undef∈cs.toList:=by simp [Array.getD,hcs,hi]
  exact hv _ this
 ·rw [ak,hh.cell];simp;omega
 ·rw [ak];simp [World.frozen?,hh.aN]
 ·have key: ∀(vs:List Value) (i:Nat) (w:World) (c:Array Value),Hp E w (aq b (.cells c t (0,0))::r)→o+i+vs.length≤c.size→
    Hp E (an.setRow w ⟨b,o,none⟩ vs i) (aq b (.cells ⟨c.toList.take (o+i)++vs++c.toList.drop (o+i+vs.length)⟩ t (0,0))::r):=by
   intro vs
   induction vs with
   |nil=>intro i w c hh hi;simpa [an.setRow] using hh
   |cons v vs ih=>
    intro i w c hh hi
    simp only [List.length_cons] at hi
    have h2:=hh.setCell (i:=o+i) v
    have:=ih (i+1) _ _ h2 (by simp;omega)
    unfold an.setRow
    rw [ak]
    rw [Array.toList_setIfInBounds,show o+(i+1)=o+i+1 by omega,List.take_add_one,List.take_set_of_le (by omega),List.getElem?_set_self (by simp;omega),List.drop_set_of_lt (by omega)] at this
    rw [List.length_cons,show o+i+(vs.length+1)=o+i+1+vs.length by omega]
    simpa using this
  have:=key cs.toList 0 w c hh (by rw [Array.length_toList];omega)
  refine hK _ ((this.perm (h2 _)).perm (by
   rw [hc,Nat.add_zero,←ho,List.take_left,show cs.toList.length=mid.length by simp;omega,←List.length_append,←List.append_assoc,List.drop_left,List.append_assoc]))
theorem an.xw {n:Nat} {cs:Array Value} {K:World→Prop} [hf:bl b l c t (0,0) put] (h:Hp E w l) (hn:c.size=n) (hcs:cs.size=n) (hv: ∀v∈cs.toList,ay v=true)
  (hK: ∀w',Hp E w' (put (.cells cs t (0,0)))→K w'):an n ⟨b,0,none⟩ cs w K:=
 an.xm (pre:= []) (mid:=c.toList) (post:= []) h (by simp) rfl (by simpa using hn) hcs hv (by simpa using hK)
end
end Go.Vc
namespace Go.Proofs.YtgglghjnakclmaaGreat
open Go Go.Vc
set_option maxRecDepth 100000
theorem sy.ok (a:Sl) (b:Sl) (R:Bool→World→Prop) w (h:
 aA Pg (convert 26 9 (av a)) q8 w fun (d:ByteArray) c=>
 aA Pg (convert 26 9 (av b)) q8 c fun (f:ByteArray) e=>
 R ((d).toList==(f).toList) e):Cl Pg [kB] iq ⟨[(av a),(av b)]⟩ w R:=co Tryz.f61 [] h
theorem rA.ok (a:Sl) (b:Int) (R:Sl→World→Prop) w (h:
 aa (b==0)
 (Nw 5 ⟨[]⟩ w fun d c=>
 R (⟨some ⟨d,0,none⟩,0,0⟩:Sl) c)
 (bf (fun (g:World)=>
 Cl Pg [(aJ .u64),(aJ .u64)] gp ⟨[(.int .u64 (u64 (a.len:Int))),(.int .u64 (u64 b))]⟩ g fun (i:Int) (j:Int) h=>
 bf (fun (n:World)=>
 aa ((a.len:Int)==0)
 (Nw 5 ⟨[]⟩ n fun p o=>
 R (⟨some ⟨p,0,none⟩,0,0⟩:Sl) o)
 (bf (fun (r:Int) (s:World)=>
 Ext Pg bN ⟨[(ni (i64 j))]⟩ [kS] s fun (u:Sl) t=>
 cc u 0 (i64 j) (i64 j) 1 fun v=>
 aA Pg (Builtin.copy_ #[26,26] 3 ⟨[(av v),(av a)]⟩) kI t fun (y:Int) x=>
 hY y x fun z a1 (b1:Int) c1=>
 aa (decide (b1<(i64 j)))
 (ag c1 fun d1=>
 cc v b1 (v).len (v).cap 1 fun e1=>
 cc v 0 (if r<b1 then r else b1) (v).cap 1 fun f1=>
 aA Pg (Builtin.copy_ #[26,26] 3 ⟨[(av e1),(av f1)]⟩) kI d1 fun (h1:Int) g1=>
 z (i64 (b1+h1)) g1∧a1 (i64 (b1+h1)) g1<a1 b1 c1)
 (R v c1)) fun q=>
 aa (decide ((i64 j)>8192))
 ((a.len:Int)≠0∧
 aa ((i64 ((i64 (Int.tdiv (8192:Int) (a.len:Int)))*(a.len:Int)))==0)
 (q (a.len:Int) n)
 (q (i64 ((i64 (Int.tdiv (8192:Int) (a.len:Int)))*(a.len:Int))) n))
 (q (i64 j) n))) fun k=>
 aa (decide (i>0))
 (False)
 (aa (decide (j>9223372036854775807))
 (False)
 (k h))) fun e=>
 aa (decide (b<0))
 (False)
 (e w))):Cl Pg [kS] gK ⟨[(av a),(ni b)]⟩ w R:=co Tryz.f292 [(7,[]),(13,[]),(26,[(8,kI)]),(39,[(10,kI)])] h
end Go.Proofs.YtgglghjnakclmaaGreat
set_option maxRecDepth 20000
namespace Go.Vc
open Go
section
variable {E w:World} {F:List HP}
end
end Go.Vc
namespace Go.Proofs.YtgglghjnakclmaaGreat
open Go Go.Vc
section
variable {E w:World} {F:List HP}
theorem A6:fh Tryz.prog 26 5 1 1:=fh.of (by kernel_rfl) (by kernel_rfl)
end
end Go.Proofs.YtgglghjnakclmaaGreat
set_option maxRecDepth 20000
namespace Go.Vc
open Go
section
variable {E w:World} {F:List HP} {sz:Nat} {s:Sl} {xs ys:List Value}
theorem Hp.b9 {A:HP} {l F:List HP} [h2:hH l F] (h:Hp E w (A::l)):Hp E w (A::F):=by
 obtain ⟨p,e⟩:=h2.sub
 subst e
 exact (h.perm List.perm_middle.symm).uU
end
end Go.Vc
namespace Go.Proofs.YtgglghjnakclmaaGreat
open Go Go.Vc
section
variable {E w:World} {F:List HP}
end
end Go.Proofs.YtgglghjnakclmaaGreat
set_option maxRecDepth 20000
namespace Go.Proofs.YtgglghjnakclmaaGreat
open Go Go.Vc
section
variable {E w:World} {F:List HP} {K:Sl→World→Prop} {s s2:Sl} {b x:Nat} {t:TypeId}
abbrev OI (s:Sl) (xs:List Nat):HP:=aT 1 s ((ints xs).map vI)
abbrev OB (s:Sl) (xs:List Nat):HP:=aT 1 s (xs.map vB)
abbrev A3 (b x:Nat) (t:TypeId):HP:=aq b (.cells ⟨[.int .i64 (x:Int)]⟩ t (0,0))
abbrev Di (b x:Nat) (t:TypeId):HP:=aq b (.cells ⟨[.int .u8 (x:Int)]⟩ t (0,0))
theorem OI.len {xs:List Nat} (h:Hp E w (OI s xs::F)):xs.length=s.len:=by have:=h.cN;simpa [ints] using this
theorem OB.len {xs:List Nat} (h:Hp E w (OB s xs::F)):xs.length=s.len:=by have:=h.cN;simpa using this
theorem Dz: ∀y∈ [vI (x:Int)],ay y=true:=by intro y hy;rw [List.mem_singleton] at hy;rw [hy];rfl
theorem Du: ∀y∈ [vB x],ay y=true:=by intro y hy;rw [List.mem_singleton] at hy;rw [hy];rfl
theorem pv (xs ys:List Nat):(ints (xs++ys)).map vI=(ints xs).map vI++(ints ys).map vI:=by simp [ints]
theorem lK {xs:List Nat} (h:aR 1 s ((ints xs).map vI) w):xs.length=s.len:=by have:=h.1;simpa [ints] using this
theorem lz {xs:List Nat} (h:aR 1 s (xs.map vB) w):xs.length=s.len:=by have:=h.1;simpa using this
theorem uX {xs:List Nat} (h:Hp E w (A3 b x t::OI s xs::F)) (hl:xs.length≤10000000000) (hK: ∀s' w',Hp E w' (OI s' (xs++ [x])::F)→K s' w'):
  aA Tryz.prog (Builtin.append_ #[142,142] 142 ⟨[.slice s.base s.len s.cap,.slice (some ⟨b,0,none⟩) 1 1]⟩) kS w K:=by
 have hol:=OI.len (h.at 1)
 refine cC (ys:= [vI (x:Int)]) (n:=1) mi (by decide) (.inl ⟨3,by kernel_rfl⟩) (h.at 1) (.inl ⟨some ⟨b,0,none⟩,1,1,rfl,rfl,h.aB (ao.aN rfl rfl)⟩) rfl Dz (by omega) (by omega) fun s' w' h _=>hK s' w' ?_
 unfold OI
 rw [pv]
 exact h.b9
theorem yP {xs:List Nat} (h:Hp E w (Di b x t::OB s xs::F)) (hl:xs.length≤10000000000) (hK: ∀s' w',Hp E w' (OB s' (xs++ [x])::F)→K s' w'):
  aA Tryz.prog (Builtin.append_ #[26,26] 26 ⟨[.slice s.base s.len s.cap,.slice (some ⟨b,0,none⟩) 1 1]⟩) kS w K:=by
 have hol:=OB.len (h.at 1)
 refine cC (ys:= [vB x]) (n:=1) A6 (by decide) (.inl ⟨5,by kernel_rfl⟩) (h.at 1) (.inl ⟨some ⟨b,0,none⟩,1,1,rfl,rfl,h.aB (ao.aN rfl rfl)⟩) rfl Du (by omega) (by omega) fun s' w' h _=>hK s' w' ?_
 unfold OB
 rw [List.map_append]
 exact h.b9
theorem BW {xs:List Nat} (h:Hp E w (A3 b x t::OI s xs::F)) (hl:xs.length≤10000000000) (hK: ∀s' w',Hp E w' (OI s' (x::xs)::F)→K s' w'):
  aA Tryz.prog (Builtin.append_ #[142,142] 142 ⟨[.slice (some ⟨b,0,none⟩) 1 1,.slice s.base s.len s.cap]⟩) kS w K:=by
 have hol:=OI.len (h.at 1)
 have h2:=Hp.nY (n:=1) (sz:=1) h rfl
 refine cC (s:=⟨some ⟨b,0,none⟩,1,1⟩) (xs:= [vI (x:Int)]) (ys:=(ints xs).map vI) (n:=s.len) mi (by decide) (.inl ⟨3,by kernel_rfl⟩) h2 (.inl ⟨s.base,s.len,s.cap,rfl,rfl,(h2.at 1).aB ao.own⟩) (by simp [ints,hol]) pT (by dsimp only;omega) (by dsimp only;omega) fun s' w' h _=>hK s' w' ?_
 exact h.b9
theorem Ds {xs ys:List Nat} (h:Hp E w (OI s xs::F)) (h2:ao F (aR 1 s2 ((ints ys).map vI))) (hl:xs.length≤10000000000) (hl2:ys.length≤10000000000) (hK: ∀s' w',Hp E w' (OI s' (xs++ys)::F)→K s' w'):
  aA Tryz.prog (Builtin.append_ #[142,142] 142 ⟨[.slice s.base s.len s.cap,.slice s2.base s2.len s2.cap]⟩) kS w K:=by
 have hol:=OI.len h
 have hol2:=lK (h.drop.aB h2)
 refine cC (ys:=(ints ys).map vI) (n:=s2.len) mi (by decide) (.inl ⟨3,by kernel_rfl⟩) h (.inl ⟨s2.base,s2.len,s2.cap,rfl,rfl,h.drop.aB h2⟩) (by simp [ints,hol2]) pT (by omega) (by omega) fun s' w' h _=>hK s' w' ?_
 unfold OI
 rw [pv]
 exact h
theorem Am {xs ys:List Nat} (h:Hp E w (OB s xs::F)) (h2:ao F (aR 1 s2 (ys.map vB))) (hl:xs.length≤1000000000000) (hl2:ys.length≤1000000000000) (hK: ∀s' w',Hp E w' (OB s' (xs++ys)::F)→K s' w'):
  aA Tryz.prog (Builtin.append_ #[26,26] 26 ⟨[.slice s.base s.len s.cap,.slice s2.base s2.len s2.cap]⟩) kS w K:=by
 have hol:=OB.len h
 have hol2:=lz (h.drop.aB h2)
 refine cC (ys:=ys.map vB) (n:=s2.len) A6 (by decide) (.inl ⟨5,by kernel_rfl⟩) h (.inl ⟨s2.base,s2.len,s2.cap,rfl,rfl,h.drop.aB h2⟩) (by simp [hol2]) lI (by omega) (by omega) fun s' w' h _=>hK s' w' ?_
 unfold OB
 rw [List.map_append]
 exact h
theorem ba.rI {xs:List Nat} {i:Int} {j:Nat} {K:Int→Prop} (hs:aR 1 s ((ints xs).map vI) w) (hi:i=(j:Int)) (hj:j<xs.length) (hK:K (xs[j]:Int)):ba s i 1 fun q=>Ld kI q w K:=by
 subst hi
 have hl:=lK hs
 refine ba.rd hs (by omega) (by omega) fun q _ hq=>Ld.sc (s:= .int .i64) (xs[j]:Int) (by rw [hq];simp [Sc.enc,vI,ints]) hK
theorem ba.rB {xs:List Nat} {i:Int} {j:Nat} {K:Int→Prop} (hs:aR 1 s (xs.map vB) w) (hi:i=(j:Int)) (hj:j<xs.length) (hK:K (xs[j]:Int)):ba s i 1 fun q=>Ld (aJ .u8) q w K:=by
 subst hi
 have hl:=lz hs
 refine ba.rd hs (by omega) (by omega) fun q _ hq=>Ld.sc (s:= .int .u8) (xs[j]:Int) (by rw [hq];simp [Sc.enc,vB]) hK
end
end Go.Proofs.YtgglghjnakclmaaGreat
set_option maxRecDepth 20000
namespace Go.Vc
open Go
theorem bf.CL {r:World→Prop} {k:(World→Prop)→Prop} (Q:World→Prop) (h1: ∀w,Q w→r w) (h2: ∀r',(∀w,Q w→r' w)→k r'):bf r k:=h2 r h1
theorem bf.CD {A B:Type} {r:A→B→World→Prop} {k:(A→B→World→Prop)→Prop} (Q:A→B→World→Prop) (h1: ∀a b w,Q a b w→r a b w) (h2: ∀r',(∀a b w,Q a b w→r' a b w)→k r'):bf r k:=h2 r h1
end Go.Vc
set_option maxRecDepth 20000
namespace Go.Vc
theorem bf.Cw {A B C D H:Type} {r:A→B→C→D→H→World→Prop} {k:(A→B→C→D→H→World→Prop)→Prop} (Q:A→B→C→D→H→World→Prop) (h1: ∀a b c d e w,Q a b c d e w→r a b c d e w) (h2: ∀r',(∀a b c d e w,Q a b c d e w→r' a b c d e w)→k r'):bf r k:=h2 r h1
end Go.Vc
namespace Go.Proofs.YtgglghjnakclmaaGreat
open Go Go.Vc
abbrev fH:=Int×Sl×List Nat
def wi (x:fH):List Value:= [.int .i64 x.1,.slice x.2.1.base x.2.1.len x.2.1.cap]
theorem mB (x:fH):(wi x).length=2:=rfl
structure lL (s:Sl) (cs:List fH) (w:World):Prop where
 tab:aR 2 s (cs.flatMap wi) w
 each: ∀x∈cs,aR 1 x.2.1 (x.2.2.map vB) w
section
variable {w:World}
theorem AI {s:Sl} {cs:List fH} {k:Nat} {K:Int→Prop} (h:lL s cs w) (hk:k<cs.length) (hK:K cs[k].1):ba s (k:Int) 2 fun q=>Ld kI (q.add 0) w K:=by
 refine ba.el mB (by decide) h.tab rfl hk fun p hp=> ?_
 exact Ld.sc (s:= .int .i64) cs[k].1 (by have:=hp 0 (by decide);simpa [wi,Sc.enc] using this) hK
theorem pc {s:Sl} {cs:List fH} {k:Nat} {K:Sl→Prop} (h:lL s cs w) (hk:k<cs.length) (hK:K cs[k].2.1):ba s (k:Int) 2 fun q=>Ld kS (q.add 1) w K:=by
 refine ba.el mB (by decide) h.tab rfl hk fun p hp=> ?_
 exact Ld.sc (s:= .sl) cs[k].2.1 (by have:=hp 1 (by decide);simpa [wi,Sc.enc] using this) hK
end
end Go.Proofs.YtgglghjnakclmaaGreat
set_option maxRecDepth 20000
namespace Go.Vc
open Go
def Cv:List Nat→List Nat→Bool
 |_,[]=>false
 | [],_::_=>true
 |a::x,b::y=>decide (a<b)||(a==b&&Cv x y)
def strOf (b:List Nat):ByteArray:=strOfNums (b.map fun (x:Nat)=>(x:Int))
theorem jC {P:Program} {src e dst:TypeId} {s:Sl} {b:List Nat} {w:World} {K:ByteArray→World→Prop} (hs:P.underlying src=some (.slice e)) (he:P.underlying e=some (.int .u8)) (hd:P.underlying dst=some .string)
  (hh:aR 1 s (b.map vB) w) (hK:K (strOf b) w):aA P (convert src dst (.slice s.base s.len s.cap)) q8 w K:=by
 have hl:=hh.1
 simp only [List.length_map,Nat.mul_one] at hl
 have key:(convert src dst (.slice s.base s.len s.cap)).run P w= .ok (.string (strOf b)) w:=by
  cases hb:s.base with
  |none=>
   have:b= []:=by
    cases b with
    |nil=>rfl
    |cons x b=>
     obtain ⟨p,hp,_⟩:=hh.2 0 (by simp)
     rw [hb] at hp;cases hp
   subst this
   rw [run_convert_bytes_nil w src e hs he _ _ dst hd];rfl
  |some p=>
   have hc:(loadCells p s.len).run P w= .ok ((b.map fun (x:Nat)=>(x:Int)).map (Value.int .u8)).toArray w:=by
    have:=pC (P:=P) (w:=w) (vs:=b.map vB) (p:=p) (fun i hi=>by
     obtain ⟨q,hq,hc⟩:=hh.2 i hi
     rw [hb] at hq
     cases hq
     exact hc)
    rw [List.length_map,hl] at this
    rw [this,List.map_map];rfl
   rw [run_convert_bytes_string w src dst e _ _ _ hs he hd,run_bytesToString w _ _ _ _ hc,foldl_push_bytes]
   unfold strOf strOfNums
   simp [ByteArray.empty,ByteArray.emptyWithCapacity]
   rfl
 unfold aA
 rw [key]
 exact hK
theorem n7 (b:List Nat):(strOf b).toList=b.map UInt8.ofNat:=by
 unfold strOf strOfNums
 rw [ByteArray.toList_mk,List.map_map]
 refine List.map_congr_left fun x _=> ?_
 simp
theorem Bk {a b:Nat} (ha:a<256) (hb:b<256) (h:UInt8.ofNat a=UInt8.ofNat b):a=b:=by
 have:=congrArg UInt8.toNat h
 simp only [UInt8.toNat_ofNat'] at this
 omega
theorem od: ∀{a b:List Nat},(∀x∈a,x<256)→(∀x∈b,x<256)→a.map UInt8.ofNat=b.map UInt8.ofNat→a=b
 | [],[],_,_,_=>rfl
 | [],_::_,_,_,h=>by cases h
 |_::_,[],_,_,h=>by cases h
 |x::a,y::b,ha,hb,h=>by
  simp only [List.map_cons,List.cons.injEq] at h
  rw [Bk (ha x (by simp)) (hb y (by simp)) h.1,od (fun z hz=>ha z (by simp [hz])) (fun z hz=>hb z (by simp [hz])) h.2]
theorem qJ {a b:List Nat} (ha: ∀x∈a,x<256) (hb: ∀x∈b,x<256):((strOf a).toList==(strOf b).toList)=(a==b):=by
 rw [n7,n7,Bool.eq_iff_iff,beq_iff_eq,beq_iff_eq]
 exact ⟨od ha hb,fun e=>by rw [e]⟩
section
variable {E w:World} {F:List HP}
end
end Go.Vc
set_option maxRecDepth 20000
namespace Go.Proofs.YtgglghjnakclmaaGreat
open Go Go.Vc
section
variable {E w:World} {F:List HP}
theorem vT {s1 s2:Sl} {a b:List Nat} {K:Bool→World→Prop} (h1:aR 1 s1 (a.map vB) w) (h2:aR 1 s2 (b.map vB) w) (ha: ∀x∈a,x<256) (hb: ∀x∈b,x<256) (hK:K (a==b) w):
  Cl Tryz.prog [kB] iq ⟨[.slice s1.base s1.len s1.cap,.slice s2.base s2.len s2.cap]⟩ w K:=by
 refine sy.ok _ _ _ _ ?_
 refine jC (e:=5) (by kernel_rfl) (by kernel_rfl) (by kernel_rfl) h1 ?_
 refine jC (e:=5) (by kernel_rfl) (by kernel_rfl) (by kernel_rfl) h2 ?_
 rw [qJ ha hb]
 exact hK
end
end Go.Proofs.YtgglghjnakclmaaGreat
namespace Go.Proofs.YtgglghjnakclmaaGreat
open Go Go.Vc
set_option maxRecDepth 100000
theorem vw.ok (R:(Option Addr)→World→Prop) w (h:
 Cl Pg [(.st [.int .i64])] eE ⟨[]⟩ w fun b a=>
 bx Pg 114 [(0,(.agg ⟨[(ni b.1)]⟩))] fun c=>
 Nw 114 c a fun e d=>
 R (some ⟨e,0,none⟩) d):Cl Pg [kP] dO ⟨[]⟩ w R:=co Tryz.f14 [] h
theorem re.ok (a:(TT aI)) (b:(TT aI)) (R:Bool→World→Prop) w (h:
 Nw 29 ⟨[(.int .u8 a.1),(ni a.2.1),(ni a.2.2.1),(ni a.2.2.2.1),(.int .u32 a.2.2.2.2.1),(av a.2.2.2.2.2.1),(ni a.2.2.2.2.2.2.1)]⟩ w fun d c=>
 Nw 29 ⟨[(.int .u8 b.1),(ni b.2.1),(ni b.2.2.1),(ni b.2.2.2.1),(.int .u32 b.2.2.2.2.1),(av b.2.2.2.2.2.1),(ni b.2.2.2.2.2.2.1)]⟩ c fun f e=>
 Ld (aJ .u8) (Addr.add ⟨d,0,none⟩ 0) e fun (g:Int)=>
 Ld (aJ .u8) (Addr.add ⟨f,0,none⟩ 0) e fun (h:Int)=>
 aa (g==h)
 (Ld kI (Addr.add ⟨d,0,none⟩ 1) e fun (i:Int)=>
 Ld kI (Addr.add ⟨f,0,none⟩ 1) e fun (j:Int)=>
 aa (i==j)
 (Ld (.st [.int .i64,.int .i64,.int .u32]) (Addr.add ⟨d,0,none⟩ 2) e fun k=>
 Ld (.st [.int .i64,.int .i64,.int .u32]) (Addr.add ⟨f,0,none⟩ 2) e fun l=>
 aa (((k.1:Int)==(l.1:Int))&&(((k.2.1:Int)==(l.2.1:Int))&&((k.2.2.1:Int)==(l.2.2.1:Int))))
 (Ld kI (Addr.add ⟨d,0,none⟩ 6) e fun (m:Int)=>
 Ld kI (Addr.add ⟨f,0,none⟩ 6) e fun (n:Int)=>
 aa (m==n)
 (Ld kS (Addr.add ⟨d,0,none⟩ 5) e fun (o:Sl)=>
 Ld kS (Addr.add ⟨f,0,none⟩ 5) e fun (p:Sl)=>
 Cl Pg [kB] iq ⟨[(av o),(av p)]⟩ e fun (r:Bool) q=>
 R r q)
 (R false e))
 (R false e))
 (R false e))
 (R false e)):Cl Pg [kB] bH ⟨[(.agg ⟨[(.int .u8 a.1),(ni a.2.1),(ni a.2.2.1),(ni a.2.2.2.1),(.int .u32 a.2.2.2.2.1),(av a.2.2.2.2.2.1),(ni a.2.2.2.2.2.2.1)]⟩),(.agg ⟨[(.int .u8 b.1),(ni b.2.1),(ni b.2.2.1),(ni b.2.2.2.1),(.int .u32 b.2.2.2.2.1),(av b.2.2.2.2.2.1),(ni b.2.2.2.2.2.2.1)]⟩)]⟩ w R:=co Tryz.f18 [] h
theorem g9.ok (a:(Option Addr)) (R:Int→World→Prop) w (h:
 aa (Option.isNone (a:Option Addr))
 (R 0 w)
 (aO a fun b=>
 Ld kI ((b.add 1).add 3) w fun (c:Int)=>
 R c w)):Cl Pg [kI] bF ⟨[(.pointer a)]⟩ w R:=co Tryz.f21 [] h
theorem p8.ok (R:(TT [.int .i64])→World→Prop) w (h:
 Nw 95 ⟨[(ni 0)]⟩ w fun b a=>
 ae ⟨b,0,none⟩ [(ni 1)] 0 a fun c=>
 Ld (.st [.int .i64]) ⟨b,0,none⟩ c fun d=>
 R d c):Cl Pg [(.st [.int .i64])] eE ⟨[]⟩ w R:=co Tryz.f56 [] h
theorem lb.ok (a:(Option Addr)) (b:(Option Addr)) (R:(TT aI)→Bool→World→Prop) w (h:
 Nw 29 ⟨[(.int .u8 0),(ni 0),(ni 0),(ni 0),(.int .u32 0),(.slice none 0 0),(ni 0)]⟩ w fun d c=>
 Cl Pg [(aJ .u32),(.st aI),kB] bP ⟨[(.pointer a),(.pointer b),(ni 8)]⟩ c fun (f:Int) g (h:Bool) e=>
 Nw 29 ⟨[(.int .u8 0),(ni 0),(ni 0),(ni 0),(.int .u32 0),(.slice none 0 0),(ni 0)]⟩ e fun j i=>
 ae ⟨j,0,none⟩ [(.int .u8 g.1),(ni g.2.1),(ni g.2.2.1),(ni g.2.2.2.1),(.int .u32 g.2.2.2.2.1),(av g.2.2.2.2.2.1),(ni g.2.2.2.2.2.2.1)] 0 i fun k=>
 aa (!h)
 (Ld (.st aI) ⟨j,0,none⟩ k fun l=>
 ae ⟨d,0,none⟩ [(.int .u8 l.1),(ni l.2.1),(ni l.2.2.1),(ni l.2.2.2.1),(.int .u32 l.2.2.2.2.1),(av l.2.2.2.2.2.1),(ni l.2.2.2.2.2.2.1)] 0 k fun m=>
 Ld (.st aI) ⟨d,0,none⟩ m fun n=>
 R n true m)
 (aO a fun o=>
 Ld (.st bO) (o.add 1) k fun p=>
 Cl Pg [(.st bO),kB,kI] iv ⟨[(.agg ⟨[(ni p.1),(ni p.2.1),(ni p.2.2.1),(ni p.2.2.2.1)]⟩),(.int .u8 (u8 f))]⟩ k fun r (s:Bool) (t:Int) q=>
 Nw 100 ⟨[(ni 0),(ni 0),(ni 0),(ni 0)]⟩ q fun v u=>
 ae ⟨v,0,none⟩ [(ni r.1),(ni r.2.1),(ni r.2.2.1),(ni r.2.2.2.1)] 0 u fun x=>
 aa (t !=0)
 (Cl Pg [(.st aI),kB] a8 ⟨[(.pointer a),(ni t)]⟩ x fun z (a1:Bool) y=>
 ae ⟨d,0,none⟩ [(.int .u8 z.1),(ni z.2.1),(ni z.2.2.1),(ni z.2.2.2.1),(.int .u32 z.2.2.2.2.1),(av z.2.2.2.2.2.1),(ni z.2.2.2.2.2.2.1)] 0 y fun b1=>
 Ld (.st aI) ⟨d,0,none⟩ b1 fun c1=>
 R c1 a1 b1)
 (Ld (.st bO) ⟨v,0,none⟩ x fun d1=>
 aO a fun e1=>
 ae (e1.add 1) [(ni d1.1),(ni d1.2.1),(ni d1.2.2.1),(ni d1.2.2.2.1)] 0 x fun f1=>
 aa s
 (Cl Pg [(.st [.int .i64])] dw ⟨[]⟩ f1 fun h1 g1=>
 aO a fun i1=>
 ae (i1.add 0) [(ni h1.1)] 0 g1 fun j1=>
 Ld kI (Addr.add ⟨v,0,none⟩ 3) j1 fun (k1:Int)=>
 ae ⟨d,0,none⟩ [(.int .u8 2),(ni k1),(ni 0),(ni 0),(.int .u32 0),(.slice none 0 0),(ni 0)] 0 j1 fun l1=>
 Ld (.st aI) ⟨d,0,none⟩ l1 fun m1=>
 R m1 s l1)
 (Ld kI (Addr.add ⟨v,0,none⟩ 3) f1 fun (n1:Int)=>
 ae ⟨d,0,none⟩ [(.int .u8 2),(ni n1),(ni 0),(ni 0),(.int .u32 0),(.slice none 0 0),(ni 0)] 0 f1 fun o1=>
 Ld (.st aI) ⟨d,0,none⟩ o1 fun p1=>
 R p1 s o1)))):Cl Pg [(.st aI),kB] dH ⟨[(.pointer a),(.pointer b)]⟩ w R:=co Tryz.f62 [] h
theorem p0.ok (R:(TT [.int .i64])→World→Prop) w (h:
 Nw 95 ⟨[(ni 0)]⟩ w fun b a=>
 ae ⟨b,0,none⟩ [(ni 2)] 0 a fun c=>
 Ld (.st [.int .i64]) ⟨b,0,none⟩ c fun d=>
 R d c):Cl Pg [(.st [.int .i64])] dw ⟨[]⟩ w R:=co Tryz.f63 [] h
theorem lg.ok (a:(Option Addr)) (b:(Option Addr)) (R:(TT aI)→Bool→World→Prop) w (h:
 Nw 29 ⟨[(.int .u8 0),(ni 0),(ni 0),(ni 0),(.int .u32 0),(.slice none 0 0),(ni 0)]⟩ w fun d c=>
 Cl Pg [(aJ .u32),(.st aI),kB] bP ⟨[(.pointer a),(.pointer b),(ni 8)]⟩ c fun (f:Int) g (h:Bool) e=>
 Nw 29 ⟨[(.int .u8 0),(ni 0),(ni 0),(ni 0),(.int .u32 0),(.slice none 0 0),(ni 0)]⟩ e fun j i=>
 ae ⟨j,0,none⟩ [(.int .u8 g.1),(ni g.2.1),(ni g.2.2.1),(ni g.2.2.2.1),(.int .u32 g.2.2.2.2.1),(av g.2.2.2.2.2.1),(ni g.2.2.2.2.2.2.1)] 0 i fun k=>
 aa (!h)
 (Ld (.st aI) ⟨j,0,none⟩ k fun l=>
 ae ⟨d,0,none⟩ [(.int .u8 l.1),(ni l.2.1),(ni l.2.2.1),(ni l.2.2.2.1),(.int .u32 l.2.2.2.2.1),(av l.2.2.2.2.2.1),(ni l.2.2.2.2.2.2.1)] 0 k fun m=>
 Ld (.st aI) ⟨d,0,none⟩ m fun n=>
 R n true m)
 (cJ k fun o p=>
 aO a fun q=>
 ab kI ((q.add 1).add 3) o fun (r:Int)=>
 aO a fun s=>
 ab (.st aS) (s.add 5) o fun t=>
 (Cl Pg [(.st aS),kB,kI] cM ⟨[(ni r),(.agg ⟨[(ni t.1),(ni t.2.1),(ni t.2.2.1),(ni t.2.2.2.1),(ni t.2.2.2.2.1),(.int .u32 t.2.2.2.2.2.1),(ni t.2.2.2.2.2.2.1)]⟩),(.int .u8 (u8 f))]⟩ p fun v (x:Bool) (y:Int) u=>
 o u∧
 Nw 102 ⟨[(ni 0),(ni 0),(ni 0),(ni 0),(ni 0),(.int .u32 0),(ni 0)]⟩ u fun a1 z=>
 o z∧
 ae ⟨a1,0,none⟩ [(ni v.1),(ni v.2.1),(ni v.2.2.1),(ni v.2.2.2.1),(ni v.2.2.2.2.1),(.int .u32 v.2.2.2.2.2.1),(ni v.2.2.2.2.2.2.1)] 0 z fun b1=>
 o b1∧
 aa (y !=0)
 (Cl Pg [(.st aI),kB] a8 ⟨[(.pointer a),(ni y)]⟩ b1 fun d1 (e1:Bool) c1=>
 ae ⟨d,0,none⟩ [(.int .u8 d1.1),(ni d1.2.1),(ni d1.2.2.1),(ni d1.2.2.2.1),(.int .u32 d1.2.2.2.2.1),(av d1.2.2.2.2.2.1),(ni d1.2.2.2.2.2.2.1)] 0 c1 fun f1=>
 Ld (.st aI) ⟨d,0,none⟩ f1 fun g1=>
 R g1 e1 f1)
 (Ld (.st aS) ⟨a1,0,none⟩ b1 fun h1=>
 aO a fun i1=>
 ae (i1.add 5) [(ni h1.1),(ni h1.2.1),(ni h1.2.2.1),(ni h1.2.2.2.1),(ni h1.2.2.2.2.1),(.int .u32 h1.2.2.2.2.2.1),(ni h1.2.2.2.2.2.2.1)] 0 b1 fun j1=>
 aa (!x)
 (Ld (.st aI) ⟨j,0,none⟩ j1 fun k1=>
 ae ⟨d,0,none⟩ [(.int .u8 k1.1),(ni k1.2.1),(ni k1.2.2.1),(ni k1.2.2.2.1),(.int .u32 k1.2.2.2.2.1),(av k1.2.2.2.2.2.1),(ni k1.2.2.2.2.2.2.1)] 0 j1 fun l1=>
 Ld (.st aI) ⟨d,0,none⟩ l1 fun m1=>
 R m1 false l1)
 (Ld kI (Addr.add ⟨a1,0,none⟩ 0) j1 fun (n1:Int)=>
 aa (n1==6)
 (Cl Pg [(.st [.int .i64])] dj ⟨[]⟩ j1 fun p1 o1=>
 aO a fun q1=>
 ae (q1.add 0) [(ni p1.1)] 0 o1 fun r1=>
 Ld (.st [.int .i64,.int .i64,.int .u32]) (Addr.add ⟨a1,0,none⟩ 3) r1 fun s1=>
 ae ⟨d,0,none⟩ [(.int .u8 6),(ni 0),(ni s1.1),(ni s1.2.1),(.int .u32 s1.2.2.1),(.slice none 0 0),(ni 0)] 0 r1 fun t1=>
 Ld (.st aI) ⟨d,0,none⟩ t1 fun u1=>
 R u1 true t1)
 (Cl Pg [(.st [.int .i64])] cZ ⟨[]⟩ j1 fun x1 v1=>
 bx Pg 106 [] fun y1=>
 aO a fun z1=>
 ae (z1.add 0) [(ni x1.1)] 0 v1 fun a2=>
 aO a fun b2=>
 an 262 (b2.add 12) y1 a2 fun c2=>
 Ld (.st [.int .i64,.int .i64,.int .u32]) (Addr.add ⟨a1,0,none⟩ 3) c2 fun d2=>
 ae ⟨d,0,none⟩ [(.int .u8 3),(ni 0),(ni d2.1),(ni d2.2.1),(.int .u32 d2.2.2.1),(.slice none 0 0),(ni 0)] 0 c2 fun e2=>
 Ld (.st aI) ⟨d,0,none⟩ e2 fun f2=>
 R f2 true e2))))∧
 (Nw 102 ⟨[(ni 0),(ni 0),(ni 0),(ni 0),(ni 0),(.int .u32 0),(ni 0)]⟩ p fun h2 g2=>
 o g2∧
 Cl Pg [(.st aS),kB,kI] cM ⟨[(ni r),(.agg ⟨[(ni t.1),(ni t.2.1),(ni t.2.2.1),(ni t.2.2.2.1),(ni t.2.2.2.2.1),(.int .u32 t.2.2.2.2.2.1),(ni t.2.2.2.2.2.2.1)]⟩),(.int .u8 (u8 f))]⟩ g2 fun j2 (k2:Bool) (l2:Int) i2=>
 o i2∧
 ae ⟨h2,0,none⟩ [(ni j2.1),(ni j2.2.1),(ni j2.2.2.1),(ni j2.2.2.2.1),(ni j2.2.2.2.2.1),(.int .u32 j2.2.2.2.2.2.1),(ni j2.2.2.2.2.2.2.1)] 0 i2 fun m2=>
 o m2∧
 aa (l2 !=0)
 (Cl Pg [(.st aI),kB] a8 ⟨[(.pointer a),(ni l2)]⟩ m2 fun o2 (p2:Bool) n2=>
 ae ⟨d,0,none⟩ [(.int .u8 o2.1),(ni o2.2.1),(ni o2.2.2.1),(ni o2.2.2.2.1),(.int .u32 o2.2.2.2.2.1),(av o2.2.2.2.2.2.1),(ni o2.2.2.2.2.2.2.1)] 0 n2 fun q2=>
 Ld (.st aI) ⟨d,0,none⟩ q2 fun r2=>
 R r2 p2 q2)
 (Ld (.st aS) ⟨h2,0,none⟩ m2 fun s2=>
 aO a fun t2=>
 ae (t2.add 5) [(ni s2.1),(ni s2.2.1),(ni s2.2.2.1),(ni s2.2.2.2.1),(ni s2.2.2.2.2.1),(.int .u32 s2.2.2.2.2.2.1),(ni s2.2.2.2.2.2.2.1)] 0 m2 fun u2=>
 aa (!k2)
 (Ld (.st aI) ⟨j,0,none⟩ u2 fun v2=>
 ae ⟨d,0,none⟩ [(.int .u8 v2.1),(ni v2.2.1),(ni v2.2.2.1),(ni v2.2.2.2.1),(.int .u32 v2.2.2.2.2.1),(av v2.2.2.2.2.2.1),(ni v2.2.2.2.2.2.2.1)] 0 u2 fun x2=>
 Ld (.st aI) ⟨d,0,none⟩ x2 fun y2=>
 R y2 false x2)
 (Ld kI (Addr.add ⟨h2,0,none⟩ 0) u2 fun (z2:Int)=>
 aa (z2==6)
 (Cl Pg [(.st [.int .i64])] dj ⟨[]⟩ u2 fun b3 a3=>
 aO a fun c3=>
 ae (c3.add 0) [(ni b3.1)] 0 a3 fun d3=>
 Ld (.st [.int .i64,.int .i64,.int .u32]) (Addr.add ⟨h2,0,none⟩ 3) d3 fun e3=>
 ae ⟨d,0,none⟩ [(.int .u8 6),(ni 0),(ni e3.1),(ni e3.2.1),(.int .u32 e3.2.2.1),(.slice none 0 0),(ni 0)] 0 d3 fun f3=>
 Ld (.st aI) ⟨d,0,none⟩ f3 fun g3=>
 R g3 true f3)
 (Cl Pg [(.st [.int .i64])] cZ ⟨[]⟩ u2 fun i3 h3=>
 bx Pg 106 [] fun j3=>
 aO a fun k3=>
 ae (k3.add 0) [(ni i3.1)] 0 h3 fun l3=>
 aO a fun m3=>
 an 262 (m3.add 12) j3 l3 fun n3=>
 Ld (.st [.int .i64,.int .i64,.int .u32]) (Addr.add ⟨h2,0,none⟩ 3) n3 fun o3=>
 ae ⟨d,0,none⟩ [(.int .u8 3),(ni 0),(ni o3.1),(ni o3.2.1),(.int .u32 o3.2.2.1),(.slice none 0 0),(ni 0)] 0 n3 fun p3=>
 Ld (.st aI) ⟨d,0,none⟩ p3 fun q3=>
 R q3 true p3)))))):Cl Pg [(.st aI),kB] dK ⟨[(.pointer a),(.pointer b)]⟩ w R:=co Tryz.f64 [] h
theorem oZ.ok (R:(TT [.int .i64])→World→Prop) w (h:
 Nw 95 ⟨[(ni 0)]⟩ w fun b a=>
 ae ⟨b,0,none⟩ [(ni 3)] 0 a fun c=>
 Ld (.st [.int .i64]) ⟨b,0,none⟩ c fun d=>
 R d c):Cl Pg [(.st [.int .i64])] cZ ⟨[]⟩ w R:=co Tryz.f65 [] h
theorem kr.ok (a:(Option Addr)) (b:(Option Addr)) (R:(TT aI)→Bool→World→Prop) w (h:
 Nw 29 ⟨[(.int .u8 0),(ni 0),(ni 0),(ni 0),(.int .u32 0),(.slice none 0 0),(ni 0)]⟩ w fun d c=>
 Cl Pg [(aJ .u32),(.st aI),kB] bP ⟨[(.pointer a),(.pointer b),(ni 1)]⟩ c fun (f:Int) g (h:Bool) e=>
 Nw 29 ⟨[(.int .u8 0),(ni 0),(ni 0),(ni 0),(.int .u32 0),(.slice none 0 0),(ni 0)]⟩ e fun j i=>
 ae ⟨j,0,none⟩ [(.int .u8 g.1),(ni g.2.1),(ni g.2.2.1),(ni g.2.2.2.1),(.int .u32 g.2.2.2.2.1),(av g.2.2.2.2.2.1),(ni g.2.2.2.2.2.2.1)] 0 i fun k=>
 aa (!h)
 (Ld (.st aI) ⟨j,0,none⟩ k fun l=>
 ae ⟨d,0,none⟩ [(.int .u8 l.1),(ni l.2.1),(ni l.2.2.1),(ni l.2.2.2.1),(.int .u32 l.2.2.2.2.1),(av l.2.2.2.2.2.1),(ni l.2.2.2.2.2.2.1)] 0 k fun m=>
 Ld (.st aI) ⟨d,0,none⟩ m fun n=>
 R n true m)
 (aO a fun o=>
 Ld (.arr 262) (o.add 12) k fun p=>
 Cl Pg [(.arr 262),kB,kI] eM ⟨[(.agg p),(ni (i64 f))]⟩ k fun r (s:Bool) (t:Int) q=>
 Nw 106 ⟨List.replicate 258 (.int .u8 0)++ [(ni 0),(ni 0),(ni 0),(ni 0)]⟩ q fun v u=>
 an 262 ⟨v,0,none⟩ r u fun x=>
 aa (t !=0)
 (Cl Pg [(.st aI),kB] a8 ⟨[(.pointer a),(ni t)]⟩ x fun z (a1:Bool) y=>
 ae ⟨d,0,none⟩ [(.int .u8 z.1),(ni z.2.1),(ni z.2.2.1),(ni z.2.2.2.1),(.int .u32 z.2.2.2.2.1),(av z.2.2.2.2.2.1),(ni z.2.2.2.2.2.2.1)] 0 y fun b1=>
 Ld (.st aI) ⟨d,0,none⟩ b1 fun c1=>
 R c1 a1 b1)
 (Ld (.arr 262) ⟨v,0,none⟩ x fun d1=>
 aO a fun e1=>
 an 262 (e1.add 12) d1 x fun f1=>
 aa s
 (Ld (.arr 258) (Addr.add ⟨v,0,none⟩ 0) f1 fun g1=>
 Cl Pg [(.arr 260),kI] gg ⟨[(.agg g1)]⟩ f1 fun i1 (j1:Int) h1=>
 aO a fun k1=>
 an 260 (k1.add 274) i1 h1 fun l1=>
 aO a fun m1=>
 Ld kI (((m1.add 5).add 3).add 0) l1 fun (n1:Int)=>
 Cl Pg [(.arr 260)] jm ⟨[(ni n1)]⟩ l1 fun p1 o1=>
 aO a fun q1=>
 an 260 (q1.add 534) p1 o1 fun r1=>
 Cl Pg [(.st [.int .i64])] dA ⟨[]⟩ r1 fun t1 s1=>
 aO a fun u1=>
 ae (u1.add 0) [(ni t1.1)] 0 s1 fun v1=>
 Ld (.st aI) ⟨j,0,none⟩ v1 fun x1=>
 ae ⟨d,0,none⟩ [(.int .u8 x1.1),(ni x1.2.1),(ni x1.2.2.1),(ni x1.2.2.2.1),(.int .u32 x1.2.2.2.2.1),(av x1.2.2.2.2.2.1),(ni x1.2.2.2.2.2.2.1)] 0 v1 fun y1=>
 Ld (.st aI) ⟨d,0,none⟩ y1 fun z1=>
 R z1 false y1)
 (Ld (.st aI) ⟨j,0,none⟩ f1 fun a2=>
 ae ⟨d,0,none⟩ [(.int .u8 a2.1),(ni a2.2.1),(ni a2.2.2.1),(ni a2.2.2.2.1),(.int .u32 a2.2.2.2.2.1),(av a2.2.2.2.2.2.1),(ni a2.2.2.2.2.2.2.1)] 0 f1 fun b2=>
 Ld (.st aI) ⟨d,0,none⟩ b2 fun c2=>
 R c2 false b2)))):Cl Pg [(.st aI),kB] dB ⟨[(.pointer a),(.pointer b)]⟩ w R:=co Tryz.f66 [] h
theorem nb.ok (R:(TT [.int .i64])→World→Prop) w (h:
 Nw 95 ⟨[(ni 0)]⟩ w fun b a=>
 ae ⟨b,0,none⟩ [(ni 4)] 0 a fun c=>
 Ld (.st [.int .i64]) ⟨b,0,none⟩ c fun d=>
 R d c):Cl Pg [(.st [.int .i64])] dA ⟨[]⟩ w R:=co Tryz.f67 [] h
theorem jV.ok (a:(Option Addr)) (b:(Option Addr)) (R:(TT aI)→Bool→World→Prop) w (h:
 Nw 29 ⟨[(.int .u8 0),(ni 0),(ni 0),(ni 0),(.int .u32 0),(.slice none 0 0),(ni 0)]⟩ w fun d c=>
 Cl Pg [(aJ .u32),(.st aI),kB] bP ⟨[(.pointer a),(.pointer b),(ni 1)]⟩ c fun (f:Int) g (h:Bool) e=>
 Nw 29 ⟨[(.int .u8 0),(ni 0),(ni 0),(ni 0),(.int .u32 0),(.slice none 0 0),(ni 0)]⟩ e fun j i=>
 ae ⟨j,0,none⟩ [(.int .u8 g.1),(ni g.2.1),(ni g.2.2.1),(ni g.2.2.2.1),(.int .u32 g.2.2.2.2.1),(av g.2.2.2.2.2.1),(ni g.2.2.2.2.2.2.1)] 0 i fun k=>
 aa (!h)
 (Ld (.st aI) ⟨j,0,none⟩ k fun l=>
 ae ⟨d,0,none⟩ [(.int .u8 l.1),(ni l.2.1),(ni l.2.2.1),(ni l.2.2.2.1),(.int .u32 l.2.2.2.2.1),(av l.2.2.2.2.2.1),(ni l.2.2.2.2.2.2.1)] 0 k fun m=>
 Ld (.st aI) ⟨d,0,none⟩ m fun n=>
 R n true m)
 (aO a fun o=>
 Ld (.arr 260) (o.add 274) k fun p=>
 Cl Pg [(.arr 260),kI,kB] fK ⟨[(.agg p),(ni (i64 f))]⟩ k fun r (s:Int) (t:Bool) q=>
 Nw 108 ⟨List.replicate 258 (.int .u8 0)++ [(ni 0),(ni 0)]⟩ q fun v u=>
 an 260 ⟨v,0,none⟩ r u fun x=>
 Ld (.arr 260) ⟨v,0,none⟩ x fun y=>
 aO a fun z=>
 an 260 (z.add 274) y x fun a1=>
 aa (!t)
 (Ld (.st aI) ⟨j,0,none⟩ a1 fun b1=>
 ae ⟨d,0,none⟩ [(.int .u8 b1.1),(ni b1.2.1),(ni b1.2.2.1),(ni b1.2.2.2.1),(.int .u32 b1.2.2.2.2.1),(av b1.2.2.2.2.2.1),(ni b1.2.2.2.2.2.2.1)] 0 a1 fun c1=>
 Ld (.st aI) ⟨d,0,none⟩ c1 fun d1=>
 R d1 false c1)
 (aO a fun e1=>
 Ld (.arr 260) (e1.add 534) a1 fun f1=>
 Cl Pg [(.arr 260),kS,kB,kI] ij ⟨[(.agg f1),(ni s)]⟩ a1 fun h1 (i1:Sl) (j1:Bool) (k1:Int) g1=>
 Nw 112 ⟨List.replicate 256 (.int .u8 0)++ [(ni 0),(ni 0),(ni 0),(.bool false)]⟩ g1 fun m1 l1=>
 an 260 ⟨m1,0,none⟩ h1 l1 fun n1=>
 aa (k1 !=0)
 (Cl Pg [(.st aI),kB] a8 ⟨[(.pointer a),(ni k1)]⟩ n1 fun p1 (q1:Bool) o1=>
 ae ⟨d,0,none⟩ [(.int .u8 p1.1),(ni p1.2.1),(ni p1.2.2.1),(ni p1.2.2.2.1),(.int .u32 p1.2.2.2.2.1),(av p1.2.2.2.2.2.1),(ni p1.2.2.2.2.2.2.1)] 0 o1 fun r1=>
 Ld (.st aI) ⟨d,0,none⟩ r1 fun s1=>
 R s1 q1 r1)
 (Ld (.arr 260) ⟨m1,0,none⟩ n1 fun t1=>
 aO a fun u1=>
 an 260 (u1.add 534) t1 n1 fun v1=>
 aa j1
 (Cl Pg [(.st [.int .i64])] dy ⟨[]⟩ v1 fun y1 x1=>
 aO a fun z1=>
 ae (z1.add 0) [(ni y1.1)] 0 x1 fun a2=>
 ae ⟨d,0,none⟩ [(.int .u8 4),(ni 0),(ni 0),(ni 0),(.int .u32 0),(av i1),(ni 0)] 0 a2 fun b2=>
 Ld (.st aI) ⟨d,0,none⟩ b2 fun c2=>
 R c2 (decide ((i1.len:Int)>0)) b2)
 (ae ⟨d,0,none⟩ [(.int .u8 4),(ni 0),(ni 0),(ni 0),(.int .u32 0),(av i1),(ni 0)] 0 v1 fun d2=>
 Ld (.st aI) ⟨d,0,none⟩ d2 fun e2=>
 R e2 (decide ((i1.len:Int)>0)) d2))))):Cl Pg [(.st aI),kB] c9 ⟨[(.pointer a),(.pointer b)]⟩ w R:=co Tryz.f68 [] h
theorem na.ok (R:(TT [.int .i64])→World→Prop) w (h:
 Nw 95 ⟨[(ni 0)]⟩ w fun b a=>
 ae ⟨b,0,none⟩ [(ni 5)] 0 a fun c=>
 Ld (.st [.int .i64]) ⟨b,0,none⟩ c fun d=>
 R d c):Cl Pg [(.st [.int .i64])] dy ⟨[]⟩ w R:=co Tryz.f69 [] h
theorem jW.ok (a:(Option Addr)) (b:(Option Addr)) (R:(TT aI)→Bool→World→Prop) w (h:
 Nw 29 ⟨[(.int .u8 0),(ni 0),(ni 0),(ni 0),(.int .u32 0),(.slice none 0 0),(ni 0)]⟩ w fun d c=>
 Cl Pg [(aJ .u32),kI] cY ⟨[(.pointer b)]⟩ c fun (f:Int) (g:Int) e=>
 aa (f !=0)
 (Cl Pg [(.st aI),kB] a8 ⟨[(.pointer a),(ni 160)]⟩ e fun i (j:Bool) h=>
 ae ⟨d,0,none⟩ [(.int .u8 i.1),(ni i.2.1),(ni i.2.2.1),(ni i.2.2.2.1),(.int .u32 i.2.2.2.2.1),(av i.2.2.2.2.2.1),(ni i.2.2.2.2.2.2.1)] 0 h fun k=>
 Ld (.st aI) ⟨d,0,none⟩ k fun l=>
 R l j k)
 (Cl Pg [(.st [.int .i64])] dw ⟨[]⟩ e fun n m=>
 aO a fun o=>
 ae (o.add 0) [(ni n.1)] 0 m fun p=>
 aO a fun q=>
 ae (q.add 5) [(ni 0),(ni 0),(ni 0),(ni 0),(ni 0),(.int .u32 0),(ni 0)] 0 p fun r=>
 ae ⟨d,0,none⟩ [(.int .u8 5),(ni 0),(ni 0),(ni 0),(.int .u32 0),(.slice none 0 0),(ni 0)] 0 r fun s=>
 Ld (.st aI) ⟨d,0,none⟩ s fun t=>
 R t true s)):Cl Pg [(.st aI),kB] c8 ⟨[(.pointer a),(.pointer b)]⟩ w R:=co Tryz.f70 [] h
theorem pW.ok (R:(TT [.int .i64])→World→Prop) w (h:
 Nw 95 ⟨[(ni 0)]⟩ w fun b a=>
 ae ⟨b,0,none⟩ [(ni 6)] 0 a fun c=>
 Ld (.st [.int .i64]) ⟨b,0,none⟩ c fun d=>
 R d c):Cl Pg [(.st [.int .i64])] dj ⟨[]⟩ w R:=co Tryz.f71 [] h
theorem la.ok (a:(Option Addr)) (b:(Option Addr)) (R:(TT aI)→Bool→World→Prop) w (h:
 Nw 29 ⟨[(.int .u8 0),(ni 0),(ni 0),(ni 0),(.int .u32 0),(.slice none 0 0),(ni 0)]⟩ w fun d c=>
 Cl Pg [kI] bR ⟨[(.pointer b)]⟩ c fun (f:Int) e=>
 aa (decide (f>0))
 (Cl Pg [(.st aI),kB] a8 ⟨[(.pointer a),(ni 261)]⟩ e fun h (i:Bool) g=>
 ae ⟨d,0,none⟩ [(.int .u8 h.1),(ni h.2.1),(ni h.2.2.1),(ni h.2.2.2.1),(.int .u32 h.2.2.2.2.1),(av h.2.2.2.2.2.1),(ni h.2.2.2.2.2.2.1)] 0 g fun j=>
 Ld (.st aI) ⟨d,0,none⟩ j fun k=>
 R k i j)
 (Cl Pg [kB] cm ⟨[(.pointer b)]⟩ e fun (m:Bool) l=>
 aa m
 (Cl Pg [(.st [.int .i64])] ee ⟨[]⟩ l fun o n=>
 aO a fun p=>
 ae (p.add 0) [(ni o.1)] 0 n fun q=>
 ae ⟨d,0,none⟩ [(.int .u8 7),(ni 0),(ni 0),(ni 0),(.int .u32 0),(.slice none 0 0),(ni 0)] 0 q fun r=>
 Ld (.st aI) ⟨d,0,none⟩ r fun s=>
 R s true r)
 (ae ⟨d,0,none⟩ [(.int .u8 1),(ni 0),(ni 0),(ni 0),(.int .u32 0),(.slice none 0 0),(ni 0)] 0 l fun t=>
 Ld (.st aI) ⟨d,0,none⟩ t fun u=>
 R u true t))):Cl Pg [(.st aI),kB] dJ ⟨[(.pointer a),(.pointer b)]⟩ w R:=co Tryz.f72 [] h
theorem te.ok (R:(TT [.int .i64])→World→Prop) w (h:
 Nw 95 ⟨[(ni 0)]⟩ w fun b a=>
 ae ⟨b,0,none⟩ [(ni 7)] 0 a fun c=>
 Ld (.st [.int .i64]) ⟨b,0,none⟩ c fun d=>
 R d c):Cl Pg [(.st [.int .i64])] ee ⟨[]⟩ w R:=co Tryz.f73 [] h
theorem lk.ok (a:(Option Addr)) (b:(Option Addr)) (R:(TT aI)→Bool→World→Prop) w (h:
 Nw 29 ⟨[(.int .u8 0),(ni 0),(ni 0),(ni 0),(.int .u32 0),(.slice none 0 0),(ni 0)]⟩ w fun d c=>
 ae ⟨d,0,none⟩ [(.int .u8 7),(ni 0),(ni 0),(ni 0),(.int .u32 0),(.slice none 0 0),(ni 0)] 0 c fun e=>
 Ld (.st aI) ⟨d,0,none⟩ e fun f=>
 R f true e):Cl Pg [(.st aI),kB] ea ⟨[(.pointer a),(.pointer b)]⟩ w R:=co Tryz.f74 [] h
theorem uV.ok (R:(TT [.int .i64])→World→Prop) w (h:
 Nw 95 ⟨[(ni 0)]⟩ w fun b a=>
 ae ⟨b,0,none⟩ [(ni 8)] 0 a fun c=>
 Ld (.st [.int .i64]) ⟨b,0,none⟩ c fun d=>
 R d c):Cl Pg [(.st [.int .i64])] eR ⟨[]⟩ w R:=co Tryz.f75 [] h
theorem lf.ok (a:(Option Addr)) (b:(Option Addr)) (R:(TT aI)→Bool→World→Prop) w (h:
 Nw 29 ⟨[(.int .u8 0),(ni 0),(ni 0),(ni 0),(.int .u32 0),(.slice none 0 0),(ni 0)]⟩ w fun d c=>
 aO a fun e=>
 Ld kI (e.add 794) c fun (f:Int)=>
 ae ⟨d,0,none⟩ [(.int .u8 8),(ni 0),(ni 0),(ni 0),(.int .u32 0),(.slice none 0 0),(ni f)] 0 c fun g=>
 Ld (.st aI) ⟨d,0,none⟩ g fun h=>
 R h true g):Cl Pg [(.st aI),kB] dG ⟨[(.pointer a),(.pointer b)]⟩ w R:=co Tryz.f76 [] h
theorem ll.ok (a:(Option Addr)) (b:(Option Addr)) (c:Int) (R:Int→(TT aI)→Bool→World→Prop) w (h:
 Nw 29 ⟨[(.int .u8 0),(ni 0),(ni 0),(ni 0),(.int .u32 0),(.slice none 0 0),(ni 0)]⟩ w fun e d=>
 Cl Pg [(aJ .u32),kB] bS ⟨[(.pointer b),(ni c)]⟩ d fun (g:Int) (h:Bool) f=>
 aa h
 (ag f fun i=>
 Ld (.st aI) ⟨e,0,none⟩ i fun j=>
 ae ⟨e,0,none⟩ [(.int .u8 j.1),(ni j.2.1),(ni j.2.2.1),(ni j.2.2.2.1),(.int .u32 j.2.2.2.2.1),(av j.2.2.2.2.2.1),(ni j.2.2.2.2.2.2.1)] 0 i fun k=>
 Ld (.st aI) ⟨e,0,none⟩ k fun l=>
 R g l true k)
 (Cl Pg [kB] cm ⟨[(.pointer b)]⟩ f fun (n:Bool) m=>
 aa n
 (Cl Pg [(.st aI),kB] a8 ⟨[(.pointer a),(ni 50)]⟩ m fun p (q:Bool) o=>
 ae ⟨e,0,none⟩ [(.int .u8 p.1),(ni p.2.1),(ni p.2.2.1),(ni p.2.2.2.1),(.int .u32 p.2.2.2.2.1),(av p.2.2.2.2.2.1),(ni p.2.2.2.2.2.2.1)] 0 o fun r=>
 ag r fun s=>
 Ld (.st aI) ⟨e,0,none⟩ s fun t=>
 ae ⟨e,0,none⟩ [(.int .u8 t.1),(ni t.2.1),(ni t.2.2.1),(ni t.2.2.2.1),(.int .u32 t.2.2.2.2.1),(av t.2.2.2.2.2.1),(ni t.2.2.2.2.2.2.1)] 0 s fun u=>
 Ld (.st aI) ⟨e,0,none⟩ u fun v=>
 R 0 v false u)
 (ae ⟨e,0,none⟩ [(.int .u8 1),(ni 0),(ni 0),(ni 0),(.int .u32 0),(.slice none 0 0),(ni 0)] 0 m fun x=>
 Ld (.st aI) ⟨e,0,none⟩ x fun y=>
 R 0 y false x))):Cl Pg [(aJ .u32),(.st aI),kB] bP ⟨[(.pointer a),(.pointer b),(ni c)]⟩ w R:=co Tryz.f113 [] h
theorem lh.ok (a:(Option Addr)) (b:Int) (R:(TT aI)→Bool→World→Prop) w (h:
 Nw 29 ⟨[(.int .u8 0),(ni 0),(ni 0),(ni 0),(.int .u32 0),(.slice none 0 0),(ni 0)]⟩ w fun d c=>
 Cl Pg [(.st [.int .i64])] eR ⟨[]⟩ c fun f e=>
 aO a fun g=>
 ae (g.add 0) [(ni f.1)] 0 e fun h=>
 aO a fun i=>
 St (i.add 794) (ni b) h fun j=>
 ae ⟨d,0,none⟩ [(.int .u8 8),(ni 0),(ni 0),(ni 0),(.int .u32 0),(.slice none 0 0),(ni b)] 0 j fun k=>
 Ld (.st aI) ⟨d,0,none⟩ k fun l=>
 R l true k):Cl Pg [(.st aI),kB] a8 ⟨[(.pointer a),(ni b)]⟩ w R:=co Tryz.f115 [] h
end Go.Proofs.YtgglghjnakclmaaGreat
namespace Go.Proofs.YtgglghjnakclmaaGreat
open Go Go.Vc
set_option maxRecDepth 100000
theorem p5.ok (R:(Option Addr)→World→Prop) w (h:
 Nw 93 ⟨[(.slice none 0 0),(ni 0),(ni 0),(.bool false)]⟩ w fun b a=>
 R (some ⟨b,0,none⟩) a):Cl Pg [kP] dz ⟨[]⟩ w R:=co Tryz.f13 [] h
theorem ka.ok (a:(Option Addr)) (b:Sl) (R:Bool→World→Prop) w (h:
 aa (Option.isNone (a:Option Addr))
 (R false w)
 (aO a fun c=>
 Ld kB (c.add 3) w fun (d:Bool)=>
 aa d
 (R false w)
 (hY 0 w fun e f (g:Int) h=>
 aa (decide (g<(b.len:Int)))
 (ba b g 1 fun i=>
 Ld kS i h fun (j:Sl)=>
 aO a fun k=>
 Ld kS (k.add 0) h fun (l:Sl)=>
 aA Pg (Builtin.append_ #[26,26] 26 ⟨[(av l),(av j)]⟩) kS h fun (n:Sl) m=>
 aO a fun o=>
 St (o.add 0) (av n) m fun p=>
 e (i64 (g+1)) p∧f (i64 (g+1)) p<f g h)
 (R true h)))):Cl Pg [kB] br ⟨[(.pointer a),(av b)]⟩ w R:=co Tryz.f15 [(10,[(17,kI)])] h
theorem ko.ok (a:(Option Addr)) (R:Bool→World→Prop) w (h:
 aa (Option.isNone (a:Option Addr))
 (R false w)
 (aO a fun b=>
 Ld kB (b.add 3) w fun (c:Bool)=>
 aa c
 (R false w)
 (aO a fun d=>
 St (d.add 3) (.bool true) w fun e=>
 R true e))):Cl Pg [kB] cB ⟨[(.pointer a)]⟩ w R:=co Tryz.f20 [] h
theorem j6.ok (a:(Option Addr)) (R:Int→World→Prop) w (h:
 aa (Option.isNone (a:Option Addr))
 (R 0 w)
 (ag w fun b=>
 aO a fun c=>
 Ld kS (c.add 0) b fun (d:Sl)=>
 0≤(3:Int)∧
 aO a fun e=>
 Ld kI (e.add 1) b fun (f:Int)=>
 R (i64 ((bg .i64 (d.len:Int) (3:Int)) - f)) b)):Cl Pg [kI] bR ⟨[(.pointer a)]⟩ w R:=co Tryz.f28 [] h
theorem jT.ok (a:(Option Addr)) (R:Int→Int→World→Prop) w (h:
 aa (Option.isNone (a:Option Addr))
 (R 0 0 w)
 (aO a fun b=>
 Ld kI (b.add 1) w fun (c:Int)=>
 aa (c==0)
 (R 0 0 w)
 (aO a fun d=>
 Ld kI (d.add 1) w fun (e:Int)=>
 Cl Pg [(aJ .u32),kB] bS ⟨[(.pointer a),(ni (i64 ((8:Int) - e)))]⟩ w fun (g:Int) (h:Bool) f=>
 R g (i64 ((8:Int) - e)) f))):Cl Pg [(aJ .u32),kI] cY ⟨[(.pointer a)]⟩ w R:=co Tryz.f122 [] h
theorem jJ.ok (a:(Option Addr)) (R:Bool→World→Prop) w (h:
 aa (!(Option.isNone (a:Option Addr)))
 (aO a fun b=>
 Ld kB (b.add 3) w fun (c:Bool)=>
 R c w)
 (R false w)):Cl Pg [kB] cm ⟨[(.pointer a)]⟩ w R:=co Tryz.f123 [] h
theorem fY.ok (a:(Option Addr)) (b:Int) (R:Int→Bool→World→Prop) w (h:
 Cl Pg [(aJ .u32),kB] da ⟨[(.pointer a),(ni b)]⟩ w fun (d:Int) (e:Bool) c=>
 aa (!e)
 (R 0 false c)
 (aO a fun f=>
 Ld kI (f.add 2) c fun (g:Int)=>
 aO a fun h=>
 St (h.add 2) (ni (i64 (g+b))) c fun i=>
 aO a fun j=>
 Ld kI (j.add 1) i fun (k:Int)=>
 aO a fun l=>
 St (l.add 1) (ni (i64 (k+b))) i fun m=>
 ag m fun n=>
 aO a fun o=>
 Ld kS (o.add 0) n fun (p:Sl)=>
 aO a fun q=>
 Ld kI (q.add 1) n fun (r:Int)=>
 0≤(3:Int)∧
 cc p (cl .i64 r (3:Int)) (p).len (p).cap 1 fun s=>
 aO a fun t=>
 St (t.add 0) (av s) n fun u=>
 aO a fun v=>
 Ld kI (v.add 1) u fun (x:Int)=>
 aO a fun y=>
 St (y.add 1) (ni (cQ .i64 x 7)) u fun z=>
 R d true z)):Cl Pg [(aJ .u32),kB] bS ⟨[(.pointer a),(ni b)]⟩ w R:=co Tryz.f163 [] h
theorem gb.ok (a:(Option Addr)) (b:Int) (R:Int→Bool→World→Prop) w (h:
 bf (fun (f:World)=>
 aO a fun g=>
 Ld kI (g.add 1) f fun (h:Int)=>
 0≤(3:Int)∧
 aO a fun i=>
 Ld kS (i.add 0) f fun (j:Sl)=>
 cc j 0 (cl .i64 (i64 ((i64 (h+b))+7)) (3:Int)) (j).cap 1 fun k=>
 gA 0 0 f fun l m (n:Int) (o:Int) p=>
 aa (decide (o<(k.len:Int)))
 (ba k o 1 fun q=>
 Ld (aJ .u8) q p fun (r:Int)=>
 0≤(8:Int)∧
 l (hX .u64 (bg .u64 n (8:Int)) (u64 r)) (i64 (o+1)) p∧m (hX .u64 (bg .u64 n (8:Int)) (u64 r)) (i64 (o+1)) p<m n o p)
 (0≤(3:Int)∧
 aO a fun s=>
 Ld kI (s.add 1) p fun (t:Int)=>
 0≤(u64 (i64 ((i64 ((bg .i64 (cl .i64 (i64 ((i64 (h+b))+7)) (3:Int)) (3:Int)) - t)) - b)))∧
 0≤(u64 b)∧
 R (u32 (cQ .u64 (cl .u64 n (u64 (i64 ((i64 ((bg .i64 (cl .i64 (i64 ((i64 (h+b))+7)) (3:Int)) (3:Int)) - t)) - b)))) (u64 ((bg .u64 (1:Int) (u64 b)) - 1)))) true p)) fun c=>
 aa (Option.isNone (a:Option Addr))
 (R 0 false w)
 (aa (decide (b<0))
 (R 0 false w)
 (aa (decide (b>32))
 (R 0 false w)
 (Cl Pg [kI] bR ⟨[(.pointer a)]⟩ w fun (e:Int) d=>
 aa (decide (b>e))
 (R 0 false d)
 (c d))))):Cl Pg [(aJ .u32),kB] da ⟨[(.pointer a),(ni b)]⟩ w R:=co Tryz.f227 [(2,[]),(14,[(6,(aJ .u64)),(41,kI)])] h
end Go.Proofs.YtgglghjnakclmaaGreat
namespace Go.aX
def bw (b:List Nat) (i:Nat):Nat:=(b.getD (i/8) 0/2^(7 - i % 8)) % 2
def val (b:List Nat) (a:Nat):Nat→Nat
 |0=>0
 |n+1=>2*val b a n+bw b (a+n)
theorem kO (b:List Nat) (i:Nat):bw b i<2:=Nat.mod_lt _ (by decide)
theorem gh (b:List Nat) (a:Nat): ∀n,val b a n<2^n
 |0=>by simp [val]
 |n+1=>by
  have:=gh b a n
  have:=kO b (a+n)
  simp only [val,Nat.pow_succ];omega
theorem val_add (b:List Nat) (a n:Nat): ∀m,val b a (n+m)=val b a n*2^m+val b (a+n) m
 |0=>by simp [val]
 |m+1=>by
  rw [←Nat.add_assoc]
  simp only [val,val_add b a n m,Nat.pow_succ,Nat.add_assoc]
  rw [Nat.mul_add,Nat.mul_comm (2^m) 2,Nat.mul_left_comm];omega
theorem zR (b:List Nat) (a n k:Nat) (h:k<n):val b a n/2^(n - 1 - k) % 2=bw b (a+k):=by
 have h1:=val_add b a (k+1) (n - 1 - k)
 rw [show k+1+(n - 1 - k)=n by omega] at h1
 have h2:=gh b (a+(k+1)) (n - 1 - k)
 rw [h1,Nat.mul_comm,Nat.mul_add_div (Nat.two_pow_pos _),Nat.div_eq_of_lt h2,Nat.add_zero]
 simp only [val]
 have:=kO b (a+k)
 omega
theorem vv (b:List Nat) (j i:Nat):bw (b.drop j) i=bw b (8*j+i):=by
 unfold bw
 have h1:(8*j+i)/8=j+i/8:=by omega
 have h2:(8*j+i) % 8=i % 8:=by omega
 rw [h1,h2]
 simp only [List.getD_eq_getElem?_getD,List.getElem?_drop]
theorem rD (b:List Nat) (j a:Nat): ∀n,val (b.drop j) a n=val b (8*j+a) n
 |0=>rfl
 |n+1=>by simp only [val,rD b j a n,vv,Nat.add_assoc]
theorem rW (b c:List Nat) (i:Nat) (h:i<8*b.length):bw (b++c) i=bw b i:=by
 unfold bw
 congr 2
 simp only [List.getD_eq_getElem?_getD]
 rw [List.getElem?_append_left (by omega)]
theorem iG (b c:List Nat) (a:Nat): ∀n,a+n≤8*b.length→val (b++c) a n=val b a n
 |0,_=>rfl
 |n+1,h=>by simp only [val];rw [iG b c a n (by omega),rW b c _ (by omega)]
theorem ql (b:List Nat) (j:Nat) (h:b.getD j 0<256):val b (8*j) 8=b.getD j 0:=by
 have e: ∀i,i<8→bw b (8*j+i)=b.getD j 0/2^(7 - i) % 2:=by
  intro i hi
  unfold bw
  rw [show (8*j+i)/8=j by omega,show (8*j+i) % 8=i by omega]
 simp only [val]
 rw [e 0 (by decide),e 1 (by decide),e 2 (by decide),e 3 (by decide),e 4 (by decide),e 5 (by decide),e 6 (by decide),e 7 (by decide)]
 generalize b.getD j 0=x at h
 simp only [Nat.reduceSub,Nat.reducePow]
 omega
theorem wH (b:List Nat) (m:Nat) (h:b.getD m 0<256):val b 0 (8*(m+1))=val b 0 (8*m)*256+b.getD m 0:=by
 rw [show 8*(m+1)=8*m+8 by omega,val_add,Nat.zero_add,ql b m h]
theorem zG {b:List Nat} (h: ∀x∈b,x<256) (m:Nat):b.getD m 0<256:=by
 rw [List.getD_eq_getElem?_getD]
 cases hh:b[m]? with
 |none=>simp
 |some x=>simpa using h x (List.mem_of_getElem? hh)
theorem zQ (b:List Nat) (a w k:Nat):val b 0 (a+w+k)/2^k % 2^w=val b a w:=by
 rw [val_add b 0 (a+w) k,val_add b 0 a w,Nat.zero_add,Nat.mul_comm _ (2^k),Nat.mul_add_div (Nat.two_pow_pos _),Nat.zero_add,
  Nat.div_eq_of_lt (gh b _ k),Nat.add_zero,Nat.mul_comm,Nat.mul_add_mod,Nat.mod_eq_of_lt (gh b a w)]
theorem zi (a c:Nat) (h:c<256):a*256|||c=a*256+c:=by
 have:=Nat.two_pow_add_eq_or_of_lt (i:=8) (b:=c) h a
 rw [Nat.mul_comm] at this
 rw [←this]
theorem rX (a w:Nat):a&&&(2^w - 1)=a % 2^w:=Nat.and_two_pow_sub_one_eq_mod a w
end Go.aX
namespace Go.Proofs.YtgglghjnakclmaaGreat
open Go Go.Vc Go.aX
theorem vK:fh Tryz.prog 26 5 1 1:=fh.of (by kernel_rfl) (by kernel_rfl)
def Rd (p:Addr) (c:List Nat) (u:Nat) (e:Bool):HP:=fun f=> ∃x:Nat×Sl×TypeId,
 (p=⟨x.1,0,none⟩∧u≤8*c.length∧(∀y∈c,y<256)∧c.length≤mO)∧
 Sat [aq x.1 (.cells #[.slice x.2.1.base x.2.1.len x.2.1.cap,.int .i64 ((u % 8:Nat):Int),.int .i64 (u:Int),.bool e] x.2.2 (0,0)),aT 1 x.2.1 ((c.drop (u/8)).map vB)] f
section
variable {E w:World} {F:List HP} {p:Addr} {c:List Nat} {u:Nat} {e:Bool}
theorem Rd.eG (h:Hp E w (Rd p c u e::F)): ∃b s t,p=⟨b,0,none⟩∧u≤8*c.length∧(∀y∈c,y<256)∧c.length≤mO∧
  Hp E w (aq b (.cells #[.slice s.base s.len s.cap,.int .i64 ((u % 8:Nat):Int),.int .i64 (u:Int),.bool e] t (0,0))::aT 1 s ((c.drop (u/8)).map vB)::F):=by
 obtain ⟨⟨b,s,t⟩,⟨h1,h2,h3,h4⟩,h⟩:=h.uE (X:=fun x:Nat×Sl×TypeId=>p=⟨x.1,0,none⟩∧u≤8*c.length∧(∀y∈c,y<256)∧c.length≤mO)
  (L:=fun x=> [aq x.1 (.cells #[.slice x.2.1.base x.2.1.len x.2.1.cap,.int .i64 ((u % 8:Nat):Int),.int .i64 (u:Int),.bool e] x.2.2 (0,0)),aT 1 x.2.1 ((c.drop (u/8)).map vB)]) (fun f hf=>hf)
 exact ⟨b,s,t,h1,h2,h3,h4,h⟩
theorem Rd.shut {b:Nat} {s:Sl} {t:TypeId} (h2:u≤8*c.length) (h3: ∀y∈c,y<256) (h4:c.length≤mO)
  (h:Hp E w (aq b (.cells #[.slice s.base s.len s.cap,.int .i64 ((u % 8:Nat):Int),.int .i64 (u:Int),.bool e] t (0,0))::aT 1 s ((c.drop (u/8)).map vB)::F)):Hp E w (Rd ⟨b,0,none⟩ c u e::F):=
 Hp.uO (l:= [_,_]) (fun f hf=>⟨(b,s,t),⟨rfl,h2,h3,h4⟩,hf⟩) h
set_option maxRecDepth 20000
theorem oL {K:Option Addr→World→Prop} (h:Hp E w F) (hK: ∀p w',Hp E w' (Rd p [] 0 false::F)→K (some p) w'):Cl Tryz.prog [kP] dz ⟨[]⟩ w K:=by
 refine p5.ok _ _ ?_
 refine Nw.mk h fun b w' h'=>hK _ _ ?_
 exact Rd.shut (s:=⟨none,0,0⟩) (by simp) (by simp) (by simp) ((h'.bh 1).p1)
theorem q9 {K:Int→World→Prop} (h:Hp E w (Rd p c u e::F)) (hK: ∀w',Hp E w' (Rd p c u e::F)→w'.heap=w.heap→K ((8*c.length - u:Nat):Int) w'):Cl Tryz.prog [kI] bR ⟨[.pointer (some p)]⟩ w K:=by
 obtain ⟨b,s,t,rfl,h1,h2,h3,h⟩:=Rd.eG h
 refine j6.ok _ _ _ ?_
 simp only [Option.isNone,aC,ah,ak,Nat.zero_add]
 have hd:Hp E {w with drawn:=w.drawn+1} _:=h.drew
 have hl:=hd.p1.cN
 rw [eU] at h3
 refine Ld.aN hd s rfl ⟨by decide,Ld.aN hd _ rfl ?_⟩
 have e1:s.len=c.length - u/8:=by simpa using hl.symm
 have e2:i64 (bg .i64 (s.len:Int) 3 - ((u % 8:Nat):Int))=((8*c.length - u:Nat):Int):=by
  have:bg .i64 (s.len:Int) 3=((s.len*2^3:Nat):Int):=cW (k:= .i64) (b:=3) (by decide) (by have:IntKind.max .i64=9223372036854775807:=rfl;rw [this];omega)
  rw [this,aj (by omega)]
  omega
 rw [e2]
 exact hK _ (Rd.shut h1 h2 (by rw [eU];exact h3) hd) rfl
theorem tW {K:Bool→World→Prop} (h:Hp E w (Rd p c u e::F)) (hK:K e w):Cl Tryz.prog [kB] cm ⟨[.pointer (some p)]⟩ w K:=by
 obtain ⟨b,s,t,rfl,h1,h2,h3,h⟩:=Rd.eG h
 refine jJ.ok _ _ _ ?_
 simp only [Option.isNone,Bool.not_false,aD,ah,ak,Nat.zero_add]
 exact Ld.aN h _ rfl hK
theorem yC {K:Bool→World→Prop} (h:Hp E w (Rd p c u e::F)) (hK: ∀w',Hp E w' (Rd p c u true::F)→K (!e) w'):Cl Tryz.prog [kB] cB ⟨[.pointer (some p)]⟩ w K:=by
 have h0:=h
 obtain ⟨b,s,t,rfl,h1,h2,h3,h⟩:=Rd.eG h
 refine ko.ok _ _ _ ?_
 simp only [Option.isNone,aC,ah,ak,Nat.zero_add]
 refine Ld.aN h _ rfl ?_
 cases e
 ·exact St.aN h (by simp) rfl fun w' h'=>hK _ (Rd.shut h1 h2 h3 h')
 ·exact hK _ h0
theorem Bb {K:Bool→World→Prop} {s:Sl} {cs:List Sl} {bs:List (List Nat)} (h:Hp E w (Rd p c u e::F))
  (hs:ao F (aR 1 s (cs.map fun x=> .slice x.base x.len x.cap))) (hl:cs.length=bs.length) (hcl:cs.length≤mO) (hc: ∀i (h:i<cs.length),ao F (aR 1 cs[i] ((bs.getD i []).map vB)))
  (hb: ∀b∈bs,∀y∈b,y<256) (hbig:c.length+bs.flatten.length≤mO)
  (hK: ∀w',Hp E w' (Rd p (if e then c else c++bs.flatten) u e::F)→K (!e) w'):Cl Tryz.prog [kB] br ⟨[.pointer (some p),.slice s.base s.len s.cap]⟩ w K:=by
 refine ka.ok _ _ _ _ ?_
 simp only [Option.isNone,aC,ah]
 have h0:=h
 obtain ⟨b,s0,t0,rfl,h1,h2,h3,h⟩:=Rd.eG h
 have hlen:s.len=cs.length:=by have:=(h.drop.drop.aB hs).1;simpa using this.symm
 simp only [ak,Nat.zero_add]
 refine Ld.aN h _ rfl ?_
 cases e
 ·refine ⟨fun i w'=> ∃k:Nat,i=(k:Int)∧k≤cs.length∧Hp E w' (Rd ⟨b,0,none⟩ (c++(bs.take k).flatten) u false::F),fun i _=>cs.length - i.toNat,⟨0,rfl,by omega,by simpa using h0⟩,?_⟩
  rintro i w' ⟨k,rfl,hk,hh⟩
  refine aa.mk (fun hlt=> ?_) (fun hge=> ?_)
  ·have hlt:k<cs.length:=by simpa [hlen] using hlt
   obtain ⟨b',s',t',hp,g1,g2,g3,hh⟩:=Rd.eG hh
   cases hp
   refine ba.rd (hh.drop.drop.aB hs) (by omega) (by omega) fun q hi hq=> ?_
   have hq':w'.cell? q=some (Sc.sl.enc cs[k]):=by simpa using hq
   refine Ld.sc _ hq' ?_
   simp only [ah,ak,Nat.zero_add]
   refine Ld.aN hh s' rfl ?_
   have hsrc:=hh.drop.drop.aB (hc k hlt)
   have hlen2:=hsrc.1
   simp only [List.length_map,Nat.mul_one] at hlen2
   have hfl:(bs.take (k+1)).flatten=(bs.take k).flatten++bs.getD k []:=by
    rw [List.take_add_one,List.flatten_append]
    congr 1
    have:k<bs.length:=by omega
    simp [this]
   have hle:(bs.take (k+1)).flatten.length≤bs.flatten.length:=by
    have:=congrArg (fun l=>(List.flatten l).length) (List.take_append_drop (k+1) bs)
    simp only [List.flatten_append,List.length_append] at this
    omega
   rw [hfl,List.length_append] at hle
   have ho:=hh.p1.cN
   simp only [List.length_map,Nat.mul_one,List.length_drop,List.length_append] at ho
   rw [eU] at hbig hcl
   refine cC vK (by decide) (.inl ⟨5,by kernel_rfl⟩) hh.p1 (.inl ⟨_,_,_,rfl,rfl,hsrc⟩) (by simpa using hlen2) lI (by omega) (by omega) fun s2 w2 h2' hs2=> ?_
   refine St.aN h2'.p1 (by simp) rfl fun w3 h3'=> ?_
   refine ⟨⟨k+1,?_,by omega,?_⟩,?_⟩
   ·rw [aj (by omega)];rfl
   ·refine Rd.shut (s:=s2) (t:=t') ?_ ?_ ?_ ?_
    ·rw [hfl,←List.append_assoc,List.length_append];omega
    ·intro y hy
     rw [hfl,←List.append_assoc,List.mem_append] at hy
     rcases hy with hy|hy
     ·exact g2 y hy
     ·have:k<bs.length:=by omega
      simp only [List.getD_eq_getElem?_getD,this,List.getElem?_eq_getElem,Option.getD_some] at hy
      exact hb _ (List.getElem_mem _) y hy
    ·rw [hfl,←List.append_assoc,List.length_append,eU];rw [List.length_append];omega
    ·rw [hfl,←List.append_assoc,List.drop_append_of_le_length (by omega),List.map_append]
     exact h3'
   ·rw [aj (by omega)];omega
  ·have hge: ¬(k:Int)<(s.len:Int):=by simpa using hge
   have:k=cs.length:=by omega
   subst this
   refine hK _ ?_
   rw [hl,List.take_length] at hh
   exact hh
 ·exact hK _ h0
def fF (c:List Nat) (u:Nat) (width:Int):Int:=if 0≤width∧width≤32∧width≤((8*c.length - u:Nat):Int) then (val c u width.toNat:Int) else 0
def eD (c:List Nat) (u:Nat) (width:Int):Bool:=decide (0≤width∧width≤32∧width≤((8*c.length - u:Nat):Int))
theorem z4 {width:Int} {K:Int→Bool→World→Prop} (h:Hp E w (Rd p c u e::F)) (hK: ∀w',Hp E w' (Rd p c u e::F)→w'.heap=w.heap→K (fF c u width) (eD c u width) w'):
  Cl Tryz.prog [aJ .u32,kB] da ⟨[.pointer (some p),.int .i64 width]⟩ w K:=by
 refine gb.ok _ _ _ _ ?_
 simp only [au,Option.isNone,aC]
 refine aa.mk (fun hlt=> ?_) (fun h1=>aa.mk (fun hlt=> ?_) (fun h2=>q9 h fun w1 hh heq=>aa.mk (fun hlt=> ?_) (fun h3=> ?_)))
 ·have hlt:width<0:=by simpa using hlt
  have:=hK w h rfl
  rwa [fF,if_neg (by omega),eD,decide_eq_false (by omega)] at this
 ·have hlt:width>32:=by simpa using hlt
  have:=hK w h rfl
  rwa [fF,if_neg (by omega),eD,decide_eq_false (by omega)] at this
 ·have hlt:width>((8*c.length - u:Nat):Int):=by simpa using hlt
  have:=hK w1 hh heq
  rwa [fF,if_neg (by omega),eD,decide_eq_false (by omega)] at this
 ·have h1:0≤width:=by simpa using h1
  have h2:width≤32:=by simpa using h2
  have h3:width≤((8*c.length - u:Nat):Int):=by simpa using h3
  have hK:=hK w1 hh heq
  rw [fF,if_pos ⟨h1,h2,h3⟩,eD,decide_eq_true ⟨h1,h2,h3⟩] at hK
  obtain ⟨n,rfl⟩:=Int.eq_ofNat_of_zero_le h1
  rw [Int.toNat_natCast] at hK
  obtain ⟨b,s,t,rfl,g1,g2,g3,hh⟩:=Rd.eG hh
  rw [eU] at g3
  simp only [ah,ak,Nat.zero_add]
  refine Ld.aN hh _ rfl ⟨by decide,Ld.aN hh s rfl ?_⟩
  have em:cl .i64 (i64 (i64 (((u % 8:Nat):Int)+(n:Int))+7)) 3=(((u % 8+n+7)/8:Nat):Int):=by
   simp (disch:=omega) only [aj]
   have:=eL (k:= .i64) (a:=u % 8+n+7) (b:=3) (by decide)
   simpa using this
  rw [em]
  generalize hm:(u % 8+n+7)/8=m
  have hl:=hh.p1.cN
  simp only [List.length_map,Nat.mul_one,List.length_drop] at hl
  have hsl:aR 1 s ((c.drop (u/8)).map vB) w1:=hh.drop.aB ao.own
  have hcap:=hh.drop.jg
  refine cc.rd hsl (by omega) (by omega) (by omega) (by omega) (by omega) fun s2 hs2 hl2=> ?_
  have hs2:=hs2 w1 hsl
  simp only [Int.toNat_zero,List.drop_zero,Nat.sub_zero,Int.toNat_natCast] at hs2 hl2
  refine ⟨fun v i w'=>w'=w1∧∃k:Nat,i=(k:Int)∧k≤m∧v=(val (c.drop (u/8)) 0 (8*k):Int),
   fun _ i _=>m - i.toNat,⟨rfl,0,rfl,by omega,rfl⟩,?_⟩
  rintro v i w' ⟨rfl,k,rfl,hk,rfl⟩
  refine aa.mk (fun hlt=> ?_) (fun hge=> ?_)
  ·have hlt:k<m:=by have:(k:Int)<(s2.len:Int):=by simpa using hlt
                    omega
   refine ba.rd hs2 (by omega) (by omega) fun q hi hq=> ?_
   have hkl:k<(c.drop (u/8)).length:=by rw [List.length_drop];omega
   have hq':w'.cell? q=some (Sc.enc (.int .u8) ((c.drop (u/8)).getD k 0:Int)):=by
    rw [hq]
    simp [vB,List.getD_eq_getElem?_getD,show u/8+k<c.length by rw [List.length_drop] at hkl;omega]
   refine Ld.sc _ hq' ⟨by decide,?_⟩
   have hc8:(c.drop (u/8)).getD k 0<256:=zG (fun y hy=>g2 y (List.mem_of_mem_drop hy)) k
   have hv:=gh (c.drop (u/8)) 0 (8*k)
   have hm5:m≤5:=by omega
   have hp:2^(8*k)≤2^32:=Nat.pow_le_pow_right (by decide) (by omega)
   have e2:hX .u64 (bg .u64 (val (c.drop (u/8)) 0 (8*k):Int) 8) (u64 ((c.drop (u/8)).getD k 0:Int))=(val (c.drop (u/8)) 0 (8*(k+1)):Int):=by
    have hmx:IntKind.max .u64=18446744073709551615:=rfl
    have e3:=cW (k:= .u64) (a:=val (c.drop (u/8)) 0 (8*k)) (b:=8) (by decide) (by rw [hmx];omega)
    rw [eW (by omega)]
    have e3:bg .u64 (val (c.drop (u/8)) 0 (8*k):Int) 8=((val (c.drop (u/8)) 0 (8*k)*256:Nat):Int):=by simpa using e3
    rw [e3]
    have e4:=zi (val (c.drop (u/8)) 0 (8*k)) _ hc8
    rw [mz (by rw [hmx];omega) (by rw [hmx];omega) (by rw [e4,hmx];omega),e4,wH _ _ hc8]
   rw [e2,aj (by omega)]
   exact ⟨⟨rfl,k+1,rfl,by omega,rfl⟩,by dsimp only;omega⟩
  ·have hge:k=m:=by have: ¬(k:Int)<(s2.len:Int):=by simpa using hge
                    omega
   subst hge
   refine ⟨by decide,Ld.aN hh _ rfl ?_⟩
   have e1:u64 (i64 (i64 (bg .i64 (k:Int) 3 - ((u % 8:Nat):Int)) - (n:Int)))=((8*k - u % 8 - n:Nat):Int):=by
    have:=cW (k:= .i64) (a:=k) (b:=3) (by decide) (by have:IntKind.max .i64=9223372036854775807:=rfl;rw [this];omega)
    have e0:bg .i64 (k:Int) 3=((k*8:Nat):Int):=by simpa using this
    rw [e0]
    simp (disch:=omega) only [aj,eW]
    omega
   have e2:u64 (n:Int)=(n:Int):=eW (by omega)
   have e3:u64 (bg .u64 1 (n:Int) - 1)=((2^n - 1:Nat):Int):=by
    have hp:2^n≤2^32:=Nat.pow_le_pow_right (by decide) (by omega)
    have:=cW (k:= .u64) (a:=1) (b:=n) (by have:IntKind.bits .u64=64:=rfl;omega) (by have:IntKind.max .u64=18446744073709551615:=rfl;rw [this];omega)
    have e0:bg .u64 1 (n:Int)=((2^n:Nat):Int):=by simpa using this
    have:=Nat.two_pow_pos n
    rw [e0,eW (by omega)]
    omega
   rw [e1,e2,e3]
   refine ⟨by omega,by omega,?_⟩
   have hv:=gh (c.drop (u/8)) 0 (8*k)
   have hmx:IntKind.max .u64=18446744073709551615:=rfl
   have hp:2^(8*k)≤2^40:=Nat.pow_le_pow_right (by decide) (by omega)
   have hp2:2^n≤2^32:=Nat.pow_le_pow_right (by decide) (by omega)
   have hq:=Nat.div_le_self (val (c.drop (u/8)) 0 (8*k)) (2^(8*k - u % 8 - n))
   rw [eL (k:= .u64) (by have:IntKind.bits .u64=64:=rfl;omega),kH (by rw [hmx];omega) (by rw [hmx];omega),rX]
   have hmid:=zQ (c.drop (u/8)) (u % 8) n (8*k - u % 8 - n)
   rw [show u % 8+n+(8*k - u % 8 - n)=8*k by omega,rD c (u/8) (u % 8) n,show 8*(u/8)+u % 8=u by omega] at hmid
   rw [hmid]
   have hlt:=gh c u n
   rw [eV (by omega)]
   exact hK
theorem vM {width:Int} {K:Int→Bool→World→Prop} (h:Hp E w (Rd p c u e::F)) (hK: ∀w',Hp E w' (Rd p c (if eD c u width then u+width.toNat else u) e::F)→K (fF c u width) (eD c u width) w'):
  Cl Tryz.prog [aJ .u32,kB] bS ⟨[.pointer (some p),.int .i64 width]⟩ w K:=by
 refine fY.ok _ _ _ _ ?_
 refine z4 h fun w1 h1 _=> ?_
 by_cases hb:eD c u width=true
 ·rw [hb,if_pos rfl] at hK
  rw [hb]
  simp only [Bool.not_true,aC]
  unfold eD at hb
  obtain ⟨b0,b1,b2⟩:=of_decide_eq_true hb
  obtain ⟨n,rfl⟩:=Int.eq_ofNat_of_zero_le b0
  rw [Int.toNat_natCast] at hK
  obtain ⟨b,s,t,rfl,g1,g2,g3,h1⟩:=Rd.eG h1
  rw [eU] at g3
  simp only [ah,ak,Nat.zero_add]
  refine Ld.aN h1 _ rfl ?_
  rw [aj (by omega)]
  refine St.aN h1 (by simp) rfl fun w2 h2=> ?_
  refine Ld.aN h2 _ rfl ?_
  rw [aj (by omega)]
  refine St.aN h2 (by simp) rfl fun w3 h3=>ag.mk h3 fun w4 h4=> ?_
  refine Ld.aN h4 s rfl (Ld.aN h4 _ rfl ⟨by decide,?_⟩)
  have e1:cl .i64 (((u % 8:Nat):Int)+(n:Int)) 3=(((u % 8+n)/8:Nat):Int):=by
   have:=eL (k:= .i64) (a:=u % 8+n) (b:=3) (by decide)
   simpa using this
  rw [e1]
  have hl:=h4.p1.cN
  simp only [List.length_map,Nat.mul_one,List.length_drop] at hl
  refine cc.own h4.p1 (by omega) (by omega) (by omega) fun s2 h5 hl2=> ?_
  refine St.aN h5.p1 (by simp) rfl fun w6 h6=> ?_
  refine Ld.aN h6 _ rfl ?_
  refine St.aN h6 (by simp) rfl fun w7 h7=>hK _ ?_
  have e2:cQ .i64 (((u % 8:Nat):Int)+(n:Int)) 7=(((u+n) % 8:Nat):Int):=by
   have hmx:IntKind.max .i64=9223372036854775807:=rfl
   have:=kH (k:= .i64) (a:=u % 8+n) (b:=7) (by rw [hmx];omega) (by rw [hmx];omega)
   have e3:=rX (u % 8+n) 3
   simp only [Nat.reducePow,Nat.reduceSub] at e3
   rw [e3] at this
   have:cQ .i64 (((u % 8:Nat):Int)+(n:Int)) 7=(((u % 8+n) % 8:Nat):Int):=by simpa using this
   rw [this]
   congr 1;omega
  rw [e2] at h7
  refine Rd.shut (s:=s2) (t:=t) (by omega) g2 (by rw [eU];exact g3) ?_
  have e4:((u:Int)+(n:Int))=((u+n:Nat):Int):=by omega
  have e5:(List.take (((s.len:Int)).toNat - ((((u % 8+n)/8:Nat):Int)).toNat) (((c.drop (u/8)).map vB).drop ((((u % 8+n)/8:Nat):Int)).toNat))=(c.drop ((u+n)/8)).map vB:=by
   rw [Int.toNat_natCast,Int.toNat_natCast,List.take_of_length_le (by simp;omega),←List.map_drop,List.drop_drop]
   congr 2;omega
  rw [e5,e4] at h7
  exact h7
 ·have hb:eD c u width=false:=by simpa using hb
  rw [hb,if_neg (by simp)] at hK
  rw [hb]
  simp only [Bool.not_false,aD]
  have hv:fF c u width=0:=by unfold fF;rw [if_neg];unfold eD at hb;exact of_decide_eq_false hb
  have:=hK w1 h1
  rwa [hv] at this
def kC (u:Nat):Nat:=if u % 8=0 then 0 else 8 - u % 8
theorem zO {K:Int→Int→World→Prop} (h:Hp E w (Rd p c u e::F)) (hK: ∀w',Hp E w' (Rd p c (u+kC u) e::F)→K (val c u (kC u):Int) (kC u:Int) w'):
  Cl Tryz.prog [aJ .u32,kI] cY ⟨[.pointer (some p)]⟩ w K:=by
 refine jT.ok _ _ _ ?_
 have h0:=h
 obtain ⟨b,s,t,rfl,g1,g2,g3,h⟩:=Rd.eG h
 rw [eU] at g3
 simp only [Option.isNone,aC,ah,ak,Nat.zero_add]
 refine Ld.aN h _ rfl ?_
 by_cases hu:u % 8=0
 ·have:kC u=0:=by simp [kC,hu]
  rw [this] at hK
  refine aa.t (by simp [hu]) (hK _ h0)
 ·have hp:kC u=8 - u % 8:=by simp [kC,hu]
  rw [hp] at hK
  refine aa.f (by simp;omega) (Ld.aN h _ rfl ?_)
  rw [aj (by omega)]
  have hpk:eD c u (8 - ((u % 8:Nat):Int))=true:=decide_eq_true (by omega)
  refine vM h0 fun w1 h1=> ?_
  rw [hpk,if_pos rfl] at h1
  have e1:(8 - ((u % 8:Nat):Int)).toNat=8 - u % 8:=by omega
  have e2:(8 - ((u % 8:Nat):Int))=((8 - u % 8:Nat):Int):=by omega
  have hv:fF c u (8 - ((u % 8:Nat):Int))=(val c u (8 - u % 8):Int):=by
   unfold fF;rw [if_pos (by omega),e1]
  rw [e1] at h1
  rw [hv,e2]
  exact hK _ h1
theorem take_nil {width:Int} {K:Int→Bool→World→Prop} (hK:K 0 false w):Cl Tryz.prog [aJ .u32,kB] bS ⟨[.pointer none,.int .i64 width]⟩ w K:=by
 refine fY.ok _ _ _ _ ?_
 refine gb.ok _ _ _ _ ?_
 simp only [au,Option.isNone,aD,Bool.not_false]
 exact hK
end
end Go.Proofs.YtgglghjnakclmaaGreat
namespace Go.Proofs.YtgglghjnakclmaaGreat
open Go Go.Vc
set_option maxRecDepth 100000
theorem s9.ok (a:(TT bO)) (b:Int) (R:(TT bO)→Bool→Int→World→Prop) w (h:
 Nw 100 ⟨[(ni a.1),(ni a.2.1),(ni a.2.2.1),(ni a.2.2.2.1)]⟩ w fun d c=>
 Nw 100 ⟨[(ni 0),(ni 0),(ni 0),(ni 0)]⟩ c fun f e=>
 bf (fun (n1:World)=>
 Ld (.st [.int .i64,.int .i64]) (Addr.add ⟨d,0,none⟩ 1) n1 fun o1=>
 Cl Pg [(.st [.int .i64,.int .i64]),kB,kB] ed ⟨[(.agg ⟨[(ni o1.1),(ni o1.2.1)]⟩),(.int .u8 b),(ni 65536)]⟩ n1 fun q1 (r1:Bool) (s1:Bool) p1=>
 Nw 98 ⟨[(ni 0),(ni 0)]⟩ p1 fun u1 t1=>
 ae ⟨u1,0,none⟩ [(ni q1.1),(ni q1.2.1)] 0 t1 fun v1=>
 aa (!s1)
 (Ld (.st bO) ⟨f,0,none⟩ v1 fun x1=>
 ae ⟨f,0,none⟩ [(ni x1.1),(ni x1.2.1),(ni x1.2.2.1),(ni x1.2.2.2.1)] 0 v1 fun y1=>
 Ld (.st bO) ⟨f,0,none⟩ y1 fun z1=>
 R z1 false 242 y1)
 (aa r1
 (Ld kI (Addr.add ⟨u1,0,none⟩ 0) v1 fun (a2:Int)=>
 ae ⟨f,0,none⟩ [(ni 4),(ni 0),(ni 0),(ni a2)] 0 v1 fun b2=>
 Ld (.st bO) ⟨f,0,none⟩ b2 fun c2=>
 R c2 true 0 b2)
 (Ld (.st [.int .i64,.int .i64]) ⟨u1,0,none⟩ v1 fun d2=>
 ae ⟨f,0,none⟩ [(ni 3),(ni d2.1),(ni d2.2.1),(ni 0)] 0 v1 fun e2=>
 Ld (.st bO) ⟨f,0,none⟩ e2 fun f2=>
 R f2 false 0 e2))) fun g=>
 bf (fun (m:Bool) (n:World)=>
 aa m
 (Ld (.st bO) ⟨f,0,none⟩ n fun o=>
 ae ⟨f,0,none⟩ [(ni o.1),(ni o.2.1),(ni o.2.2.1),(ni o.2.2.2.1)] 0 n fun p=>
 Ld (.st bO) ⟨f,0,none⟩ p fun q=>
 R q false 2 p)
 (Ld kI (Addr.add ⟨d,0,none⟩ 0) n fun (r:Int)=>
 aa (decide (r<3))
 (Ld kI (Addr.add ⟨d,0,none⟩ 0) n fun (s:Int)=>
 0≤(s:Int)∧(s:Int)<(((ByteArray.mk #[87,80,1])).size:Int)∧
 aa (b==(qh (ByteArray.mk #[87,80,1]) (s:Int).toNat))
 (Ld kI (Addr.add ⟨d,0,none⟩ 0) n fun (t:Int)=>
 ae ⟨f,0,none⟩ [(ni (i64 (t+1))),(ni 0),(ni 0),(ni 0)] 0 n fun u=>
 Ld (.st bO) ⟨f,0,none⟩ u fun v=>
 R v false 0 u)
 (Ld kI (Addr.add ⟨d,0,none⟩ 0) n fun (x:Int)=>
 aa (decide (x<2))
 (Ld (.st bO) ⟨f,0,none⟩ n fun y=>
 ae ⟨f,0,none⟩ [(ni y.1),(ni y.2.1),(ni y.2.2.1),(ni y.2.2.2.1)] 0 n fun z=>
 Ld (.st bO) ⟨f,0,none⟩ z fun a1=>
 R a1 false 240 z)
 (Ld kI (Addr.add ⟨d,0,none⟩ 0) n fun (b1:Int)=>
 aa (decide (b1<3))
 (Ld (.st bO) ⟨f,0,none⟩ n fun c1=>
 ae ⟨f,0,none⟩ [(ni c1.1),(ni c1.2.1),(ni c1.2.2.1),(ni c1.2.2.2.1)] 0 n fun d1=>
 Ld (.st bO) ⟨f,0,none⟩ d1 fun e1=>
 R e1 false 241 d1)
 (g n))))
 (Ld kI (Addr.add ⟨d,0,none⟩ 0) n fun (f1:Int)=>
 aa (decide (f1<2))
 (Ld (.st bO) ⟨f,0,none⟩ n fun g1=>
 ae ⟨f,0,none⟩ [(ni g1.1),(ni g1.2.1),(ni g1.2.2.1),(ni g1.2.2.2.1)] 0 n fun h1=>
 Ld (.st bO) ⟨f,0,none⟩ h1 fun i1=>
 R i1 false 240 h1)
 (Ld kI (Addr.add ⟨d,0,none⟩ 0) n fun (j1:Int)=>
 aa (decide (j1<3))
 (Ld (.st bO) ⟨f,0,none⟩ n fun k1=>
 ae ⟨f,0,none⟩ [(ni k1.1),(ni k1.2.1),(ni k1.2.2.1),(ni k1.2.2.2.1)] 0 n fun l1=>
 Ld (.st bO) ⟨f,0,none⟩ l1 fun m1=>
 R m1 false 241 l1)
 (g n))))) fun h=>
 Ld (.st bO) ⟨d,0,none⟩ e fun i=>
 Cl Pg [kB] gN ⟨[(.agg ⟨[(ni i.1),(ni i.2.1),(ni i.2.2.1),(ni i.2.2.2.1)]⟩)]⟩ e fun (k:Bool) j=>
 aa (!k)
 (h true j)
 (Ld kI (Addr.add ⟨d,0,none⟩ 0) j fun (l:Int)=>
 h (l==4) j)):Cl Pg [(.st bO),kB,kI] iv ⟨[(.agg ⟨[(ni a.1),(ni a.2.1),(ni a.2.2.1),(ni a.2.2.2.1)]⟩),(.int .u8 b)]⟩ w R:=co Tryz.f114 [(2,[]),(3,[(9,kB)])] h
theorem oy.ok (a:Int) (b:(TT aS)) (c:Int) (R:(TT aS)→Bool→Int→World→Prop) w (h:
 Nw 102 ⟨[(ni b.1),(ni b.2.1),(ni b.2.2.1),(ni b.2.2.2.1),(ni b.2.2.2.2.1),(.int .u32 b.2.2.2.2.2.1),(ni b.2.2.2.2.2.2.1)]⟩ w fun e d=>
 Nw 102 ⟨[(ni 0),(ni 0),(ni 0),(ni 0),(ni 0),(.int .u32 0),(ni 0)]⟩ d fun g f=>
 aA Pg (Instr.makeMap 245 none) kM f fun i h=>
 aA Pg (do Instr.mapUpdate 245 (.map i) (ni 0) (.func (.func 166) ⟨[]⟩ ⟨[]⟩);pure undef) kV h fun _ j=>
 aA Pg (do Instr.mapUpdate 245 (.map i) (ni 1) (.func (.func 167) ⟨[]⟩ ⟨[]⟩);pure undef) kV j fun _ k=>
 aA Pg (do Instr.mapUpdate 245 (.map i) (ni 2) (.func (.func 168) ⟨[]⟩ ⟨[]⟩);pure undef) kV k fun _ l=>
 aA Pg (do Instr.mapUpdate 245 (.map i) (ni 3) (.func (.func 169) ⟨[]⟩ ⟨[]⟩);pure undef) kV l fun _ m=>
 aA Pg (do Instr.mapUpdate 245 (.map i) (ni 5) (.func (.func 169) ⟨[]⟩ ⟨[]⟩);pure undef) kV m fun _ n=>
 Ld kI (Addr.add ⟨e,0,none⟩ 0) n fun (o:Int)=>
 aA Pg (Instr.lookup 245 (.map i) (ni o) false) kV n fun q p=>
 gS q fun r=>
 aa r
 (Ld (.st aS) ⟨g,0,none⟩ p fun s=>
 ae ⟨g,0,none⟩ [(ni s.1),(ni s.2.1),(ni s.2.2.1),(ni s.2.2.2.1),(ni s.2.2.2.2.1),(.int .u32 s.2.2.2.2.2.1),(ni s.2.2.2.2.2.2.1)] 0 p fun t=>
 Ld (.st aS) ⟨g,0,none⟩ t fun u=>
 R u false 2 t)
 (Ld (.st aS) ⟨e,0,none⟩ p fun v=>
 Cl Pg [kB] eK ⟨[(ni a),(.agg ⟨[(ni v.1),(ni v.2.1),(ni v.2.2.1),(ni v.2.2.2.1),(ni v.2.2.2.2.1),(.int .u32 v.2.2.2.2.2.1),(ni v.2.2.2.2.2.2.1)]⟩)]⟩ p fun (y:Bool) x=>
 aa (!y)
 (Ld (.st aS) ⟨g,0,none⟩ x fun z=>
 ae ⟨g,0,none⟩ [(ni z.1),(ni z.2.1),(ni z.2.2.1),(ni z.2.2.2.1),(ni z.2.2.2.2.1),(.int .u32 z.2.2.2.2.2.1),(ni z.2.2.2.2.2.2.1)] 0 x fun a1=>
 Ld (.st aS) ⟨g,0,none⟩ a1 fun b1=>
 R b1 false 2 a1)
 (Ld (.st aS) ⟨e,0,none⟩ x fun c1=>
 jx Pg q [(.st aS),kB] [(ni a),(.agg ⟨[(ni c1.1),(ni c1.2.1),(ni c1.2.2.1),(ni c1.2.2.2.1),(ni c1.2.2.2.2.1),(.int .u32 c1.2.2.2.2.2.1),(ni c1.2.2.2.2.2.2.1)]⟩),(.int .u8 c)] x fun e1 (f1:Bool) d1=>
 ae ⟨e,0,none⟩ [(ni e1.1),(ni e1.2.1),(ni e1.2.2.1),(ni e1.2.2.2.1),(ni e1.2.2.2.2.1),(.int .u32 e1.2.2.2.2.2.1),(ni e1.2.2.2.2.2.2.1)] 0 d1 fun g1=>
 aa (!f1)
 (Ld (.st aS) ⟨g,0,none⟩ g1 fun h1=>
 ae ⟨g,0,none⟩ [(ni h1.1),(ni h1.2.1),(ni h1.2.2.1),(ni h1.2.2.2.1),(ni h1.2.2.2.2.1),(.int .u32 h1.2.2.2.2.2.1),(ni h1.2.2.2.2.2.2.1)] 0 g1 fun i1=>
 Ld (.st aS) ⟨g,0,none⟩ i1 fun j1=>
 R j1 false 242 i1)
 (cJ g1 fun k1 l1=>
 ab (.st aS) ⟨e,0,none⟩ k1 fun m1=>
 ab kI (Addr.add ⟨e,0,none⟩ 0) k1 fun (n1:Int)=>
 aa (n1==4)
 (ae ⟨g,0,none⟩ [(ni m1.1),(ni m1.2.1),(ni m1.2.2.1),(ni m1.2.2.2.1),(ni m1.2.2.2.2.1),(.int .u32 m1.2.2.2.2.2.1),(ni m1.2.2.2.2.2.2.1)] 0 l1 fun o1=>
 k1 o1∧
 Ld (.st aS) ⟨g,0,none⟩ o1 fun p1=>
 R p1 true 0 o1)
 (ab kI (Addr.add ⟨e,0,none⟩ 0) k1 fun (q1:Int)=>
 ae ⟨g,0,none⟩ [(ni m1.1),(ni m1.2.1),(ni m1.2.2.1),(ni m1.2.2.2.1),(ni m1.2.2.2.2.1),(.int .u32 m1.2.2.2.2.2.1),(ni m1.2.2.2.2.2.2.1)] 0 l1 fun r1=>
 k1 r1∧
 Ld (.st aS) ⟨g,0,none⟩ r1 fun s1=>
 R s1 (q1==6) 0 r1))))):Cl Pg [(.st aS),kB,kI] cM ⟨[(ni a),(.agg ⟨[(ni b.1),(ni b.2.1),(ni b.2.2.1),(ni b.2.2.2.1),(ni b.2.2.2.2.1),(.int .u32 b.2.2.2.2.2.1),(ni b.2.2.2.2.2.2.1)]⟩),(.int .u8 c)]⟩ w R:=co Tryz.f116 [] h
theorem qM.ok (a:(TT bO)) (R:Bool→World→Prop) w (h:
 Nw 100 ⟨[(ni a.1),(ni a.2.1),(ni a.2.2.1),(ni a.2.2.2.1)]⟩ w fun c b=>
 Ld kI (Addr.add ⟨c,0,none⟩ 0) b fun (d:Int)=>
 aa (d==3)
 (Ld (.st [.int .i64,.int .i64]) (Addr.add ⟨c,0,none⟩ 1) b fun e=>
 Cl Pg [kB] dL ⟨[(.agg ⟨[(ni e.1),(ni e.2.1)]⟩),(ni 65536)]⟩ b fun (g:Bool) f=>
 aa g
 (Ld kI (Addr.add ⟨c,0,none⟩ 3) f fun (h:Int)=>
 R (h==0) f)
 (R false f))
 (Ld kI (Addr.add ⟨c,0,none⟩ 0) b fun (i:Int)=>
 aa (i==4)
 (Ld (.st [.int .i64,.int .i64]) (Addr.add ⟨c,0,none⟩ 1) b fun j=>
 aa (((j.1:Int)==(0:Int))&&((j.2.1:Int)==(0:Int)))
 (Ld kI (Addr.add ⟨c,0,none⟩ 3) b fun (k:Int)=>
 Cl Pg [kB] bJ ⟨[(ni k),(ni 1),(ni 65536)]⟩ b fun (m:Bool) l=>
 R m l)
 (R false b))
 (Ld kI (Addr.add ⟨c,0,none⟩ 0) b fun (n:Int)=>
 Cl Pg [kB] bJ ⟨[(ni n),(ni 0),(ni 3)]⟩ b fun (p:Bool) o=>
 aa p
 (Ld (.st bO) ⟨c,0,none⟩ o fun q=>
 Ld kI (Addr.add ⟨c,0,none⟩ 0) o fun (r:Int)=>
 R (((q.1:Int)==r)&&((((q.2.1:Int)==(0:Int))&&((q.2.2.1:Int)==(0:Int)))&&((q.2.2.2.1:Int)==(0:Int)))) o)
 (R false o)))):Cl Pg [kB] gN ⟨[(.agg ⟨[(ni a.1),(ni a.2.1),(ni a.2.2.1),(ni a.2.2.2.1)]⟩)]⟩ w R:=co Tryz.f164 [] h
theorem tq.ok (a:(TT [.int .i64,.int .i64])) (b:Int) (c:Int) (R:(TT [.int .i64,.int .i64])→Bool→Bool→World→Prop) w (h:
 Nw 98 ⟨[(ni a.1),(ni a.2.1)]⟩ w fun e d=>
 Nw 98 ⟨[(ni 0),(ni 0)]⟩ d fun g f=>
 Ld (.st [.int .i64,.int .i64]) ⟨e,0,none⟩ f fun h=>
 Cl Pg [(.st [.int .i64,.int .i64]),kB,kI] ic ⟨[(.agg ⟨[(ni h.1),(ni h.2.1)]⟩),(.int .u8 b)]⟩ f fun j (k:Bool) (l:Int) i=>
 ae ⟨g,0,none⟩ [(ni j.1),(ni j.2.1)] 0 i fun m=>
 Ld (.st [.int .i64,.int .i64]) ⟨g,0,none⟩ m fun n=>
 aa (l==0)
 (Ld kI (Addr.add ⟨g,0,none⟩ 0) m fun (o:Int)=>
 aa (decide (o≤c))
 (aa (!k)
 (ae ⟨g,0,none⟩ [(ni n.1),(ni n.2.1)] 0 m fun p=>
 Ld (.st [.int .i64,.int .i64]) ⟨g,0,none⟩ p fun q=>
 R q k true p)
 (Ld kI (Addr.add ⟨g,0,none⟩ 0) m fun (r:Int)=>
 ae ⟨g,0,none⟩ [(ni n.1),(ni n.2.1)] 0 m fun s=>
 Ld (.st [.int .i64,.int .i64]) ⟨g,0,none⟩ s fun t=>
 R t k (decide (r>0)) s))
 (ae ⟨g,0,none⟩ [(ni n.1),(ni n.2.1)] 0 m fun u=>
 Ld (.st [.int .i64,.int .i64]) ⟨g,0,none⟩ u fun v=>
 R v k false u))
 (ae ⟨g,0,none⟩ [(ni n.1),(ni n.2.1)] 0 m fun x=>
 Ld (.st [.int .i64,.int .i64]) ⟨g,0,none⟩ x fun y=>
 R y k false x)):Cl Pg [(.st [.int .i64,.int .i64]),kB,kB] ed ⟨[(.agg ⟨[(ni a.1),(ni a.2.1)]⟩),(.int .u8 b),(ni c)]⟩ w R:=co Tryz.f165 [] h
theorem sQ.ok (a:Int) (b:(TT aS)) (c:Int) (R:(TT aS)→Bool→World→Prop) w (h:
 Nw 102 ⟨[(ni b.1),(ni b.2.1),(ni b.2.2.1),(ni b.2.2.2.1),(ni b.2.2.2.2.1),(.int .u32 b.2.2.2.2.2.1),(ni b.2.2.2.2.2.2.1)]⟩ w fun e d=>
 Nw 102 ⟨[(ni 0),(ni 0),(ni 0),(ni 0),(ni 0),(.int .u32 0),(ni 0)]⟩ d fun g f=>
 St (Addr.add ⟨e,0,none⟩ 0) (ni 1) f fun h=>
 aa (c==0)
 (St (Addr.add ⟨e,0,none⟩ 0) (ni 5) h fun i=>
 Ld (.st aS) ⟨e,0,none⟩ i fun j=>
 ae ⟨g,0,none⟩ [(ni j.1),(ni j.2.1),(ni j.2.2.1),(ni j.2.2.2.1),(ni j.2.2.2.2.1),(.int .u32 j.2.2.2.2.2.1),(ni j.2.2.2.2.2.2.1)] 0 i fun k=>
 Ld (.st aS) ⟨g,0,none⟩ k fun l=>
 R l (decide (c≤1)) k)
 (Ld (.st aS) ⟨e,0,none⟩ h fun m=>
 ae ⟨g,0,none⟩ [(ni m.1),(ni m.2.1),(ni m.2.2.1),(ni m.2.2.2.1),(ni m.2.2.2.2.1),(.int .u32 m.2.2.2.2.2.1),(ni m.2.2.2.2.2.2.1)] 0 h fun n=>
 Ld (.st aS) ⟨g,0,none⟩ n fun o=>
 R o (decide (c≤1)) n)):Cl Pg [(.st aS),kB] cI ⟨[(ni a),(.agg ⟨[(ni b.1),(ni b.2.1),(ni b.2.2.1),(ni b.2.2.2.1),(ni b.2.2.2.2.1),(.int .u32 b.2.2.2.2.2.1),(ni b.2.2.2.2.2.2.1)]⟩),(.int .u8 c)]⟩ w R:=co Tryz.f166 [] h
theorem sE.ok (a:Int) (b:(TT aS)) (c:Int) (R:(TT aS)→Bool→World→Prop) w (h:
 Nw 102 ⟨[(ni b.1),(ni b.2.1),(ni b.2.2.1),(ni b.2.2.2.1),(ni b.2.2.2.2.1),(.int .u32 b.2.2.2.2.2.1),(ni b.2.2.2.2.2.2.1)]⟩ w fun e d=>
 Nw 102 ⟨[(ni 0),(ni 0),(ni 0),(ni 0),(ni 0),(.int .u32 0),(ni 0)]⟩ d fun g f=>
 Ld (.st [.int .i64,.int .i64]) (Addr.add ⟨e,0,none⟩ 1) f fun h=>
 Cl Pg [(.st [.int .i64,.int .i64]),kB,kB] ed ⟨[(.agg ⟨[(ni h.1),(ni h.2.1)]⟩),(.int .u8 c),(ni a)]⟩ f fun j (k:Bool) (l:Bool) i=>
 Nw 98 ⟨[(ni 0),(ni 0)]⟩ i fun n m=>
 ae ⟨n,0,none⟩ [(ni j.1),(ni j.2.1)] 0 m fun o=>
 Ld (.st [.int .i64,.int .i64]) ⟨n,0,none⟩ o fun p=>
 ae (Addr.add ⟨e,0,none⟩ 1) [(ni p.1),(ni p.2.1)] 0 o fun q=>
 aa k
 (Ld kI (Addr.add ⟨n,0,none⟩ 0) q fun (r:Int)=>
 ae ⟨e,0,none⟩ [(ni 2),(ni 0),(ni 0),(ni r),(ni 0),(.int .u32 0),(ni 0)] 0 q fun s=>
 Ld (.st aS) ⟨e,0,none⟩ s fun t=>
 ae ⟨g,0,none⟩ [(ni t.1),(ni t.2.1),(ni t.2.2.1),(ni t.2.2.2.1),(ni t.2.2.2.2.1),(.int .u32 t.2.2.2.2.2.1),(ni t.2.2.2.2.2.2.1)] 0 s fun u=>
 Ld (.st aS) ⟨g,0,none⟩ u fun v=>
 R v l u)
 (Ld (.st aS) ⟨e,0,none⟩ q fun x=>
 ae ⟨g,0,none⟩ [(ni x.1),(ni x.2.1),(ni x.2.2.1),(ni x.2.2.2.1),(ni x.2.2.2.2.1),(.int .u32 x.2.2.2.2.2.1),(ni x.2.2.2.2.2.2.1)] 0 q fun y=>
 Ld (.st aS) ⟨g,0,none⟩ y fun z=>
 R z l y)):Cl Pg [(.st aS),kB] cH ⟨[(ni a),(.agg ⟨[(ni b.1),(ni b.2.1),(ni b.2.2.1),(ni b.2.2.2.1),(ni b.2.2.2.2.1),(.int .u32 b.2.2.2.2.2.1),(ni b.2.2.2.2.2.2.1)]⟩),(.int .u8 c)]⟩ w R:=co Tryz.f167 [] h
theorem q6.ok (a:Int) (b:(TT aS)) (c:Int) (R:(TT aS)→Bool→World→Prop) w (h:
 Nw 102 ⟨[(ni b.1),(ni b.2.1),(ni b.2.2.1),(ni b.2.2.2.1),(ni b.2.2.2.2.1),(.int .u32 b.2.2.2.2.2.1),(ni b.2.2.2.2.2.2.1)]⟩ w fun e d=>
 Nw 102 ⟨[(ni 0),(ni 0),(ni 0),(ni 0),(ni 0),(.int .u32 0),(ni 0)]⟩ d fun g f=>
 Ld (.st [.int .i64,.int .i64]) (Addr.add ⟨e,0,none⟩ 1) f fun h=>
 Ld kI ((Addr.add ⟨e,0,none⟩ 3).add 0) f fun (i:Int)=>
 Cl Pg [(.st [.int .i64,.int .i64]),kB,kB] ed ⟨[(.agg ⟨[(ni h.1),(ni h.2.1)]⟩),(.int .u8 c),(ni i)]⟩ f fun k (l:Bool) (m:Bool) j=>
 Nw 98 ⟨[(ni 0),(ni 0)]⟩ j fun o n=>
 ae ⟨o,0,none⟩ [(ni k.1),(ni k.2.1)] 0 n fun p=>
 Ld (.st [.int .i64,.int .i64]) ⟨o,0,none⟩ p fun q=>
 ae (Addr.add ⟨e,0,none⟩ 1) [(ni q.1),(ni q.2.1)] 0 p fun r=>
 aa l
 (Ld kI ((Addr.add ⟨e,0,none⟩ 3).add 0) r fun (s:Int)=>
 Ld kI (Addr.add ⟨o,0,none⟩ 0) r fun (t:Int)=>
 ae ⟨e,0,none⟩ [(ni 3),(ni 0),(ni 0),(ni s),(ni t),(.int .u32 0),(ni 0)] 0 r fun u=>
 Ld (.st aS) ⟨e,0,none⟩ u fun v=>
 ae ⟨g,0,none⟩ [(ni v.1),(ni v.2.1),(ni v.2.2.1),(ni v.2.2.2.1),(ni v.2.2.2.2.1),(.int .u32 v.2.2.2.2.2.1),(ni v.2.2.2.2.2.2.1)] 0 u fun x=>
 Ld (.st aS) ⟨g,0,none⟩ x fun y=>
 R y m x)
 (Ld (.st aS) ⟨e,0,none⟩ r fun z=>
 ae ⟨g,0,none⟩ [(ni z.1),(ni z.2.1),(ni z.2.2.1),(ni z.2.2.2.1),(ni z.2.2.2.2.1),(.int .u32 z.2.2.2.2.2.1),(ni z.2.2.2.2.2.2.1)] 0 r fun a1=>
 Ld (.st aS) ⟨g,0,none⟩ a1 fun b1=>
 R b1 m a1)):Cl Pg [(.st aS),kB] cy ⟨[(ni a),(.agg ⟨[(ni b.1),(ni b.2.1),(ni b.2.2.1),(ni b.2.2.2.1),(ni b.2.2.2.2.1),(.int .u32 b.2.2.2.2.2.1),(ni b.2.2.2.2.2.2.1)]⟩),(.int .u8 c)]⟩ w R:=co Tryz.f168 [] h
theorem u4.ok (a:Int) (b:(TT aS)) (c:Int) (R:(TT aS)→Bool→World→Prop) w (h:
 Nw 102 ⟨[(ni b.1),(ni b.2.1),(ni b.2.2.1),(ni b.2.2.2.1),(ni b.2.2.2.2.1),(.int .u32 b.2.2.2.2.2.1),(ni b.2.2.2.2.2.2.1)]⟩ w fun e d=>
 Nw 102 ⟨[(ni 0),(ni 0),(ni 0),(ni 0),(ni 0),(.int .u32 0),(ni 0)]⟩ d fun g f=>
 Ld (aJ .u32) ((Addr.add ⟨e,0,none⟩ 3).add 2) f fun (h:Int)=>
 0≤(8:Int)∧
 St ((Addr.add ⟨e,0,none⟩ 3).add 2) (.int .u32 (hX .u32 (bg .u32 h (8:Int)) (u32 c))) f fun i=>
 Ld kI (Addr.add ⟨e,0,none⟩ 6) i fun (j:Int)=>
 St (Addr.add ⟨e,0,none⟩ 6) (ni (i64 (j+1))) i fun k=>
 Ld kI (Addr.add ⟨e,0,none⟩ 6) k fun (l:Int)=>
 aa (l==4)
 (Ld kI (Addr.add ⟨e,0,none⟩ 0) k fun (m:Int)=>
 St (Addr.add ⟨e,0,none⟩ 0) (ni (i64 (m+1))) k fun n=>
 Ld (.st aS) ⟨e,0,none⟩ n fun o=>
 ae ⟨g,0,none⟩ [(ni o.1),(ni o.2.1),(ni o.2.2.1),(ni o.2.2.2.1),(ni o.2.2.2.2.1),(.int .u32 o.2.2.2.2.2.1),(ni o.2.2.2.2.2.2.1)] 0 n fun p=>
 Ld (.st aS) ⟨g,0,none⟩ p fun q=>
 R q true p)
 (Ld (.st aS) ⟨e,0,none⟩ k fun r=>
 ae ⟨g,0,none⟩ [(ni r.1),(ni r.2.1),(ni r.2.2.1),(ni r.2.2.2.1),(ni r.2.2.2.2.1),(.int .u32 r.2.2.2.2.2.1),(ni r.2.2.2.2.2.2.1)] 0 k fun s=>
 Ld (.st aS) ⟨g,0,none⟩ s fun t=>
 R t true s)):Cl Pg [(.st aS),kB] bG ⟨[(ni a),(.agg ⟨[(ni b.1),(ni b.2.1),(ni b.2.2.1),(ni b.2.2.2.1),(ni b.2.2.2.2.1),(.int .u32 b.2.2.2.2.2.1),(ni b.2.2.2.2.2.2.1)]⟩),(.int .u8 c)]⟩ w R:=co Tryz.f169 [] h
theorem nq.ok (a:Int) (b:(TT aS)) (R:Bool→World→Prop) w (h:
 Nw 102 ⟨[(ni b.1),(ni b.2.1),(ni b.2.2.1),(ni b.2.2.2.1),(ni b.2.2.2.2.1),(.int .u32 b.2.2.2.2.2.1),(ni b.2.2.2.2.2.2.1)]⟩ w fun d c=>
 Ld (.st [.int .i64,.int .i64,.int .u32]) (Addr.add ⟨d,0,none⟩ 3) c fun e=>
 Nw 25 ⟨[(ni 0),(ni 0),(.int .u32 0)]⟩ c fun g f=>
 ae ⟨g,0,none⟩ [(ni e.1),(ni e.2.1),(.int .u32 e.2.2.1)] 0 f fun h=>
 bf (fun (q:Bool) (r:World)=>
 Cl Pg [kB] bJ ⟨[(ni a),(ni 1),(ni 65536)]⟩ r fun (t:Bool) s=>
 aa (!t)
 (R false s)
 (Ld kI (Addr.add ⟨d,0,none⟩ 0) s fun (u:Int)=>
 aa (u==0)
 (Ld (.st aS) ⟨d,0,none⟩ s fun v=>
 R (((v.1:Int)==(0:Int))&&((((v.2.1:Int)==(0:Int))&&((v.2.2.1:Int)==(0:Int)))&&((((v.2.2.2.1:Int)==(0:Int))&&(((v.2.2.2.2.1:Int)==(0:Int))&&((v.2.2.2.2.2.1:Int)==(0:Int))))&&((v.2.2.2.2.2.2.1:Int)==(0:Int))))) s)
 (aa (u==1)
 (Ld (.st [.int .i64,.int .i64]) (Addr.add ⟨d,0,none⟩ 1) s fun x=>
 Cl Pg [kB] dL ⟨[(.agg ⟨[(ni x.1),(ni x.2.1)]⟩),(ni a)]⟩ s fun (z:Bool) y=>
 aa z
 (Ld (.st aS) ⟨d,0,none⟩ y fun a1=>
 Ld (.st [.int .i64,.int .i64]) (Addr.add ⟨d,0,none⟩ 1) y fun b1=>
 R (((a1.1:Int)==(1:Int))&&((((a1.2.1:Int)==(b1.1:Int))&&((a1.2.2.1:Int)==(b1.2.1:Int)))&&((((a1.2.2.2.1:Int)==(0:Int))&&(((a1.2.2.2.2.1:Int)==(0:Int))&&((a1.2.2.2.2.2.1:Int)==(0:Int))))&&((a1.2.2.2.2.2.2.1:Int)==(0:Int))))) y)
 (R false y))
 (aa (u==2)
 (Ld kI (Addr.add ⟨g,0,none⟩ 0) s fun (c1:Int)=>
 Cl Pg [kB] bJ ⟨[(ni c1),(ni 1),(ni a)]⟩ s fun (e1:Bool) d1=>
 aa e1
 (Ld (.st [.int .i64,.int .i64]) (Addr.add ⟨d,0,none⟩ 1) d1 fun f1=>
 Ld kI (Addr.add ⟨g,0,none⟩ 0) d1 fun (g1:Int)=>
 Cl Pg [kB] dL ⟨[(.agg ⟨[(ni f1.1),(ni f1.2.1)]⟩),(ni g1)]⟩ d1 fun (i1:Bool) h1=>
 aa i1
 (Ld (.st aS) ⟨d,0,none⟩ h1 fun j1=>
 Ld (.st [.int .i64,.int .i64]) (Addr.add ⟨d,0,none⟩ 1) h1 fun k1=>
 Ld kI (Addr.add ⟨g,0,none⟩ 0) h1 fun (l1:Int)=>
 R (((j1.1:Int)==(2:Int))&&((((j1.2.1:Int)==(k1.1:Int))&&((j1.2.2.1:Int)==(k1.2.1:Int)))&&((((j1.2.2.2.1:Int)==l1)&&(((j1.2.2.2.2.1:Int)==(0:Int))&&((j1.2.2.2.2.2.1:Int)==(0:Int))))&&((j1.2.2.2.2.2.2.1:Int)==(0:Int))))) h1)
 (R false h1))
 (R false d1))
 (aa (u==3)
 (aa q
 (Ld (aJ .u32) (Addr.add ⟨g,0,none⟩ 2) s fun (m1:Int)=>
 Ld kI (Addr.add ⟨d,0,none⟩ 6) s fun (n1:Int)=>
 Cl Pg [kB] fz ⟨[(.int .u32 m1),(ni n1)]⟩ s fun (p1:Bool) o1=>
 aa p1
 (Ld (.st [.int .i64,.int .i64]) (Addr.add ⟨d,0,none⟩ 1) o1 fun q1=>
 R (((q1.1:Int)==(0:Int))&&((q1.2.1:Int)==(0:Int))) o1)
 (R false o1))
 (R false s))
 (aa (u==4)
 (aa q
 (Ld (.st aS) ⟨d,0,none⟩ s fun r1=>
 Ld (.st [.int .i64,.int .i64,.int .u32]) ⟨g,0,none⟩ s fun s1=>
 R (((r1.1:Int)==(4:Int))&&((((r1.2.1:Int)==(0:Int))&&((r1.2.2.1:Int)==(0:Int)))&&((((r1.2.2.2.1:Int)==(s1.1:Int))&&(((r1.2.2.2.2.1:Int)==(s1.2.1:Int))&&((r1.2.2.2.2.2.1:Int)==(s1.2.2.1:Int))))&&((r1.2.2.2.2.2.2.1:Int)==(4:Int))))) s)
 (R false s))
 (aa (u==5)
 (Ld (aJ .u32) (Addr.add ⟨g,0,none⟩ 2) s fun (t1:Int)=>
 Ld kI (Addr.add ⟨d,0,none⟩ 6) s fun (u1:Int)=>
 Cl Pg [kB] fz ⟨[(.int .u32 t1),(ni u1)]⟩ s fun (x1:Bool) v1=>
 aa x1
 (Ld (.st aS) ⟨d,0,none⟩ v1 fun y1=>
 Ld (aJ .u32) (Addr.add ⟨g,0,none⟩ 2) v1 fun (z1:Int)=>
 Ld kI (Addr.add ⟨d,0,none⟩ 6) v1 fun (a2:Int)=>
 R (((y1.1:Int)==(5:Int))&&((((y1.2.1:Int)==(0:Int))&&((y1.2.2.1:Int)==(0:Int)))&&((((y1.2.2.2.1:Int)==(0:Int))&&(((y1.2.2.2.2.1:Int)==(0:Int))&&((y1.2.2.2.2.2.1:Int)==z1)))&&((y1.2.2.2.2.2.2.1:Int)==a2)))) v1)
 (R false v1))
 (aa (u==6)
 (Ld (.st aS) ⟨d,0,none⟩ s fun b2=>
 Ld (aJ .u32) (Addr.add ⟨g,0,none⟩ 2) s fun (c2:Int)=>
 R (((b2.1:Int)==(6:Int))&&((((b2.2.1:Int)==(0:Int))&&((b2.2.2.1:Int)==(0:Int)))&&((((b2.2.2.2.1:Int)==(0:Int))&&(((b2.2.2.2.2.1:Int)==(0:Int))&&((b2.2.2.2.2.2.1:Int)==c2)))&&((b2.2.2.2.2.2.2.1:Int)==(4:Int))))) s)
 (R false s))))))))) fun i=>
 Ld kI (Addr.add ⟨g,0,none⟩ 0) h fun (j:Int)=>
 Cl Pg [kB] bJ ⟨[(ni j),(ni 1),(ni a)]⟩ h fun (l:Bool) k=>
 aa l
 (Ld kI (Addr.add ⟨g,0,none⟩ 1) k fun (m:Int)=>
 Ld kI (Addr.add ⟨g,0,none⟩ 0) k fun (n:Int)=>
 Cl Pg [kB] bJ ⟨[(ni m),(ni 1),(ni n)]⟩ k fun (p:Bool) o=>
 i p o)
 (i false k)):Cl Pg [kB] eK ⟨[(ni a),(.agg ⟨[(ni b.1),(ni b.2.1),(ni b.2.2.1),(ni b.2.2.2.1),(ni b.2.2.2.2.1),(.int .u32 b.2.2.2.2.2.1),(ni b.2.2.2.2.2.2.1)]⟩)]⟩ w R:=co Tryz.f170 [(4,[(6,kB)])] h
theorem qd.ok (a:Int) (b:Int) (c:Int) (R:Bool→World→Prop) w (h:
 aa (decide (a≥b))
 (R (decide (a≤c)) w)
 (R false w)):Cl Pg [kB] bJ ⟨[(ni a),(ni b),(ni c)]⟩ w R:=co Tryz.f199 [] h
theorem qZ.ok (a:(TT [.int .i64,.int .i64])) (b:Int) (R:Bool→World→Prop) w (h:
 Nw 98 ⟨[(ni a.1),(ni a.2.1)]⟩ w fun d c=>
 Ld (.st [.int .i64,.int .i64]) ⟨d,0,none⟩ c fun e=>
 Cl Pg [kB] fg ⟨[(.agg ⟨[(ni e.1),(ni e.2.1)]⟩)]⟩ c fun (g:Bool) f=>
 aa g
 (Ld kI (Addr.add ⟨d,0,none⟩ 0) f fun (h:Int)=>
 R (decide (h≤b)) f)
 (R false f)):Cl Pg [kB] dL ⟨[(.agg ⟨[(ni a.1),(ni a.2.1)]⟩),(ni b)]⟩ w R:=co Tryz.f228 [] h
theorem tk.ok (a:Int) (b:Int) (R:Bool→World→Prop) w (h:
 Cl Pg [kB] bJ ⟨[(ni b),(ni 0),(ni 3)]⟩ w fun (d:Bool) c=>
 aa d
 (0≤(i64 ((8:Int)*b))∧
 R ((cl .u64 (u64 a) (i64 ((8:Int)*b)))==0) c)
 (R false c)):Cl Pg [kB] fz ⟨[(.int .u32 a),(ni b)]⟩ w R:=co Tryz.f230 [] h
end Go.Proofs.YtgglghjnakclmaaGreat
namespace Go.Proofs.YtgglghjnakclmaaGreat
open Go Go.Vc
set_option maxRecDepth 100000
theorem sF.ok (a:(TT [.int .i64,.int .i64])) (b:Int) (R:(TT [.int .i64,.int .i64])→Bool→Int→World→Prop) w (h:
 Nw 98 ⟨[(ni a.1),(ni a.2.1)]⟩ w fun d c=>
 Nw 98 ⟨[(ni 0),(ni 0)]⟩ c fun f e=>
 Ld kI (Addr.add ⟨d,0,none⟩ 0) e fun (g:Int)=>
 0≤(7:Int)∧
 bf (fun (h1:World)=>
 Ld kI (Addr.add ⟨d,0,none⟩ 1) h1 fun (i1:Int)=>
 ae ⟨f,0,none⟩ [(ni (hX .i64 (bg .i64 g (7:Int)) (i64 (cQ .u8 b 127)))),(ni (i64 (i1+1)))] 0 h1 fun j1=>
 Ld (.st [.int .i64,.int .i64]) ⟨f,0,none⟩ j1 fun k1=>
 R k1 (decide (b<128)) 0 j1) fun h=>
 Ld (.st [.int .i64,.int .i64]) ⟨d,0,none⟩ e fun i=>
 Cl Pg [kB] fg ⟨[(.agg ⟨[(ni i.1),(ni i.2.1)]⟩)]⟩ e fun (k:Bool) j=>
 aa (!k)
 (Ld (.st [.int .i64,.int .i64]) ⟨f,0,none⟩ j fun l=>
 ae ⟨f,0,none⟩ [(ni l.1),(ni l.2.1)] 0 j fun m=>
 Ld (.st [.int .i64,.int .i64]) ⟨f,0,none⟩ m fun n=>
 R n false 2 m)
 (aa (b==128)
 (Ld kI (Addr.add ⟨d,0,none⟩ 1) j fun (o:Int)=>
 aa (o==0)
 (Ld (.st [.int .i64,.int .i64]) ⟨f,0,none⟩ j fun p=>
 ae ⟨f,0,none⟩ [(ni p.1),(ni p.2.1)] 0 j fun q=>
 Ld (.st [.int .i64,.int .i64]) ⟨f,0,none⟩ q fun r=>
 R r false 51 q)
 (aa (decide ((hX .i64 (bg .i64 g (7:Int)) (i64 (cQ .u8 b 127)))>2147483647))
 (Ld (.st [.int .i64,.int .i64]) ⟨f,0,none⟩ j fun s=>
 ae ⟨f,0,none⟩ [(ni s.1),(ni s.2.1)] 0 j fun t=>
 Ld (.st [.int .i64,.int .i64]) ⟨f,0,none⟩ t fun u=>
 R u false 52 t)
 (Ld kI (Addr.add ⟨d,0,none⟩ 1) j fun (v:Int)=>
 aa (v==4)
 (aa (decide (b≥128))
 (Ld (.st [.int .i64,.int .i64]) ⟨f,0,none⟩ j fun x=>
 ae ⟨f,0,none⟩ [(ni x.1),(ni x.2.1)] 0 j fun y=>
 Ld (.st [.int .i64,.int .i64]) ⟨f,0,none⟩ y fun z=>
 R z false 52 y)
 (h j))
 (h j))))
 (aa (decide ((hX .i64 (bg .i64 g (7:Int)) (i64 (cQ .u8 b 127)))>2147483647))
 (Ld (.st [.int .i64,.int .i64]) ⟨f,0,none⟩ j fun a1=>
 ae ⟨f,0,none⟩ [(ni a1.1),(ni a1.2.1)] 0 j fun b1=>
 Ld (.st [.int .i64,.int .i64]) ⟨f,0,none⟩ b1 fun c1=>
 R c1 false 52 b1)
 (Ld kI (Addr.add ⟨d,0,none⟩ 1) j fun (d1:Int)=>
 aa (d1==4)
 (aa (decide (b≥128))
 (Ld (.st [.int .i64,.int .i64]) ⟨f,0,none⟩ j fun e1=>
 ae ⟨f,0,none⟩ [(ni e1.1),(ni e1.2.1)] 0 j fun f1=>
 Ld (.st [.int .i64,.int .i64]) ⟨f,0,none⟩ f1 fun g1=>
 R g1 false 52 f1)
 (h j))
 (h j))))):Cl Pg [(.st [.int .i64,.int .i64]),kB,kI] ic ⟨[(.agg ⟨[(ni a.1),(ni a.2.1)]⟩),(.int .u8 b)]⟩ w R:=co Tryz.f229 [(4,[])] h
theorem rV.ok (a:(TT [.int .i64,.int .i64])) (R:Bool→World→Prop) w (h:
 Nw 98 ⟨[(ni a.1),(ni a.2.1)]⟩ w fun c b=>
 Ld kI (Addr.add ⟨c,0,none⟩ 1) b fun (d:Int)=>
 aa (decide (d<1))
 (Ld (.st [.int .i64,.int .i64]) ⟨c,0,none⟩ b fun e=>
 R (((e.1:Int)==(0:Int))&&((e.2.1:Int)==(0:Int))) b)
 (Ld kI (Addr.add ⟨c,0,none⟩ 1) b fun (f:Int)=>
 aa (decide (f>4))
 (Ld (.st [.int .i64,.int .i64]) ⟨c,0,none⟩ b fun g=>
 R (((g.1:Int)==(0:Int))&&((g.2.1:Int)==(0:Int))) b)
 (ag b fun h=>
 Ld kI (Addr.add ⟨c,0,none⟩ 0) h fun (i:Int)=>
 Ld kI (Addr.add ⟨c,0,none⟩ 1) h fun (j:Int)=>
 0≤(i64 ((7:Int)*(i64 (j - 1))))∧
 aa (decide (i≥(bg .i64 (1:Int) (i64 ((7:Int)*(i64 (j - 1)))))))
 (Ld kI (Addr.add ⟨c,0,none⟩ 0) h fun (k:Int)=>
 Ld kI (Addr.add ⟨c,0,none⟩ 1) h fun (l:Int)=>
 0≤(i64 ((7:Int)*l))∧
 R (decide (k<(bg .i64 (1:Int) (i64 ((7:Int)*l))))) h)
 (R false h)))):Cl Pg [kB] fg ⟨[(.agg ⟨[(ni a.1),(ni a.2.1)]⟩)]⟩ w R:=co Tryz.f289 [] h
end Go.Proofs.YtgglghjnakclmaaGreat
set_option maxRecDepth 20000
namespace Go.Srt
def vm (v:Nat):Nat:=if v=0 then 0 else if v<128 then 1 else if v<16384 then 2 else if v<2097152 then 3 else 4
theorem tZ {v c:Nat} (hv:v≤65536) (hc:128≤c) (hc2:c<256) (h0: ¬(v=0∧c=128)):vm v+1=vm (128*v+c % 128):=by
 unfold vm
 repeat' split
 all_goals omega
theorem nc {v:Nat} (hv:v≤65536):(v=0∧vm v=0)∨(1≤v∧v<128∧vm v=1)∨(128≤v∧v<16384∧vm v=2)∨(16384≤v∧v<2097152∧vm v=3):=by
 unfold vm
 repeat' split
 all_goals omega
theorem yI {v:Nat} (hv:v≤65536):vm v≤3∧(vm v=0↔v=0):=by
 have:=nc hv
 omega
end Go.Srt
namespace Go.Vc
theorem B1 {v c:Nat} (hv:v≤65536) (hc:c<256):hX .i64 (bg .i64 (v:Int) 7) (i64 (cQ .u8 (c:Int) 127))=((128*v+c % 128:Nat):Int):=by
 have hmx:IntKind.max .i64=9223372036854775807:=rfl
 have hm8:IntKind.max .u8=255:=rfl
 have e1:bg .i64 (v:Int) 7=((v*128:Nat):Int):=by
  have:=cW (k:= .i64) (a:=v) (b:=7) (by decide) (by rw [hmx];omega)
  simpa using this
 have e2:cQ .u8 (c:Int) 127=((c % 128:Nat):Int):=by
  have:=kH (k:= .u8) (a:=c) (b:=127) (by rw [hm8];omega) (by rw [hm8];omega)
  rw [show c&&&127=c % 128 from Nat.and_two_pow_sub_one_eq_mod c 7] at this
  simpa using this
 have e3:v*128|||c % 128=128*v+c % 128:=by
  rw [Nat.mul_comm v 128]
  exact (Nat.two_pow_add_eq_or_of_lt (i:=7) (by omega) v).symm
 rw [e1,e2,aj (by omega),mz (by rw [hmx];omega) (by rw [hmx];omega) (by rw [e3,hmx];omega),e3]
end Go.Vc
namespace Go.Proofs.YtgglghjnakclmaaGreat
open Go Go.Vc Go.Srt
section
variable {E w:World} {F:List HP}
theorem qE {v:Nat} {K:Bool→World→Prop} (h:Hp E w F) (hv:v≤65536) (hK: ∀w',Hp E w' F→K true w'):
  Cl Tryz.prog [kB] fg ⟨[.agg ⟨[.int .i64 (v:Int),.int .i64 (vm v:Int)]⟩]⟩ w K:=by
 refine rV.ok ((v:Int),(vm v:Int),()) _ _ ?_
 (try simp only [au,ah,ak,Nat.zero_add,Nat.add_zero,Nat.reduceAdd,Bool.not_true,Bool.not_false,aD,aC,Option.isNone])
 (with_reducible repeat first|refine Nw.mk h fun b w h=> ?_|refine ag.mk h fun w h=> ?_|refine Ld.xb h rfl ?_|refine Ld.xt h rfl ?_|refine ab.xb (fun _ h=>h) rfl ?_|refine ab.xt (fun _ h=>h) rfl ?_|refine ⟨h.hb,?_⟩|refine ae.xw h rfl rfl fun w h=> ?_|(refine ae.xs h rfl rfl fun w h=> ?_;dsimp only [af,ad] at h)|(refine St.xs h rfl rfl fun w h=> ?_;dsimp only [af,ad] at h)|refine aa.yes ?_|refine aa.no ?_|refine ⟨by first|omega|decide,?_⟩)
 rcases nc hv with ⟨h1,h2⟩|⟨h0,h1,h2⟩|⟨h0,h1,h2⟩|⟨h0,h1,h2⟩
 all_goals rw [h2] at h⊢
 ·subst h1
  (with_reducible repeat first|refine Nw.mk h fun b w h=> ?_|refine ag.mk h fun w h=> ?_|refine Ld.xb h rfl ?_|refine Ld.xt h rfl ?_|refine ab.xb (fun _ h=>h) rfl ?_|refine ab.xt (fun _ h=>h) rfl ?_|refine ⟨h.hb,?_⟩|refine ae.xw h rfl rfl fun w h=> ?_|(refine ae.xs h rfl rfl fun w h=> ?_;dsimp only [af,ad] at h)|(refine St.xs h rfl rfl fun w h=> ?_;dsimp only [af,ad] at h)|refine aa.yes ?_|refine aa.no ?_|refine ⟨by first|omega|decide,?_⟩)
  exact hK _ h.tl
 all_goals
  (with_reducible repeat first|refine Nw.mk h fun b w h=> ?_|refine ag.mk h fun w h=> ?_|refine Ld.xb h rfl ?_|refine Ld.xt h rfl ?_|refine ab.xb (fun _ h=>h) rfl ?_|refine ab.xt (fun _ h=>h) rfl ?_|refine ⟨h.hb,?_⟩|refine ae.xw h rfl rfl fun w h=> ?_|(refine ae.xs h rfl rfl fun w h=> ?_;dsimp only [af,ad] at h)|(refine St.xs h rfl rfl fun w h=> ?_;dsimp only [af,ad] at h)|refine aa.yes ?_|refine aa.no ?_|refine ⟨by first|omega|decide,?_⟩)
  refine aa.dt ?_ ?_
  ·first
   |rw [show bg .i64 1 (i64 (7*i64 (((1:Nat):Int) - 1)))=1 by decide];omega
   |rw [show bg .i64 1 (i64 (7*i64 (((2:Nat):Int) - 1)))=128 by decide];omega
   |rw [show bg .i64 1 (i64 (7*i64 (((3:Nat):Int) - 1)))=16384 by decide];omega
  (with_reducible repeat first|refine Nw.mk h fun b w h=> ?_|refine ag.mk h fun w h=> ?_|refine Ld.xb h rfl ?_|refine Ld.xt h rfl ?_|refine ab.xb (fun _ h=>h) rfl ?_|refine ab.xt (fun _ h=>h) rfl ?_|refine ⟨h.hb,?_⟩|refine ae.xw h rfl rfl fun w h=> ?_|(refine ae.xs h rfl rfl fun w h=> ?_;dsimp only [af,ad] at h)|(refine St.xs h rfl rfl fun w h=> ?_;dsimp only [af,ad] at h)|refine aa.yes ?_|refine aa.no ?_|refine ⟨by first|omega|decide,?_⟩)
  refine cR ?_ (hK _ h.tl)
  refine decide_eq_true ?_
  first
   |rw [show bg .i64 1 (i64 (7*((1:Nat):Int)))=128 by decide];omega
   |rw [show bg .i64 1 (i64 (7*((2:Nat):Int)))=16384 by decide];omega
   |rw [show bg .i64 1 (i64 (7*((3:Nat):Int)))=2097152 by decide];omega
theorem zA {v c:Nat} {K:Int×Int×Unit→Bool→Int→World→Prop} (h:Hp E w F) (hv:v≤65536) (hc:c<256)
  (hbad:v=0∧c=128→∀w',Hp E w' F→K (0,0,()) false 51 w')
  (hK: ¬(v=0∧c=128)→∀w',Hp E w' F→K (((128*v+c % 128:Nat):Int),((vm v+1:Nat):Int),()) (decide (c<128)) 0 w'):
  Cl Tryz.prog [.st [.int .i64,.int .i64],kB,kI] ic ⟨[.agg ⟨[.int .i64 (v:Int),.int .i64 (vm v:Int)]⟩,.int .u8 (c:Int)]⟩ w K:=by
 refine sF.ok ((v:Int),(vm v:Int),()) _ _ _ ?_
 (try simp only [au,ah,ak,Nat.zero_add,Nat.add_zero,Nat.reduceAdd,Bool.not_true,Bool.not_false,aD,aC,Option.isNone])
 (with_reducible repeat first|refine Nw.mk h fun b w h=> ?_|refine ag.mk h fun w h=> ?_|refine Ld.xb h rfl ?_|refine Ld.xt h rfl ?_|refine ab.xb (fun _ h=>h) rfl ?_|refine ab.xt (fun _ h=>h) rfl ?_|refine ⟨h.hb,?_⟩|refine ae.xw h rfl rfl fun w h=> ?_|(refine ae.xs h rfl rfl fun w h=> ?_;dsimp only [af,ad] at h)|(refine St.xs h rfl rfl fun w h=> ?_;dsimp only [af,ad] at h)|refine aa.yes ?_|refine aa.no ?_|refine ⟨by first|omega|decide,?_⟩)
 refine qE h hv fun w h=> ?_
 (try simp only [au,ah,ak,Nat.zero_add,Nat.add_zero,Nat.reduceAdd,Bool.not_true,Bool.not_false,aD,aC,Option.isNone])
 rw [B1 hv hc]
 have hvm:=yI hv
 have fin: ∀w,¬(v=0∧c=128)→Hp E w F→K (((128*v+c % 128:Nat):Int),i64 ((vm v:Int)+1),()) (decide ((c:Int)<128)) 0 w:=fun w hn h=>by
  have:=hK hn w h
  rw [aj (by omega)]
  rw [show ((vm v+1:Nat):Int)=(vm v:Int)+1 from rfl] at this
  rwa [show decide ((c:Int)<128)=decide (c<128) from decide_eq_decide.2 (by omega)]
 (first|refine aa.dm (fun hb=> ?_) (fun hb=> ?_)|refine aa.em (fun hb=> ?_) (fun hb=> ?_)|refine aa.nm (fun hb=> ?_) (fun hb=> ?_)|refine aa.mk (fun hb=> ?_) (fun hb=> ?_))
 ·(with_reducible repeat first|refine Nw.mk h fun b w h=> ?_|refine ag.mk h fun w h=> ?_|refine Ld.xb h rfl ?_|refine Ld.xt h rfl ?_|refine ab.xb (fun _ h=>h) rfl ?_|refine ab.xt (fun _ h=>h) rfl ?_|refine ⟨h.hb,?_⟩|refine ae.xw h rfl rfl fun w h=> ?_|(refine ae.xs h rfl rfl fun w h=> ?_;dsimp only [af,ad] at h)|(refine St.xs h rfl rfl fun w h=> ?_;dsimp only [af,ad] at h)|refine aa.yes ?_|refine aa.no ?_|refine ⟨by first|omega|decide,?_⟩)
  (first|refine aa.dm (fun hb=> ?_) (fun hb=> ?_)|refine aa.em (fun hb=> ?_) (fun hb=> ?_)|refine aa.nm (fun hb=> ?_) (fun hb=> ?_)|refine aa.mk (fun hb=> ?_) (fun hb=> ?_))
  ·(with_reducible repeat first|refine Nw.mk h fun b w h=> ?_|refine ag.mk h fun w h=> ?_|refine Ld.xb h rfl ?_|refine Ld.xt h rfl ?_|refine ab.xb (fun _ h=>h) rfl ?_|refine ab.xt (fun _ h=>h) rfl ?_|refine ⟨h.hb,?_⟩|refine ae.xw h rfl rfl fun w h=> ?_|(refine ae.xs h rfl rfl fun w h=> ?_;dsimp only [af,ad] at h)|(refine St.xs h rfl rfl fun w h=> ?_;dsimp only [af,ad] at h)|refine aa.yes ?_|refine aa.no ?_|refine ⟨by first|omega|decide,?_⟩)
   exact hbad (by omega) _ h.tl
  ·(with_reducible repeat first|refine Nw.mk h fun b w h=> ?_|refine ag.mk h fun w h=> ?_|refine Ld.xb h rfl ?_|refine Ld.xt h rfl ?_|refine ab.xb (fun _ h=>h) rfl ?_|refine ab.xt (fun _ h=>h) rfl ?_|refine ⟨h.hb,?_⟩|refine ae.xw h rfl rfl fun w h=> ?_|(refine ae.xs h rfl rfl fun w h=> ?_;dsimp only [af,ad] at h)|(refine St.xs h rfl rfl fun w h=> ?_;dsimp only [af,ad] at h)|refine aa.yes ?_|refine aa.no ?_|refine ⟨by first|omega|decide,?_⟩)
   exact fin _ (by omega) h.tl
 ·(with_reducible repeat first|refine Nw.mk h fun b w h=> ?_|refine ag.mk h fun w h=> ?_|refine Ld.xb h rfl ?_|refine Ld.xt h rfl ?_|refine ab.xb (fun _ h=>h) rfl ?_|refine ab.xt (fun _ h=>h) rfl ?_|refine ⟨h.hb,?_⟩|refine ae.xw h rfl rfl fun w h=> ?_|(refine ae.xs h rfl rfl fun w h=> ?_;dsimp only [af,ad] at h)|(refine St.xs h rfl rfl fun w h=> ?_;dsimp only [af,ad] at h)|refine aa.yes ?_|refine aa.no ?_|refine ⟨by first|omega|decide,?_⟩)
  exact fin _ (by omega) h.tl
end
end Go.Proofs.YtgglghjnakclmaaGreat
set_option maxRecDepth 20000
namespace Go.Rk
section
variable {α:Type} {lt:α→α→Bool}
structure SO (lt:α→α→Bool):Prop where
 irr: ∀a,lt a a=false
 trans: ∀a b c,lt a b=true→lt b c=true→lt a c=true
 ntrans: ∀a b c,lt a b=false→lt b c=false→lt a c=false
theorem SO.Dh (h:SO lt) {a b:α} (hab:lt a b=true):lt b a=false:=by
 cases hb:lt b a with
 |false=>rfl
 |true=>have:=h.trans _ _ _ hab hb;rw [h.irr] at this;cases this
theorem iQ (h:SO lt): ∀{S:List α},S.Pairwise (fun a b=>lt a b=true)→∀(j:Nat) (hj:j<S.length),S.countP (fun x=>lt x S[j])=j
 | [],_,j,hj=>by simp at hj
 |a::S,hp,0,_=>by
  rw [List.pairwise_cons] at hp
  rw [List.countP_cons,List.getElem_cons_zero,h.irr,List.countP_eq_zero.2 fun x hx=>by rw [h.Dh (hp.1 x hx)];decide]
  rfl
 |a::S,hp,j+1,hj=>by
  rw [List.pairwise_cons] at hp
  have hj':j<S.length:=by simpa using hj
  rw [List.countP_cons,List.getElem_cons_succ,iQ h hp.2 j hj',hp.1 _ (List.getElem_mem hj')]
  rfl
theorem tS (h:SO lt) {S:List α} (hp:S.Pairwise (fun a b=>lt a b=true)) {x:α} (hx:x∈S): ∃hj:S.countP (fun y=>lt y x)<S.length,S[S.countP (fun y=>lt y x)]=x:=by
 obtain ⟨j,hj,rfl⟩:=List.getElem_of_mem hx
 have:=iQ h hp j hj
 exact ⟨by omega,by simp only [this]⟩
theorem wL (h:SO lt) {S T:List α} (hpm:S.Perm T) (hS:S.Pairwise (fun a b=>lt a b=true)) (hT:T.Pairwise (fun a b=>lt a b=true)):S=T:=by
 apply List.ext_getElem hpm.length_eq
 intro r h1 h3
 have hr:=iQ h hS r h1
 rw [hpm.countP_eq] at hr
 obtain ⟨h4,h5⟩:=tS h hT (hpm.mem_iff.1 (List.getElem_mem h1))
 rw [←h5]
 simp only [hr]
def rk (lt:α→α→Bool) (dom:List α) (x:α):Nat:=dom.countP fun y=>lt y x
end
end Go.Rk
set_option maxRecDepth 20000
namespace Go.Inc
inductive nN (σ β ε:Type) where
 |more (s:σ)|fin (b:β)|bad (e:ε)
inductive DA (α σ β ε:Type) where
 |short (s:σ)|fin (b:β) (rest:List α)|bad (e:ε)
def run {α σ β ε:Type} (f:σ→α→nN σ β ε):σ→List α→DA α σ β ε
 |s,[]=> .short s
 |s,c::l=>match f s c with
  | .more s'=>run f s' l
  | .fin b=> .fin b l
  | .bad e=> .bad e
section
variable {α σ β ε:Type} {f:σ→α→nN σ β ε}
theorem l8 (s:σ):run f s []= .short s:=rfl
theorem cf (s:σ) (c:α) (l:List α):run f s (c::l)=match f s c with
  | .more s'=>run f s' l
  | .fin b=> .fin b l
  | .bad e=> .bad e:=rfl
theorem np {s s':σ} {c:α} {l:List α} (h:f s c= .more s'):run f s (c::l)=run f s' l:=by rw [cf,h]
theorem pg {s:σ} {b:β} {c:α} {l:List α} (h:f s c= .fin b):run f s (c::l)= .fin b l:=by rw [cf,h]
theorem tE {s:σ} {e:ε} {c:α} {l:List α} (h:f s c= .bad e):run f s (c::l)= .bad e:=by rw [cf,h]
theorem tM: ∀(a:List α) (s:σ) (l:List α),run f s (a++l)=match run f s a with
  | .short s'=>run f s' l
  | .fin b r=> .fin b (r++l)
  | .bad e=> .bad e
 | [],s,l=>rfl
 |c::a,s,l=>by
  rw [List.cons_append,cf,cf]
  cases f s c with
  |more s'=>exact tM a s' l
  |fin b=>rfl
  |bad e=>rfl
theorem ju {s s':σ} {a:List α} (h:run f s a= .short s') (l:List α):run f s (a++l)=run f s' l:=by rw [tM,h]
theorem pk: ∀{l:List α} {s:σ} {b:β} {r:List α},run f s l= .fin b r→∃a c s',l=a++c::r∧run f s a= .short s'∧f s' c= .fin b
 | [],s,b,r,h=>by cases h
 |c::l,s,b,r,h=>by
  rw [cf] at h
  cases hc:f s c with
  |more s'=>
   rw [hc] at h
   obtain ⟨a,c',s'',rfl,h1,h2⟩:=pk h
   exact ⟨c::a,c',s'',rfl,by rw [np hc,h1],h2⟩
  |fin b'=>
   rw [hc] at h
   cases h
   exact ⟨[],c,s,rfl,rfl,hc⟩
  |bad e=>rw [hc] at h;cases h
end
end Go.Inc
set_option maxRecDepth 20000
namespace Go.Hd
open Go.Inc
def grow (most v c:Nat):Option (Nat×Bool):=
 if v=0∧c=128 then none else
 if 128*v+c % 128≤most∧(c<128→0<128*v+c % 128) then some (128*v+c % 128,decide (c<128)) else none
theorem ew {most v c n:Nat} {d:Bool} (hc:c<256) (h:grow most v c=some (n,d)):n≤most∧0<n∧n=128*v+c % 128∧d=decide (c<128):=by
 unfold grow at h
 split at h
 ·cases h
 ·split at h
  ·rename_i h1 h2
   cases h
   refine ⟨h2.1,?_,rfl,rfl⟩
   by_cases hc:c<128
   ·exact h2.2 hc
   ·omega
  ·cases h
structure HS where
 at_:Nat
 v:Nat
deriving DecidableEq
def gD (i:Nat):Nat:=if i=0 then 0x57 else if i=1 then 0x50 else 1
def bd (s:HS) (c:Nat):nN HS Nat Nat:=
 if s.at_<3 then
  if c=gD s.at_ then .more ⟨s.at_+1,0⟩ else .bad (if s.at_=2 then 241 else 240)
 else match grow 65536 s.v c with
  |none=> .bad 242
  |some (n,true)=> .fin n
  |some (n,false)=> .more ⟨3,n⟩
structure MS where
 at_:Nat
 v:Nat
 M:Nat
 P:Nat
 sum:Nat
 many:Nat
deriving DecidableEq
inductive Mk where
 |aN (M P sum:Nat)|tail (sum:Nat)
deriving DecidableEq
def dD:MS:=⟨0,0,0,0,0,0⟩
def aL (n:Nat) (s:MS) (c:Nat):nN MS Mk Nat:=
 if s.at_=0 then
  if c=0 then .more ⟨5,0,0,0,0,0⟩ else if c=1 then .more ⟨1,0,0,0,0,0⟩ else .bad 242
 else if s.at_=1 then
  match grow n s.v c with
  |none=> .bad 242
  |some (m,true)=> .more ⟨2,0,m,0,0,0⟩
  |some (m,false)=> .more ⟨1,m,0,0,0,0⟩
 else if s.at_=2 then
  match grow s.M s.v c with
  |none=> .bad 242
  |some (p,true)=> .more ⟨3,0,s.M,p,0,0⟩
  |some (p,false)=> .more ⟨2,p,s.M,0,0,0⟩
 else if s.many=3 then
  if s.at_=3 then .fin (.aN s.M s.P (256*s.sum+c)) else .fin (.tail (256*s.sum+c))
 else .more {s with sum:=256*s.sum+c,many:=s.many+1}
end Go.Hd
set_option maxRecDepth 20000
namespace Go.Vc
open Go
set_option linter.unusedSectionVars false
structure kl (P:Program) {α:Type} [DecidableEq α] (kt:TypeId) (ke:α→Value):Prop where
 und: ∃d,P.underlying kt=some d∧∀a b,Instr.sameNow d (ke a) (ke b)=none∨Instr.sameNow d (ke a) (ke b)=some (decide (a=b))
 check: ∀e a w,(Instr.checkKey e 10000 kt (ke a)).run P w= .ok () w
 eq: ∀a b w,(Op.equal kt (ke a) (ke b)).run P w= .ok (decide (a=b)) w
 same: ∀a,Instr.sameBits 10000 (ke a) (ke a)=true
section
variable {P:Program} {α β:Type} [DecidableEq α] {ke:α→Value} {ve:β→Value} {kt:TypeId}
def dI (ke:α→Value) (ve:β→Value) (es:List MapEntry) (l:List (α×β)):Prop:=es.map (fun e=>(e.key,e.val))=l.map fun p=>(ke p.1,ve p.2)
def findAt (a:α):List (α×β)→Nat→Option (Nat×β)
 | [],_=>none
 |p::l,i=>if a=p.1 then some (i,p.2) else findAt a l (i+1)
theorem jF {e:MapEntry} {es:List MapEntry} {l:List (α×β)} (h:dI ke ve (e::es) l): ∃p l',l=p::l'∧e.key=ke p.1∧e.val=ve p.2∧dI ke ve es l':=by
 unfold dI at h
 cases l with
 |nil=>simp at h
 |cons p l'=>
  simp only [List.map_cons,List.cons.injEq,Prod.mk.injEq] at h
  exact ⟨p,l',rfl,h.1.1,h.1.2,h.2⟩
theorem om (hk:kl P kt ke) (a:α) (w:World): ∀(es:List MapEntry) (l:List (α×β)) (i:Nat),dI ke ve es l→(Instr.findAsking kt (ke a) es i).run P w= .ok ((findAt a l i).map fun q=>(q.1,ve q.2)) w
 | [],l,i,h=>by
  have:l= []:=by unfold dI at h;cases l<;>simp at h⊢
  subst this
  simp [Instr.findAsking,findAt]
 |e::es,l,i,h=>by
  obtain ⟨p,l',rfl,h1,h2,h3⟩:=jF h
  simp only [Instr.findAsking,Sem.run_bind,h1,hk.eq,Result.andThen_ok,findAt]
  by_cases hq:a=p.1
  ·simp [hq,h2]
  ·simp [hq,om hk a w es l' (i+1) h3]
theorem v7 {d:TypeDesc} (hd: ∀a b,Instr.sameNow d (ke a) (ke b)=none∨Instr.sameNow d (ke a) (ke b)=some (decide (a=b))) (a:α): ∀(es:List MapEntry) (l:List (α×β)) (i:Nat),dI ke ve es l→
  Instr.findNow d (ke a) es i=none∨Instr.findNow d (ke a) es i=some ((findAt a l i).map fun q=>(q.1,ve q.2))
 | [],l,i,h=>by
  have:l= []:=by unfold dI at h;cases l<;>simp at h⊢
  subst this
  exact .inr rfl
 |e::es,l,i,h=>by
  obtain ⟨p,l',rfl,h1,h2,h3⟩:=jF h
  unfold Instr.findNow
  rw [h1]
  rcases hd a p.1 with h0|h0
  ·rw [h0];exact .inl rfl
  ·rw [h0]
   by_cases hq:a=p.1
   ·right;simp [findAt,hq,h2]
   ·simp only [hq,decide_false,findAt,if_false]
    exact v7 hd a es l' (i+1) h3
theorem mV (hk:kl P kt ke) (a:α) (w:World) (es:List MapEntry) (l:List (α×β)) (h:dI ke ve es l):(Instr.findKey kt (ke a) es).run P w= .ok ((findAt a l 0).map fun q=>(q.1,ve q.2)) w:=by
 obtain ⟨d,hu,hd⟩:=hk.und
 simp only [Instr.findKey,Sem.run_bind,run_underlying hu,Result.andThen_ok]
 rcases v7 (ve:=ve) hd a es l 0 h with h0|h0
 ·rw [h0];exact om hk a w es l 0 h
 ·rw [h0];rfl
def ec (a:α) (b:β):List (α×β)→List (α×β)
 | []=> [(a,b)]
 |p::l=>if a=p.1 then (a,b)::l else p::ec a b l
theorem lV {a:α}: ∀{l:List (α×β)} {i j:Nat} {v:β},findAt a l i=some (j,v)→i≤j
 | [],i,j,v,h=>by simp [findAt] at h
 |p::l,i,j,v,h=>by
  unfold findAt at h
  split at h
  ·simp at h;omega
  ·have:=lV h;omega
theorem qK {a:α} {b:β} {f:MapEntry→MapEntry} (hf: ∀e,e.key=ke a→(f e).key=ke a∧(f e).val=ve b): ∀{es:List MapEntry} {l:List (α×β)} {i j:Nat} {v:β},dI ke ve es l→findAt a l i=some (i+j,v)→
  dI ke ve (es.modify j f) (ec a b l)
 | [],l,i,j,v,h,hf2=>by
  have:l= []:=by unfold dI at h;cases l<;>simp at h⊢
  subst this
  simp [findAt] at hf2
 |e::es,l,i,j,v,h,hf2=>by
  obtain ⟨p,l',rfl,h1,h2,h3⟩:=jF h
  unfold findAt at hf2
  unfold ec
  by_cases hq:a=p.1
  ·rw [if_pos hq] at hf2⊢
   have:j=0:=by simp at hf2;omega
   subst this
   obtain ⟨q1,q2⟩:=hf e (by rw [h1,hq])
   unfold dI at h3⊢
   simp [List.modify,q1,q2,h3]
  ·rw [if_neg hq] at hf2⊢
   have hge:=lV hf2
   obtain ⟨j,rfl⟩: ∃j',j=j'+1:=⟨j - 1,by omega⟩
   have ih:=qK (f:=f) hf (i:=i+1) (j:=j) (v:=v) h3 (by rw [hf2];congr 2;omega)
   unfold dI at ih⊢
   simp only [List.modify_succ_cons,List.map_cons,ih,h1,h2]
theorem qz {a:α}: ∀{es:List MapEntry} {l:List (α×β)} {i j:Nat} {v:β},dI ke ve es l→findAt a l i=some (i+j,v)→∃e,es[j]? =some e∧e.key=ke a
 | [],l,i,j,v,h,hf2=>by
  have:l= []:=by unfold dI at h;cases l<;>simp at h⊢
  subst this
  simp [findAt] at hf2
 |e::es,l,i,j,v,h,hf2=>by
  obtain ⟨p,l',rfl,h1,h2,h3⟩:=jF h
  unfold findAt at hf2
  by_cases hq:a=p.1
  ·rw [if_pos hq] at hf2
   have:j=0:=by simp at hf2;omega
   subst this
   exact ⟨e,rfl,by rw [h1,hq]⟩
  ·rw [if_neg hq] at hf2
   have hge:=lV hf2
   obtain ⟨j,rfl⟩: ∃j',j=j'+1:=⟨j - 1,by omega⟩
   obtain ⟨e',h4,h5⟩:=qz (i:=i+1) (j:=j) (v:=v) h3 (by rw [hf2];congr 2;omega)
   exact ⟨e',by simpa using h4,h5⟩
theorem pA {a:α} {b:β}: ∀{l:List (α×β)} {i:Nat},findAt a l i=none→ec a b l=l++ [(a,b)]
 | [],_,_=>rfl
 |p::l,i,h=>by
  unfold findAt at h
  unfold ec
  by_cases hq:a=p.1
  ·rw [if_pos hq] at h;cases h
  ·rw [if_neg hq] at h⊢
   rw [pA h];rfl
end
def ik {α β:Type} (ke:α→Value) (ve:β→Value) (m:Option Nat) (l:List (α×β)):HP:=fun f=> ∃b es clock,m=some b∧dI ke ve es.toList l∧f=aM.one b (.map es clock)
section
variable {P:Program} {α β:Type} [DecidableEq α] {ke:α→Value} {ve:β→Value} {kt vt t:TypeId} {E w:World} {F:List HP} {m:Option Nat} {l:List (α×β)}
theorem Hp.tQ (h:Hp E w (ik ke ve m l::F)): ∃b es clock,m=some b∧dI ke ve es.toList l∧Hp E w (aq b (.map es clock)::F):=by
 obtain ⟨f,a,g,k,hd,e,⟨b,es,clock,h1,h2,h3⟩,h4⟩:=h.frag
 exact ⟨b,es,clock,h1,h2,h.os,h.output,h.tape,f,a,g,k,hd,e,h3,h4⟩
theorem Hp.tO {b clock:Nat} {es:Array MapEntry} (h:Hp E w (aq b (.map es clock)::F)) (he:dI ke ve es.toList l):Hp E w (ik ke ve (some b) l::F):=
 h.xJ fun _ hf=>⟨b,es,clock,rfl,he,hf⟩
theorem run_makeMap {K:Option Nat→World→Prop} (h:Hp E w F) (hK: ∀m w',Hp E w' (ik ke ve m []::F)→K m w'):aA P (Instr.makeMap t none) kM w K:=by
 unfold aA
 have e:(Instr.makeMap t none).run P w= .ok (.map (some w.heap.size)) (w.alloc (.map #[] 0)):=rfl
 rw [e]
 exact hK _ _ (Hp.tO (h.alloc _) rfl)
theorem db (hk:kl P kt ke) (hu:P.underlying t=some (.map kt vt)) {a:α} {b:β} {K:Value→World→Prop} (h:Hp E w (ik ke ve m l::F)) (hK: ∀w',Hp E w' (ik ke ve m (ec a b l)::F)→K undef w'):
  aA P (do Instr.mapUpdate t (.map m) (ke a) (ve b);pure undef) kV w K:=by
 obtain ⟨r,es,clock,rfl,he,hB⟩:=h.tQ
 have hb:=hB.aN
 have hfk:=mV (ve:=ve) hk a w es.toList l he
 have key: ∀es' clock',(do Instr.mapUpdate t (.map (some r)) (ke a) (ve b);pure undef:Sem Value).run P w= .ok undef {w with heap:=w.heap.setIfInBounds r (.map es' clock')}→dI ke ve es'.toList (ec a b l)→
   aA P (do Instr.mapUpdate t (.map (some r)) (ke a) (ve b);pure undef) kV w K:=by
  intro es' clock' h1 h2
  unfold aA
  rw [h1]
  exact hK _ (Hp.tO (hB.setObj rfl rfl rfl rfl) h2)
 cases hf:findAt a l 0 with
 |none=>
  rw [hf] at hfk
  refine key (es.push ⟨ke a,ve b,clock⟩) (clock+1) ?_ ?_
  ·simp [Instr.mapUpdate,run_underlying hu,MapKept.run_getObj_map hb,hk.check,hfk,MapKept.run_setObj_map _ hb]
  ·rw [pA hf]
   unfold dI at he⊢
   simp [he]
 |some q=>
  obtain ⟨j,v⟩:=q
  rw [hf] at hfk
  have hfk':(Instr.findKey kt (ke a) es.toList).run P w= .ok (some (j,ve v)) w:=hfk
  have hkey:((es[j]?).map (·.key)).getD (ke a)=ke a:=by
   obtain ⟨e,he1,he2⟩:=qz (ke:=ke) (ve:=ve) he (i:=0) (j:=j) (v:=v) (by simpa using hf)
   have:es[j]? =some e:=by simpa using he1
   rw [this];exact he2
  refine key (es.modify j fun e=>{e with key:=ke a,val:=ve b}) clock ?_ ?_
  ·simp [Instr.mapUpdate,run_underlying hu,MapKept.run_getObj_map hb,hk.check,hfk',hkey,Instr.keyThatStays,hk.same,MapKept.run_setObj_map _ hb]
  ·rw [Array.toList_modify]
   exact qK (ke:=ke) (ve:=ve) (a:=a) (b:=b) (fun e _=>⟨rfl,rfl⟩) he (i:=0) (j:=j) (v:=v) (by simpa using hf)
end
end Go.Vc
set_option maxRecDepth 20000
namespace Go.Vc
open Go
set_option linter.unusedSectionVars false
section
variable {P:Program} {α β:Type} [DecidableEq α] {ke:α→Value} {ve:β→Value} {kt vt t ty:TypeId} {E w:World} {F:List HP} {m:Option Nat} {l:List (α×β)}
theorem sX (hk:kl P kt ke) (hu:P.underlying t=some (.map kt vt)) {a:α} {z:Value} (hz: ∀w,(zeroValue vt).run P w= .ok z w) (h:Hp E w (ik ke ve m l::F)):
  (Instr.lookup t (.map m) (ke a) false).run P w= .ok (match findAt a l 0 with|some q=>ve q.2|none=>z) w:=by
 obtain ⟨r,es,clock,rfl,he,hB⟩:=h.tQ
 have hb:=hB.aN
 have hfk:=mV (ve:=ve) hk a w es.toList l he
 cases hf:findAt a l 0 with
 |none=>
  rw [hf] at hfk
  simp [Instr.lookup,run_underlying hu,MapKept.run_getObj_map hb,hk.check,hfk,hz]
 |some q=>
  rw [hf] at hfk
  simp [Instr.lookup,run_underlying hu,MapKept.run_getObj_map hb,hk.check,hfk]
end
end Go.Vc
set_option maxRecDepth 20000
namespace Go.Vc
theorem Cs {v c:Nat} (hv:v<16777216) (hc:c<256):hX .u32 (bg .u32 (v:Int) 8) (u32 (c:Int))=((256*v+c:Nat):Int):=by
 have hmx:IntKind.max .u32=4294967295:=rfl
 have e1:bg .u32 (v:Int) 8=((v*256:Nat):Int):=by
  have:=cW (k:= .u32) (a:=v) (b:=8) (by decide) (by rw [hmx];omega)
  simpa using this
 have e3:v*256|||c=256*v+c:=by
  rw [Nat.mul_comm v 256]
  exact (Nat.two_pow_add_eq_or_of_lt (i:=8) (by omega) v).symm
 rw [e1,eV (by omega),mz (by rw [hmx];omega) (by rw [hmx];omega) (by rw [e3,hmx];omega),e3]
end Go.Vc
namespace Go.Hd
open Go.Inc Go.Srt
def lp (s:HS):Prop:=s.at_≤3∧(s.at_<3→s.v=0)∧s.v≤65536
def fN (n:Nat) (m:MS):Prop:=
 (m.at_=0∧m=dD)∨(m.at_=1∧m.v≤n∧m.M=0∧m.P=0∧m.sum=0∧m.many=0)∨(m.at_=2∧1≤m.M∧m.M≤n∧m.v≤m.M∧m.P=0∧m.sum=0∧m.many=0)∨
 (m.at_=3∧1≤m.M∧m.M≤n∧1≤m.P∧m.P≤m.M∧m.v=0∧m.many≤3∧m.sum<256^m.many)∨
 (m.at_=5∧m.M=0∧m.P=0∧m.v=0∧m.many≤3∧m.sum<256^m.many)
theorem ny {s s':HS} {c:Nat} (h:lp s) (hc:c<256) (he:bd s c= .more s'):lp s':=by
 unfold bd at he
 split at he
 ·split at he
  ·cases he
   exact ⟨by dsimp only;omega,fun _=>rfl,by dsimp only;omega⟩
  ·cases he
 ·split at he
  ·cases he
  ·cases he
  ·rename_i n hg
   cases he
   exact ⟨by dsimp only;omega,fun h=>by dsimp only at h;omega,(ew hc hg).1⟩
theorem wT {s:HS} {c n:Nat} (hc:c<256) (he:bd s c= .fin n):1≤n∧n≤65536:=by
 unfold bd at he
 split at he
 ·split at he<;>cases he
 ·split at he
  ·cases he
  ·rename_i n hg
   cases he
   have:=ew hc hg
   omega
  ·cases he
theorem kG {n:Nat} {s s':MS} {c:Nat} (h:fN n s) (hc:c<256) (he:aL n s c= .more s'):fN n s':=by
 obtain ⟨at_,v,M,P,sum,many⟩:=s
 unfold fN at h
 unfold aL at he
 dsimp only at h he
 split at he
 ·split at he
  ·cases he
   right;right;right;right;simp
  ·split at he
   ·cases he
    right;left;simp
   ·cases he
 ·split at he
  ·split at he
   ·cases he
   ·rename_i m hg
    have:=ew hc hg
    cases he
    right;right;left;simp;omega
   ·rename_i m hg
    have:=ew hc hg
    cases he
    right;left;simp;omega
  ·split at he
   ·split at he
    ·cases he
    ·rename_i m hg
     have:=ew hc hg
     cases he
     right;right;right;left;simp;omega
    ·rename_i m hg
     have:=ew hc hg
     cases he
     right;right;left;simp;omega
   ·split at he
    ·split at he<;>cases he
    ·cases he
     rename_i h3
     rcases h with ⟨h,_⟩|⟨h,_⟩|⟨h,_⟩|⟨h,h1⟩|⟨h,h1⟩
     ·omega
     ·omega
     ·omega
     ·right;right;right;left
      simp only
      have:256*sum+c<256^(many+1):=by rw [Nat.pow_succ];omega
      refine ⟨h,?_⟩
      omega
     ·right;right;right;right
      simp only
      have:256*sum+c<256^(many+1):=by rw [Nat.pow_succ];omega
      refine ⟨h,?_⟩
      omega
theorem lB {n:Nat} {s:MS} {c:Nat} {M P u:Nat} (h:fN n s) (he:aL n s c= .fin (.aN M P u)):1≤M∧M≤n∧1≤P∧P≤M:=by
 obtain ⟨at_,v,M',P',sum,many⟩:=s
 unfold fN at h
 unfold aL at he
 dsimp only at h he
 split at he
 ·split at he
  ·cases he
  ·split at he<;>cases he
 ·split at he
  ·split at he<;>cases he
  ·split at he
   ·split at he<;>cases he
   ·split at he
    ·split at he
     ·cases he
      omega
     ·cases he
    ·cases he
end Go.Hd
namespace Go.Proofs.YtgglghjnakclmaaGreat
open Go Go.Vc Go.Srt Go.Inc Go.Hd
abbrev T2:=Int×Int×Unit
abbrev DE (s:HS):Int×Int×Int×Int×Unit:=((s.at_:Int),(s.v:Int),(vm s.v:Int),0,())
abbrev Bm (m:MS):Int×Int×Int×Int×Int×Int×Int×Unit:=((m.at_:Int),(m.v:Int),(vm m.v:Int),(m.M:Int),(m.P:Int),(m.sum:Int),(m.many:Int),())
section
variable {E w:World} {F:List HP}
theorem AR:Tryz.prog.underlying 3=some (.int .i64):=by kernel_rfl
theorem iV:kl Tryz.prog (α:=Int) 3 (fun n=>Value.int .i64 n) where
 und:=⟨_,AR,fun a b=> .inr rfl⟩
 check:=fun e a w=>by
  have: ∀(e:Bool) (c:Int) (w:World),(Instr.checkKey e 10000 3 (.int .i64 c)).run Tryz.prog w= .ok () w:=fun e c w=>by kernel_rfl
  exact this e a w
 eq:=fun a b w=>by
  exact (run_equalIn_int w 9999 _ _ _ _ _ AR).trans (by rw [show (a==b)=decide (a=b) from rfl])
 same:=fun a=>by simp [Instr.sameBits]
theorem cV {a b c:Int} {K:Bool→World→Prop} (hK:K (decide (b≤a∧a≤c)) w):Cl Tryz.prog [kB] bJ ⟨[.int .i64 a,.int .i64 b,.int .i64 c]⟩ w K:=by
 refine qd.ok _ _ _ _ _ ?_
 (first|refine aa.dm (fun hb=> ?_) (fun hb=> ?_)|refine aa.em (fun hb=> ?_) (fun hb=> ?_)|refine aa.nm (fun hb=> ?_) (fun hb=> ?_)|refine aa.mk (fun hb=> ?_) (fun hb=> ?_))
 ·refine cR (decide_eq_decide.2 ?_) hK
  omega
 ·refine cR (decide_eq_false ?_).symm hK
  omega
theorem o0 {v:Nat} {most:Int} {K:Bool→World→Prop} (h:Hp E w F) (hv:v≤65536) (hm:(v:Int)≤most) (hK: ∀w',Hp E w' F→K true w'):
  Cl Tryz.prog [kB] dL ⟨[.agg ⟨[.int .i64 (v:Int),.int .i64 (vm v:Int)]⟩,.int .i64 most]⟩ w K:=by
 refine qZ.ok ((v:Int),(vm v:Int),()) _ _ _ ?_
 (try simp only [au,ah,ak,Nat.zero_add,Nat.add_zero,Nat.reduceAdd,Bool.not_true,Bool.not_false,aD,aC,Option.isNone])
 (with_reducible repeat first|refine Nw.mk h fun b w h=> ?_|refine ag.mk h fun w h=> ?_|refine Ld.xb h rfl ?_|refine Ld.xt h rfl ?_|refine ab.xb (fun _ h=>h) rfl ?_|refine ab.xt (fun _ h=>h) rfl ?_|refine ⟨h.hb,?_⟩|refine ae.xw h rfl rfl fun w h=> ?_|(refine ae.xs h rfl rfl fun w h=> ?_;dsimp only [af,ad] at h)|(refine St.xs h rfl rfl fun w h=> ?_;dsimp only [af,ad] at h)|refine aa.yes ?_|refine aa.no ?_|refine ⟨by first|omega|decide,?_⟩)
 refine qE h hv fun w h=> ?_
 (with_reducible repeat first|refine Nw.mk h fun b w h=> ?_|refine ag.mk h fun w h=> ?_|refine Ld.xb h rfl ?_|refine Ld.xt h rfl ?_|refine ab.xb (fun _ h=>h) rfl ?_|refine ab.xt (fun _ h=>h) rfl ?_|refine ⟨h.hb,?_⟩|refine ae.xw h rfl rfl fun w h=> ?_|(refine ae.xs h rfl rfl fun w h=> ?_;dsimp only [af,ad] at h)|(refine St.xs h rfl rfl fun w h=> ?_;dsimp only [af,ad] at h)|refine aa.yes ?_|refine aa.no ?_|refine ⟨by first|omega|decide,?_⟩)
 exact cR (decide_eq_true hm) (hK _ h.tl)
theorem rL {v c most:Nat} {K:T2→Bool→Bool→World→Prop} (h:Hp E w F) (hv:v≤most) (hm:most≤65536) (hc:c<256)
  (hbad:grow most v c=none→∀o d w',Hp E w' F→K o d false w')
  (hK: ∀n d,grow most v c=some (n,d)→∀k w',(d=false→k=(vm n:Int))→Hp E w' F→K ((n:Int),k,()) d true w'):
  Cl Tryz.prog [.st [.int .i64,.int .i64],kB,kB] ed ⟨[.agg ⟨[.int .i64 (v:Int),.int .i64 (vm v:Int)]⟩,.int .u8 (c:Int),.int .i64 (most:Int)]⟩ w K:=by
 refine tq.ok ((v:Int),(vm v:Int),()) _ _ _ _ ?_
 (try simp only [au,ah,ak,Nat.zero_add,Nat.add_zero,Nat.reduceAdd,Bool.not_true,Bool.not_false,aD,aC,Option.isNone])
 (with_reducible repeat first|refine Nw.mk h fun b w h=> ?_|refine ag.mk h fun w h=> ?_|refine Ld.xb h rfl ?_|refine Ld.xt h rfl ?_|refine ab.xb (fun _ h=>h) rfl ?_|refine ab.xt (fun _ h=>h) rfl ?_|refine ⟨h.hb,?_⟩|refine ae.xw h rfl rfl fun w h=> ?_|(refine ae.xs h rfl rfl fun w h=> ?_;dsimp only [af,ad] at h)|(refine St.xs h rfl rfl fun w h=> ?_;dsimp only [af,ad] at h)|refine aa.yes ?_|refine aa.no ?_|refine ⟨by first|omega|decide,?_⟩)
 refine zA h (by omega) hc (fun hb w h=> ?_) (fun hb w h=> ?_)
 ·(with_reducible repeat first|refine Nw.mk h fun b w h=> ?_|refine ag.mk h fun w h=> ?_|refine Ld.xb h rfl ?_|refine Ld.xt h rfl ?_|refine ab.xb (fun _ h=>h) rfl ?_|refine ab.xt (fun _ h=>h) rfl ?_|refine ⟨h.hb,?_⟩|refine ae.xw h rfl rfl fun w h=> ?_|(refine ae.xs h rfl rfl fun w h=> ?_;dsimp only [af,ad] at h)|(refine St.xs h rfl rfl fun w h=> ?_;dsimp only [af,ad] at h)|refine aa.yes ?_|refine aa.no ?_|refine ⟨by first|omega|decide,?_⟩)
  exact hbad (by unfold grow;rw [if_pos hb]) _ _ _ h.tl
 ·(with_reducible repeat first|refine Nw.mk h fun b w h=> ?_|refine ag.mk h fun w h=> ?_|refine Ld.xb h rfl ?_|refine Ld.xt h rfl ?_|refine ab.xb (fun _ h=>h) rfl ?_|refine ab.xt (fun _ h=>h) rfl ?_|refine ⟨h.hb,?_⟩|refine ae.xw h rfl rfl fun w h=> ?_|(refine ae.xs h rfl rfl fun w h=> ?_;dsimp only [af,ad] at h)|(refine St.xs h rfl rfl fun w h=> ?_;dsimp only [af,ad] at h)|refine aa.yes ?_|refine aa.no ?_|refine ⟨by first|omega|decide,?_⟩)
  by_cases hc1:c<128
  ·rw [decide_eq_true hc1]
   by_cases hle:128*v+c % 128≤most
   ·(with_reducible repeat first|refine Nw.mk h fun b w h=> ?_|refine ag.mk h fun w h=> ?_|refine Ld.xb h rfl ?_|refine Ld.xt h rfl ?_|refine ab.xb (fun _ h=>h) rfl ?_|refine ab.xt (fun _ h=>h) rfl ?_|refine ⟨h.hb,?_⟩|refine ae.xw h rfl rfl fun w h=> ?_|(refine ae.xs h rfl rfl fun w h=> ?_;dsimp only [af,ad] at h)|(refine St.xs h rfl rfl fun w h=> ?_;dsimp only [af,ad] at h)|refine aa.yes ?_|refine aa.no ?_|refine ⟨by first|omega|decide,?_⟩)
    (try simp only [au,ah,ak,Nat.zero_add,Nat.add_zero,Nat.reduceAdd,Bool.not_true,Bool.not_false,aD,aC,Option.isNone])
    (with_reducible repeat first|refine Nw.mk h fun b w h=> ?_|refine ag.mk h fun w h=> ?_|refine Ld.xb h rfl ?_|refine Ld.xt h rfl ?_|refine ab.xb (fun _ h=>h) rfl ?_|refine ab.xt (fun _ h=>h) rfl ?_|refine ⟨h.hb,?_⟩|refine ae.xw h rfl rfl fun w h=> ?_|(refine ae.xs h rfl rfl fun w h=> ?_;dsimp only [af,ad] at h)|(refine St.xs h rfl rfl fun w h=> ?_;dsimp only [af,ad] at h)|refine aa.yes ?_|refine aa.no ?_|refine ⟨by first|omega|decide,?_⟩)
    by_cases h0:0<128*v+c % 128
    ·refine cR (decide_eq_true (by omega)) (hK _ true ?_ _ _ (fun hh=>by cases hh) h.tl)
     unfold grow
     rw [if_neg hb,if_pos ⟨hle,fun _=>h0⟩,decide_eq_true hc1]
    ·refine cR (decide_eq_false (by omega)) (hbad ?_ _ _ _ h.tl)
     unfold grow
     rw [if_neg hb,if_neg (fun hh=>h0 (hh.2 hc1))]
   ·(with_reducible repeat first|refine Nw.mk h fun b w h=> ?_|refine ag.mk h fun w h=> ?_|refine Ld.xb h rfl ?_|refine Ld.xt h rfl ?_|refine ab.xb (fun _ h=>h) rfl ?_|refine ab.xt (fun _ h=>h) rfl ?_|refine ⟨h.hb,?_⟩|refine ae.xw h rfl rfl fun w h=> ?_|(refine ae.xs h rfl rfl fun w h=> ?_;dsimp only [af,ad] at h)|(refine St.xs h rfl rfl fun w h=> ?_;dsimp only [af,ad] at h)|refine aa.yes ?_|refine aa.no ?_|refine ⟨by first|omega|decide,?_⟩)
    refine hbad ?_ _ _ _ h.tl
    unfold grow
    rw [if_neg hb,if_neg (fun hh=>hle hh.1)]
  ·rw [decide_eq_false hc1]
   by_cases hle:128*v+c % 128≤most
   ·(with_reducible repeat first|refine Nw.mk h fun b w h=> ?_|refine ag.mk h fun w h=> ?_|refine Ld.xb h rfl ?_|refine Ld.xt h rfl ?_|refine ab.xb (fun _ h=>h) rfl ?_|refine ab.xt (fun _ h=>h) rfl ?_|refine ⟨h.hb,?_⟩|refine ae.xw h rfl rfl fun w h=> ?_|(refine ae.xs h rfl rfl fun w h=> ?_;dsimp only [af,ad] at h)|(refine St.xs h rfl rfl fun w h=> ?_;dsimp only [af,ad] at h)|refine aa.yes ?_|refine aa.no ?_|refine ⟨by first|omega|decide,?_⟩)
    (try simp only [au,ah,ak,Nat.zero_add,Nat.add_zero,Nat.reduceAdd,Bool.not_true,Bool.not_false,aD,aC,Option.isNone])
    (with_reducible repeat first|refine Nw.mk h fun b w h=> ?_|refine ag.mk h fun w h=> ?_|refine Ld.xb h rfl ?_|refine Ld.xt h rfl ?_|refine ab.xb (fun _ h=>h) rfl ?_|refine ab.xt (fun _ h=>h) rfl ?_|refine ⟨h.hb,?_⟩|refine ae.xw h rfl rfl fun w h=> ?_|(refine ae.xs h rfl rfl fun w h=> ?_;dsimp only [af,ad] at h)|(refine St.xs h rfl rfl fun w h=> ?_;dsimp only [af,ad] at h)|refine aa.yes ?_|refine aa.no ?_|refine ⟨by first|omega|decide,?_⟩)
    refine hK _ false ?_ _ _ (fun _=>by rw [tZ (by omega) (by omega) hc hb]) h.tl
    unfold grow
    rw [if_neg hb,if_pos ⟨hle,fun hh=>absurd hh hc1⟩,decide_eq_false hc1]
   ·(with_reducible repeat first|refine Nw.mk h fun b w h=> ?_|refine ag.mk h fun w h=> ?_|refine Ld.xb h rfl ?_|refine Ld.xt h rfl ?_|refine ab.xb (fun _ h=>h) rfl ?_|refine ab.xt (fun _ h=>h) rfl ?_|refine ⟨h.hb,?_⟩|refine ae.xw h rfl rfl fun w h=> ?_|(refine ae.xs h rfl rfl fun w h=> ?_;dsimp only [af,ad] at h)|(refine St.xs h rfl rfl fun w h=> ?_;dsimp only [af,ad] at h)|refine aa.yes ?_|refine aa.no ?_|refine ⟨by first|omega|decide,?_⟩)
    refine hbad ?_ _ _ _ h.tl
    unfold grow
    rw [if_neg hb,if_neg (fun hh=>hle hh.1)]
theorem xp {s:HS} {K:Bool→World→Prop} (h:Hp E w F) (hs:lp s) (hK: ∀w',Hp E w' F→K true w'):
  Cl Tryz.prog [kB] gN ⟨[.agg ⟨[.int .i64 (s.at_:Int),.int .i64 (s.v:Int),.int .i64 (vm s.v:Int),.int .i64 0]⟩]⟩ w K:=by
 obtain ⟨at_,v⟩:=s
 obtain ⟨h1,h2,h3⟩:=hs
 dsimp only at h1 h2 h3⊢
 refine qM.ok ((at_:Int),(v:Int),(vm v:Int),0,()) _ _ ?_
 (try simp only [au,ah,ak,Nat.zero_add,Nat.add_zero,Nat.reduceAdd,Bool.not_true,Bool.not_false,aD,aC,Option.isNone])
 (with_reducible repeat first|refine Nw.mk h fun b w h=> ?_|refine ag.mk h fun w h=> ?_|refine Ld.xb h rfl ?_|refine Ld.xt h rfl ?_|refine ab.xb (fun _ h=>h) rfl ?_|refine ab.xt (fun _ h=>h) rfl ?_|refine ⟨h.hb,?_⟩|refine ae.xw h rfl rfl fun w h=> ?_|(refine ae.xs h rfl rfl fun w h=> ?_;dsimp only [af,ad] at h)|(refine St.xs h rfl rfl fun w h=> ?_;dsimp only [af,ad] at h)|refine aa.yes ?_|refine aa.no ?_|refine ⟨by first|omega|decide,?_⟩)
 by_cases ha:at_=3
 ·subst ha
  (with_reducible repeat first|refine Nw.mk h fun b w h=> ?_|refine ag.mk h fun w h=> ?_|refine Ld.xb h rfl ?_|refine Ld.xt h rfl ?_|refine ab.xb (fun _ h=>h) rfl ?_|refine ab.xt (fun _ h=>h) rfl ?_|refine ⟨h.hb,?_⟩|refine ae.xw h rfl rfl fun w h=> ?_|(refine ae.xs h rfl rfl fun w h=> ?_;dsimp only [af,ad] at h)|(refine St.xs h rfl rfl fun w h=> ?_;dsimp only [af,ad] at h)|refine aa.yes ?_|refine aa.no ?_|refine ⟨by first|omega|decide,?_⟩)
  refine o0 h h3 (by omega) fun w h=> ?_
  (with_reducible repeat first|refine Nw.mk h fun b w h=> ?_|refine ag.mk h fun w h=> ?_|refine Ld.xb h rfl ?_|refine Ld.xt h rfl ?_|refine ab.xb (fun _ h=>h) rfl ?_|refine ab.xt (fun _ h=>h) rfl ?_|refine ⟨h.hb,?_⟩|refine ae.xw h rfl rfl fun w h=> ?_|(refine ae.xs h rfl rfl fun w h=> ?_;dsimp only [af,ad] at h)|(refine St.xs h rfl rfl fun w h=> ?_;dsimp only [af,ad] at h)|refine aa.yes ?_|refine aa.no ?_|refine ⟨by first|omega|decide,?_⟩)
  exact hK _ h.tl
 ·(with_reducible repeat first|refine Nw.mk h fun b w h=> ?_|refine ag.mk h fun w h=> ?_|refine Ld.xb h rfl ?_|refine Ld.xt h rfl ?_|refine ab.xb (fun _ h=>h) rfl ?_|refine ab.xt (fun _ h=>h) rfl ?_|refine ⟨h.hb,?_⟩|refine ae.xw h rfl rfl fun w h=> ?_|(refine ae.xs h rfl rfl fun w h=> ?_;dsimp only [af,ad] at h)|(refine St.xs h rfl rfl fun w h=> ?_;dsimp only [af,ad] at h)|refine aa.yes ?_|refine aa.no ?_|refine ⟨by first|omega|decide,?_⟩)
  refine cV ?_
  (with_reducible repeat first|refine Nw.mk h fun b w h=> ?_|refine ag.mk h fun w h=> ?_|refine Ld.xb h rfl ?_|refine Ld.xt h rfl ?_|refine ab.xb (fun _ h=>h) rfl ?_|refine ab.xt (fun _ h=>h) rfl ?_|refine ⟨h.hb,?_⟩|refine ae.xw h rfl rfl fun w h=> ?_|(refine ae.xs h rfl rfl fun w h=> ?_;dsimp only [af,ad] at h)|(refine St.xs h rfl rfl fun w h=> ?_;dsimp only [af,ad] at h)|refine aa.yes ?_|refine aa.no ?_|refine ⟨by first|omega|decide,?_⟩)
  have:=h2 (by omega)
  subst this
  refine cR ?_ (hK _ h.tl)
  simp [vm]
theorem zP {s:HS} {c:Nat} {K:Int×Int×Int×Int×Unit→Bool→Int→World→Prop} (h:Hp E w F) (hs:lp s) (hc:c<256)
  (hm: ∀s' w',bd s c= .more s'→Hp E w' F→K (DE s') false 0 w')
  (hf: ∀n w',bd s c= .fin n→Hp E w' F→K (4,0,0,(n:Int),()) true 0 w')
  (hb: ∀e o w',bd s c= .bad e→Hp E w' F→K o false (e:Int) w'):
  Cl Tryz.prog [.st [.int .i64,.int .i64,.int .i64,.int .i64],kB,kI] iv ⟨[.agg ⟨[.int .i64 (s.at_:Int),.int .i64 (s.v:Int),.int .i64 (vm s.v:Int),.int .i64 0]⟩,.int .u8 (c:Int)]⟩ w K:=by
 obtain ⟨at_,v⟩:=s
 obtain ⟨h1,h2,h3⟩:=hs
 dsimp only at h1 h2 h3⊢
 refine s9.ok ((at_:Int),(v:Int),(vm v:Int),0,()) _ _ _ ?_
 (try simp only [au,ah,ak,Nat.zero_add,Nat.add_zero,Nat.reduceAdd,Bool.not_true,Bool.not_false,aD,aC,Option.isNone])
 (with_reducible repeat first|refine Nw.mk h fun b w h=> ?_|refine ag.mk h fun w h=> ?_|refine Ld.xb h rfl ?_|refine Ld.xt h rfl ?_|refine ab.xb (fun _ h=>h) rfl ?_|refine ab.xt (fun _ h=>h) rfl ?_|refine ⟨h.hb,?_⟩|refine ae.xw h rfl rfl fun w h=> ?_|(refine ae.xs h rfl rfl fun w h=> ?_;dsimp only [af,ad] at h)|(refine St.xs h rfl rfl fun w h=> ?_;dsimp only [af,ad] at h)|refine aa.yes ?_|refine aa.no ?_|refine ⟨by first|omega|decide,?_⟩)
 refine xp (s:=⟨at_,v⟩) h ⟨h1,h2,h3⟩ fun w h=> ?_
 (try simp only [au,ah,ak,Nat.zero_add,Nat.add_zero,Nat.reduceAdd,Bool.not_true,Bool.not_false,aD,aC,Option.isNone])
 (with_reducible repeat first|refine Nw.mk h fun b w h=> ?_|refine ag.mk h fun w h=> ?_|refine Ld.xb h rfl ?_|refine Ld.xt h rfl ?_|refine ab.xb (fun _ h=>h) rfl ?_|refine ab.xt (fun _ h=>h) rfl ?_|refine ⟨h.hb,?_⟩|refine ae.xw h rfl rfl fun w h=> ?_|(refine ae.xs h rfl rfl fun w h=> ?_;dsimp only [af,ad] at h)|(refine St.xs h rfl rfl fun w h=> ?_;dsimp only [af,ad] at h)|refine aa.yes ?_|refine aa.no ?_|refine ⟨by first|omega|decide,?_⟩)
 by_cases ha:at_<3
 ·have:=h2 ha
  subst this
  have hx:((qh (ByteArray.mk #[87,80,1]) ((at_:Int)).toNat:Int))=((gD at_:Nat):Int):=by
   rw [Int.toNat_natCast]
   have:at_=0∨at_=1∨at_=2:=by omega
   rcases this with rfl|rfl|rfl<;>rfl
  (with_reducible repeat first|refine Nw.mk h fun b w h=> ?_|refine ag.mk h fun w h=> ?_|refine Ld.xb h rfl ?_|refine Ld.xt h rfl ?_|refine ab.xb (fun _ h=>h) rfl ?_|refine ab.xt (fun _ h=>h) rfl ?_|refine ⟨h.hb,?_⟩|refine ae.xw h rfl rfl fun w h=> ?_|(refine ae.xs h rfl rfl fun w h=> ?_;dsimp only [af,ad] at h)|(refine St.xs h rfl rfl fun w h=> ?_;dsimp only [af,ad] at h)|refine aa.yes ?_|refine aa.no ?_|refine ⟨by first|omega|decide,?_⟩)
  rw [hx]
  refine ⟨by have:(((ByteArray.mk #[87,80,1]).size:Nat):Int)=3:=rfl
             omega,?_⟩
  by_cases hcm:c=gD at_
  ·refine aa.et (by omega) ?_
   (with_reducible repeat first|refine Nw.mk h fun b w h=> ?_|refine ag.mk h fun w h=> ?_|refine Ld.xb h rfl ?_|refine Ld.xt h rfl ?_|refine ab.xb (fun _ h=>h) rfl ?_|refine ab.xt (fun _ h=>h) rfl ?_|refine ⟨h.hb,?_⟩|refine ae.xw h rfl rfl fun w h=> ?_|(refine ae.xs h rfl rfl fun w h=> ?_;dsimp only [af,ad] at h)|(refine St.xs h rfl rfl fun w h=> ?_;dsimp only [af,ad] at h)|refine aa.yes ?_|refine aa.no ?_|refine ⟨by first|omega|decide,?_⟩)
   rw [aj (by omega)]
   exact hm ⟨at_+1,0⟩ _ (by unfold bd;dsimp only;rw [if_pos ha,if_pos hcm]) h.tl
  ·refine aa.ef (by omega) ?_
   (with_reducible repeat first|refine Nw.mk h fun b w h=> ?_|refine ag.mk h fun w h=> ?_|refine Ld.xb h rfl ?_|refine Ld.xt h rfl ?_|refine ab.xb (fun _ h=>h) rfl ?_|refine ab.xt (fun _ h=>h) rfl ?_|refine ⟨h.hb,?_⟩|refine ae.xw h rfl rfl fun w h=> ?_|(refine ae.xs h rfl rfl fun w h=> ?_;dsimp only [af,ad] at h)|(refine St.xs h rfl rfl fun w h=> ?_;dsimp only [af,ad] at h)|refine aa.yes ?_|refine aa.no ?_|refine ⟨by first|omega|decide,?_⟩)
   by_cases ha2:at_=2
   ·(with_reducible repeat first|refine Nw.mk h fun b w h=> ?_|refine ag.mk h fun w h=> ?_|refine Ld.xb h rfl ?_|refine Ld.xt h rfl ?_|refine ab.xb (fun _ h=>h) rfl ?_|refine ab.xt (fun _ h=>h) rfl ?_|refine ⟨h.hb,?_⟩|refine ae.xw h rfl rfl fun w h=> ?_|(refine ae.xs h rfl rfl fun w h=> ?_;dsimp only [af,ad] at h)|(refine St.xs h rfl rfl fun w h=> ?_;dsimp only [af,ad] at h)|refine aa.yes ?_|refine aa.no ?_|refine ⟨by first|omega|decide,?_⟩)
    exact hb 241 _ _ (by unfold bd;dsimp only;rw [if_pos ha,if_neg hcm,if_pos ha2]) h.tl
   ·(with_reducible repeat first|refine Nw.mk h fun b w h=> ?_|refine ag.mk h fun w h=> ?_|refine Ld.xb h rfl ?_|refine Ld.xt h rfl ?_|refine ab.xb (fun _ h=>h) rfl ?_|refine ab.xt (fun _ h=>h) rfl ?_|refine ⟨h.hb,?_⟩|refine ae.xw h rfl rfl fun w h=> ?_|(refine ae.xs h rfl rfl fun w h=> ?_;dsimp only [af,ad] at h)|(refine St.xs h rfl rfl fun w h=> ?_;dsimp only [af,ad] at h)|refine aa.yes ?_|refine aa.no ?_|refine ⟨by first|omega|decide,?_⟩)
    exact hb 240 _ _ (by unfold bd;dsimp only;rw [if_pos ha,if_neg hcm,if_neg ha2]) h.tl
 ·(with_reducible repeat first|refine Nw.mk h fun b w h=> ?_|refine ag.mk h fun w h=> ?_|refine Ld.xb h rfl ?_|refine Ld.xt h rfl ?_|refine ab.xb (fun _ h=>h) rfl ?_|refine ab.xt (fun _ h=>h) rfl ?_|refine ⟨h.hb,?_⟩|refine ae.xw h rfl rfl fun w h=> ?_|(refine ae.xs h rfl rfl fun w h=> ?_;dsimp only [af,ad] at h)|(refine St.xs h rfl rfl fun w h=> ?_;dsimp only [af,ad] at h)|refine aa.yes ?_|refine aa.no ?_|refine ⟨by first|omega|decide,?_⟩)
  refine rL (most:=65536) h h3 (by omega) hc (fun hg o d w h=> ?_) (fun n d hg k w hk h=> ?_)
  ·(with_reducible repeat first|refine Nw.mk h fun b w h=> ?_|refine ag.mk h fun w h=> ?_|refine Ld.xb h rfl ?_|refine Ld.xt h rfl ?_|refine ab.xb (fun _ h=>h) rfl ?_|refine ab.xt (fun _ h=>h) rfl ?_|refine ⟨h.hb,?_⟩|refine ae.xw h rfl rfl fun w h=> ?_|(refine ae.xs h rfl rfl fun w h=> ?_;dsimp only [af,ad] at h)|(refine St.xs h rfl rfl fun w h=> ?_;dsimp only [af,ad] at h)|refine aa.yes ?_|refine aa.no ?_|refine ⟨by first|omega|decide,?_⟩)
   (try simp only [au,ah,ak,Nat.zero_add,Nat.add_zero,Nat.reduceAdd,Bool.not_true,Bool.not_false,aD,aC,Option.isNone])
   (with_reducible repeat first|refine Nw.mk h fun b w h=> ?_|refine ag.mk h fun w h=> ?_|refine Ld.xb h rfl ?_|refine Ld.xt h rfl ?_|refine ab.xb (fun _ h=>h) rfl ?_|refine ab.xt (fun _ h=>h) rfl ?_|refine ⟨h.hb,?_⟩|refine ae.xw h rfl rfl fun w h=> ?_|(refine ae.xs h rfl rfl fun w h=> ?_;dsimp only [af,ad] at h)|(refine St.xs h rfl rfl fun w h=> ?_;dsimp only [af,ad] at h)|refine aa.yes ?_|refine aa.no ?_|refine ⟨by first|omega|decide,?_⟩)
   exact hb 242 _ _ (by unfold bd;dsimp only;rw [if_neg ha,hg]) h.tl
  ·cases d
   ·have:=hk rfl
    subst this
    (with_reducible repeat first|refine Nw.mk h fun b w h=> ?_|refine ag.mk h fun w h=> ?_|refine Ld.xb h rfl ?_|refine Ld.xt h rfl ?_|refine ab.xb (fun _ h=>h) rfl ?_|refine ab.xt (fun _ h=>h) rfl ?_|refine ⟨h.hb,?_⟩|refine ae.xw h rfl rfl fun w h=> ?_|(refine ae.xs h rfl rfl fun w h=> ?_;dsimp only [af,ad] at h)|(refine St.xs h rfl rfl fun w h=> ?_;dsimp only [af,ad] at h)|refine aa.yes ?_|refine aa.no ?_|refine ⟨by first|omega|decide,?_⟩)
    (try simp only [au,ah,ak,Nat.zero_add,Nat.add_zero,Nat.reduceAdd,Bool.not_true,Bool.not_false,aD,aC,Option.isNone])
    (with_reducible repeat first|refine Nw.mk h fun b w h=> ?_|refine ag.mk h fun w h=> ?_|refine Ld.xb h rfl ?_|refine Ld.xt h rfl ?_|refine ab.xb (fun _ h=>h) rfl ?_|refine ab.xt (fun _ h=>h) rfl ?_|refine ⟨h.hb,?_⟩|refine ae.xw h rfl rfl fun w h=> ?_|(refine ae.xs h rfl rfl fun w h=> ?_;dsimp only [af,ad] at h)|(refine St.xs h rfl rfl fun w h=> ?_;dsimp only [af,ad] at h)|refine aa.yes ?_|refine aa.no ?_|refine ⟨by first|omega|decide,?_⟩)
    exact hm ⟨3,n⟩ _ (by unfold bd;dsimp only;rw [if_neg ha,hg]) h.tl
   ·(with_reducible repeat first|refine Nw.mk h fun b w h=> ?_|refine ag.mk h fun w h=> ?_|refine Ld.xb h rfl ?_|refine Ld.xt h rfl ?_|refine ab.xb (fun _ h=>h) rfl ?_|refine ab.xt (fun _ h=>h) rfl ?_|refine ⟨h.hb,?_⟩|refine ae.xw h rfl rfl fun w h=> ?_|(refine ae.xs h rfl rfl fun w h=> ?_;dsimp only [af,ad] at h)|(refine St.xs h rfl rfl fun w h=> ?_;dsimp only [af,ad] at h)|refine aa.yes ?_|refine aa.no ?_|refine ⟨by first|omega|decide,?_⟩)
    (try simp only [au,ah,ak,Nat.zero_add,Nat.add_zero,Nat.reduceAdd,Bool.not_true,Bool.not_false,aD,aC,Option.isNone])
    (with_reducible repeat first|refine Nw.mk h fun b w h=> ?_|refine ag.mk h fun w h=> ?_|refine Ld.xb h rfl ?_|refine Ld.xt h rfl ?_|refine ab.xb (fun _ h=>h) rfl ?_|refine ab.xt (fun _ h=>h) rfl ?_|refine ⟨h.hb,?_⟩|refine ae.xw h rfl rfl fun w h=> ?_|(refine ae.xs h rfl rfl fun w h=> ?_;dsimp only [af,ad] at h)|(refine St.xs h rfl rfl fun w h=> ?_;dsimp only [af,ad] at h)|refine aa.yes ?_|refine aa.no ?_|refine ⟨by first|omega|decide,?_⟩)
    exact hf n _ (by unfold bd;dsimp only;rw [if_neg ha,hg]) h.tl
end
end Go.Proofs.YtgglghjnakclmaaGreat
set_option maxRecDepth 20000
namespace Go.Proofs.YtgglghjnakclmaaGreat
open Go Go.Vc Go.Srt Go.Inc Go.Hd
section
variable {E w:World} {F:List HP}
theorem vP {s m:Nat} {K:Bool→World→Prop} (hm:m≤3) (hs:s<256^m) (hK:K true w):Cl Tryz.prog [kB] fz ⟨[.int .u32 (s:Int),.int .i64 (m:Int)]⟩ w K:=by
 refine tk.ok _ _ _ _ ?_
 refine cV ?_
 (with_reducible repeat first|refine Nw.mk h fun b w h=> ?_|refine ag.mk h fun w h=> ?_|refine Ld.xb h rfl ?_|refine Ld.xt h rfl ?_|refine ab.xb (fun _ h=>h) rfl ?_|refine ab.xt (fun _ h=>h) rfl ?_|refine ⟨h.hb,?_⟩|refine ae.xw h rfl rfl fun w h=> ?_|(refine ae.xs h rfl rfl fun w h=> ?_;dsimp only [af,ad] at h)|(refine St.xs h rfl rfl fun w h=> ?_;dsimp only [af,ad] at h)|refine aa.yes ?_|refine aa.no ?_|refine ⟨by first|omega|decide,?_⟩)
 rw [aj (by omega)]
 refine ⟨by omega,cR ?_ hK⟩
 rw [show (8*(m:Int))=((8*m:Nat):Int) by omega,eW (by
  have:m=0∨m=1∨m=2∨m=3:=by omega
  rcases this with rfl|rfl|rfl|rfl<;>simp at hs<;>omega),eL (by have:IntKind.bits .u64=64:=rfl;omega),Nat.pow_mul,Nat.div_eq_of_lt (by simpa using hs)]
 rfl
theorem yw {n:Nat} {m:MS} {K:Bool→World→Prop} (h:Hp E w F) (hn:1≤n) (hn2:n≤65536) (hm:fN n m) (hK: ∀w',Hp E w' F→K true w'):
  Cl Tryz.prog [kB] eK ⟨[.int .i64 (n:Int),.agg ⟨[.int .i64 (m.at_:Int),.int .i64 (m.v:Int),.int .i64 (vm m.v:Int),.int .i64 (m.M:Int),.int .i64 (m.P:Int),.int .u32 (m.sum:Int),.int .i64 (m.many:Int)]⟩]⟩ w K:=by
 obtain ⟨at_,v,M,P,sum,many⟩:=m
 unfold fN at hm
 dsimp only at hm⊢
 refine nq.ok _ ((at_:Int),(v:Int),(vm v:Int),(M:Int),(P:Int),(sum:Int),(many:Int),()) _ _ ?_
 (try simp only [au,ah,ak,Nat.zero_add,Nat.add_zero,Nat.reduceAdd,Bool.not_true,Bool.not_false,aD,aC,Option.isNone])
 (with_reducible repeat first|refine Nw.mk h fun b w h=> ?_|refine ag.mk h fun w h=> ?_|refine Ld.xb h rfl ?_|refine Ld.xt h rfl ?_|refine ab.xb (fun _ h=>h) rfl ?_|refine ab.xt (fun _ h=>h) rfl ?_|refine ⟨h.hb,?_⟩|refine ae.xw h rfl rfl fun w h=> ?_|(refine ae.xs h rfl rfl fun w h=> ?_;dsimp only [af,ad] at h)|(refine St.xs h rfl rfl fun w h=> ?_;dsimp only [af,ad] at h)|refine aa.yes ?_|refine aa.no ?_|refine ⟨by first|omega|decide,?_⟩)
 refine cV ?_
 rcases hm with ⟨h1,h2⟩|⟨h1,h2,h3,h4,h5,h6⟩|⟨h1,h2,h3,h4,h5,h6,h7⟩|⟨h1,h2,h3,h4,h5,h6,h7,h8⟩|⟨h1,h2,h3,h4,h5,h6⟩
 ·cases h2
  (with_reducible repeat first|refine Nw.mk h fun b w h=> ?_|refine ag.mk h fun w h=> ?_|refine Ld.xb h rfl ?_|refine Ld.xt h rfl ?_|refine ab.xb (fun _ h=>h) rfl ?_|refine ab.xt (fun _ h=>h) rfl ?_|refine ⟨h.hb,?_⟩|refine ae.xw h rfl rfl fun w h=> ?_|(refine ae.xs h rfl rfl fun w h=> ?_;dsimp only [af,ad] at h)|(refine St.xs h rfl rfl fun w h=> ?_;dsimp only [af,ad] at h)|refine aa.yes ?_|refine aa.no ?_|refine ⟨by first|omega|decide,?_⟩)
  refine cV ?_
  (with_reducible repeat first|refine Nw.mk h fun b w h=> ?_|refine ag.mk h fun w h=> ?_|refine Ld.xb h rfl ?_|refine Ld.xt h rfl ?_|refine ab.xb (fun _ h=>h) rfl ?_|refine ab.xt (fun _ h=>h) rfl ?_|refine ⟨h.hb,?_⟩|refine ae.xw h rfl rfl fun w h=> ?_|(refine ae.xs h rfl rfl fun w h=> ?_;dsimp only [af,ad] at h)|(refine St.xs h rfl rfl fun w h=> ?_;dsimp only [af,ad] at h)|refine aa.yes ?_|refine aa.no ?_|refine ⟨by first|omega|decide,?_⟩)
  exact hK _ h.tl
 ·subst h1 h3 h4 h5 h6
  (with_reducible repeat first|refine Nw.mk h fun b w h=> ?_|refine ag.mk h fun w h=> ?_|refine Ld.xb h rfl ?_|refine Ld.xt h rfl ?_|refine ab.xb (fun _ h=>h) rfl ?_|refine ab.xt (fun _ h=>h) rfl ?_|refine ⟨h.hb,?_⟩|refine ae.xw h rfl rfl fun w h=> ?_|(refine ae.xs h rfl rfl fun w h=> ?_;dsimp only [af,ad] at h)|(refine St.xs h rfl rfl fun w h=> ?_;dsimp only [af,ad] at h)|refine aa.yes ?_|refine aa.no ?_|refine ⟨by first|omega|decide,?_⟩)
  refine cV ?_
  (with_reducible repeat first|refine Nw.mk h fun b w h=> ?_|refine ag.mk h fun w h=> ?_|refine Ld.xb h rfl ?_|refine Ld.xt h rfl ?_|refine ab.xb (fun _ h=>h) rfl ?_|refine ab.xt (fun _ h=>h) rfl ?_|refine ⟨h.hb,?_⟩|refine ae.xw h rfl rfl fun w h=> ?_|(refine ae.xs h rfl rfl fun w h=> ?_;dsimp only [af,ad] at h)|(refine St.xs h rfl rfl fun w h=> ?_;dsimp only [af,ad] at h)|refine aa.yes ?_|refine aa.no ?_|refine ⟨by first|omega|decide,?_⟩)
  refine o0 h (by omega) (by omega) fun w h=> ?_
  (with_reducible repeat first|refine Nw.mk h fun b w h=> ?_|refine ag.mk h fun w h=> ?_|refine Ld.xb h rfl ?_|refine Ld.xt h rfl ?_|refine ab.xb (fun _ h=>h) rfl ?_|refine ab.xt (fun _ h=>h) rfl ?_|refine ⟨h.hb,?_⟩|refine ae.xw h rfl rfl fun w h=> ?_|(refine ae.xs h rfl rfl fun w h=> ?_;dsimp only [af,ad] at h)|(refine St.xs h rfl rfl fun w h=> ?_;dsimp only [af,ad] at h)|refine aa.yes ?_|refine aa.no ?_|refine ⟨by first|omega|decide,?_⟩)
  refine cR ?_ (hK _ h.tl)
  simp
 ·subst h1 h5 h6 h7
  (with_reducible repeat first|refine Nw.mk h fun b w h=> ?_|refine ag.mk h fun w h=> ?_|refine Ld.xb h rfl ?_|refine Ld.xt h rfl ?_|refine ab.xb (fun _ h=>h) rfl ?_|refine ab.xt (fun _ h=>h) rfl ?_|refine ⟨h.hb,?_⟩|refine ae.xw h rfl rfl fun w h=> ?_|(refine ae.xs h rfl rfl fun w h=> ?_;dsimp only [af,ad] at h)|(refine St.xs h rfl rfl fun w h=> ?_;dsimp only [af,ad] at h)|refine aa.yes ?_|refine aa.no ?_|refine ⟨by first|omega|decide,?_⟩)
  refine cV ?_
  (with_reducible repeat first|refine Nw.mk h fun b w h=> ?_|refine ag.mk h fun w h=> ?_|refine Ld.xb h rfl ?_|refine Ld.xt h rfl ?_|refine ab.xb (fun _ h=>h) rfl ?_|refine ab.xt (fun _ h=>h) rfl ?_|refine ⟨h.hb,?_⟩|refine ae.xw h rfl rfl fun w h=> ?_|(refine ae.xs h rfl rfl fun w h=> ?_;dsimp only [af,ad] at h)|(refine St.xs h rfl rfl fun w h=> ?_;dsimp only [af,ad] at h)|refine aa.yes ?_|refine aa.no ?_|refine ⟨by first|omega|decide,?_⟩)
  refine cV ?_
  (with_reducible repeat first|refine Nw.mk h fun b w h=> ?_|refine ag.mk h fun w h=> ?_|refine Ld.xb h rfl ?_|refine Ld.xt h rfl ?_|refine ab.xb (fun _ h=>h) rfl ?_|refine ab.xt (fun _ h=>h) rfl ?_|refine ⟨h.hb,?_⟩|refine ae.xw h rfl rfl fun w h=> ?_|(refine ae.xs h rfl rfl fun w h=> ?_;dsimp only [af,ad] at h)|(refine St.xs h rfl rfl fun w h=> ?_;dsimp only [af,ad] at h)|refine aa.yes ?_|refine aa.no ?_|refine ⟨by first|omega|decide,?_⟩)
  refine cV ?_
  (with_reducible repeat first|refine Nw.mk h fun b w h=> ?_|refine ag.mk h fun w h=> ?_|refine Ld.xb h rfl ?_|refine Ld.xt h rfl ?_|refine ab.xb (fun _ h=>h) rfl ?_|refine ab.xt (fun _ h=>h) rfl ?_|refine ⟨h.hb,?_⟩|refine ae.xw h rfl rfl fun w h=> ?_|(refine ae.xs h rfl rfl fun w h=> ?_;dsimp only [af,ad] at h)|(refine St.xs h rfl rfl fun w h=> ?_;dsimp only [af,ad] at h)|refine aa.yes ?_|refine aa.no ?_|refine ⟨by first|omega|decide,?_⟩)
  refine o0 h (by omega) (by omega) fun w h=> ?_
  (with_reducible repeat first|refine Nw.mk h fun b w h=> ?_|refine ag.mk h fun w h=> ?_|refine Ld.xb h rfl ?_|refine Ld.xt h rfl ?_|refine ab.xb (fun _ h=>h) rfl ?_|refine ab.xt (fun _ h=>h) rfl ?_|refine ⟨h.hb,?_⟩|refine ae.xw h rfl rfl fun w h=> ?_|(refine ae.xs h rfl rfl fun w h=> ?_;dsimp only [af,ad] at h)|(refine St.xs h rfl rfl fun w h=> ?_;dsimp only [af,ad] at h)|refine aa.yes ?_|refine aa.no ?_|refine ⟨by first|omega|decide,?_⟩)
  refine cR ?_ (hK _ h.tl)
  simp
 ·subst h1 h6
  (with_reducible repeat first|refine Nw.mk h fun b w h=> ?_|refine ag.mk h fun w h=> ?_|refine Ld.xb h rfl ?_|refine Ld.xt h rfl ?_|refine ab.xb (fun _ h=>h) rfl ?_|refine ab.xt (fun _ h=>h) rfl ?_|refine ⟨h.hb,?_⟩|refine ae.xw h rfl rfl fun w h=> ?_|(refine ae.xs h rfl rfl fun w h=> ?_;dsimp only [af,ad] at h)|(refine St.xs h rfl rfl fun w h=> ?_;dsimp only [af,ad] at h)|refine aa.yes ?_|refine aa.no ?_|refine ⟨by first|omega|decide,?_⟩)
  refine cV ?_
  rw [decide_eq_true (show 1≤(P:Int)∧(P:Int)≤(M:Int) by omega)]
  refine cV ?_
  (with_reducible repeat first|refine Nw.mk h fun b w h=> ?_|refine ag.mk h fun w h=> ?_|refine Ld.xb h rfl ?_|refine Ld.xt h rfl ?_|refine ab.xb (fun _ h=>h) rfl ?_|refine ab.xt (fun _ h=>h) rfl ?_|refine ⟨h.hb,?_⟩|refine ae.xw h rfl rfl fun w h=> ?_|(refine ae.xs h rfl rfl fun w h=> ?_;dsimp only [af,ad] at h)|(refine St.xs h rfl rfl fun w h=> ?_;dsimp only [af,ad] at h)|refine aa.yes ?_|refine aa.no ?_|refine ⟨by first|omega|decide,?_⟩)
  refine vP h7 h8 ?_
  (with_reducible repeat first|refine Nw.mk h fun b w h=> ?_|refine ag.mk h fun w h=> ?_|refine Ld.xb h rfl ?_|refine Ld.xt h rfl ?_|refine ab.xb (fun _ h=>h) rfl ?_|refine ab.xt (fun _ h=>h) rfl ?_|refine ⟨h.hb,?_⟩|refine ae.xw h rfl rfl fun w h=> ?_|(refine ae.xs h rfl rfl fun w h=> ?_;dsimp only [af,ad] at h)|(refine St.xs h rfl rfl fun w h=> ?_;dsimp only [af,ad] at h)|refine aa.yes ?_|refine aa.no ?_|refine ⟨by first|omega|decide,?_⟩)
  exact hK _ h.tl
 ·subst h1 h2 h3 h4
  (with_reducible repeat first|refine Nw.mk h fun b w h=> ?_|refine ag.mk h fun w h=> ?_|refine Ld.xb h rfl ?_|refine Ld.xt h rfl ?_|refine ab.xb (fun _ h=>h) rfl ?_|refine ab.xt (fun _ h=>h) rfl ?_|refine ⟨h.hb,?_⟩|refine ae.xw h rfl rfl fun w h=> ?_|(refine ae.xs h rfl rfl fun w h=> ?_;dsimp only [af,ad] at h)|(refine St.xs h rfl rfl fun w h=> ?_;dsimp only [af,ad] at h)|refine aa.yes ?_|refine aa.no ?_|refine ⟨by first|omega|decide,?_⟩)
  refine cV ?_
  (with_reducible repeat first|refine Nw.mk h fun b w h=> ?_|refine ag.mk h fun w h=> ?_|refine Ld.xb h rfl ?_|refine Ld.xt h rfl ?_|refine ab.xb (fun _ h=>h) rfl ?_|refine ab.xt (fun _ h=>h) rfl ?_|refine ⟨h.hb,?_⟩|refine ae.xw h rfl rfl fun w h=> ?_|(refine ae.xs h rfl rfl fun w h=> ?_;dsimp only [af,ad] at h)|(refine St.xs h rfl rfl fun w h=> ?_;dsimp only [af,ad] at h)|refine aa.yes ?_|refine aa.no ?_|refine ⟨by first|omega|decide,?_⟩)
  refine vP h5 h6 ?_
  (with_reducible repeat first|refine Nw.mk h fun b w h=> ?_|refine ag.mk h fun w h=> ?_|refine Ld.xb h rfl ?_|refine Ld.xt h rfl ?_|refine ab.xb (fun _ h=>h) rfl ?_|refine ab.xt (fun _ h=>h) rfl ?_|refine ⟨h.hb,?_⟩|refine ae.xw h rfl rfl fun w h=> ?_|(refine ae.xs h rfl rfl fun w h=> ?_;dsimp only [af,ad] at h)|(refine St.xs h rfl rfl fun w h=> ?_;dsimp only [af,ad] at h)|refine aa.yes ?_|refine aa.no ?_|refine ⟨by first|omega|decide,?_⟩)
  refine cR ?_ (hK _ h.tl)
  simp [vm]
end
end Go.Proofs.YtgglghjnakclmaaGreat
namespace Go.Vc
open Go
section
variable {P:Program} {α β:Type} [DecidableEq α] {ke:α→Value} {ve:β→Value} {kt vt t:TypeId} {E w:World} {F:List HP} {m:Option Nat} {l:List (α×β)}
theorem gS.fn {t:Fn} {a b:Array Value} {K:Bool→Prop} (h:K false):gS (.func t a b) K:=h
theorem aA.found (hk:kl P kt ke) (hu:P.underlying t=some (.map kt vt)) {a:α} {q:Nat×β} {z:Value} {k:Ki} {x:k.T} {K:k.T→World→Prop} (hz: ∀w,(zeroValue vt).run P w= .ok z w) (h:Hp E w (ik ke ve m l::F)) (hf:findAt a l 0=some q) (hx:ve q.2=k.enc x) (hK:K x w):
  aA P (Instr.lookup t (.map m) (ke a) false) k w K:=by
 unfold aA
 rw [sX hk hu hz h,hf]
 dsimp only
 rw [hx]
 exact Ki.iN.2 hK
end
end Go.Vc
namespace Go.Proofs.YtgglghjnakclmaaGreat
open Go Go.Vc Go.Srt Go.Inc Go.Hd
abbrev dx:=Int×Int×Int×Int×Int×Int×Int×Unit
section
variable {E w:World} {F:List HP}
def uf (n:Nat) (m:MS) (c:Nat) (E:World) (F:List HP) (K:dx→Bool→World→Prop):Prop:=
 (∀m' w',aL n m c= .more m'→m'.at_≠4→m'.at_≠6→Hp E w' F→K (Bm m') true w')∧
 (∀M P u w',aL n m c= .fin (.aN M P u)→Hp E w' F→K (4,0,0,(M:Int),(P:Int),(u:Int),4,()) true w')∧
 (∀u w',aL n m c= .fin (.tail u)→Hp E w' F→K (6,0,0,0,0,(u:Int),4,()) true w')∧
 (∀e o w',aL n m c= .bad e→e=242→Hp E w' F→K o false w')
theorem AB {n:Nat} {c:Nat} {K:dx→Bool→World→Prop} (h:Hp E w F) (hc:c<256) (hK:uf n dD c E F K):
  Cl Tryz.prog [.st [.int .i64,.int .i64,.int .i64,.int .i64,.int .i64,.int .u32,.int .i64],kB] cI ⟨[.int .i64 (n:Int),.agg ⟨[.int .i64 0,.int .i64 0,.int .i64 0,.int .i64 0,.int .i64 0,.int .u32 0,.int .i64 0]⟩,.int .u8 (c:Int)]⟩ w K:=by
 obtain ⟨k1,_,_,k4⟩:=hK
 refine sQ.ok _ (0,0,0,0,0,0,0,()) _ _ _ ?_
 (try simp only [au,ah,ak,Nat.zero_add,Nat.add_zero,Nat.reduceAdd,Bool.not_true,Bool.not_false,aD,aC,Option.isNone])
 (with_reducible repeat first|refine Nw.mk h fun b w h=> ?_|refine ag.mk h fun w h=> ?_|refine Ld.xb h rfl ?_|refine Ld.xt h rfl ?_|refine ab.xb (fun _ h=>h) rfl ?_|refine ab.xt (fun _ h=>h) rfl ?_|refine ⟨h.hb,?_⟩|refine ae.xw h rfl rfl fun w h=> ?_|(refine ae.xs h rfl rfl fun w h=> ?_;dsimp only [af,ad] at h)|(refine St.xs h rfl rfl fun w h=> ?_;dsimp only [af,ad] at h)|refine aa.yes ?_|refine aa.no ?_|refine ⟨by first|omega|decide,?_⟩)
 by_cases h0:c=0
 ·subst h0
  (with_reducible repeat first|refine Nw.mk h fun b w h=> ?_|refine ag.mk h fun w h=> ?_|refine Ld.xb h rfl ?_|refine Ld.xt h rfl ?_|refine ab.xb (fun _ h=>h) rfl ?_|refine ab.xt (fun _ h=>h) rfl ?_|refine ⟨h.hb,?_⟩|refine ae.xw h rfl rfl fun w h=> ?_|(refine ae.xs h rfl rfl fun w h=> ?_;dsimp only [af,ad] at h)|(refine St.xs h rfl rfl fun w h=> ?_;dsimp only [af,ad] at h)|refine aa.yes ?_|refine aa.no ?_|refine ⟨by first|omega|decide,?_⟩)
  exact k1 ⟨5,0,0,0,0,0⟩ _ rfl (by dsimp only;decide) (by dsimp only;decide) h.tl
 ·(with_reducible repeat first|refine Nw.mk h fun b w h=> ?_|refine ag.mk h fun w h=> ?_|refine Ld.xb h rfl ?_|refine Ld.xt h rfl ?_|refine ab.xb (fun _ h=>h) rfl ?_|refine ab.xt (fun _ h=>h) rfl ?_|refine ⟨h.hb,?_⟩|refine ae.xw h rfl rfl fun w h=> ?_|(refine ae.xs h rfl rfl fun w h=> ?_;dsimp only [af,ad] at h)|(refine St.xs h rfl rfl fun w h=> ?_;dsimp only [af,ad] at h)|refine aa.yes ?_|refine aa.no ?_|refine ⟨by first|omega|decide,?_⟩)
  by_cases h1:c=1
  ·subst h1
   exact k1 ⟨1,0,0,0,0,0⟩ _ rfl (by dsimp only;decide) (by dsimp only;decide) h.tl
  ·refine cR (decide_eq_false (by omega)) (k4 242 _ _ ?_ rfl h.tl)
   unfold aL dD
   simp [h0,h1]
theorem AZ {n v:Nat} {c:Nat} {K:dx→Bool→World→Prop} (h:Hp E w F) (hn:n≤65536) (hv:v≤n) (hc:c<256) (hK:uf n ⟨1,v,0,0,0,0⟩ c E F K):
  Cl Tryz.prog [.st [.int .i64,.int .i64,.int .i64,.int .i64,.int .i64,.int .u32,.int .i64],kB] cH ⟨[.int .i64 (n:Int),.agg ⟨[.int .i64 1,.int .i64 (v:Int),.int .i64 (vm v:Int),.int .i64 0,.int .i64 0,.int .u32 0,.int .i64 0]⟩,.int .u8 (c:Int)]⟩ w K:=by
 obtain ⟨k1,_,_,k4⟩:=hK
 refine sE.ok _ (1,(v:Int),(vm v:Int),0,0,0,0,()) _ _ _ ?_
 (try simp only [au,ah,ak,Nat.zero_add,Nat.add_zero,Nat.reduceAdd,Bool.not_true,Bool.not_false,aD,aC,Option.isNone])
 (with_reducible repeat first|refine Nw.mk h fun b w h=> ?_|refine ag.mk h fun w h=> ?_|refine Ld.xb h rfl ?_|refine Ld.xt h rfl ?_|refine ab.xb (fun _ h=>h) rfl ?_|refine ab.xt (fun _ h=>h) rfl ?_|refine ⟨h.hb,?_⟩|refine ae.xw h rfl rfl fun w h=> ?_|(refine ae.xs h rfl rfl fun w h=> ?_;dsimp only [af,ad] at h)|(refine St.xs h rfl rfl fun w h=> ?_;dsimp only [af,ad] at h)|refine aa.yes ?_|refine aa.no ?_|refine ⟨by first|omega|decide,?_⟩)
 refine rL h hv hn hc (fun hg o d w h=> ?_) (fun m d hg k w hk h=> ?_)
 ·(with_reducible repeat first|refine Nw.mk h fun b w h=> ?_|refine ag.mk h fun w h=> ?_|refine Ld.xb h rfl ?_|refine Ld.xt h rfl ?_|refine ab.xb (fun _ h=>h) rfl ?_|refine ab.xt (fun _ h=>h) rfl ?_|refine ⟨h.hb,?_⟩|refine ae.xw h rfl rfl fun w h=> ?_|(refine ae.xs h rfl rfl fun w h=> ?_;dsimp only [af,ad] at h)|(refine St.xs h rfl rfl fun w h=> ?_;dsimp only [af,ad] at h)|refine aa.yes ?_|refine aa.no ?_|refine ⟨by first|omega|decide,?_⟩)
  cases d
  ·(with_reducible repeat first|refine Nw.mk h fun b w h=> ?_|refine ag.mk h fun w h=> ?_|refine Ld.xb h rfl ?_|refine Ld.xt h rfl ?_|refine ab.xb (fun _ h=>h) rfl ?_|refine ab.xt (fun _ h=>h) rfl ?_|refine ⟨h.hb,?_⟩|refine ae.xw h rfl rfl fun w h=> ?_|(refine ae.xs h rfl rfl fun w h=> ?_;dsimp only [af,ad] at h)|(refine St.xs h rfl rfl fun w h=> ?_;dsimp only [af,ad] at h)|refine aa.yes ?_|refine aa.no ?_|refine ⟨by first|omega|decide,?_⟩)
   exact k4 242 _ _ (by unfold aL;simp [hg]) rfl h.tl
  ·(with_reducible repeat first|refine Nw.mk h fun b w h=> ?_|refine ag.mk h fun w h=> ?_|refine Ld.xb h rfl ?_|refine Ld.xt h rfl ?_|refine ab.xb (fun _ h=>h) rfl ?_|refine ab.xt (fun _ h=>h) rfl ?_|refine ⟨h.hb,?_⟩|refine ae.xw h rfl rfl fun w h=> ?_|(refine ae.xs h rfl rfl fun w h=> ?_;dsimp only [af,ad] at h)|(refine St.xs h rfl rfl fun w h=> ?_;dsimp only [af,ad] at h)|refine aa.yes ?_|refine aa.no ?_|refine ⟨by first|omega|decide,?_⟩)
   exact k4 242 _ _ (by unfold aL;simp [hg]) rfl h.tl
 ·cases d
  ·have:=hk rfl
   subst this
   (with_reducible repeat first|refine Nw.mk h fun b w h=> ?_|refine ag.mk h fun w h=> ?_|refine Ld.xb h rfl ?_|refine Ld.xt h rfl ?_|refine ab.xb (fun _ h=>h) rfl ?_|refine ab.xt (fun _ h=>h) rfl ?_|refine ⟨h.hb,?_⟩|refine ae.xw h rfl rfl fun w h=> ?_|(refine ae.xs h rfl rfl fun w h=> ?_;dsimp only [af,ad] at h)|(refine St.xs h rfl rfl fun w h=> ?_;dsimp only [af,ad] at h)|refine aa.yes ?_|refine aa.no ?_|refine ⟨by first|omega|decide,?_⟩)
   exact k1 ⟨1,m,0,0,0,0⟩ _ (by unfold aL;simp [hg]) (by dsimp only;decide) (by dsimp only;decide) h.tl
  ·(with_reducible repeat first|refine Nw.mk h fun b w h=> ?_|refine ag.mk h fun w h=> ?_|refine Ld.xb h rfl ?_|refine Ld.xt h rfl ?_|refine ab.xb (fun _ h=>h) rfl ?_|refine ab.xt (fun _ h=>h) rfl ?_|refine ⟨h.hb,?_⟩|refine ae.xw h rfl rfl fun w h=> ?_|(refine ae.xs h rfl rfl fun w h=> ?_;dsimp only [af,ad] at h)|(refine St.xs h rfl rfl fun w h=> ?_;dsimp only [af,ad] at h)|refine aa.yes ?_|refine aa.no ?_|refine ⟨by first|omega|decide,?_⟩)
   exact k1 ⟨2,0,m,0,0,0⟩ _ (by unfold aL;simp [hg]) (by dsimp only;decide) (by dsimp only;decide) h.tl
theorem zx {n v M:Nat} {c:Nat} {K:dx→Bool→World→Prop} (h:Hp E w F) (hn:M≤65536) (hv:v≤M) (hc:c<256) (hK:uf n ⟨2,v,M,0,0,0⟩ c E F K):
  Cl Tryz.prog [.st [.int .i64,.int .i64,.int .i64,.int .i64,.int .i64,.int .u32,.int .i64],kB] cy ⟨[.int .i64 (n:Int),.agg ⟨[.int .i64 2,.int .i64 (v:Int),.int .i64 (vm v:Int),.int .i64 (M:Int),.int .i64 0,.int .u32 0,.int .i64 0]⟩,.int .u8 (c:Int)]⟩ w K:=by
 obtain ⟨k1,_,_,k4⟩:=hK
 refine q6.ok _ (2,(v:Int),(vm v:Int),(M:Int),0,0,0,()) _ _ _ ?_
 (try simp only [au,ah,ak,Nat.zero_add,Nat.add_zero,Nat.reduceAdd,Bool.not_true,Bool.not_false,aD,aC,Option.isNone])
 (with_reducible repeat first|refine Nw.mk h fun b w h=> ?_|refine ag.mk h fun w h=> ?_|refine Ld.xb h rfl ?_|refine Ld.xt h rfl ?_|refine ab.xb (fun _ h=>h) rfl ?_|refine ab.xt (fun _ h=>h) rfl ?_|refine ⟨h.hb,?_⟩|refine ae.xw h rfl rfl fun w h=> ?_|(refine ae.xs h rfl rfl fun w h=> ?_;dsimp only [af,ad] at h)|(refine St.xs h rfl rfl fun w h=> ?_;dsimp only [af,ad] at h)|refine aa.yes ?_|refine aa.no ?_|refine ⟨by first|omega|decide,?_⟩)
 refine rL h hv hn hc (fun hg o d w h=> ?_) (fun m d hg k w hk h=> ?_)
 ·(with_reducible repeat first|refine Nw.mk h fun b w h=> ?_|refine ag.mk h fun w h=> ?_|refine Ld.xb h rfl ?_|refine Ld.xt h rfl ?_|refine ab.xb (fun _ h=>h) rfl ?_|refine ab.xt (fun _ h=>h) rfl ?_|refine ⟨h.hb,?_⟩|refine ae.xw h rfl rfl fun w h=> ?_|(refine ae.xs h rfl rfl fun w h=> ?_;dsimp only [af,ad] at h)|(refine St.xs h rfl rfl fun w h=> ?_;dsimp only [af,ad] at h)|refine aa.yes ?_|refine aa.no ?_|refine ⟨by first|omega|decide,?_⟩)
  cases d
  ·(with_reducible repeat first|refine Nw.mk h fun b w h=> ?_|refine ag.mk h fun w h=> ?_|refine Ld.xb h rfl ?_|refine Ld.xt h rfl ?_|refine ab.xb (fun _ h=>h) rfl ?_|refine ab.xt (fun _ h=>h) rfl ?_|refine ⟨h.hb,?_⟩|refine ae.xw h rfl rfl fun w h=> ?_|(refine ae.xs h rfl rfl fun w h=> ?_;dsimp only [af,ad] at h)|(refine St.xs h rfl rfl fun w h=> ?_;dsimp only [af,ad] at h)|refine aa.yes ?_|refine aa.no ?_|refine ⟨by first|omega|decide,?_⟩)
   exact k4 242 _ _ (by unfold aL;simp [hg]) rfl h.tl
  ·(with_reducible repeat first|refine Nw.mk h fun b w h=> ?_|refine ag.mk h fun w h=> ?_|refine Ld.xb h rfl ?_|refine Ld.xt h rfl ?_|refine ab.xb (fun _ h=>h) rfl ?_|refine ab.xt (fun _ h=>h) rfl ?_|refine ⟨h.hb,?_⟩|refine ae.xw h rfl rfl fun w h=> ?_|(refine ae.xs h rfl rfl fun w h=> ?_;dsimp only [af,ad] at h)|(refine St.xs h rfl rfl fun w h=> ?_;dsimp only [af,ad] at h)|refine aa.yes ?_|refine aa.no ?_|refine ⟨by first|omega|decide,?_⟩)
   exact k4 242 _ _ (by unfold aL;simp [hg]) rfl h.tl
 ·cases d
  ·have:=hk rfl
   subst this
   (with_reducible repeat first|refine Nw.mk h fun b w h=> ?_|refine ag.mk h fun w h=> ?_|refine Ld.xb h rfl ?_|refine Ld.xt h rfl ?_|refine ab.xb (fun _ h=>h) rfl ?_|refine ab.xt (fun _ h=>h) rfl ?_|refine ⟨h.hb,?_⟩|refine ae.xw h rfl rfl fun w h=> ?_|(refine ae.xs h rfl rfl fun w h=> ?_;dsimp only [af,ad] at h)|(refine St.xs h rfl rfl fun w h=> ?_;dsimp only [af,ad] at h)|refine aa.yes ?_|refine aa.no ?_|refine ⟨by first|omega|decide,?_⟩)
   exact k1 ⟨2,m,M,0,0,0⟩ _ (by unfold aL;simp [hg]) (by dsimp only;decide) (by dsimp only;decide) h.tl
  ·(with_reducible repeat first|refine Nw.mk h fun b w h=> ?_|refine ag.mk h fun w h=> ?_|refine Ld.xb h rfl ?_|refine Ld.xt h rfl ?_|refine ab.xb (fun _ h=>h) rfl ?_|refine ab.xt (fun _ h=>h) rfl ?_|refine ⟨h.hb,?_⟩|refine ae.xw h rfl rfl fun w h=> ?_|(refine ae.xs h rfl rfl fun w h=> ?_;dsimp only [af,ad] at h)|(refine St.xs h rfl rfl fun w h=> ?_;dsimp only [af,ad] at h)|refine aa.yes ?_|refine aa.no ?_|refine ⟨by first|omega|decide,?_⟩)
   exact k1 ⟨3,0,M,m,0,0⟩ _ (by unfold aL;simp [hg]) (by dsimp only;decide) (by dsimp only;decide) h.tl
theorem yR {n a M P sum many:Nat} {c:Nat} {K:dx→Bool→World→Prop} (h:Hp E w F) (ha:a=3∨(a=5∧M=0∧P=0)) (hm:many≤3) (hs:sum<256^many) (hc:c<256) (hK:uf n ⟨a,0,M,P,sum,many⟩ c E F K):
  Cl Tryz.prog [.st [.int .i64,.int .i64,.int .i64,.int .i64,.int .i64,.int .u32,.int .i64],kB] bG ⟨[.int .i64 (n:Int),.agg ⟨[.int .i64 (a:Int),.int .i64 0,.int .i64 0,.int .i64 (M:Int),.int .i64 (P:Int),.int .u32 (sum:Int),.int .i64 (many:Int)]⟩,.int .u8 (c:Int)]⟩ w K:=by
 obtain ⟨k1,k2,k3,k4⟩:=hK
 have hs2:sum<16777216:=by
  have:256^many≤256^3:=Nat.pow_le_pow_right (by decide) hm
  omega
 refine u4.ok _ ((a:Int),0,0,(M:Int),(P:Int),(sum:Int),(many:Int),()) _ _ _ ?_
 (try simp only [au,ah,ak,Nat.zero_add,Nat.add_zero,Nat.reduceAdd,Bool.not_true,Bool.not_false,aD,aC,Option.isNone])
 (with_reducible repeat first|refine Nw.mk h fun b w h=> ?_|refine ag.mk h fun w h=> ?_|refine Ld.xb h rfl ?_|refine Ld.xt h rfl ?_|refine ab.xb (fun _ h=>h) rfl ?_|refine ab.xt (fun _ h=>h) rfl ?_|refine ⟨h.hb,?_⟩|refine ae.xw h rfl rfl fun w h=> ?_|(refine ae.xs h rfl rfl fun w h=> ?_;dsimp only [af,ad] at h)|(refine St.xs h rfl rfl fun w h=> ?_;dsimp only [af,ad] at h)|refine aa.yes ?_|refine aa.no ?_|refine ⟨by first|omega|decide,?_⟩)
 rw [aj (x:=(many:Int)+1) (by omega)] at h⊢
 rw [Cs hs2 hc] at h
 by_cases hm3:many=3
 ·subst hm3
  (with_reducible repeat first|refine Nw.mk h fun b w h=> ?_|refine ag.mk h fun w h=> ?_|refine Ld.xb h rfl ?_|refine Ld.xt h rfl ?_|refine ab.xb (fun _ h=>h) rfl ?_|refine ab.xt (fun _ h=>h) rfl ?_|refine ⟨h.hb,?_⟩|refine ae.xw h rfl rfl fun w h=> ?_|(refine ae.xs h rfl rfl fun w h=> ?_;dsimp only [af,ad] at h)|(refine St.xs h rfl rfl fun w h=> ?_;dsimp only [af,ad] at h)|refine aa.yes ?_|refine aa.no ?_|refine ⟨by first|omega|decide,?_⟩)
  rw [aj (by omega)] at h⊢
  rcases ha with rfl|⟨rfl,rfl,rfl⟩
  ·exact k2 M P (256*sum+c) _ (by unfold aL;simp) h.tl
  ·exact k3 (256*sum+c) _ (by unfold aL;simp) h.tl
 ·(with_reducible repeat first|refine Nw.mk h fun b w h=> ?_|refine ag.mk h fun w h=> ?_|refine Ld.xb h rfl ?_|refine Ld.xt h rfl ?_|refine ab.xb (fun _ h=>h) rfl ?_|refine ab.xt (fun _ h=>h) rfl ?_|refine ⟨h.hb,?_⟩|refine ae.xw h rfl rfl fun w h=> ?_|(refine ae.xs h rfl rfl fun w h=> ?_;dsimp only [af,ad] at h)|(refine St.xs h rfl rfl fun w h=> ?_;dsimp only [af,ad] at h)|refine aa.yes ?_|refine aa.no ?_|refine ⟨by first|omega|decide,?_⟩)
  refine k1 ⟨a,0,M,P,256*sum+c,many+1⟩ _ ?_ ?_ ?_ h.tl
  ·unfold aL
   rcases ha with rfl|⟨rfl,rfl,rfl⟩<;>simp [hm3]
  ·dsimp only;omega
  ·dsimp only;omega
theorem mc:Tryz.prog.underlying 245=some (.map 3 246):=by kernel_rfl
theorem wj (w:World):(zeroValue 246).run Tryz.prog w= .ok .nilFunc w:=by kernel_rfl
set_option maxRecDepth 20000
abbrev fv (i:Nat):Value:= .func (.func i) ⟨[]⟩ ⟨[]⟩
theorem ug {n:Nat} {m:MS} {c:Nat} {K:dx→Bool→Int→World→Prop} (h:Hp E w F) (hn:1≤n) (hn2:n≤65536) (hm:fN n m) (hc:c<256)
  (hmore: ∀m' w',aL n m c= .more m'→Hp E w' F→K (Bm m') false 0 w')
  (hblk: ∀M P u w',aL n m c= .fin (.aN M P u)→Hp E w' F→K (4,0,0,(M:Int),(P:Int),(u:Int),4,()) true 0 w')
  (htail: ∀u w',aL n m c= .fin (.tail u)→Hp E w' F→K (6,0,0,0,0,(u:Int),4,()) true 0 w')
  (hbad: ∀e o w',aL n m c= .bad e→Hp E w' F→K o false (e:Int) w'):
  Cl Tryz.prog [.st [.int .i64,.int .i64,.int .i64,.int .i64,.int .i64,.int .u32,.int .i64],kB,kI] cM ⟨[.int .i64 (n:Int),.agg ⟨[.int .i64 (m.at_:Int),.int .i64 (m.v:Int),.int .i64 (vm m.v:Int),.int .i64 (m.M:Int),.int .i64 (m.P:Int),.int .u32 (m.sum:Int),.int .i64 (m.many:Int)]⟩,.int .u8 (c:Int)]⟩ w K:=by
 have main: ∀(q:Nat) (i:Nat),findAt (m.at_:Int) [((0:Int),fv cI),(1,fv cH),(2,fv cy),(3,fv bG),(5,fv bG)] 0=some (q,fv i)→jY Tryz.prog i=true→
   (∀(F':List HP) (w:World) (K':dx→Bool→World→Prop),Hp E w F'→uf n m c E F' K'→Cl Tryz.prog [.st [.int .i64,.int .i64,.int .i64,.int .i64,.int .i64,.int .u32,.int .i64],kB] i ⟨[.int .i64 (n:Int),.agg ⟨[.int .i64 (m.at_:Int),.int .i64 (m.v:Int),.int .i64 (vm m.v:Int),.int .i64 (m.M:Int),.int .i64 (m.P:Int),.int .u32 (m.sum:Int),.int .i64 (m.many:Int)]⟩,.int .u8 (c:Int)]⟩ w K')→
   Cl Tryz.prog [.st [.int .i64,.int .i64,.int .i64,.int .i64,.int .i64,.int .u32,.int .i64],kB,kI] cM ⟨[.int .i64 (n:Int),.agg ⟨[.int .i64 (m.at_:Int),.int .i64 (m.v:Int),.int .i64 (vm m.v:Int),.int .i64 (m.M:Int),.int .i64 (m.P:Int),.int .u32 (m.sum:Int),.int .i64 (m.many:Int)]⟩,.int .u8 (c:Int)]⟩ w K:=by
  intro q i hq hok hcall
  refine oy.ok _ (Bm m) _ _ _ ?_
  (try simp only [au,ah,ak,Nat.zero_add,Nat.add_zero,Nat.reduceAdd,Bool.not_true,Bool.not_false,aD,aC,Option.isNone])
  refine Nw.mk h fun b5 w h=>Nw.mk h fun b7 w h=> ?_
  refine run_makeMap (ke:=fun n:Int=>Value.int .i64 n) (ve:=fun v:Value=>v) h fun mp w h=> ?_
  refine db (ke:=fun n:Int=>Value.int .i64 n) (ve:=fun v:Value=>v) (l:=_) iV mc (a:=0) (b:=fv cI) h fun w h=> ?_
  refine db (ke:=fun n:Int=>Value.int .i64 n) (ve:=fun v:Value=>v) (l:=_) iV mc (a:=1) (b:=fv cH) h fun w h=> ?_
  refine db (ke:=fun n:Int=>Value.int .i64 n) (ve:=fun v:Value=>v) (l:=_) iV mc (a:=2) (b:=fv cy) h fun w h=> ?_
  refine db (ke:=fun n:Int=>Value.int .i64 n) (ve:=fun v:Value=>v) (l:=_) iV mc (a:=3) (b:=fv bG) h fun w h=> ?_
  refine db (ke:=fun n:Int=>Value.int .i64 n) (ve:=fun v:Value=>v) (l:=_) iV mc (a:=5) (b:=fv bG) h fun w h=> ?_
  rw [show ec (5:Int) (fv bG) (ec 3 (fv bG) (ec 2 (fv cy) (ec 1 (fv cH) (ec 0 (fv cI) []))))
   = [((0:Int),fv cI),(1,fv cH),(2,fv cy),(3,fv bG),(5,fv bG)] from rfl] at h
  (with_reducible repeat first|refine Nw.mk h fun b w h=> ?_|refine ag.mk h fun w h=> ?_|refine Ld.xb h rfl ?_|refine Ld.xt h rfl ?_|refine ab.xb (fun _ h=>h) rfl ?_|refine ab.xt (fun _ h=>h) rfl ?_|refine ⟨h.hb,?_⟩|refine ae.xw h rfl rfl fun w h=> ?_|(refine ae.xs h rfl rfl fun w h=> ?_;dsimp only [af,ad] at h)|(refine St.xs h rfl rfl fun w h=> ?_;dsimp only [af,ad] at h)|refine aa.yes ?_|refine aa.no ?_|refine ⟨by first|omega|decide,?_⟩)
  refine aA.found (ke:=fun n:Int=>Value.int .i64 n) (ve:=fun v:Value=>v) iV mc (a:=(m.at_:Int)) (x:=fv i) wj h hq rfl ?_
  refine gS.fn ?_
  have h:=h.drop
  (with_reducible repeat first|refine Nw.mk h fun b w h=> ?_|refine ag.mk h fun w h=> ?_|refine Ld.xb h rfl ?_|refine Ld.xt h rfl ?_|refine ab.xb (fun _ h=>h) rfl ?_|refine ab.xt (fun _ h=>h) rfl ?_|refine ⟨h.hb,?_⟩|refine ae.xw h rfl rfl fun w h=> ?_|(refine ae.xs h rfl rfl fun w h=> ?_;dsimp only [af,ad] at h)|(refine St.xs h rfl rfl fun w h=> ?_;dsimp only [af,ad] at h)|refine aa.yes ?_|refine aa.no ?_|refine ⟨by first|omega|decide,?_⟩)
  refine yw h hn hn2 hm fun w h=> ?_
  (with_reducible repeat first|refine Nw.mk h fun b w h=> ?_|refine ag.mk h fun w h=> ?_|refine Ld.xb h rfl ?_|refine Ld.xt h rfl ?_|refine ab.xb (fun _ h=>h) rfl ?_|refine ab.xt (fun _ h=>h) rfl ?_|refine ⟨h.hb,?_⟩|refine ae.xw h rfl rfl fun w h=> ?_|(refine ae.xs h rfl rfl fun w h=> ?_;dsimp only [af,ad] at h)|(refine St.xs h rfl rfl fun w h=> ?_;dsimp only [af,ad] at h)|refine aa.yes ?_|refine aa.no ?_|refine ⟨by first|omega|decide,?_⟩)
  refine jx.mk hok (hcall _ _ _ h ⟨fun m' w h1 h2 h3 h=> ?_,fun M P u w h1 h=> ?_,fun u w h1 h=> ?_,fun e o w h1 h2 h=> ?_⟩)
  ·(with_reducible repeat first|refine Nw.mk h fun b w h=> ?_|refine ag.mk h fun w h=> ?_|refine Ld.xb h rfl ?_|refine Ld.xt h rfl ?_|refine ab.xb (fun _ h=>h) rfl ?_|refine ab.xt (fun _ h=>h) rfl ?_|refine ⟨h.hb,?_⟩|refine ae.xw h rfl rfl fun w h=> ?_|(refine ae.xs h rfl rfl fun w h=> ?_;dsimp only [af,ad] at h)|(refine St.xs h rfl rfl fun w h=> ?_;dsimp only [af,ad] at h)|refine aa.yes ?_|refine aa.no ?_|refine ⟨by first|omega|decide,?_⟩)
   have h:=h.drew (n:=w.drawn+1)
   refine ⟨bq b5 _ _ _,h.hb,?_⟩
   (with_reducible repeat first|refine Nw.mk h fun b w h=> ?_|refine ag.mk h fun w h=> ?_|refine Ld.xb h rfl ?_|refine Ld.xt h rfl ?_|refine ab.xb (fun _ h=>h) rfl ?_|refine ab.xt (fun _ h=>h) rfl ?_|refine ⟨h.hb,?_⟩|refine ae.xw h rfl rfl fun w h=> ?_|(refine ae.xs h rfl rfl fun w h=> ?_;dsimp only [af,ad] at h)|(refine St.xs h rfl rfl fun w h=> ?_;dsimp only [af,ad] at h)|refine aa.yes ?_|refine aa.no ?_|refine ⟨by first|omega|decide,?_⟩)
   refine aa.ef (show¬(m'.at_:Int)=4 by omega) ?_
   (with_reducible repeat first|refine Nw.mk h fun b w h=> ?_|refine ag.mk h fun w h=> ?_|refine Ld.xb h rfl ?_|refine Ld.xt h rfl ?_|refine ab.xb (fun _ h=>h) rfl ?_|refine ab.xt (fun _ h=>h) rfl ?_|refine ⟨h.hb,?_⟩|refine ae.xw h rfl rfl fun w h=> ?_|(refine ae.xs h rfl rfl fun w h=> ?_;dsimp only [af,ad] at h)|(refine St.xs h rfl rfl fun w h=> ?_;dsimp only [af,ad] at h)|refine aa.yes ?_|refine aa.no ?_|refine ⟨by first|omega|decide,?_⟩)
   have e6:((m'.at_:Int)==6)=false:=beq_eq_false_iff_ne.2 (by omega)
   have h6:=hmore m' _ h1 h.tl
   rw [←e6] at h6
   exact h6
  ·(with_reducible repeat first|refine Nw.mk h fun b w h=> ?_|refine ag.mk h fun w h=> ?_|refine Ld.xb h rfl ?_|refine Ld.xt h rfl ?_|refine ab.xb (fun _ h=>h) rfl ?_|refine ab.xt (fun _ h=>h) rfl ?_|refine ⟨h.hb,?_⟩|refine ae.xw h rfl rfl fun w h=> ?_|(refine ae.xs h rfl rfl fun w h=> ?_;dsimp only [af,ad] at h)|(refine St.xs h rfl rfl fun w h=> ?_;dsimp only [af,ad] at h)|refine aa.yes ?_|refine aa.no ?_|refine ⟨by first|omega|decide,?_⟩)
   have h:=h.drew (n:=w.drawn+1)
   refine ⟨bq b5 _ _ _,h.hb,?_⟩
   (with_reducible repeat first|refine Nw.mk h fun b w h=> ?_|refine ag.mk h fun w h=> ?_|refine Ld.xb h rfl ?_|refine Ld.xt h rfl ?_|refine ab.xb (fun _ h=>h) rfl ?_|refine ab.xt (fun _ h=>h) rfl ?_|refine ⟨h.hb,?_⟩|refine ae.xw h rfl rfl fun w h=> ?_|(refine ae.xs h rfl rfl fun w h=> ?_;dsimp only [af,ad] at h)|(refine St.xs h rfl rfl fun w h=> ?_;dsimp only [af,ad] at h)|refine aa.yes ?_|refine aa.no ?_|refine ⟨by first|omega|decide,?_⟩)
   exact hblk M P u _ h1 h.tl
  ·(with_reducible repeat first|refine Nw.mk h fun b w h=> ?_|refine ag.mk h fun w h=> ?_|refine Ld.xb h rfl ?_|refine Ld.xt h rfl ?_|refine ab.xb (fun _ h=>h) rfl ?_|refine ab.xt (fun _ h=>h) rfl ?_|refine ⟨h.hb,?_⟩|refine ae.xw h rfl rfl fun w h=> ?_|(refine ae.xs h rfl rfl fun w h=> ?_;dsimp only [af,ad] at h)|(refine St.xs h rfl rfl fun w h=> ?_;dsimp only [af,ad] at h)|refine aa.yes ?_|refine aa.no ?_|refine ⟨by first|omega|decide,?_⟩)
   have h:=h.drew (n:=w.drawn+1)
   refine ⟨bq b5 _ _ _,h.hb,?_⟩
   (with_reducible repeat first|refine Nw.mk h fun b w h=> ?_|refine ag.mk h fun w h=> ?_|refine Ld.xb h rfl ?_|refine Ld.xt h rfl ?_|refine ab.xb (fun _ h=>h) rfl ?_|refine ab.xt (fun _ h=>h) rfl ?_|refine ⟨h.hb,?_⟩|refine ae.xw h rfl rfl fun w h=> ?_|(refine ae.xs h rfl rfl fun w h=> ?_;dsimp only [af,ad] at h)|(refine St.xs h rfl rfl fun w h=> ?_;dsimp only [af,ad] at h)|refine aa.yes ?_|refine aa.no ?_|refine ⟨by first|omega|decide,?_⟩)
   exact htail u _ h1 h.tl
  ·(with_reducible repeat first|refine Nw.mk h fun b w h=> ?_|refine ag.mk h fun w h=> ?_|refine Ld.xb h rfl ?_|refine Ld.xt h rfl ?_|refine ab.xb (fun _ h=>h) rfl ?_|refine ab.xt (fun _ h=>h) rfl ?_|refine ⟨h.hb,?_⟩|refine ae.xw h rfl rfl fun w h=> ?_|(refine ae.xs h rfl rfl fun w h=> ?_;dsimp only [af,ad] at h)|(refine St.xs h rfl rfl fun w h=> ?_;dsimp only [af,ad] at h)|refine aa.yes ?_|refine aa.no ?_|refine ⟨by first|omega|decide,?_⟩)
   subst h2
   exact hbad 242 _ _ h1 h.tl
 obtain ⟨at_,v,M,P,sum,many⟩:=m
 have hm0:=hm
 unfold fN at hm0
 dsimp only at hm0
 rcases hm0 with ⟨h1,h2⟩|⟨h1,h2,h3,h4,h5,h6⟩|⟨h1,h2,h3,h4,h5,h6,h7⟩|⟨h1,h2,h3,h4,h5,h6,h7,h8⟩|⟨h1,h2,h3,h4,h5,h6⟩
 ·cases h2
  exact main 0 cI rfl (by kernel_rfl) fun F' w K' h hK=>AB h hc hK
 ·subst h1 h3 h4 h5 h6
  exact main 1 cH rfl (by kernel_rfl) fun F' w K' h hK=>AZ h hn2 h2 hc hK
 ·subst h1 h5 h6 h7
  exact main 2 cy rfl (by kernel_rfl) fun F' w K' h hK=>zx (M:=M) h (by omega) h4 hc hK
 ·subst h1 h6
  exact main 3 bG rfl (by kernel_rfl) fun F' w K' h hK=>yR h (.inl rfl) h7 h8 hc hK
 ·subst h1 h2 h3 h4
  exact main 4 bG rfl (by kernel_rfl) fun F' w K' h hK=>yR h (.inr ⟨rfl,rfl,rfl⟩) h5 h6 hc hK
end
end Go.Proofs.YtgglghjnakclmaaGreat
namespace Go.Proofs.YtgglghjnakclmaaGreat
open Go Go.Vc
set_option maxRecDepth 100000
theorem nF.ok (a:(Array Value)) (b:Int) (R:(Array Value)→Bool→Int→World→Prop) w (h:
 Nw 106 a w fun d c=>
 Nw 106 ⟨List.replicate 258 (.int .u8 0)++ [(ni 0),(ni 0),(ni 0),(ni 0)]⟩ c fun f e=>
 bf (fun (u:World)=>
 Ld (.arr 262) ⟨d,0,none⟩ u fun v=>
 Cl Pg [(.arr 262),kB] eT ⟨[(.agg v),(ni b)]⟩ u fun y (z:Bool) x=>
 an 262 ⟨d,0,none⟩ y x fun a1=>
 aa (!z)
 (Ld (.arr 262) ⟨f,0,none⟩ a1 fun b1=>
 an 262 ⟨f,0,none⟩ b1 a1 fun c1=>
 Ld (.arr 262) ⟨f,0,none⟩ c1 fun d1=>
 R d1 false 100 c1)
 (cJ a1 fun e1 f1=>
 ab (.arr 262) ⟨d,0,none⟩ e1 fun g1=>
 ab kI (Addr.add ⟨d,0,none⟩ 258) e1 fun (h1:Int)=>
 an 262 ⟨f,0,none⟩ g1 f1 fun i1=>
 e1 i1∧
 Ld (.arr 262) ⟨f,0,none⟩ i1 fun j1=>
 R j1 (h1==258) 0 i1)) fun g=>
 Ld (.arr 262) ⟨d,0,none⟩ e fun h=>
 Cl Pg [kB] eA ⟨[(.agg h)]⟩ e fun (j:Bool) i=>
 aa (!j)
 (Ld (.arr 262) ⟨f,0,none⟩ i fun k=>
 an 262 ⟨f,0,none⟩ k i fun l=>
 Ld (.arr 262) ⟨f,0,none⟩ l fun m=>
 R m false 2 l)
 (Ld kI (Addr.add ⟨d,0,none⟩ 258) i fun (n:Int)=>
 aa (n==258)
 (Ld (.arr 262) ⟨f,0,none⟩ i fun o=>
 an 262 ⟨f,0,none⟩ o i fun p=>
 Ld (.arr 262) ⟨f,0,none⟩ p fun q=>
 R q false 2 p)
 (0≤(1:Int)∧
 aa ((cl .i64 b (1:Int)) !=0)
 (Ld (.arr 262) ⟨f,0,none⟩ i fun r=>
 an 262 ⟨f,0,none⟩ r i fun s=>
 Ld (.arr 262) ⟨f,0,none⟩ s fun t=>
 R t false 2 s)
 (g i)))):Cl Pg [(.arr 262),kB,kI] eM ⟨[(.agg a),(ni b)]⟩ w R:=co Tryz.f117 [(2,[])] h
theorem mE.ok (a:(Array Value)) (R:Bool→World→Prop) w (h:
 Nw 106 a w fun c b=>
 Ld (.arr 262) ⟨c,0,none⟩ b fun d=>
 Cl Pg [kB] cv ⟨[(.agg d)]⟩ b fun (f:Bool) e=>
 aa f
 (R true e)
 (bf (fun (x:World)=>
 Ld kI (Addr.add ⟨c,0,none⟩ 258) x fun (y:Int)=>
 aa (y==0)
 (Ld kI (Addr.add ⟨c,0,none⟩ 261) x fun (z:Int)=>
 aa (z==0)
 (R true x)
 (Ld kI (Addr.add ⟨c,0,none⟩ 261) x fun (a1:Int)=>
 aa (a1==1)
 (Ld kI (Addr.add ⟨c,0,none⟩ 260) x fun (b1:Int)=>
 aa (decide (b1>0))
 (R true x)
 (Ld kI (Addr.add ⟨c,0,none⟩ 261) x fun (c1:Int)=>
 aa (c1==2)
 (Ld kI (Addr.add ⟨c,0,none⟩ 260) x fun (d1:Int)=>
 R (decide (d1<15)) x)
 (R false x)))
 (Ld kI (Addr.add ⟨c,0,none⟩ 261) x fun (e1:Int)=>
 aa (e1==2)
 (Ld kI (Addr.add ⟨c,0,none⟩ 260) x fun (f1:Int)=>
 R (decide (f1<15)) x)
 (R false x))))
 (aa (y==258)
 (ag x fun g1=>
 Ld kI (Addr.add ⟨c,0,none⟩ 259) g1 fun (h1:Int)=>
 aa (h1==4)
 (Ld kI (Addr.add ⟨c,0,none⟩ 261) g1 fun (i1:Int)=>
 aa (i1==0)
 (Ld kI (Addr.add ⟨c,0,none⟩ 260) g1 fun (j1:Int)=>
 Ld kI (Addr.add ⟨c,0,none⟩ 258) g1 fun (k1:Int)=>
 aY (Addr.add ⟨c,0,none⟩ 0) 258 (i64 (k1 - 1)) 1 fun l1=>
 Ld (aJ .u8) l1 g1 fun (m1:Int)=>
 aa (j1==(i64 m1))
 (Ld (.arr 258) (Addr.add ⟨c,0,none⟩ 0) g1 fun n1=>
 Cl Pg [kB] dh ⟨[(.agg n1)]⟩ g1 fun (p1:Bool) o1=>
 R p1 o1)
 (R false g1))
 (R false g1))
 (R false g1))
 (ag x fun q1=>
 Ld kI (Addr.add ⟨c,0,none⟩ 258) q1 fun (r1:Int)=>
 aY (Addr.add ⟨c,0,none⟩ 0) 258 (i64 (r1 - 1)) 1 fun s1=>
 Ld (aJ .u8) s1 q1 fun (t1:Int)=>
 Ld kI (Addr.add ⟨c,0,none⟩ 260) q1 fun (u1:Int)=>
 Ld kI (Addr.add ⟨c,0,none⟩ 261) q1 fun (v1:Int)=>
 Cl Pg [kB] dX ⟨[(ni (i64 t1)),(ni u1),(ni v1)]⟩ q1 fun (y1:Bool) x1=>
 R y1 x1))) fun g=>
 Ld kI (Addr.add ⟨c,0,none⟩ 259) e fun (h:Int)=>
 Cl Pg [kB] bu ⟨[(ni h),(ni 4),(ni 5)]⟩ e fun (j:Bool) i=>
 aa (!j)
 (R false i)
 (Ld kI (Addr.add ⟨c,0,none⟩ 258) i fun (k:Int)=>
 Cl Pg [kB] bu ⟨[(ni k),(ni 0),(ni 258)]⟩ i fun (m:Bool) l=>
 aa (!m)
 (R false l)
 (Ld kI (Addr.add ⟨c,0,none⟩ 260) l fun (n:Int)=>
 Cl Pg [kB] bu ⟨[(ni n),(ni 0),(ni 15)]⟩ l fun (p:Bool) o=>
 aa (!p)
 (R false o)
 (Ld kI (Addr.add ⟨c,0,none⟩ 261) o fun (q:Int)=>
 Cl Pg [kB] bu ⟨[(ni q),(ni 0),(ni 2)]⟩ o fun (s:Bool) r=>
 aa (!s)
 (R false r)
 (Ld (.arr 262) ⟨c,0,none⟩ r fun t=>
 Cl Pg [kB] eB ⟨[(.agg t)]⟩ r fun (v:Bool) u=>
 aa (!v)
 (R false u)
 (g u))))))):Cl Pg [kB] eA ⟨[(.agg a)]⟩ w R:=co Tryz.f171 [(7,[])] h
theorem ns.ok (a:(Array Value)) (b:Int) (R:(Array Value)→Bool→World→Prop) w (h:
 Nw 106 a w fun d c=>
 Nw 106 ⟨List.replicate 258 (.int .u8 0)++ [(ni 0),(ni 0),(ni 0),(ni 0)]⟩ c fun f e=>
 Ld kI (Addr.add ⟨d,0,none⟩ 259) e fun (g:Int)=>
 aa (decide (g<4))
 (Ld kI (Addr.add ⟨d,0,none⟩ 260) e fun (h:Int)=>
 0≤(1:Int)∧
 Ld kI (Addr.add ⟨d,0,none⟩ 259) e fun (i:Int)=>
 St (Addr.add ⟨d,0,none⟩ 260) (ni (hX .i64 (bg .i64 h (1:Int)) b)) e fun j=>
 St (Addr.add ⟨d,0,none⟩ 259) (ni (i64 (i+1))) j fun k=>
 Ld (.arr 262) ⟨d,0,none⟩ k fun l=>
 an 262 ⟨f,0,none⟩ l k fun m=>
 Ld (.arr 262) ⟨f,0,none⟩ m fun n=>
 R n true m)
 (bf (fun (q:Bool) (r:World)=>
 aa q
 (Ld kI (Addr.add ⟨d,0,none⟩ 258) r fun (s:Int)=>
 Ld kI (Addr.add ⟨d,0,none⟩ 260) r fun (t:Int)=>
 aY (Addr.add ⟨d,0,none⟩ 0) 258 s 1 fun u=>
 St u (.int .u8 (u8 t)) r fun v=>
 Ld kI (Addr.add ⟨d,0,none⟩ 258) v fun (x:Int)=>
 St (Addr.add ⟨d,0,none⟩ 258) (ni (i64 (x+1))) v fun y=>
 St (Addr.add ⟨d,0,none⟩ 261) (ni 0) y fun z=>
 cJ z fun a1 b1=>
 ab (.arr 262) ⟨d,0,none⟩ a1 fun c1=>
 ab kI (Addr.add ⟨d,0,none⟩ 258) a1 fun (d1:Int)=>
 aa (decide (d1<258))
 (an 262 ⟨f,0,none⟩ c1 b1 fun e1=>
 a1 e1∧
 Ld (.arr 262) ⟨f,0,none⟩ e1 fun f1=>
 R f1 true e1)
 (ab (.arr 258) (Addr.add ⟨d,0,none⟩ 0) a1 fun g1=>
 Cl Pg [kB] dh ⟨[(.agg g1)]⟩ b1 fun (i1:Bool) h1=>
 a1 h1∧
 an 262 ⟨f,0,none⟩ c1 h1 fun j1=>
 a1 j1∧
 Ld (.arr 262) ⟨f,0,none⟩ j1 fun k1=>
 R k1 i1 j1))
 (Ld kI (Addr.add ⟨d,0,none⟩ 259) r fun (l1:Int)=>
 aa (l1==4)
 (St (Addr.add ⟨d,0,none⟩ 259) (ni 5) r fun m1=>
 Ld (.arr 262) ⟨d,0,none⟩ m1 fun n1=>
 an 262 ⟨f,0,none⟩ n1 m1 fun o1=>
 Ld (.arr 262) ⟨f,0,none⟩ o1 fun p1=>
 R p1 true o1)
 (aa (b==0)
 (Ld kI (Addr.add ⟨d,0,none⟩ 261) r fun (q1:Int)=>
 aa (q1 !=2)
 (Ld kI (Addr.add ⟨d,0,none⟩ 260) r fun (r1:Int)=>
 Ld kI (Addr.add ⟨d,0,none⟩ 260) r fun (s1:Int)=>
 St (Addr.add ⟨d,0,none⟩ 260) (ni (i64 (s1+1))) r fun t1=>
 St (Addr.add ⟨d,0,none⟩ 261) (ni 1) t1 fun u1=>
 St (Addr.add ⟨d,0,none⟩ 259) (ni 4) u1 fun v1=>
 Ld (.arr 262) ⟨d,0,none⟩ v1 fun x1=>
 an 262 ⟨f,0,none⟩ x1 v1 fun y1=>
 Ld (.arr 262) ⟨f,0,none⟩ y1 fun z1=>
 R z1 (decide (r1<15)) y1)
 (Ld kI (Addr.add ⟨d,0,none⟩ 260) r fun (a2:Int)=>
 St (Addr.add ⟨d,0,none⟩ 260) (ni (i64 (a2+1))) r fun b2=>
 St (Addr.add ⟨d,0,none⟩ 261) (ni 1) b2 fun c2=>
 St (Addr.add ⟨d,0,none⟩ 259) (ni 4) c2 fun d2=>
 Ld (.arr 262) ⟨d,0,none⟩ d2 fun e2=>
 an 262 ⟨f,0,none⟩ e2 d2 fun f2=>
 Ld (.arr 262) ⟨f,0,none⟩ f2 fun g2=>
 R g2 false f2))
 (Ld kI (Addr.add ⟨d,0,none⟩ 261) r fun (h2:Int)=>
 aa (h2 !=1)
 (Ld kI (Addr.add ⟨d,0,none⟩ 260) r fun (i2:Int)=>
 Ld kI (Addr.add ⟨d,0,none⟩ 260) r fun (j2:Int)=>
 St (Addr.add ⟨d,0,none⟩ 260) (ni (i64 (j2 - 1))) r fun k2=>
 St (Addr.add ⟨d,0,none⟩ 261) (ni 2) k2 fun l2=>
 St (Addr.add ⟨d,0,none⟩ 259) (ni 4) l2 fun m2=>
 Ld (.arr 262) ⟨d,0,none⟩ m2 fun n2=>
 an 262 ⟨f,0,none⟩ n2 m2 fun o2=>
 Ld (.arr 262) ⟨f,0,none⟩ o2 fun p2=>
 R p2 (decide (i2>0)) o2)
 (Ld kI (Addr.add ⟨d,0,none⟩ 260) r fun (q2:Int)=>
 St (Addr.add ⟨d,0,none⟩ 260) (ni (i64 (q2 - 1))) r fun r2=>
 St (Addr.add ⟨d,0,none⟩ 261) (ni 2) r2 fun s2=>
 St (Addr.add ⟨d,0,none⟩ 259) (ni 4) s2 fun t2=>
 Ld (.arr 262) ⟨d,0,none⟩ t2 fun u2=>
 an 262 ⟨f,0,none⟩ u2 t2 fun v2=>
 Ld (.arr 262) ⟨f,0,none⟩ v2 fun x2=>
 R x2 false v2))))) fun o=>
 Ld kI (Addr.add ⟨d,0,none⟩ 259) e fun (p:Int)=>
 aa (p==4)
 (o (b==0) e)
 (o false e))):Cl Pg [(.arr 262),kB] eT ⟨[(.agg a),(ni b)]⟩ w R:=co Tryz.f172 [(6,[(38,kB)])] h
theorem gd.ok (a:(Array Value)) (R:Bool→World→Prop) w (h:
 Nw 106 a w fun c b=>
 cJ b fun d e=>
 ab kI (Addr.add ⟨c,0,none⟩ 259) d fun (f:Int)=>
 Cl Pg [kB] bu ⟨[(ni f),(ni 0),(ni 3)]⟩ e fun (h:Bool) g=>
 d g∧
 aa h
 (ab kI (Addr.add ⟨c,0,none⟩ 260) d fun (i:Int)=>
 ab kI (Addr.add ⟨c,0,none⟩ 259) d fun (j:Int)=>
 0≤j∧
 Cl Pg [kB] bu ⟨[(ni i),(ni 0),(ni (i64 ((bg .i64 (1:Int) j) - 1)))]⟩ g fun (l:Bool) k=>
 d k∧
 aa l
 (ab (.arr 262) ⟨c,0,none⟩ d fun m=>
 ab kI (Addr.add ⟨c,0,none⟩ 259) d fun (n:Int)=>
 ab kI (Addr.add ⟨c,0,none⟩ 260) d fun (o:Int)=>
 bx Pg 106 [(2,(ni n)),(3,(ni o))] fun p=>
 nU Pg 106 m p fun q=>
 R q k)
 (R false k))
 (R false g)):Cl Pg [kB] cv ⟨[(.agg a)]⟩ w R:=co Tryz.f231 [] h
theorem lG.ok (a:Int) (b:Int) (c:Int) (R:Bool→World→Prop) w (h:
 aa (decide (a≥b))
 (R (decide (a≤c)) w)
 (R false w)):Cl Pg [kB] bu ⟨[(ni a),(ni b),(ni c)]⟩ w R:=co Tryz.f232 [] h
theorem mF.ok (a:(Array Value)) (R:Bool→World→Prop) w (h:
 Nw 106 a w fun c b=>
 Ld (.arr 258) (Addr.add ⟨c,0,none⟩ 0) b fun d=>
 hY 0 b fun e f (g:Int) h=>
 aa (decide (g<258))
 (gB (.int .u8) d 258 g fun (i:Int)=>
 aa (decide (i>15))
 (R false h)
 (Ld kI (Addr.add ⟨c,0,none⟩ 258) h fun (j:Int)=>
 aa (decide (g≥j))
 (aa (decide (i>0))
 (R false h)
 (e (i64 (g+1)) h∧f (i64 (g+1)) h<f g h))
 (e (i64 (g+1)) h∧f (i64 (g+1)) h<f g h)))
 (R true h)):Cl Pg [kB] eB ⟨[(.agg a)]⟩ w R:=co Tryz.f233 [(5,[(7,kI)])] h
theorem lH.ok (a:Int) (b:Int) (c:Int) (R:Bool→World→Prop) w (h:
 aa (c==0)
 (R (a==b) w)
 (aa (c==1)
 (R (decide (a<b)) w)
 (R (decide (a>b)) w))):Cl Pg [kB] dX ⟨[(ni a),(ni b),(ni c)]⟩ w R:=co Tryz.f234 [] h
end Go.Proofs.YtgglghjnakclmaaGreat
set_option maxRecDepth 20000
namespace Go.Vc
open Go
section
variable {E w:World} {l:List HP} {b n k o:Nat} {L r:List Value} {t:TypeId} {fr:Nat×Nat} {put:Obj→List HP}
theorem gv (hL:L.length=n):(L++r)[k+n]? =r[k]? :=by
 rw [List.getElem?_append_right (by omega)]
 congr 1;omega
theorem tG: ∀{L r:List Value} {n k:Nat} {vs:List Value},L.length=n→af (L++r) (k+n) vs=L++af r k vs
 | [],r,n,k,vs,h=>by
  have:n=0:=by simpa using h.symm
  subst this;rfl
 |a::L,r,n,k,vs,h=>by
  obtain ⟨m,rfl⟩: ∃m,n=m+1:=⟨L.length,by simpa using h.symm⟩
  rw [show k+(m+1)=(k+m)+1 by omega,List.cons_append,af,tG (by simpa using h)]
  rfl
theorem ab.q {S:World→Prop} {s:Sc} {K:s.T→Prop} {x:s.T} (hS: ∀w,S w→bq b ⟨L++r⟩ t fr w) (hL:L.length=n) (ho:o=k+n) (hx:r[k]? =some (s.enc x)) (hK:K x):ab (.sc s) ⟨b,o,none⟩ S K:=by
 subst ho
 exact ab.xb hS ((gv hL).trans hx) hK
theorem Ld.q {s:Sc} {K:s.T→Prop} {x:s.T} [bl b l ⟨L++r⟩ t fr put] (h:Hp E w l) (hL:L.length=n) (ho:o=k+n) (hx:r[k]? =some (s.enc x)) (hK:K x):Ld (.sc s) ⟨b,o,none⟩ w K:=
 ab.q (fun w' hw=>by rw [hw];exact h.fb) hL ho hx hK
theorem ab.p {S:World→Prop} {K:Array Value→Prop} (hS: ∀w,S w→bq b ⟨L++r⟩ t fr w) (hL:L.length=n) (hK:K ⟨L⟩):ab (.arr n) ⟨b,0,none⟩ S K:=
 ab.xa (mid:=L) (post:=r) hS rfl hL hK
theorem Ld.p {K:Array Value→Prop} [bl b l ⟨L++r⟩ t fr put] (h:Hp E w l) (hL:L.length=n) (hK:K ⟨L⟩):Ld (.arr n) ⟨b,0,none⟩ w K:=
 ab.p (fun w' hw=>by rw [hw];exact h.fb) hL hK
theorem Ld.qw {m:Nat} {K:Array Value→Prop} [bl b l ⟨L++r⟩ t fr put] (h:Hp E w l) (hL:L.length=n) (hm:n+r.length=m) (hK:K ⟨L++r⟩):Ld (.arr m) ⟨b,0,none⟩ w K:=
 Ld.xw h (by simp [hL,hm]) hK
theorem ab.qw {S:World→Prop} {m:Nat} {K:Array Value→Prop} (hS: ∀w,S w→bq b ⟨L++r⟩ t fr w) (hL:L.length=n) (hm:n+r.length=m) (hK:K ⟨L++r⟩):ab (.arr m) ⟨b,0,none⟩ S K:=
 ab.xw hS (by simp [hL,hm]) hK
theorem St.q {v:Value} {K:World→Prop} [bl b l ⟨L++r⟩ t (0,0) put] (h:Hp E w l) (hL:L.length=n) (ho:o=k+n) (hb:Nat.ble (k+1) r.length=true) (hv:ay v=true)
  (hK: ∀w',Hp E w' (put (.cells ⟨L++af r k [v]⟩ t (0,0)))→K w'):St ⟨b,o,none⟩ v w K:=by
 subst ho
 have hb':=Nat.le_of_ble_eq_true hb
 refine St.xs h (Nat.ble_eq_true_of_le (by simp;omega)) hv fun w' h'=>hK w' ?_
 rw [show (⟨L++r⟩:Array Value).toList=L++r from rfl,tG hL] at h'
 exact h'
theorem an.q {m:Nat} {cs:Array Value} {c:Array Value} {K:World→Prop} [bl b l c t (0,0) put] (h:Hp E w l) (hc:c.size=m) (hcs:cs.size=m) (hv:cs.toList.all ay=true)
  (hK: ∀w',Hp E w' (put (.cells cs t (0,0)))→K w'):an m ⟨b,0,none⟩ cs w K:=an.xw h hc hcs (List.all_eq_true.1 hv) hK
theorem St.g {v:Value} {K:World→Prop} [bl b l ⟨L++r⟩ t (0,0) put] (h:Hp E w l) (ho:o<L.length) (hv:ay v=true)
  (hK: ∀w',Hp E w' (put (.cells ⟨L.set o v++r⟩ t (0,0)))→K w'):St ⟨b,o,none⟩ v w K:=by
 refine St.xb h (by simp;omega) hv fun w' h'=>hK w' ?_
 have:(⟨L++r⟩:Array Value).setIfInBounds o v=⟨L.set o v++r⟩:=by
  apply Array.ext'
  rw [Array.toList_setIfInBounds,List.set_append_left _ _ ho]
 rwa [this] at h'
theorem Ld.g {s:Sc} {K:s.T→Prop} {x:s.T} [bl b l ⟨L++r⟩ t fr put] (h:Hp E w l) (hx:L[o]? =some (s.enc x)) (hK:K x):Ld (.sc s) ⟨b,o,none⟩ w K:=by
 refine Ld.xb h ?_ hK
 have:o<L.length:=by
  rcases Nat.lt_or_ge o L.length with h|h
  ·exact h
  ·rw [List.getElem?_eq_none h] at hx;cases hx
 rw [show (⟨L++r⟩:Array Value).toList=L++r from rfl,List.getElem?_append_left this,hx]
end
end Go.Vc
set_option maxRecDepth 20000
namespace Go.Vc
open Go
section
variable {E w:World} {F:List HP}
theorem pw {P:Program} {t e:TypeId} {n:Nat} {k:IntKind} {it:TypeInfo} (hu:P.underlying t=some (.array n e)) (hue:P.underlying e=some (.int k)) (hi:P.info? e=some it) (hs:it.size=1) {a b:List Int} (ha:a.length=n) (hb:b.length=n)
  (D:Nat) (hD:2≤D) (w:World):(Op.equalIn D t (.agg ⟨a.map (.int k)⟩) (.agg ⟨b.map (.int k)⟩)).run P w= .ok (a==b) w:=by
 obtain ⟨D,rfl⟩: ∃d,D=d+1+1:=⟨D - 2,by omega⟩
 rw [run_equalIn_array w (D+1) _ _ hu hi,iZ hi,hs,←ha,fQ hue (ha.trans hb.symm) _ (by simp),all_eq (ha.trans hb.symm)]
theorem iF {P:Program} {t:TypeId} {it:TypeInfo} {cs:List Value} {off:Nat} {K:Option Value→Prop} (h1:ej P t=some true) (h2:P.info? t=some it) (h:K (some (.agg ⟨(cs.drop off).take it.size⟩))):dp P t cs off K:=by
 unfold dp;rw [h1,h2];exact h
theorem cT {P:Program} {t:TypeId} {it:TypeInfo} {cs:List Value} {off:Nat} {v:Value} {K:Option Value→Prop} (h1:ej P t=some false) (h2:P.info? t=some it) (hv:cs[off]? =some v) (h:K (some v)):dp P t cs off K:=by
 unfold dp;rw [h1,h2,hv];exact h
end
end Go.Vc
namespace Go.Proofs.YtgglghjnakclmaaGreat
open Go Go.Vc
theorem tK: ∃it,Tryz.prog.info? 3=some it:=by
 have:(Tryz.prog.info? 3).isSome=true:=by kernel_rfl
 exact Option.isSome_iff_exists.1 this
theorem zr: ∃it,Tryz.prog.info? 104=some it∧it.size=258:=by
 have h:(Tryz.prog.info? 104).map (·.size)=some 258:=by kernel_rfl
 obtain ⟨it,h1,h2⟩:=Option.map_eq_some_iff.1 h
 exact ⟨it,h1,h2⟩
theorem vS: ∃it,Tryz.prog.info? 5=some it∧it.size=1:=by
 have h:(Tryz.prog.info? 5).map (·.size)=some 1:=by kernel_rfl
 obtain ⟨it,h1,h2⟩:=Option.map_eq_some_iff.1 h
 exact ⟨it,h1,h2⟩
theorem AM:Tryz.prog.underlying 104=some (.array 258 5):=by kernel_rfl
theorem yH:Tryz.prog.underlying 5=some (.int .u8):=by kernel_rfl
theorem xf:Tryz.prog.underlying 3=some (.int .i64):=by kernel_rfl
end Go.Proofs.YtgglghjnakclmaaGreat
namespace Go.Proofs.YtgglghjnakclmaaGreat
open Go Go.Vc
set_option maxRecDepth 100000
theorem p7.ok (a:(Array Value)) (R:(Array Value)→Int→World→Prop) w (h:
 Nw 104 a w fun c b=>
 Nw 108 ⟨List.replicate 258 (.int .u8 0)++ [(ni 0),(ni 0)]⟩ b fun e d=>
 Ld (.arr 258) ⟨c,0,none⟩ d fun f=>
 Cl Pg [kB] dh ⟨[(.agg f)]⟩ d fun (h:Bool) g=>
 aa (!h)
 (bx Pg 108 [] fun i=>
 an 260 ⟨e,0,none⟩ i g fun j=>
 Ld (.arr 260) ⟨e,0,none⟩ j fun k=>
 R k 2 j)
 (Ld (.arr 258) ⟨c,0,none⟩ g fun l=>
 bx Pg 108 [(0,(.agg l))] fun m=>
 an 260 ⟨e,0,none⟩ m g fun n=>
 Ld (.arr 260) ⟨e,0,none⟩ n fun o=>
 R o 0 n)):Cl Pg [(.arr 260),kI] gg ⟨[(.agg a)]⟩ w R:=co Tryz.f118 [] h
theorem o8.ok (a:(Array Value)) (b:Int) (R:(Array Value)→Int→Bool→World→Prop) w (h:
 Nw 108 a w fun d c=>
 Nw 108 ⟨List.replicate 258 (.int .u8 0)++ [(ni 0),(ni 0)]⟩ c fun f e=>
 bf (fun (q:World)=>
 Ld (.arr 258) (Addr.add ⟨d,0,none⟩ 0) q fun r=>
 Ld kI (Addr.add ⟨d,0,none⟩ 258) q fun (s:Int)=>
 0≤(1:Int)∧
 Ld kI (Addr.add ⟨d,0,none⟩ 259) q fun (t:Int)=>
 bx Pg 108 [(0,(.agg r)),(1,(ni (hX .i64 (bg .i64 s (1:Int)) b))),(2,(ni (i64 (t+1))))] fun u=>
 an 260 ⟨f,0,none⟩ u q fun v=>
 Ld (.arr 258) (Addr.add ⟨f,0,none⟩ 0) v fun x=>
 Ld kI (Addr.add ⟨f,0,none⟩ 259) v fun (y:Int)=>
 Cl Pg [kI,kI] dE ⟨[(.agg x),(ni y)]⟩ v fun (a1:Int) (b1:Int) z=>
 Ld kI (Addr.add ⟨f,0,none⟩ 258) z fun (c1:Int)=>
 aa (decide (c1≥(i64 (a1+b1))))
 (Ld (.arr 260) ⟨f,0,none⟩ z fun d1=>
 an 260 ⟨f,0,none⟩ d1 z fun e1=>
 Ld (.arr 260) ⟨f,0,none⟩ e1 fun f1=>
 R f1 0 false e1)
 (ag z fun g1=>
 Ld (.arr 258) (Addr.add ⟨f,0,none⟩ 0) g1 fun h1=>
 Ld kI (Addr.add ⟨f,0,none⟩ 259) g1 fun (i1:Int)=>
 Ld kI (Addr.add ⟨f,0,none⟩ 258) g1 fun (j1:Int)=>
 (Ld (.arr 258) (Addr.add ⟨d,0,none⟩ 0) g1 fun k1=>
 bx Pg 108 [(0,(.agg k1))] fun l1=>
 Cl Pg [kI] ff ⟨[(.agg h1),(ni i1),(ni (i64 (j1 - a1)))]⟩ g1 fun (n1:Int) m1=>
 an 260 ⟨f,0,none⟩ l1 m1 fun o1=>
 Ld (.arr 260) ⟨f,0,none⟩ o1 fun p1=>
 R p1 n1 true o1)∧
 (Cl Pg [kI] ff ⟨[(.agg h1),(ni i1),(ni (i64 (j1 - a1)))]⟩ g1 fun (r1:Int) q1=>
 Ld (.arr 258) (Addr.add ⟨d,0,none⟩ 0) q1 fun s1=>
 bx Pg 108 [(0,(.agg s1))] fun t1=>
 an 260 ⟨f,0,none⟩ t1 q1 fun u1=>
 Ld (.arr 260) ⟨f,0,none⟩ u1 fun v1=>
 R v1 r1 true u1))) fun g=>
 0≤(1:Int)∧
 aa ((cl .i64 b (1:Int)) !=0)
 (Ld (.arr 260) ⟨d,0,none⟩ e fun h=>
 an 260 ⟨f,0,none⟩ h e fun i=>
 Ld (.arr 260) ⟨f,0,none⟩ i fun j=>
 R j 0 false i)
 (Ld (.arr 260) ⟨d,0,none⟩ e fun k=>
 Cl Pg [kB] fm ⟨[(.agg k)]⟩ e fun (m:Bool) l=>
 aa (!m)
 (Ld (.arr 260) ⟨d,0,none⟩ l fun n=>
 an 260 ⟨f,0,none⟩ n l fun o=>
 Ld (.arr 260) ⟨f,0,none⟩ o fun p=>
 R p 0 false o)
 (g l))):Cl Pg [(.arr 260),kI,kB] fK ⟨[(.agg a),(ni b)]⟩ w R:=co Tryz.f120 [(2,[]),(17,[])] h
theorem oa.ok (a:(Array Value)) (R:Bool→World→Prop) w (h:
 Nw 108 a w fun c b=>
 bf (fun (m:World)=>
 Ld (.arr 258) (Addr.add ⟨c,0,none⟩ 0) m fun n=>
 Ld kI (Addr.add ⟨c,0,none⟩ 259) m fun (o:Int)=>
 Cl Pg [kI,kI] dE ⟨[(.agg n),(ni o)]⟩ m fun (q:Int) (r:Int) p=>
 Ld kI (Addr.add ⟨c,0,none⟩ 258) p fun (s:Int)=>
 R (decide (s≥(i64 (q+r)))) p) fun d=>
 Ld (.arr 258) (Addr.add ⟨c,0,none⟩ 0) b fun e=>
 Cl Pg [kB] dh ⟨[(.agg e)]⟩ b fun (g:Bool) f=>
 aa (!g)
 (R false f)
 (Ld kI (Addr.add ⟨c,0,none⟩ 259) f fun (h:Int)=>
 aa (decide (h<0))
 (R false f)
 (Ld kI (Addr.add ⟨c,0,none⟩ 259) f fun (i:Int)=>
 aa (decide (i≥15))
 (R false f)
 (Ld kI (Addr.add ⟨c,0,none⟩ 258) f fun (j:Int)=>
 aa (decide (j<0))
 (R false f)
 (Ld kI (Addr.add ⟨c,0,none⟩ 258) f fun (k:Int)=>
 Ld kI (Addr.add ⟨c,0,none⟩ 259) f fun (l:Int)=>
 0≤l∧
 aa ((cl .i64 k l) !=0)
 (R false f)
 (d f)))))):Cl Pg [kB] fm ⟨[(.agg a)]⟩ w R:=co Tryz.f175 [(2,[])] h
theorem nZ.ok (a:(Array Value)) (b:Int) (R:Int→Int→World→Prop) w (h:
 Nw 104 a w fun d c=>
 Ld (.arr 258) ⟨d,0,none⟩ c fun e=>
 Cl Pg [(.st wc)] gL ⟨[(.agg e)]⟩ c fun g f=>
 Nw 309 ⟨List.replicate 16 (ni 0)⟩ f fun i h=>
 ae ⟨i,0,none⟩ [(ni g.1),(ni g.2.1),(ni g.2.2.1),(ni g.2.2.2.1),(ni g.2.2.2.2.1),(ni g.2.2.2.2.2.1),(ni g.2.2.2.2.2.2.1),(ni g.2.2.2.2.2.2.2.1),(ni g.2.2.2.2.2.2.2.2.1),(ni g.2.2.2.2.2.2.2.2.2.1),(ni g.2.2.2.2.2.2.2.2.2.2.1),(ni g.2.2.2.2.2.2.2.2.2.2.2.1),(ni g.2.2.2.2.2.2.2.2.2.2.2.2.1),(ni g.2.2.2.2.2.2.2.2.2.2.2.2.2.1),(ni g.2.2.2.2.2.2.2.2.2.2.2.2.2.2.1),(ni g.2.2.2.2.2.2.2.2.2.2.2.2.2.2.2.1)] 0 h fun j=>
 aY ⟨i,0,none⟩ 16 0 1 fun k=>
 St k (ni 0) j fun l=>
 gA 0 1 l fun m n (o:Int) (p:Int) q=>
 aa (decide (p≤b))
 (aY ⟨i,0,none⟩ 16 (i64 (p - 1)) 1 fun r=>
 Ld kI r q fun (s:Int)=>
 0≤(1:Int)∧
 m (bg .i64 (i64 (o+s)) (1:Int)) (i64 (p+1)) q∧n (bg .i64 (i64 (o+s)) (1:Int)) (i64 (p+1)) q<n o p q)
 (ag q fun t=>
 aY ⟨i,0,none⟩ 16 b 1 fun u=>
 Ld kI u t fun (v:Int)=>
 R o v t)):Cl Pg [kI,kI] dE ⟨[(.agg a),(ni b)]⟩ w R:=co Tryz.f176 [(9,[(4,kI),(7,kI)])] h
theorem rH.ok (a:(Array Value)) (b:Int) (c:Int) (R:Int→World→Prop) w (h:
 Nw 104 a w fun e d=>
 Ld (.arr 258) ⟨e,0,none⟩ d fun f=>
 gA c 0 d fun g h (i:Int) (j:Int) k=>
 aa (decide (j<258))
 (gB (.int .u8) f 258 j fun (l:Int)=>
 aa ((i64 l) !=b)
 (g i (i64 (j+1)) k∧h i (i64 (j+1)) k<h i j k)
 (aa (i==0)
 (R j k)
 (g (i64 (i - 1)) (i64 (j+1)) k∧h (i64 (i - 1)) (i64 (j+1)) k<h i j k)))
 (R 0 k)):Cl Pg [kI] ff ⟨[(.agg a),(ni b),(ni c)]⟩ w R:=co Tryz.f177 [(5,[(2,kI),(10,kI)])] h
end Go.Proofs.YtgglghjnakclmaaGreat
set_option maxRecDepth 20000
namespace Go.Srt
def sh (l:List Nat) (s:Nat):Nat:=2^(15 - l.getD s 0)
def start (l ys:List Nat) (i:Nat):Nat:=((ys.take i).map (sh l)).sum
theorem kL {l ys:List Nat} {i:Nat} (h:i<ys.length):start l ys (i+1)=start l ys i+sh l ys[i]:=by
 unfold start
 rw [List.take_add_one,List.map_append,List.sum_append,List.getElem?_eq_getElem h]
 simp only [Option.toList,List.map_cons,List.map_nil,List.sum_cons,List.sum_nil,Nat.add_zero]
theorem rr (l:List Nat) (s:Nat):0<sh l s:=Nat.two_pow_pos _
theorem u0 {l ys:List Nat} {i j:Nat} (h:i≤j):start l ys i≤start l ys j:=by
 unfold start
 have:=List.take_append_drop i (ys.take j)
 rw [List.take_take,Nat.min_eq_left h] at this
 have h2:=congrArg (fun l'=>(l'.map (sh l)).sum) this
 simp only [List.map_append,List.sum_append] at h2
 omega
theorem fS {l:List Nat} {s:Nat}:s∈used l↔s<l.length∧0<l.getD s 0:=by
 unfold used
 rw [List.mem_filter,List.mem_range];simp
theorem v5 (l:List Nat):aZ l=((used l).map fun s=>wt (l.getD s 0)).sum:=by
 have key: ∀k,k≤l.length→aZ (l.take k)=(((List.range k).filter fun s=>decide (0<l.getD s 0)).map fun s=>wt (l.getD s 0)).sum:=by
  intro k
  induction k with
  |zero=>intro _;simp [aZ]
  |succ k ih=>
   intro hk
   rw [hZ (by omega),ih (by omega),List.range_succ,List.filter_append,List.map_append,List.sum_append]
   have hg:l.getD k 0=l[k]:=by rw [List.getD_eq_getElem?_getD,List.getElem?_eq_getElem (by omega)];rfl
   by_cases h:0<l.getD k 0
   ·rw [List.filter_cons_of_pos (by simpa using h)];simp only [List.filter_nil,List.map_cons,List.map_nil,List.sum_cons,List.sum_nil,hg];rfl
   ·rw [List.filter_cons_of_neg (by simpa using h)]
    have:l[k]=0:=by omega
    rw [this];rfl
 have:=key l.length (Nat.le_refl _)
 rw [List.take_length] at this
 exact this
theorem gV {l:List Nat} (hv:aZ l≤32768) (s:Nat):l.getD s 0≤15:=by
 rw [List.getD_eq_getElem?_getD]
 cases h:l[s]? with
 |none=>simp
 |some x=>
  have:=BO (List.mem_of_getElem? h)
  unfold wt at this
  simp only [Option.getD_some]
  rcases Nat.lt_or_ge 15 x with hx|hx
  ·rw [if_neg (by omega),if_pos (by omega)] at this;omega
  ·exact hx
theorem wX {l ys:List Nat} (hv:aZ l≤32768) (h:c7 l ys):start l ys ys.length=aZ l:=by
 unfold start
 rw [List.take_length,v5,(h.1.map (sh l)).sum_nat]
 congr 1
 refine List.map_congr_left fun s hs=> ?_
 have h1:=(fS.1 hs).2
 have h2:=gV hv s
 unfold sh wt
 rw [if_neg (by omega),if_neg (by omega)]
theorem xG {l ys:List Nat} (hv:aZ l≤32768) (h:c7 l ys) {i:Nat} (hi:i≤ys.length):start l ys i≤32768:=by
 have:=u0 (l:=l) (ys:=ys) hi
 rw [wX hv h] at this
 omega
theorem uu {l ys:List Nat} (h:c7 l ys) {i j:Nat} (hj:j<ys.length) (hij:i≤j):l.getD (ys[i]'(by omega)) 0≤l.getD ys[j] 0:=by
 by_cases e:i=j
 ·subst e;exact Nat.le_refl _
 ·have:=(List.pairwise_iff_getElem.1 h.2) i j (by omega) hj (by omega)
  omega
theorem pn {l ys:List Nat} (h:c7 l ys) {i:Nat} (hi:i<ys.length): ∀k,k≤i→sh l ys[i]∣start l ys k
 |0,_=>by simp [start]
 |k+1,hk=>by
  rw [kL (by omega)]
  refine Nat.dvd_add (pn h hi k (by omega)) ?_
  have:=uu h hi (show k≤i by omega)
  unfold sh
  exact Nat.pow_dvd_pow 2 (by omega)
def cG (l ys:List Nat) (i:Nat):Nat:=start l ys i/sh l (ys.getD i 0)
theorem oE {ys:List Nat} {i:Nat} (hi:i<ys.length):ys.getD i 0=ys[i]:=by
 rw [List.getD_eq_getElem?_getD,List.getElem?_eq_getElem hi];rfl
theorem iK {l ys:List Nat} (h:c7 l ys) {i:Nat} (hi:i<ys.length):cG l ys i*sh l ys[i]=start l ys i:=by
 unfold cG
 rw [oE hi]
 exact Nat.div_mul_cancel (pn h hi i (Nat.le_refl _))
theorem Bh {l:List Nat} (hv:aZ l≤32768) (s:Nat):2^l.getD s 0*sh l s=32768:=by
 unfold sh
 rw [←Nat.pow_add,show l.getD s 0+(15 - l.getD s 0)=15 by have:=gV hv s;omega]
theorem pH {l ys:List Nat} (hv:aZ l≤32768) (h:c7 l ys) {i:Nat} (hi:i<ys.length):cG l ys i<2^l.getD ys[i] 0:=by
 have h1:=iK h hi
 have h2:=xG hv h (show i+1≤ys.length by omega)
 rw [kL hi] at h2
 have h3:=Bh hv ys[i]
 have h4:=rr l ys[i]
 have h5:(cG l ys i+1)*sh l ys[i]≤2^l.getD ys[i] 0*sh l ys[i]:=by rw [Nat.succ_mul];omega
 exact Nat.le_of_mul_le_mul_right h5 h4
end Go.Srt
set_option maxRecDepth 20000
namespace Go.Srt
def bt (l ys:List Nat):Nat→List Nat
 |0=>List.replicate 258 0
 |i+1=>(bt l ys i).set (ys.getD i 0) (cG l ys i)
theorem ey (l ys:List Nat): ∀i,(bt l ys i).length=258
 |0=>List.length_replicate
 |i+1=>by rw [bt,List.length_set,ey l ys i]
theorem Bz {l ys:List Nat} (h:c7 l ys) {i j:Nat} (hj:j<ys.length) (hij:i<j):ys[i]'(by omega)≠ys[j]:=by
 have:=(List.pairwise_iff_getElem.1 h.2) i j (by omega) hj hij
 intro e
 rw [e] at this
 omega
theorem kn {l ys:List Nat} (h:c7 l ys) (hin: ∀s∈ys,s<258): ∀(i:Nat),i≤ys.length→∀j (hj:j<ys.length),j<i→(bt l ys i).getD ys[j] 0=cG l ys j
 |0,_,_,_,hji=>by omega
 |i+1,hi,j,hj,hji=>by
  have hi':i<ys.length:=by omega
  rw [bt,oE hi']
  by_cases e:j=i
  ·subst e
   have:ys[j]<(bt l ys j).length:=by rw [ey];exact hin _ (List.getElem_mem hj)
   rw [List.getD_eq_getElem?_getD,List.getElem?_set_self this];rfl
  ·have hne:=Bz h hi' (show j<i by omega)
   rw [List.getD_eq_getElem?_getD,List.getElem?_set_ne (fun hh=>hne hh.symm),←List.getD_eq_getElem?_getD]
   exact kn h hin i (by omega) j hj (by omega)
end Go.Srt
set_option maxRecDepth 20000
namespace Go.Srt
def many (l:List Nat) (n:Nat):Nat:=if n=0 then 0 else l.count n
def fst (l:List Nat):Nat→Nat
 |0=>0
 |n+1=>2*(fst l n+many l n)
def low (l:List Nat):Nat→Nat
 |0=>0
 |n+1=>low l n+many l n*2^(15 - n)
theorem o5 (l:List Nat): ∀n,n≤15→fst l n*2^(15 - n)=low l n
 |0,_=>by simp [fst,low]
 |n+1,h=>by
  have ih:=o5 l n (by omega)
  have e:2^(15 - n)=2*2^(15 - (n+1)):=by rw [show 15 - n=(15 - (n+1))+1 by omega,Nat.pow_succ,Nat.mul_comm]
  rw [fst,low,←ih,←Nat.add_mul,e,Nat.mul_comm 2 (fst l n+many l n),Nat.mul_assoc]
theorem ua (n:Nat):low [] n=0:=by
 induction n with
 |zero=>rfl
 |succ n ih=>rw [low,ih];simp [many]
theorem oX (l:List Nat) (x:Nat): ∀n,low (l++ [x]) n=low l n+if 0<x∧x<n then 2^(15 - x) else 0
 |0=>by simp [low]
 |n+1=>by
  rw [low,low,oX l x n]
  unfold many
  rw [List.count_append,List.count_singleton]
  by_cases h0:n=0
  ·subst h0;rw [if_pos rfl,if_pos rfl,if_neg (by omega),if_neg (by omega)]
  ·rw [if_neg h0,if_neg h0]
   by_cases hx:x=n
   ·subst hx
    rw [if_neg (by omega),if_pos (by simp),if_pos (by omega),Nat.add_mul];omega
   ·rw [if_neg (show¬(x==n)=true by simpa using hx)]
    by_cases h:0<x∧x<n
    ·rw [if_pos h,if_pos (by omega),Nat.add_zero];omega
    ·rw [if_neg h,if_neg (by omega),Nat.add_zero,Nat.add_zero,Nat.add_zero]
theorem zy: ∀(k:Nat) (l:List Nat),l.length=k→(∀x∈l,x≤15)→low l 16=aZ l:=by
 intro k
 induction k with
 |zero=>intro l h _;have:l= []:=List.length_eq_zero_iff.1 h
        subst this;simp [ua,aZ]
 |succ k ih=>
  intro l hl h
  have hne:l≠ []:=by intro e;subst e;simp at hl
  obtain ⟨l',x,rfl⟩: ∃l' x,l=l'++ [x]:=⟨l.dropLast,l.getLast hne,(List.dropLast_concat_getLast hne).symm⟩
  rw [oX,ih l' (by simpa using hl) (fun y hy=>h y (by simp [hy]))]
  have hx:=h x (by simp)
  unfold aZ
  rw [List.map_append,List.sum_append]
  congr 1
  simp only [List.map_cons,List.map_nil,List.sum_cons,List.sum_nil,Nat.add_zero]
  unfold wt
  by_cases h0:x=0
  ·rw [if_neg (by omega),if_pos h0]
  ·rw [if_pos (by omega),if_neg h0,if_neg (by omega)]
theorem B9 {l:List Nat} (hv:aZ l≤32768):low l 16=aZ l:=zy _ l rfl fun x hx=>by
 obtain ⟨i,hi,rfl⟩:=List.getElem_of_mem hx
 have:=gV hv i
 rwa [List.getD_eq_getElem?_getD,List.getElem?_eq_getElem hi] at this
def fk (l:List Nat) (s:Nat):Nat:=(l.take s).count (l.getD s 0)
def code (l:List Nat) (s:Nat):Nat:=fst l (l.getD s 0)+fk l s
def pos (l:List Nat) (s:Nat):Nat:=low l (l.getD s 0)+fk l s*2^(15 - l.getD s 0)
theorem xH {l:List Nat} (hv:aZ l≤32768) (s:Nat):code l s*2^(15 - l.getD s 0)=pos l s:=by
 unfold code pos
 rw [Nat.add_mul,o5 l _ (gV hv s)]
theorem cg {l:List Nat} {i:Nat} (h:i<l.length):l.getD i 0=l[i]:=by rw [List.getD_eq_getElem?_getD,List.getElem?_eq_getElem h];rfl
theorem im (l:List Nat) (k x:Nat):(l.take k).count x≤l.count x:=(List.take_sublist k l).count_le x
theorem dn {l:List Nat} {k:Nat} (h:k<l.length) (x:Nat):(l.take (k+1)).count x=(l.take k).count x+if l[k]=x then 1 else 0:=by
 rw [List.take_add_one,List.getElem?_eq_getElem h,List.count_append]
 simp only [Option.toList,List.count_singleton,beq_iff_eq]
theorem nG {l:List Nat} {i j:Nat} (h:i≤j) (x:Nat):(l.take i).count x≤(l.take j).count x:=by
 have:(l.take i)=(l.take j).take i:=by rw [List.take_take,Nat.min_eq_left h]
 rw [this];exact im _ _ _
theorem zV {l:List Nat} {s:Nat} (hs:s<l.length) (h0:0<l.getD s 0):fk l s<many l (l.getD s 0):=by
 unfold fk many
 rw [if_neg (by omega)]
 have h1:=dn hs (l.getD s 0)
 rw [cg hs,if_pos rfl] at h1
 have h2:=im l (s+1) (l[s])
 rw [cg hs]
 omega
theorem zK (l:List Nat) (n:Nat): ∀p,p<l.count n→∃s,s<l.length∧l.getD s 0=n∧fk l s=p:=by
 intro p hp
 have key: ∀k,k≤l.length→p<(l.take k).count n→∃s,s<k∧l.getD s 0=n∧fk l s=p:=by
  intro k
  induction k with
  |zero=>intro _ h;simp at h
  |succ k ih=>
   intro hk h
   by_cases h2:p<(l.take k).count n
   ·obtain ⟨s,h1,h3⟩:=ih (by omega) h2;exact ⟨s,by omega,h3⟩
   ·have h3:=dn (l:=l) (k:=k) (by omega) n
    by_cases h4:l[k]=n
    ·rw [if_pos h4] at h3
     refine ⟨k,by omega,by rw [cg (by omega),h4],?_⟩
     unfold fk
     rw [cg (by omega),h4];omega
    ·rw [if_neg h4] at h3;omega
 obtain ⟨s,h1,h2⟩:=key l.length (Nat.le_refl _) (by rwa [List.take_length])
 exact ⟨s,by omega,h2⟩
theorem rN {l:List Nat} {s t:Nat} (hs:s<l.length) (ht:t<l.length) (h:l.getD s 0=l.getD t 0) (hr:fk l s=fk l t):s=t:=by
 have aux: ∀{s t:Nat},s<l.length→t<l.length→l.getD s 0=l.getD t 0→fk l s=fk l t→¬s<t:=by
  intro s t hs ht h hr hlt
  have h1:=dn hs (l.getD t 0)
  rw [if_pos (by rw [←h,cg hs])] at h1
  have h2:=nG (l:=l) (show s+1≤t by omega) (l.getD t 0)
  unfold fk at hr
  rw [h] at hr
  omega
 have h1:=aux hs ht h hr
 have h2:=aux ht hs h.symm hr.symm
 omega
def ud (l:List Nat) (n s t:Nat):Bool:=decide (0<l.getD t 0)&&decide (l.getD t 0<n∨(l.getD t 0=n∧t<s))
theorem oA (l:List Nat) (n s:Nat) (hn:0<n): ∀k,k≤l.length→(((List.range k).filter (ud l n s)).map (sh l)).sum=low (l.take k) n+((l.take k).take s).count n*2^(15 - n)
 |0,_=>by simp [ua]
 |k+1,hk=>by
  have hk':k<l.length:=by omega
  rw [List.range_succ,List.filter_append,List.map_append,List.sum_append,oA l n s hn k (by omega)]
  have e1:l.take (k+1)=l.take k++ [l[k]]:=by rw [List.take_add_one,List.getElem?_eq_getElem hk'];rfl
  rw [e1,oX]
  have hg:=cg hk'
  have hlen:(l.take k).length=k:=by simp;omega
  have hc:0<l[k]→(l[k]<n∨(l[k]=n∧k<s))→ud l n s k=true:=fun h0 h1=>by
   unfold ud;rw [hg,Bool.and_eq_true,decide_eq_true_eq,decide_eq_true_eq];exact ⟨h0,h1⟩
  have hc': ¬(0<l[k]∧(l[k]<n∨(l[k]=n∧k<s)))→¬ud l n s k=true:=fun h=>by
   unfold ud;rw [hg,Bool.and_eq_true,decide_eq_true_eq,decide_eq_true_eq];exact h
  by_cases hks:k<s
  ·have e2:(l.take k++ [l[k]]).take s=l.take k++ [l[k]]:=List.take_of_length_le (by rw [List.length_append,hlen];simp;omega)
   have e3:(l.take k).take s=l.take k:=List.take_of_length_le (by omega)
   rw [e2,e3,List.count_append,List.count_singleton]
   by_cases h0:0<l[k]∧l[k]<n
   ·rw [List.filter_cons_of_pos (hc h0.1 (.inl h0.2)),if_pos h0,if_neg (by rw [beq_iff_eq];omega)]
    simp only [List.filter_nil,List.map_cons,List.map_nil,List.sum_cons,List.sum_nil,sh,hg,Nat.add_zero];omega
   ·rw [if_neg h0]
    by_cases h1:l[k]=n
    ·rw [List.filter_cons_of_pos (hc (by omega) (.inr ⟨h1,hks⟩)),if_pos (by simpa using h1),Nat.add_mul]
     simp only [List.filter_nil,List.map_cons,List.map_nil,List.sum_cons,List.sum_nil,sh,hg,h1];omega
    ·rw [List.filter_cons_of_neg (hc' (by omega)),if_neg (by simpa using h1)]
     simp
  ·have e2:(l.take k++ [l[k]]).take s=(l.take k).take s:=by rw [List.take_append_of_le_length (by omega)]
   rw [e2]
   by_cases h0:0<l[k]∧l[k]<n
   ·rw [List.filter_cons_of_pos (hc h0.1 (.inl h0.2)),if_pos h0]
    simp only [List.filter_nil,List.map_cons,List.map_nil,List.sum_cons,List.sum_nil,sh,hg,Nat.add_zero];omega
   ·rw [if_neg h0,List.filter_cons_of_neg (hc' (by omega))]
    simp
theorem wG {l ys:List Nat} (h:c7 l ys) {i:Nat} (hi:i<ys.length):start l ys i=pos l ys[i]:=by
 have hm:=fS.1 (h.1.mem_iff.1 (List.getElem_mem hi))
 let p:Nat→Bool:=fun t=>decide (l.getD t 0<l.getD ys[i] 0∨(l.getD t 0=l.getD ys[i] 0∧t<ys[i]))
 have hpw:=List.pairwise_iff_getElem.1 h.2
 have e1:ys.filter p=ys.take i:=by
  conv=>lhs;rw [←List.take_append_drop i ys]
  rw [List.filter_append,List.filter_eq_self.2,List.filter_eq_nil_iff.2,List.append_nil]
  ·intro a ha
   obtain ⟨j,hj,rfl⟩:=List.getElem_of_mem ha
   rw [List.length_drop] at hj
   rw [List.getElem_drop]
   show¬p _=true
   by_cases e:j=0
   ·subst e;simp only [p,Nat.add_zero,decide_eq_true_eq];omega
   ·have:=hpw i (i+j) hi (by omega) (by omega)
    simp only [p,decide_eq_true_eq];omega
  ·intro a ha
   obtain ⟨j,hj,rfl⟩:=List.getElem_of_mem ha
   rw [List.length_take] at hj
   rw [List.getElem_take]
   have:=hpw j i (by omega) hi (by omega)
   simp only [p,decide_eq_true_eq];omega
 have e2:((ys.take i).map (sh l)).sum=(((used l).filter p).map (sh l)).sum:=by
  rw [←e1];exact ((h.1.filter p).map (sh l)).sum_nat
 unfold start
 rw [e2]
 have e3:(used l).filter p=(List.range l.length).filter (ud l (l.getD ys[i] 0) ys[i]):=by
  unfold used;rw [List.filter_filter];congr 1;funext t;rw [Bool.and_comm];rfl
 rw [e3]
 have:=oA l (l.getD ys[i] 0) ys[i] hm.2 l.length (Nat.le_refl _)
 rw [List.take_length] at this
 exact this
theorem s4 {l ys:List Nat} (hv:aZ l≤32768) (h:c7 l ys) {i:Nat} (hi:i<ys.length):cG l ys i=code l ys[i]:=by
 have h1:=iK h hi
 rw [wG h hi,←xH hv] at h1
 exact Nat.eq_of_mul_eq_mul_right (rr l ys[i]) h1
theorem uM {l ys:List Nat} (hl:l.length=258) (hv:aZ l≤32768) (h:c7 l ys) {s:Nat} (hs:s<258) (h0:0<l.getD s 0):(bt l ys ys.length).getD s 0=code l s:=by
 have hin: ∀s∈ys,s<258:=fun s hs=>by have:=(fS.1 (h.1.mem_iff.1 hs)).1;omega
 have hm:s∈ys:=h.1.mem_iff.2 (fS.2 ⟨by omega,h0⟩)
 obtain ⟨i,hi,rfl⟩:=List.getElem_of_mem hm
 rw [kn h hin _ (Nat.le_refl _) i hi hi,s4 hv h hi]
end Go.Srt
