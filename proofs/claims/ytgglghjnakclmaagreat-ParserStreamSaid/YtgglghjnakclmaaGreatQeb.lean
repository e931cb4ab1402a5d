/- Texts packed together by program; spaces struck by program. Conditions: as each theorem states. -/
import Derived.Carry
import Derived.Laws.AppendOwn
import Derived.Laws.BytesArg
import Derived.Laws.CopyRow
import Derived.Laws.IdiomCopy
import Derived.Laws.IdiomStrings
import Derived.Laws.MakeOwn
import Derived.Lib.BytesEntry
import Derived.Lib.MakeNoZero
import Derived.MapKept
import Derived.OpenShut
import Derived.OrdersIn
import Derived.ProofKit
import Derived.RangeFuncRecord
import Derived.ScopeJumps
import Derived.SizedLaws
import Derived.TacticsIn
import Derived.Test.YtgglghjnakclmaaGreatChecked
import Derived.Test.YtgglghjnakclmaaGreatQea
set_option linter.unusedSimpArgs false
set_option linter.unusedVariables false
namespace Go.Vc
open Go
noncomputable section
variable {nn:Nat} {dfs:List Deferred}
def mark (r:Nat):Deferred:={target:= .collected r,args:= #[]}
end
end Go.Vc
set_option maxRecDepth 20000
namespace Go.Vc
open Go
noncomputable section
variable {nn:Nat} {dfs:List Deferred}
end
end Go.Vc
namespace Go.Proofs.YtgglghjnakclmaaGreat
open Go Go.Vc
abbrev eH:Nat:=4
abbrev eY:Nat:=12
abbrev dO:Nat:=13
abbrev ey:Nat:=14
abbrev bw:Nat:=15
abbrev cx:Nat:=18
abbrev ax:Nat:=19
abbrev cJ:Nat:=20
abbrev ca:Nat:=21
abbrev jO:Nat:=24
abbrev jD:Nat:=25
abbrev iD:Nat:=26
abbrev ez:Nat:=27
abbrev bP:Nat:=28
abbrev fy:Nat:=56
abbrev jT:Nat:=61
abbrev eg:Nat:=62
abbrev dQ:Nat:=63
abbrev ek:Nat:=64
abbrev di:Nat:=65
abbrev dS:Nat:=66
abbrev dR:Nat:=67
abbrev dx:Nat:=68
abbrev dM:Nat:=69
abbrev dy:Nat:=70
abbrev dJ:Nat:=71
abbrev ep:Nat:=72
abbrev eU:Nat:=73
abbrev eL:Nat:=74
abbrev fL:Nat:=75
abbrev eu:Nat:=76
abbrev mj:Nat:=77
abbrev kX:Nat:=78
abbrev iI:Nat:=79
abbrev jX:Nat:=80
abbrev kH:Nat:=81
abbrev iR:Nat:=82
abbrev cb:Nat:=113
abbrev jE:Nat:=114
abbrev aZ:Nat:=115
abbrev cY:Nat:=116
abbrev fE:Nat:=117
abbrev iB:Nat:=118
abbrev kR:Nat:=119
abbrev gS:Nat:=120
abbrev jG:Nat:=121
abbrev dj:Nat:=122
abbrev cB:Nat:=123
abbrev gw:Nat:=124
abbrev gZ:Nat:=125
abbrev iH:Nat:=126
abbrev nE:Nat:=127
abbrev lb:Nat:=128
abbrev fw:Nat:=129
abbrev jz:Nat:=130
abbrev jf:Nat:=131
abbrev kQ:Nat:=132
abbrev jH:Nat:=133
abbrev jQ:Nat:=159
abbrev cD:Nat:=163
abbrev iK:Nat:=164
abbrev eV:Nat:=165
abbrev cT:Nat:=166
abbrev cV:Nat:=167
abbrev cH:Nat:=168
abbrev bQ:Nat:=169
abbrev fG:Nat:=170
abbrev fl:Nat:=171
abbrev fH:Nat:=172
abbrev dB:Nat:=173
abbrev n0:Nat:=174
abbrev gj:Nat:=175
abbrev eb:Nat:=176
abbrev ga:Nat:=177
abbrev iZ:Nat:=178
abbrev jM:Nat:=179
abbrev nG:Nat:=180
abbrev fo:Nat:=181
abbrev jR:Nat:=182
abbrev k6:Nat:=183
abbrev lZ:Nat:=184
abbrev lg:Nat:=185
abbrev lk:Nat:=186
abbrev bU:Nat:=199
abbrev gF:Nat:=220
abbrev jK:Nat:=221
abbrev l6:Nat:=222
abbrev kN:Nat:=226
abbrev dz:Nat:=227
abbrev ew:Nat:=228
abbrev jN:Nat:=229
abbrev gD:Nat:=230
abbrev cE:Nat:=231
abbrev bB:Nat:=232
abbrev fh:Nat:=233
abbrev eQ:Nat:=234
abbrev gX:Nat:=235
abbrev iL:Nat:=236
abbrev lX:Nat:=237
abbrev gP:Nat:=238
abbrev iw:Nat:=239
abbrev nw:Nat:=240
abbrev lU:Nat:=241
abbrev gG:Nat:=242
abbrev gK:Nat:=243
abbrev kL:Nat:=244
abbrev eT:Nat:=245
abbrev me:Nat:=246
abbrev mf:Nat:=247
abbrev k7:Nat:=248
abbrev lT:Nat:=249
abbrev lW:Nat:=250
abbrev lY:Nat:=251
abbrev mi:Nat:=287
abbrev jL:Nat:=288
abbrev fZ:Nat:=289
abbrev l5:Nat:=290
abbrev mV:Nat:=291
abbrev iQ:Nat:=292
abbrev gJ:Nat:=293
abbrev lO:Nat:=294
abbrev jC:Nat:=295
abbrev gO:Nat:=296
abbrev jh:Nat:=297
abbrev e9:Nat:=298
abbrev jI:Nat:=320
abbrev iu:Nat:=321
abbrev bW:Nat:=322
abbrev jU:Nat:=331
noncomputable abbrev Pg:Program:=Tryz.prog
theorem Tryz.mix:Tryz.prog.follows .mixedOrders=true:=by kernel_rfl
theorem co {i:FuncId} {w:World} {F:Prop} {args:List Value} {ks:List Ki} {K:jn ks (World→Prop)} (fn:Func) (L:List (Nat×List (Nat×Ki))) (h:F) (hf:Pg.funcs[i]? =some fn:=by kernel_rfl) (hb:fn.body=some (fn.body.getD .skip):=by kernel_rfl) (hl:Nat.ble args.length fn.ntmps=true:=by kernel_rfl) (he:vc Pg fn.ntmps (fn.body.getD .skip) (rN (fn.body.getD .skip) 0 L).1 (vb Pg fn.results.toList ks K) (mU args fn.ntmps) w=F:=by kernel_rfl):Cl Pg ks i ⟨args⟩ w K:=
 pU Tryz.mix fn args ks K fn.ntmps fn.results.toList hf hb rfl hl rfl (rN (fn.body.getD .skip) 0 L).1 he h
abbrev aO:List Sc:= [.int .u8,.int .i64,.int .i64,.int .i64,.int .u32,.sl,.int .i64]
abbrev bG:List Sc:= [.int .i64,.int .i64,.int .i64,.int .i64,.int .i64,.int .u32,.int .i64]
abbrev ea:List Sc:= [.int .i64,.int .i64,.int .i64,.int .i64]
abbrev Bn:List Sc:= [.int .i64,.int .i64,.int .i64,.int .i64,.int .i64,.int .i64,.int .i64,.int .i64,.int .i64,.int .i64,.int .i64,.int .i64,.int .i64,.int .i64,.int .i64,.int .i64]
end Go.Proofs.YtgglghjnakclmaaGreat
namespace Go.Proofs.YtgglghjnakclmaaGreat
open Go Go.Vc
set_option maxRecDepth 100000
theorem oU.ok (a:Int) (b:Sl) (R:Bool→World→Prop) w (h:
 bg (fun (k:World)=>
 Cl Pg [kS,kI] jD ⟨[(ni a),(an b)]⟩ k fun (m:Sl) (n:Int) l=>
 Cl Pg [kP] dO ⟨[]⟩ l fun p o=>
 Cl Pg [kP] ey ⟨[]⟩ o fun r q=>
 bg (fun (x:World)=>
 Nw 26 ⟨[(an m)]⟩ x fun z y=>
 Cl Pg [kB] bw ⟨[(.pointer p),(an (⟨some ⟨z,0,none⟩,1,1⟩:Sl))]⟩ y fun (b1:Bool) a1=>
 Cl Pg [kB] cJ ⟨[(.pointer p)]⟩ a1 fun (d1:Bool) c1=>
 Cl Pg [(.st aO)] ax ⟨[(.pointer r),(.pointer p)]⟩ c1 fun f1 e1=>
 Nw 29 ⟨[(.int .u8 0),(ni 0),(ni 0),(ni 0),(.int .u32 0),(.slice none 0 0),(ni 0)]⟩ e1 fun h1 g1=>
 ae ⟨h1,0,none⟩ [(.int .u8 f1.1),(ni f1.2.1),(ni f1.2.2.1),(ni f1.2.2.2.1),(.int .u32 f1.2.2.2.2.1),(an f1.2.2.2.2.2.1),(ni f1.2.2.2.2.2.2.1)] 0 g1 fun i1=>
 bg (fun (p1:World)=>
 Cl Pg [kS] iD ⟨[(ni a),(an b)]⟩ p1 fun (r1:Sl) q1=>
 gn 0 q1 fun s1 t1 (u1:Int) v1=>
 aa (decide (u1<(r1.len:Int)))
 (bg (fun (f4:World)=>
 s1 (i64 (u1+1)) f4∧t1 (i64 (u1+1)) f4<t1 u1 v1) fun x1=>
 Cl Pg [(.st aO)] ax ⟨[(.pointer r),(.pointer p)]⟩ v1 fun z1 y1=>
 Nw 29 ⟨[(.int .u8 0),(ni 0),(ni 0),(ni 0),(.int .u32 0),(.slice none 0 0),(ni 0)]⟩ y1 fun b2 a2=>
 ae ⟨b2,0,none⟩ [(.int .u8 z1.1),(ni z1.2.1),(ni z1.2.2.1),(ni z1.2.2.2.1),(.int .u32 z1.2.2.2.2.1),(an z1.2.2.2.2.2.1),(ni z1.2.2.2.2.2.2.1)] 0 a2 fun c2=>
 aI r1 u1 1 fun d2=>
 Ld kS d2 c2 fun (e2:Sl)=>
 Cl Pg [kS,kI] ez ⟨[(an e2)]⟩ c2 fun (g2:Sl) (h2:Int) f2=>
 bg (fun (s2:World)=>
 Cl Pg [(.st aO)] ax ⟨[(.pointer r),(.pointer p)]⟩ s2 fun u2 t2=>
 Nw 29 ⟨[(.int .u8 0),(ni 0),(ni 0),(ni 0),(.int .u32 0),(.slice none 0 0),(ni 0)]⟩ t2 fun x2 v2=>
 ae ⟨x2,0,none⟩ [(.int .u8 u2.1),(ni u2.2.1),(ni u2.2.2.1),(ni u2.2.2.2.1),(.int .u32 u2.2.2.2.2.1),(an u2.2.2.2.2.2.1),(ni u2.2.2.2.2.2.2.1)] 0 v2 fun y2=>
 HL (⟨none,0,0⟩:Sl) 0 (⟨x2,0,none⟩) y2 fun z2 a3 (b3:Sl) (c3:Int) (d3:Addr) e3=>
 Ld (az .u8) (d3.add 0) e3 fun (f3:Int)=>
 aa (f3 !=5)
 (bg (fun (q3:Sl) (r3:Int) (s3:World)=>
 Ld (.st aO) d3 s3 fun t3=>
 Nw 29 ⟨[(.int .u8 0),(ni 0),(ni 0),(ni 0),(.int .u32 0),(.slice none 0 0),(ni 0)]⟩ s3 fun v3 u3=>
 ae ⟨v3,0,none⟩ [(.int .u8 t3.1),(ni t3.2.1),(ni t3.2.2.1),(ni t3.2.2.2.1),(.int .u32 t3.2.2.2.2.1),(an t3.2.2.2.2.2.1),(ni t3.2.2.2.2.2.2.1)] 0 u3 fun x3=>
 Cl Pg [(.st aO)] ax ⟨[(.pointer r),(.pointer p)]⟩ x3 fun z3 y3=>
 ae ⟨v3,0,none⟩ [(.int .u8 z3.1),(ni z3.2.1),(ni z3.2.2.1),(ni z3.2.2.2.1),(.int .u32 z3.2.2.2.2.1),(an z3.2.2.2.2.2.1),(ni z3.2.2.2.2.2.2.1)] 0 y3 fun a4=>
 z2 q3 r3 (⟨v3,0,none⟩) a4∧a3 q3 r3 (⟨v3,0,none⟩) a4<a3 b3 c3 d3 e3) fun g3=>
 bg (fun (m3:World)=>
 Ld kS (d3.add 5) m3 fun (n3:Sl)=>
 aw Pg (Builtin.append_ #[26,26] 26 ⟨[(an b3),(an n3)]⟩) kS m3 fun (p3:Sl) o3=>
 g3 p3 (i64 (c3+1)) o3) fun h3=>
 bg (fun (k3:Bool) (l3:World)=>
 aa k3
 (R false l3)
 (h3 l3)) fun i3=>
 Ld (az .u8) (d3.add 0) e3 fun (j3:Int)=>
 aa (j3 !=4)
 (i3 true e3)
 (i3 (decide ((i64 (c3+1))>(g2.len:Int))) e3))
 (aw Pg (convert 26 9 (an b3)) su e3 fun (c4:ByteArray) b4=>
 aw Pg (convert 26 9 (an g2)) su b4 fun (e4:ByteArray) d4=>
 aa (!((c4).toList==(e4).toList))
 (R false d4)
 (x1 d4))) fun i2=>
 bg (fun (q2:Bool) (r2:World)=>
 aa q2
 (R false r2)
 (i2 r2)) fun j2=>
 ah f2 fun k2=>
 Ld (az .u8) (Addr.add ⟨b2,0,none⟩ 0) k2 fun (l2:Int)=>
 aa (l2 !=3)
 (j2 true k2)
 (Ld kI ((Addr.add ⟨b2,0,none⟩ 2).add 0) k2 fun (m2:Int)=>
 aI r1 u1 1 fun n2=>
 Ld kS n2 k2 fun (o2:Sl)=>
 aa (m2 !=(o2.len:Int))
 (j2 true k2)
 (Ld kI ((Addr.add ⟨b2,0,none⟩ 2).add 1) k2 fun (p2:Int)=>
 j2 (p2 !=h2) k2)))
 (Cl Pg [(.st aO)] ax ⟨[(.pointer r),(.pointer p)]⟩ v1 fun h4 g4=>
 Cl Pg [(.st aO)] ax ⟨[(.pointer r),(.pointer p)]⟩ g4 fun j4 i4=>
 Cl Pg [(.st aO)] ax ⟨[(.pointer r),(.pointer p)]⟩ i4 fun l4 k4=>
 Nw 29 ⟨[(.int .u8 0),(ni 0),(ni 0),(ni 0),(.int .u32 0),(.slice none 0 0),(ni 0)]⟩ k4 fun n4 m4=>
 Nw 29 ⟨[(.int .u8 0),(ni 0),(ni 0),(ni 0),(.int .u32 0),(.slice none 0 0),(ni 0)]⟩ m4 fun p4 o4=>
 Nw 29 ⟨[(.int .u8 0),(ni 0),(ni 0),(ni 0),(.int .u32 0),(.slice none 0 0),(ni 0)]⟩ o4 fun r4 q4=>
 ae ⟨n4,0,none⟩ [(.int .u8 h4.1),(ni h4.2.1),(ni h4.2.2.1),(ni h4.2.2.2.1),(.int .u32 h4.2.2.2.2.1),(an h4.2.2.2.2.2.1),(ni h4.2.2.2.2.2.2.1)] 0 q4 fun s4=>
 ae ⟨p4,0,none⟩ [(.int .u8 j4.1),(ni j4.2.1),(ni j4.2.2.1),(ni j4.2.2.2.1),(.int .u32 j4.2.2.2.2.1),(an j4.2.2.2.2.2.1),(ni j4.2.2.2.2.2.2.1)] 0 s4 fun t4=>
 ae ⟨r4,0,none⟩ [(.int .u8 l4.1),(ni l4.2.1),(ni l4.2.2.1),(ni l4.2.2.2.1),(.int .u32 l4.2.2.2.2.1),(an l4.2.2.2.2.2.1),(ni l4.2.2.2.2.2.2.1)] 0 t4 fun u4=>
 Ld (az .u8) (Addr.add ⟨n4,0,none⟩ 0) u4 fun (v4:Int)=>
 aa (v4==6)
 (Ld (az .u8) (Addr.add ⟨p4,0,none⟩ 0) u4 fun (x4:Int)=>
 aa (x4==7)
 (Ld (az .u8) (Addr.add ⟨r4,0,none⟩ 0) u4 fun (y4:Int)=>
 aa (y4==7)
 (Cl Pg [kI] bP ⟨[(.pointer p)]⟩ u4 fun (a5:Int) z4=>
 aa (a5==0)
 (Cl Pg [kB] eY ⟨[]⟩ z4 fun (c5:Bool) b5=>
 R c5 b5)
 (R false z4))
 (R false u4))
 (R false u4))
 (R false u4))) fun j1=>
 bg (fun (n1:Bool) (o1:World)=>
 aa n1
 (R false o1)
 (j1 o1)) fun k1=>
 Ld (az .u8) (Addr.add ⟨h1,0,none⟩ 0) i1 fun (l1:Int)=>
 aa (l1 !=2)
 (k1 true i1)
 (Ld kI (Addr.add ⟨h1,0,none⟩ 1) i1 fun (m1:Int)=>
 k1 (m1 !=a) i1)) fun s=>
 bg (fun (u:Bool) (v:World)=>
 aa u
 (R false v)
 (s v)) fun t=>
 aa (n !=0)
 (t true q)
 (aa (Option.isNone (p:Option Addr))
 (t true q)
 (t (Option.isNone (r:Option Addr)) q))) fun c=>
 bg (fun (g:Bool) (h:World)=>
 aa g
 (Cl Pg [kB] eY ⟨[]⟩ h fun (j:Bool) i=>
 R j i)
 (c h)) fun d=>
 Cl Pg [kB] jO ⟨[(an b)]⟩ w fun (f:Bool) e=>
 aa f
 (d true e)
 (aa (decide (a<1))
 (d true e)
 (d (decide (a>65536)) e))):Cl Pg [kB] eH ⟨[(ni a),(an b)]⟩ w R:=co Tryz.f4 [(2,[]),(3,[(30,kB)]),(11,[]),(12,[(49,kB)]),(22,[]),(23,[(67,kB)]),(32,[(11,kI)]),(36,[]),(41,[]),(42,[(108,kB)]),(53,[(15,kS),(16,kI),(17,kA)]),(57,[(15,kS),(16,kI)]),(60,[]),(61,[(128,kB)])] h
theorem xW.ok (R:Bool→World→Prop) w (h:
 Cl Pg [kP] dO ⟨[]⟩ w fun b a=>
 Cl Pg [kP] ey ⟨[]⟩ a fun d c=>
 Cl Pg [kP] dO ⟨[]⟩ c fun f e=>
 Cl Pg [kP] ey ⟨[]⟩ e fun h g=>
 bg (fun (j:World)=>
 Cl Pg [(.st aO)] ax ⟨[(.pointer d),(.pointer b)]⟩ j fun l k=>
 Nw 29 ⟨[(.int .u8 0),(ni 0),(ni 0),(ni 0),(.int .u32 0),(.slice none 0 0),(ni 0)]⟩ k fun n m=>
 ae ⟨n,0,none⟩ [(.int .u8 l.1),(ni l.2.1),(ni l.2.2.1),(ni l.2.2.2.1),(.int .u32 l.2.2.2.2.1),(an l.2.2.2.2.2.1),(ni l.2.2.2.2.2.2.1)] 0 m fun o=>
 Nw 5 ⟨[(.int .u8 87),(.int .u8 80),(.int .u8 1),(.int .u8 2),(.int .u8 0),(.int .u8 0),(.int .u8 0),(.int .u8 0)]⟩ o fun q p=>
 Nw 26 ⟨[(an (⟨some ⟨q,0,none⟩,8,8⟩:Sl))]⟩ p fun s r=>
 Cl Pg [kB] bw ⟨[(.pointer b),(an (⟨some ⟨s,0,none⟩,1,1⟩:Sl))]⟩ r fun (u:Bool) t=>
 Cl Pg [(.st aO)] ax ⟨[(.pointer d),(.pointer b)]⟩ t fun x v=>
 Cl Pg [(.st aO)] ax ⟨[(.pointer d),(.pointer b)]⟩ v fun z y=>
 Nw 29 ⟨[(.int .u8 0),(ni 0),(ni 0),(ni 0),(.int .u32 0),(.slice none 0 0),(ni 0)]⟩ y fun b1 a1=>
 Nw 29 ⟨[(.int .u8 0),(ni 0),(ni 0),(ni 0),(.int .u32 0),(.slice none 0 0),(ni 0)]⟩ a1 fun d1 c1=>
 ae ⟨b1,0,none⟩ [(.int .u8 x.1),(ni x.2.1),(ni x.2.2.1),(ni x.2.2.2.1),(.int .u32 x.2.2.2.2.1),(an x.2.2.2.2.2.1),(ni x.2.2.2.2.2.2.1)] 0 c1 fun e1=>
 ae ⟨d1,0,none⟩ [(.int .u8 z.1),(ni z.2.1),(ni z.2.2.1),(ni z.2.2.2.1),(.int .u32 z.2.2.2.2.1),(an z.2.2.2.2.2.1),(ni z.2.2.2.2.2.2.1)] 0 e1 fun f1=>
 Nw 5 ⟨[(.int .u8 0)]⟩ f1 fun h1 g1=>
 Nw 26 ⟨[(an (⟨some ⟨h1,0,none⟩,1,1⟩:Sl))]⟩ g1 fun j1 i1=>
 Cl Pg [kB] bw ⟨[(.pointer b),(an (⟨some ⟨j1,0,none⟩,1,1⟩:Sl))]⟩ i1 fun (l1:Bool) k1=>
 Cl Pg [(.st aO)] ax ⟨[(.pointer d),(.pointer b)]⟩ k1 fun n1 m1=>
 Cl Pg [(.st aO)] ax ⟨[(.pointer d),(.pointer b)]⟩ m1 fun p1 o1=>
 Nw 29 ⟨[(.int .u8 0),(ni 0),(ni 0),(ni 0),(.int .u32 0),(.slice none 0 0),(ni 0)]⟩ o1 fun r1 q1=>
 Nw 29 ⟨[(.int .u8 0),(ni 0),(ni 0),(ni 0),(.int .u32 0),(.slice none 0 0),(ni 0)]⟩ q1 fun t1 s1=>
 ae ⟨r1,0,none⟩ [(.int .u8 n1.1),(ni n1.2.1),(ni n1.2.2.1),(ni n1.2.2.2.1),(.int .u32 n1.2.2.2.2.1),(an n1.2.2.2.2.2.1),(ni n1.2.2.2.2.2.2.1)] 0 s1 fun u1=>
 ae ⟨t1,0,none⟩ [(.int .u8 p1.1),(ni p1.2.1),(ni p1.2.2.1),(ni p1.2.2.2.1),(.int .u32 p1.2.2.2.2.1),(an p1.2.2.2.2.2.1),(ni p1.2.2.2.2.2.2.1)] 0 u1 fun v1=>
 Cl Pg [kB] cJ ⟨[(.pointer b)]⟩ v1 fun (y1:Bool) x1=>
 Cl Pg [(.st aO)] ax ⟨[(.pointer d),(.pointer b)]⟩ x1 fun a2 z1=>
 Cl Pg [(.st aO)] ax ⟨[(.pointer d),(.pointer b)]⟩ z1 fun c2 b2=>
 Nw 29 ⟨[(.int .u8 0),(ni 0),(ni 0),(ni 0),(.int .u32 0),(.slice none 0 0),(ni 0)]⟩ b2 fun e2 d2=>
 Nw 29 ⟨[(.int .u8 0),(ni 0),(ni 0),(ni 0),(.int .u32 0),(.slice none 0 0),(ni 0)]⟩ d2 fun g2 f2=>
 ae ⟨e2,0,none⟩ [(.int .u8 a2.1),(ni a2.2.1),(ni a2.2.2.1),(ni a2.2.2.2.1),(.int .u32 a2.2.2.2.2.1),(an a2.2.2.2.2.2.1),(ni a2.2.2.2.2.2.2.1)] 0 f2 fun h2=>
 ae ⟨g2,0,none⟩ [(.int .u8 c2.1),(ni c2.2.1),(ni c2.2.2.1),(ni c2.2.2.2.1),(.int .u32 c2.2.2.2.2.1),(an c2.2.2.2.2.2.1),(ni c2.2.2.2.2.2.2.1)] 0 h2 fun i2=>
 Nw 5 ⟨[(.int .u8 87),(.int .u8 81),(.int .u8 1)]⟩ i2 fun k2 j2=>
 Nw 26 ⟨[(an (⟨some ⟨k2,0,none⟩,3,3⟩:Sl))]⟩ j2 fun m2 l2=>
 Cl Pg [kB] bw ⟨[(.pointer f),(an (⟨some ⟨m2,0,none⟩,1,1⟩:Sl))]⟩ l2 fun (o2:Bool) n2=>
 Cl Pg [(.st aO)] ax ⟨[(.pointer h),(.pointer f)]⟩ n2 fun q2 p2=>
 Cl Pg [(.st aO)] ax ⟨[(.pointer h),(.pointer f)]⟩ p2 fun s2 r2=>
 Nw 29 ⟨[(.int .u8 0),(ni 0),(ni 0),(ni 0),(.int .u32 0),(.slice none 0 0),(ni 0)]⟩ r2 fun u2 t2=>
 Nw 29 ⟨[(.int .u8 0),(ni 0),(ni 0),(ni 0),(.int .u32 0),(.slice none 0 0),(ni 0)]⟩ t2 fun x2 v2=>
 ae ⟨u2,0,none⟩ [(.int .u8 q2.1),(ni q2.2.1),(ni q2.2.2.1),(ni q2.2.2.2.1),(.int .u32 q2.2.2.2.2.1),(an q2.2.2.2.2.2.1),(ni q2.2.2.2.2.2.2.1)] 0 v2 fun y2=>
 ae ⟨x2,0,none⟩ [(.int .u8 s2.1),(ni s2.2.1),(ni s2.2.2.1),(ni s2.2.2.2.1),(.int .u32 s2.2.2.2.2.1),(an s2.2.2.2.2.2.1),(ni s2.2.2.2.2.2.2.1)] 0 y2 fun z2=>
 Ld (az .u8) (Addr.add ⟨n,0,none⟩ 0) z2 fun (a3:Int)=>
 aa (a3==1)
 (Ld (.st aO) ⟨b1,0,none⟩ z2 fun b3=>
 Cl Pg [kB] cx ⟨[(.agg ⟨[(.int .u8 b3.1),(ni b3.2.1),(ni b3.2.2.1),(ni b3.2.2.2.1),(.int .u32 b3.2.2.2.2.1),(an b3.2.2.2.2.2.1),(ni b3.2.2.2.2.2.2.1)]⟩),(.agg ⟨[(.int .u8 2),(ni 2),(ni 0),(ni 0),(.int .u32 0),(.slice none 0 0),(ni 0)]⟩)]⟩ z2 fun (d3:Bool) c3=>
 aa d3
 (Ld (az .u8) (Addr.add ⟨d1,0,none⟩ 0) c3 fun (e3:Int)=>
 aa (e3==1)
 (Ld (.st aO) ⟨r1,0,none⟩ c3 fun f3=>
 Cl Pg [kB] cx ⟨[(.agg ⟨[(.int .u8 f3.1),(ni f3.2.1),(ni f3.2.2.1),(ni f3.2.2.2.1),(.int .u32 f3.2.2.2.2.1),(an f3.2.2.2.2.2.1),(ni f3.2.2.2.2.2.2.1)]⟩),(.agg ⟨[(.int .u8 6),(ni 0),(ni 0),(ni 0),(.int .u32 0),(.slice none 0 0),(ni 0)]⟩)]⟩ c3 fun (h3:Bool) g3=>
 aa h3
 (Ld (az .u8) (Addr.add ⟨t1,0,none⟩ 0) g3 fun (i3:Int)=>
 aa (i3==1)
 (Ld (az .u8) (Addr.add ⟨e2,0,none⟩ 0) g3 fun (j3:Int)=>
 aa (j3==7)
 (Ld (az .u8) (Addr.add ⟨g2,0,none⟩ 0) g3 fun (k3:Int)=>
 aa (k3==7)
 (Cl Pg [kI] ca ⟨[(.pointer d)]⟩ g3 fun (m3:Int) l3=>
 aa (m3==2)
 (Ld (.st aO) ⟨u2,0,none⟩ l3 fun n3=>
 Cl Pg [kB] cx ⟨[(.agg ⟨[(.int .u8 n3.1),(ni n3.2.1),(ni n3.2.2.1),(ni n3.2.2.2.1),(.int .u32 n3.2.2.2.2.1),(an n3.2.2.2.2.2.1),(ni n3.2.2.2.2.2.2.1)]⟩),(.agg ⟨[(.int .u8 8),(ni 0),(ni 0),(ni 0),(.int .u32 0),(.slice none 0 0),(ni 240)]⟩)]⟩ l3 fun (p3:Bool) o3=>
 aa p3
 (Ld (.st aO) ⟨x2,0,none⟩ o3 fun q3=>
 Ld (.st aO) ⟨u2,0,none⟩ o3 fun r3=>
 Cl Pg [kB] cx ⟨[(.agg ⟨[(.int .u8 q3.1),(ni q3.2.1),(ni q3.2.2.1),(ni q3.2.2.2.1),(.int .u32 q3.2.2.2.2.1),(an q3.2.2.2.2.2.1),(ni q3.2.2.2.2.2.2.1)]⟩),(.agg ⟨[(.int .u8 r3.1),(ni r3.2.1),(ni r3.2.2.1),(ni r3.2.2.2.1),(.int .u32 r3.2.2.2.2.1),(an r3.2.2.2.2.2.1),(ni r3.2.2.2.2.2.2.1)]⟩)]⟩ o3 fun (t3:Bool) s3=>
 aa t3
 (Cl Pg [kI] bP ⟨[(.pointer f)]⟩ s3 fun (v3:Int) u3=>
 aa (v3==8)
 (Cl Pg [kI] ca ⟨[(.pointer h)]⟩ u3 fun (y3:Int) x3=>
 aa (y3==0)
 (Cl Pg [(.st aO)] ax ⟨[(.pointer none),(.pointer b)]⟩ x3 fun a4 z3=>
 aa ((a4.1:Int)==0)
 (Cl Pg [kI] ca ⟨[(.pointer none)]⟩ z3 fun (c4:Int) b4=>
 aa (c4==0)
 (Cl Pg [kP] ey ⟨[]⟩ b4 fun e4 d4=>
 Cl Pg [(.st aO)] ax ⟨[(.pointer e4),(.pointer none)]⟩ d4 fun g4 f4=>
 aa ((g4.1:Int)==1)
 (Ld (.st aO) ⟨n,0,none⟩ f4 fun h4=>
 Ld (.st aO) ⟨b1,0,none⟩ f4 fun i4=>
 Cl Pg [kB] cx ⟨[(.agg ⟨[(.int .u8 h4.1),(ni h4.2.1),(ni h4.2.2.1),(ni h4.2.2.2.1),(.int .u32 h4.2.2.2.2.1),(an h4.2.2.2.2.2.1),(ni h4.2.2.2.2.2.2.1)]⟩),(.agg ⟨[(.int .u8 i4.1),(ni i4.2.1),(ni i4.2.2.1),(ni i4.2.2.2.1),(.int .u32 i4.2.2.2.2.1),(an i4.2.2.2.2.2.1),(ni i4.2.2.2.2.2.2.1)]⟩)]⟩ f4 fun (k4:Bool) j4=>
 R (!k4) j4)
 (R false f4))
 (R false b4))
 (R false z3))
 (R false x3))
 (R false u3))
 (R false s3))
 (R false o3))
 (R false l3))
 (R false g3))
 (R false g3))
 (R false g3))
 (R false g3))
 (R false c3))
 (R false c3))
 (R false z2)) fun i=>
 aa (Option.isNone (b:Option Addr))
 (R false g)
 (aa (Option.isNone (d:Option Addr))
 (R false g)
 (aa (Option.isNone (f:Option Addr))
 (R false g)
 (aa (Option.isNone (h:Option Addr))
 (R false g)
 (i g))))):Cl Pg [kB] eY ⟨[]⟩ w R:=co Tryz.f12 [(6,[])] h
end Go.Proofs.YtgglghjnakclmaaGreat
set_option maxRecDepth 20000
namespace Go.Vc
open Go
abbrev aM:=Nat→Option Obj
abbrev HP:=aM→Prop
def aM.emp:aM:=fun _=>none
def aM.one (b:Nat) (o:Obj):aM:=fun r=>if r=b then some o else none
def aM.add (f g:aM):aM:=fun r=>match f r with|some o=>some o|none=>g r
def gL (f g:aM):Prop:= ∀r,f r=none∨g r=none
def ao (b:Nat) (o:Obj):HP:=fun f=>f=aM.one b o
def Sat:List HP→HP
 | [],f=>f=aM.emp
 |A::l,f=> ∃g h,gL g h∧f=g.add h∧A g∧Sat l h
def GH (f:aM) (w:World):Prop:= ∀r o,f r=some o→w.heap[r]? =some o
structure Hp (E:World) (w:World) (l:List HP):Prop where
 os:w.os=E.os
 output:w.output=E.output
 tape:w.tape=E.tape
 frag: ∃f,GH f w∧Sat l f
theorem gL.comm {f g:aM} (h:gL f g):gL g f:=fun r=>(h r).symm
theorem aM.add_comm {f g:aM} (h:gL f g):f.add g=g.add f:=by
 funext r
 unfold aM.add
 rcases h r with h|h
 ·rw [h];cases g r<;>rfl
 ·rw [h];cases f r<;>rfl
theorem aM.add_assoc (f g h:aM):(f.add g).add h=f.add (g.add h):=by
 funext r
 unfold aM.add
 cases f r<;>rfl
theorem aM.Fw (f:aM):f.add aM.emp=f:=by
 funext r;unfold aM.add aM.emp;cases f r<;>rfl
theorem aM.sR (f:aM):aM.emp.add f=f:=by
 funext r;rfl
theorem hO {f g h:aM}:gL f (g.add h)↔gL f g∧gL f h:=by
 constructor
 ·intro H
  refine ⟨fun r=> ?_,fun r=> ?_⟩
  ·rcases H r with h1|h1
   ·exact .inl h1
   ·right;unfold aM.add at h1;cases hg:g r<;>simp_all
  ·rcases H r with h1|h1
   ·exact .inl h1
   ·right;unfold aM.add at h1;cases hg:g r<;>simp_all
 ·rintro ⟨h1,h2⟩ r
  rcases h1 r with h|h
  ·exact .inl h
  ·rcases h2 r with h'|h'
   ·exact .inl h'
   ·right;simp [aM.add,h,h']
theorem tu {f g h:aM}:gL (f.add g) h↔gL f h∧gL g h:=
 ⟨fun H=>let ⟨a,b⟩:=hO.1 H.comm;⟨a.comm,b.comm⟩,fun ⟨a,b⟩=>(hO.2 ⟨a.comm,b.comm⟩).comm⟩
theorem Sat.swap {A B:HP} {l:List HP} {f:aM} (h:Sat (A::B::l) f):Sat (B::A::l) f:=by
 obtain ⟨g,h1,hd,rfl,hA,g2,h2,hd2,rfl,hB,hl⟩:=h
 obtain ⟨d1,d2⟩:=hO.1 hd
 refine ⟨g2,g.add h2,hO.2 ⟨d1.comm,hd2⟩,?_,hB,g,h2,d2,rfl,hA,hl⟩
 rw [←aM.add_assoc,←aM.add_assoc,aM.add_comm d1]
theorem Sat.tail {A:HP} {l l':List HP} (h: ∀f,Sat l f→Sat l' f) {f:aM} (hs:Sat (A::l) f):Sat (A::l') f:=by
 obtain ⟨g,k,hd,rfl,hA,hl⟩:=hs
 exact ⟨g,k,hd,rfl,hA,h _ hl⟩
theorem Sat.perm {l l':List HP} (hp:l.Perm l'): ∀f,Sat l f→Sat l' f:=by
 induction hp with
 |nil=>exact fun _ h=>h
 |cons A _ ih=>exact fun f h=>h.tail ih
 |swap A B l=>exact fun f h=>h.swap
 |trans _ _ ih1 ih2=>exact fun f h=>ih2 f (ih1 f h)
theorem Sat.append {l l':List HP} {f:aM}:Sat (l++l') f↔∃g h,gL g h∧f=g.add h∧Sat l g∧Sat l' h:=by
 induction l generalizing f with
 |nil=>exact ⟨fun h=>⟨aM.emp,f,fun _=> .inl rfl,(aM.sR f).symm,rfl,h⟩,fun ⟨g,h,_,e,hg,hh⟩=>by
   have:g=aM.emp:=hg
   rw [e,this,aM.sR];exact hh⟩
 |cons A l ih=>
  constructor
  ·rintro ⟨g,h,hd,rfl,hA,hs⟩
   obtain ⟨g2,h2,hd2,rfl,hs2,hs3⟩:=ih.1 hs
   obtain ⟨d1,d2⟩:=hO.1 hd
   exact ⟨g.add g2,h2,tu.2 ⟨d2,hd2⟩,(aM.add_assoc _ _ _).symm,⟨g,g2,d1,rfl,hA,hs2⟩,hs3⟩
  ·rintro ⟨g,h,hd,rfl,⟨g2,h2,hd2,rfl,hA,hs2⟩,hs3⟩
   obtain ⟨d1,d2⟩:=tu.1 hd
   exact ⟨g2,h2.add h,hO.2 ⟨hd2,d1⟩,aM.add_assoc _ _ _,hA,ih.2 ⟨h2,h,d2,rfl,hs2,hs3⟩⟩
section
variable {E w w':World} {A B C D G:HP} {l l' F:List HP}
theorem Hp.perm (h:Hp E w l) (hp:l.Perm l'):Hp E w l':=
 ⟨h.os,h.output,h.tape,let ⟨f,a,b⟩:=h.frag;⟨f,a,Sat.perm hp f b⟩⟩
theorem Hp.p1 (h:Hp E w (A::B::F)):Hp E w (B::A::F):=h.perm (.swap ..)
theorem Hp.p2 (h:Hp E w (A::B::C::F)):Hp E w (C::A::B::F):=h.perm ((List.Perm.cons A (.swap ..)).trans (.swap ..))
theorem Hp.p3 (h:Hp E w (A::B::C::D::F)):Hp E w (D::A::B::C::F):=
 h.perm ((List.Perm.cons A ((List.Perm.cons B (.swap ..)).trans (.swap ..))).trans (.swap ..))
theorem Hp.p4 (h:Hp E w (A::B::C::D::G::F)):Hp E w (G::A::B::C::D::F):=
 h.perm ((List.Perm.cons A ((List.Perm.cons B ((List.Perm.cons C (.swap ..)).trans (.swap ..))).trans (.swap ..))).trans (.swap ..))
theorem Hp.q2 (h:Hp E w (A::B::C::F)):Hp E w (B::C::A::F):=h.p1.perm (.cons B (.swap ..))
theorem Hp.q3 (h:Hp E w (A::B::C::D::F)):Hp E w (B::C::D::A::F):=h.q2.perm (.cons B (.cons C (.swap ..)))
theorem Hp.q4 (h:Hp E w (A::B::C::D::G::F)):Hp E w (B::C::D::G::A::F):=h.q3.perm (.cons B (.cons C (.cons D (.swap ..))))
theorem Hp.flat (h:Hp E w (Sat l::F)):Hp E w (l++F):=
 ⟨h.os,h.output,h.tape,let ⟨f,a,g,k,hd,e,h1,h2⟩:=h.frag;⟨f,a,Sat.append.2 ⟨g,k,hd,e,h1,h2⟩⟩⟩
theorem Hp.EO {α:Sort _} {X:α→Prop} {L:α→List HP} (hA: ∀f,A f→∃x,X x∧Sat (L x) f) (h:Hp E w (A::F)): ∃x,X x∧Hp E w (L x++F):=by
 obtain ⟨f,a,g,k,hd,e,h1,h2⟩:=h.frag
 obtain ⟨x,hx,h3⟩:=hA g h1
 exact ⟨x,hx,h.os,h.output,h.tape,f,a,Sat.append.2 ⟨g,k,hd,e,h3,h2⟩⟩
theorem Hp.EY (hA: ∀f,Sat l f→A f) (h:Hp E w (l++F)):Hp E w (A::F):=by
 obtain ⟨f,a,h1⟩:=h.frag
 obtain ⟨g,k,hd,e,h1,h2⟩:=Sat.append.1 h1
 exact ⟨h.os,h.output,h.tape,f,a,g,k,hd,e,hA _ h1,h2⟩
theorem Hp.CX (hA: ∀f,A f→B f) (h:Hp E w (A::F)):Hp E w (B::F):=by
 obtain ⟨f,a,g,k,hd,e,h1,h2⟩:=h.frag
 exact ⟨h.os,h.output,h.tape,f,a,g,k,hd,e,hA _ h1,h2⟩
theorem Hp.drop (h:Hp E w (A::F)):Hp E w F:=by
 obtain ⟨f,a,g,k,hd,rfl,h1,h2⟩:=h.frag
 refine ⟨h.os,h.output,h.tape,k,fun r o hr=>a r o ?_,h2⟩
 rcases hd r with hg|hk
 ·simp [aM.add,hg,hr]
 ·rw [hk] at hr;cases hr
theorem Hp.emp (h:Hp E w F) (hA:A aM.emp):Hp E w (A::F):=by
 obtain ⟨f,a,h1⟩:=h.frag
 exact ⟨h.os,h.output,h.tape,f,a,aM.emp,f,fun _=> .inl rfl,(aM.sR f).symm,hA,h1⟩
theorem Hp.same (h:Hp E w l) (h1:w'.heap=w.heap) (h2:w'.os=w.os) (h3:w'.output=w.output) (h4:w'.tape=w.tape):Hp E w' l:=
 ⟨h2.trans h.os,h3.trans h.output,h4.trans h.tape,let ⟨f,a,b⟩:=h.frag;⟨f,fun r o hr=>by rw [h1];exact a r o hr,b⟩⟩
theorem Hp.drew {n:Nat} (h:Hp E w l):Hp E {w with drawn:=n} l:=h.same rfl rfl rfl rfl
theorem Hp.aD {b:Nat} {o:Obj} (h:Hp E w (ao b o::F)):w.heap[b]? =some o:=by
 obtain ⟨f,a,g,k,hd,rfl,rfl,h2⟩:=h.frag
 exact a b o (by simp [aM.add,aM.one])
theorem Hp.cell {b i:Nat} {c:Array Value} {t:TypeId} {fr:Nat×Nat} (h:Hp E w (ao b (.cells c t fr)::F)):w.cell? ⟨b,i,none⟩=c[i]? :=by
 simp [World.cell?,h.aD]
theorem Hp.alloc (h:Hp E w F) (o:Obj):Hp E (w.alloc o) (ao w.heap.size o::F):=by
 obtain ⟨f,a,h1⟩:=h.frag
 have hn:f w.heap.size=none:=by
  cases hf:f w.heap.size with
  |none=>rfl
  |some o=>have:=a _ _ hf;simp at this
 refine ⟨h.os,h.output,h.tape,(aM.one w.heap.size o).add f,fun r o' hr=> ?_,_,_,fun r=> ?_,rfl,rfl,h1⟩
 ·show (w.heap.push o)[r]? =_
  rw [Array.getElem?_push]
  by_cases hr0:r=w.heap.size
  ·subst hr0;simp [aM.add,aM.one] at hr;simp [hr]
  ·simp [aM.add,aM.one,hr0] at hr
   rw [if_neg hr0];exact a r o' hr
 ·by_cases hr0:r=w.heap.size
  ·subst hr0;exact .inr hn
  ·exact .inl (by simp [aM.one,hr0])
theorem Hp.setObj {b:Nat} {o o':Obj} (h:Hp E w (ao b o::F)) (h1:w'.heap=w.heap.set! b o') (h2:w'.os=w.os) (h3:w'.output=w.output) (h4:w'.tape=w.tape):Hp E w' (ao b o'::F):=by
 have hb:=h.aD
 obtain ⟨f,a,g,k,hd,rfl,rfl,h5⟩:=h.frag
 have hk:k b=none:=by
  rcases hd b with hh|hh
  ·simp [aM.one] at hh
  ·exact hh
 refine ⟨h2.trans h.os,h3.trans h.output,h4.trans h.tape,(aM.one b o').add k,fun r x hr=> ?_,_,_,fun r=> ?_,rfl,rfl,h5⟩
 ·rw [h1]
  have hlt:b<w.heap.size:=by
   rcases Nat.lt_or_ge b w.heap.size with hh|hh
   ·exact hh
   ·simp [Array.getElem?_eq_none hh] at hb
  by_cases hr0:r=b
  ·subst hr0
   simp [aM.add,aM.one] at hr
   simp [hr,hlt]
  ·simp [aM.add,aM.one,hr0] at hr
   have:=a r x (by simp [aM.add,aM.one,hr0,hr])
   rw [Array.set!_eq_setIfInBounds,Array.getElem?_setIfInBounds_ne (Ne.symm hr0)]
   exact this
 ·by_cases hr0:r=b
  ·subst hr0;exact .inr hk
  ·exact .inl (by simp [aM.one,hr0])
theorem Hp.setCell {b i:Nat} {c:Array Value} {t:TypeId} {fr:Nat×Nat} (h:Hp E w (ao b (.cells c t fr)::F)) (v:Value):
  Hp E (w.setCell ⟨b,i,none⟩ v) (ao b (.cells (c.setIfInBounds i v) t fr)::F):=by
 have hb:=h.aD
 refine h.setObj (o':= .cells (c.setIfInBounds i v) t fr) ?_ rfl rfl rfl
 apply Array.ext_getElem?
 intro r
 have hlt:b<w.heap.size:=by
  rcases Nat.lt_or_ge b w.heap.size with hh|hh
  ·exact hh
  ·simp [Array.getElem?_eq_none hh] at hb
 simp only [World.setCell,Array.getElem?_modify,Array.set!_eq_setIfInBounds,Array.getElem?_setIfInBounds]
 by_cases hr:b=r
 ·subst hr
  have hv:w.heap[b]= .cells c t fr:=by simpa [hlt] using hb
  simp [hlt,hv]
 ·simp [hr]
def ag (F:List HP) (φ:World→Prop):Prop:= ∀w f,GH f w→Sat F f→φ w
theorem Hp.av {φ:World→Prop} (h:Hp E w F) (ht:ag F φ):φ w:=let ⟨f,a,b⟩:=h.frag;ht w f a b
theorem ag.cons {φ:World→Prop} (ht:ag F φ):ag (A::F) φ:=by
 rintro w f a ⟨g,k,hd,rfl,h1,h2⟩
 refine ht w k (fun r o hr=>a r o ?_) h2
 rcases hd r with hg|hk
 ·simp [aM.add,hg,hr]
 ·rw [hk] at hr;cases hr
theorem ag.perm {φ:World→Prop} (ht:ag l φ) (hp:l.Perm l'):ag l' φ:=fun w f a b=>ht w f a (Sat.perm hp.symm f b)
theorem ag.imp {φ ψ:World→Prop} (ht:ag F φ) (h: ∀w,φ w→ψ w):ag F ψ:=fun w f a b=>h w (ht w f a b)
theorem ag.and {φ ψ:World→Prop} (h1:ag F φ) (h2:ag F ψ):ag F (fun w=>φ w∧ψ w):=fun w f a b=>⟨h1 w f a b,h2 w f a b⟩
theorem ag.all {α:Sort _} {φ:α→World→Prop} (h: ∀x,ag F (φ x)):ag F (fun w=> ∀x,φ x w):=fun w f a b x=>h x w f a b
theorem ag.const {p:Prop} (h:p):ag F (fun _=>p):=fun _ _ _ _=>h
def Old (W:World):HP:=fun f=> ∀r,f r=W.heap[r]?
theorem Hp.start (W:World):Hp W W [Old W]:=
 ⟨rfl,rfl,rfl,fun r=>W.heap[r]?,fun _ _ h=>h,fun r=>W.heap[r]?,aM.emp,fun _=> .inr rfl,(aM.Fw _).symm,fun _=>rfl,rfl⟩
theorem ag.Jm {W:World} {φ:World→Prop} (h: ∀w,(∀r,r<W.heap.size→w.heap[r]? =W.heap[r]?)→φ w):ag (Old W::F) φ:=by
 rintro w f a ⟨g,k,hd,rfl,h1,h2⟩
 refine h w fun r hr=> ?_
 have:g r=some W.heap[r]:=by rw [h1 r];simp [hr]
 rw [a r W.heap[r] (by simp [aM.add,this])]
 simp [hr]
theorem Hp.below {W:World} (h:Hp W w (Old W::F)):Go.RowKit.Below W.heap.size W w:=by
 have hk:=h.av (ag.Jm (φ:=fun w=> ∀r,r<W.heap.size→w.heap[r]? =W.heap[r]?) fun w h=>h)
 refine ⟨h.os,h.tape,h.output,?_,hk⟩
 rcases Nat.lt_or_ge w.heap.size W.heap.size with hlt|hge
 ·have:=hk w.heap.size hlt
  simp [hlt] at this
 ·exact hge
end
section
variable {E w:World} {F:List HP}
theorem aa.mk {b:Bool} {X Y:Prop} (h1:b=true→X) (h2:b=false→Y):aa b X Y:=by
 cases b
 ·exact h2 rfl
 ·exact h1 rfl
theorem aa.t {b:Bool} {X Y:Prop} (hb:b=true) (h:X):aa b X Y:=by subst hb;exact h
theorem aa.f {b:Bool} {X Y:Prop} (hb:b=false) (h:Y):aa b X Y:=by subst hb;exact h
theorem Ld.sc {s:Sc} {p:Addr} {K:s.T→Prop} (x:s.T) (hc:w.cell? p=some (s.enc x)) (h:K x):Ld (.sc s) p w K:=
 ⟨x,fun w' hw=>by subst hw;exact hc,h⟩
theorem St.mk {p:Addr} {v:Value} {K:World→Prop} {b i:Nat} {c:Array Value} {t:TypeId} (hp:p=⟨b,i,none⟩) (hh:Hp E w (ao b (.cells c t (0,0))::F)) (hi:i<c.size) (hv:ay v=true)
  (h: ∀w',Hp E w' (ao b (.cells (c.setIfInBounds i v) t (0,0))::F)→K w'):St p v w K:=by
 subst hp
 unfold St
 rw [hv]
 refine ⟨?_,?_,h _ (hh.setCell v)⟩
 ·rw [hh.cell];simp [hi]
 ·simp [World.frozen?,hh.aD]
theorem Nw.mk {t:TypeId} {cs:Array Value} {K:Nat→World→Prop} (hh:Hp E w F) (h: ∀b w',Hp E w' (ao b (.cells cs t (0,0))::F)→K b w'):Nw t cs w K:=h _ _ (hh.alloc _)
theorem ah.mk {K:World→Prop} (hh:Hp E w F) (h: ∀w',Hp E w' F→K w'):ah w K:=h _ hh.drew
theorem Cl.imp {P:Program} {ks:List Ki} {i:FuncId} {args:Array Value} {K K':jn ks (World→Prop)} (h:Cl P ks i args w K) (hk: ∀e w',py ks K e w'→py ks K' e w'):Cl P ks i args w K':=
 Calls.mono h hk
end
end Go.Vc
set_option maxRecDepth 20000
namespace Go.Vc
open Go
theorem aj {x:Int} (h: -9223372036854775808≤x∧x≤9223372036854775807):i64 x=x:=IntWalk.i64_in x h
theorem fQ {x:Int} (h:0≤x∧x≤18446744073709551615):u64 x=x:=IntWalk.u64_in x h
theorem gy {x:Int} (h:0≤x∧x≤4294967295):u32 x=x:=IntWalk.u32_in x h
theorem Cp (x:Int):u8 x=x % 256:=by
 show IntKind.wrap .u8 x=x % 256
 simp [IntKind.wrap,IntKind.bits,IntKind.signed]
theorem ec {x:Int} (h:0≤x∧x≤255):u8 x=x:=by rw [Cp];omega
theorem hH (n a:Nat) (h:a<2^n):(BitVec.ofInt n (a:Int)).toNat=a:=by
 rw [BitVec.toNat_ofInt]
 have:((a:Int) % ((2^n:Nat):Int))=((a % 2^n:Nat):Int):=by omega
 rw [this,Int.toNat_natCast,Nat.mod_eq_of_lt h]
theorem m8 {k:IntKind} {a:Nat} (h:(a:Int)≤k.max):k.wrap (a:Int)=a:=by
 cases k
 ·have:IntKind.max .i8=127:=rfl
  exact IntWalk.i8_in _ (by omega)
 ·have:IntKind.max .i16=32767:=rfl
  exact IntWalk.i16_in _ (by omega)
 ·have:IntKind.max .i32=2147483647:=rfl
  exact IntWalk.i32_in _ (by omega)
 ·have:IntKind.max .i64=9223372036854775807:=rfl
  exact IntWalk.i64_in _ (by omega)
 ·have:IntKind.max .u8=255:=rfl
  exact IntWalk.u8_in _ (by omega)
 ·have:IntKind.max .u16=65535:=rfl
  exact IntWalk.u16_in _ (by omega)
 ·have:IntKind.max .u32=4294967295:=rfl
  exact IntWalk.u32_in _ (by omega)
 ·have:IntKind.max .u64=18446744073709551615:=rfl
  exact IntWalk.u64_in _ (by omega)
theorem max_lt (k:IntKind):(k.max:Int)<2^k.bits:=by cases k<;>decide
theorem kr {k:IntKind} {a:Nat} (ha:(a:Int)≤k.max):a<2^k.bits:=by
 have:=max_lt k
 have h2:(a:Int)<2^k.bits:=Int.lt_of_le_of_lt ha this
 exact_mod_cast h2
theorem oZ {k:IntKind} {a b:Nat} (ha:(a:Int)≤k.max) (hb:(b:Int)≤k.max) (h:((a|||b:Nat):Int)≤k.max):jv k a b=((a|||b:Nat):Int):=by
 unfold jv
 rw [BitVec.toNat_or,hH _ _ (kr ha),hH _ _ (kr hb),m8 h]
theorem kG {k:IntKind} {a b:Nat} (ha:(a:Int)≤k.max) (hb:(b:Int)≤k.max):cL k a b=((a&&&b:Nat):Int):=by
 unfold cL
 rw [BitVec.toNat_and,hH _ _ (kr ha),hH _ _ (kr hb),m8]
 have:=Nat.and_le_left (n:=a) (m:=b)
 omega
theorem nb {k:IntKind} {a b:Nat} (ha:(a:Int)≤k.max) (hb:(b:Int)≤k.max) (h:((a^^^b:Nat):Int)≤k.max):ig k a b=((a^^^b:Nat):Int):=by
 unfold ig
 rw [BitVec.toNat_xor,hH _ _ (kr ha),hH _ _ (kr hb),m8 h]
theorem eI {k:IntKind} {a b:Nat} (hb:b≤k.bits):cn k a b=((a/2^b:Nat):Int):=by
 unfold cn
 rw [Int.toNat_natCast,Nat.min_eq_left hb,Int.fdiv_eq_ediv_of_nonneg _ (by exact_mod_cast Nat.zero_le _)]
 exact_mod_cast rfl
theorem cW {k:IntKind} {a b:Nat} (hb:b≤k.bits) (h:((a*2^b:Nat):Int)≤k.max):a9 k a b=((a*2^b:Nat):Int):=by
 unfold a9
 rw [Int.toNat_natCast,Nat.min_eq_left hb]
 have:(a:Int)*2^b=((a*2^b:Nat):Int):=by push_cast;rfl
 rw [this,m8 h]
theorem al (b o n:Nat):(⟨b,o,none⟩:Addr).add n=⟨b,o+n,none⟩:=by
 unfold Addr.add
 split
 ·rename_i h;subst h;rfl
 ·rfl
theorem add_zero (p:Addr):p.add 0=p:=by simp [Addr.add]
def aG (sz:Nat) (s:Sl) (xs:List Value) (w:World):Prop:=
 xs.length=s.len*sz∧∀i (h:i<xs.length),∃p,s.base=some p∧w.cell? (p.add i)=some xs[i]
def aA (sz:Nat) (s:Sl) (xs:List Value):HP:=fun f=>
 xs.length=s.len*sz∧((s.base=none∧s.len=0∧s.cap=0∧f=aM.emp)∨
 ∃b off arr t,s.base=some ⟨b,off,none⟩∧s.len≤s.cap∧off+s.cap*sz≤arr.size∧(∀i (h:i<xs.length),arr[off+i]? =some xs[i])∧f=aM.one b (.cells arr t (0,0)))
section
variable {E w w':World} {F:List HP} {sz:Nat} {s:Sl} {xs ys:List Value}
theorem aA.nil (sz:Nat):aA sz ⟨none,0,0⟩ [] aM.emp:=⟨by simp,.inl ⟨rfl,rfl,rfl,rfl⟩⟩
theorem Hp.aW (h:Hp E w F) (sz:Nat):Hp E w (aA sz ⟨none,0,0⟩ []::F):=h.emp (aA.nil sz)
theorem Hp.iq {b:Nat} {arr:Array Value} {t:TypeId} {n:Nat} (h:Hp E w (ao b (.cells arr t (0,0))::F)) (hn:arr.toList.length=n*sz):
  Hp E w (aA sz ⟨some ⟨b,0,none⟩,n,n⟩ arr.toList::F):=by
 refine h.CX fun f hf=>⟨hn,.inr ⟨b,0,arr,t,rfl,Nat.le_refl _,?_,?_,hf⟩⟩
 ·have:arr.size=n*sz:=by simpa using hn
  simp only [this];omega
 ·intro i hi
  have hi':i<arr.size:=by simpa using hi
  simp [hi']
theorem Hp.bS (h:Hp E w (aA sz s xs::F)):xs.length=s.len*sz:=by
 obtain ⟨f,a,g,k,hd,e,h1,h2⟩:=h.frag
 exact h1.1
theorem Hp.jk (h:Hp E w (aA sz s xs::F)):s.len≤s.cap:=by
 obtain ⟨f,a,g,k,hd,e,h1,h2⟩:=h.frag
 rcases h1.2 with ⟨h1,h2,h3,_⟩|⟨b,off,arr,t,h1,h2,_⟩
 ·omega
 ·exact h2
theorem Hp.sX (h:Hp E w (aA sz s xs::F)):(s=⟨none,0,0⟩∧xs= []∧Hp E w F)∨
  ∃b off arr t,s.base=some ⟨b,off,none⟩∧s.len≤s.cap∧off+s.cap*sz≤arr.size∧(∀i (h:i<xs.length),arr[off+i]? =some xs[i])∧Hp E w (ao b (.cells arr t (0,0))::F):=by
 have hl:=h.bS
 obtain ⟨f,a,g,k,hd,rfl,h1,h2⟩:=h.frag
 rcases h1.2 with ⟨h3,h4,h5,h6⟩|⟨b,off,arr,t,h3,h4,h5,h6,h7⟩
 ·refine .inl ⟨by cases s;simp_all,?_,h.drop⟩
  have:xs.length=0:=by rw [hl,h4];simp
  exact List.length_eq_zero_iff.1 this
 ·exact .inr ⟨b,off,arr,t,h3,h4,h5,h6,h.os,h.output,h.tape,_,a,g,k,hd,rfl,h7,h2⟩
theorem Hp.kq {b off:Nat} {arr:Array Value} {t:TypeId} (h:Hp E w (ao b (.cells arr t (0,0))::F)) (hl:xs.length=s.len*sz) (h1:s.base=some ⟨b,off,none⟩) (h2:s.len≤s.cap) (h3:off+s.cap*sz≤arr.size)
  (h4: ∀i (h:i<xs.length),arr[off+i]? =some xs[i]):Hp E w (aA sz s xs::F):=
 h.CX fun _ hf=>⟨hl,.inr ⟨b,off,arr,t,h1,h2,h3,h4,hf⟩⟩
theorem ag.own:ag (aA sz s xs::F) (aG sz s xs):=by
 rintro w f a ⟨g,k,hd,rfl,⟨hl,h1⟩,h2⟩
 refine ⟨hl,fun i hi=> ?_⟩
 rcases h1 with ⟨h3,h4,h5,_⟩|⟨b,off,arr,t,h3,h4,h5,h6,rfl⟩
 ·rw [hl,h4] at hi;simp at hi
 ·refine ⟨_,h3,?_⟩
  have:w.heap[b]? =some (.cells arr t (0,0)):=a b _ (by simp [aM.add,aM.one])
  rw [al]
  simp only [World.cell?,this]
  exact h6 i hi
theorem ag.cell {W:World} {p:Addr} {v:Value} (h:W.cell? p=some v):ag (Old W::F) (fun w=>w.cell? p=some v):=by
 refine ag.Jm fun w hw=> ?_
 have hlt:p.block<W.heap.size:=by
  unfold World.cell? at h
  rcases Nat.lt_or_ge p.block W.heap.size with hh|hh
  ·exact hh
  ·simp [Array.getElem?_eq_none hh] at h
 rw [←h]
 unfold World.cell?
 rw [hw _ hlt]
theorem ag.Jk {W:World} (h:aG sz s xs W):ag (Old W::F) (aG sz s xs):=by
 intro w f a b
 refine ⟨h.1,fun i hi=> ?_⟩
 obtain ⟨p,hp,hc⟩:=h.2 i hi
 exact ⟨p,hp,(ag.cell hc) w f a b⟩
theorem aI.mk {i:Int} {K:Addr→Prop} {p:Addr} (hp:s.base=some p) (h0:0≤i) (h1:i<(s.len:Int)) (h:K (p.add (i.toNat*sz))):aI s i sz K:=⟨p,hp,h0,h1,h⟩
theorem aI.rd {i:Int} {K:Addr→Prop} (hs:aG 1 s xs w) (h0:0≤i) (h1:i<(s.len:Int)) (h: ∀p (hi:i.toNat<xs.length),w.cell? p=some xs[i.toNat]→K p):aI s i 1 K:=by
 have hl:i.toNat<xs.length:=by rw [hs.1];omega
 obtain ⟨p,hp,hc⟩:=hs.2 _ hl
 exact ⟨p,hp,h0,h1,h _ hl (by simpa using hc)⟩
theorem aI.Hm {i:Int} {K:Addr→Prop} (hs:aG sz s xs w) (hz:0<sz) (h0:0≤i) (h1:i<(s.len:Int)) (h: ∀p,(∀j (hj:i.toNat*sz+j<xs.length),j<sz→w.cell? (p.add j)=some xs[i.toNat*sz+j])→K p):aI s i sz K:=by
 have hlt:i.toNat<s.len:=by omega
 have hmul:i.toNat*sz+sz≤s.len*sz:=by
  have:(i.toNat+1)*sz≤s.len*sz:=Nat.mul_le_mul_right _ hlt
  rw [Nat.succ_mul] at this;exact this
 obtain ⟨p,hp,_⟩:=hs.2 (i.toNat*sz) (by rw [hs.1];omega)
 refine ⟨p,hp,h0,h1,h _ fun j hj hjs=> ?_⟩
 obtain ⟨q,hq,hc⟩:=hs.2 (i.toNat*sz+j) hj
 have:q=p:=Option.some.inj (hq.symm.trans hp)
 subst this
 rw [←hc]
 congr 1
 unfold Addr.add
 by_cases e1:i.toNat*sz=0<;>by_cases e2:j=0<;>simp [e1,e2,Nat.add_assoc]
theorem Hp.setRow {b off:Nat} {t:TypeId}: ∀(vs:List Value) (i:Nat) (w:World) (arr:Array Value),Hp E w (ao b (.cells arr t (0,0))::F)→off+i+vs.length≤arr.size→
  ∃arr':Array Value,arr'.size=arr.size∧(∀j (h:j<vs.length),arr'[off+i+j]? =some vs[j])∧(∀j,j<off+i→arr'[j]? =arr[j]?)∧
   Hp E (aq.setRow w ⟨b,off,none⟩ vs i) (ao b (.cells arr' t (0,0))::F)
 | [],i,w,arr,h,_=>⟨arr,rfl,fun j h=>by simp at h,fun _ _=>rfl,h⟩
 |v::vs,i,w,arr,h,hl=>by
  simp only [List.length_cons] at hl
  have h1:=h.setCell (i:=off+i) v
  have hsz:off+(i+1)+vs.length≤(arr.setIfInBounds (off+i) v).size:=by rw [Array.size_setIfInBounds];omega
  obtain ⟨arr',e1,e2,e3,h2⟩:=Hp.setRow (b:=b) (off:=off) (t:=t) vs (i+1) _ (arr.setIfInBounds (off+i) v) h1 hsz
  refine ⟨arr',by simpa using e1,fun j hj=> ?_,fun j hj=> ?_,?_⟩
  ·cases j with
   |zero=>
    rw [Nat.add_zero,e3 _ (by omega)]
    simp [show off+i<arr.size by omega]
   |succ j=>
    have:=e2 j (by simp at hj;omega)
    rw [show off+i+(j+1)=off+(i+1)+j by omega]
    simpa using this
  ·rw [e3 _ (by omega),Array.getElem?_setIfInBounds_ne (by omega)]
  ·rw [aq.setRow,al];exact h2
theorem FD {P:Program} {b off:Nat} {arr:Array Value} {t:TypeId} (h:Hp E w (ao b (.cells arr t (0,0))::F)) (vs:List Value) (i:Nat) (hl:off+i+vs.length≤arr.size) (hv: ∀v∈vs,ay v=true):
  (storeCells ⟨b,off,none⟩ vs i).run P w= .ok () (aq.setRow w ⟨b,off,none⟩ vs i):=by
 refine nj vs i w fun j hj=>⟨hv _ (List.getElem_mem hj),?_,?_⟩
 ·rw [al,h.cell];simp;omega
 ·rw [al];simp [World.frozen?,h.aD]
theorem gf: ∀(r c n:Nat),c≤2*n+1024→Builtin.growBy n r c≤2*n+1024
 |0,c,n,h=>h
 |r+1,c,n,h=>by
  unfold Builtin.growBy
  split
  ·exact h
  ·exact gf r _ n (by omega)
theorem Fx {n c:Nat} (h:c<n):Builtin.nextslicecap n c≤2*n+1024:=by
 unfold Builtin.nextslicecap
 split
 ·omega
 ·split
  ·omega
  ·exact gf 4 c n (by omega)
structure bZ (P:Program) (t e:TypeId) (sz bytes:Nat):Prop where
 und:P.underlying t=some (.slice e)
 info: ∃it z,P.info? e=some it∧it.size=sz∧it.bytes=bytes∧it.zero=some z∧z.cells.size=sz
def ED (P:Program) (e:TypeId) (sz bytes:Nat):Bool:=
 match P.info? e with
 |some it=>it.size==sz&&it.bytes==bytes&&(match it.zero with|some z=>z.cells.size==sz|none=>false)
 |none=>false
theorem bZ.of {P:Program} {t e:TypeId} {sz bytes:Nat} (h1:P.underlying t=some (.slice e)) (h2:ED P e sz bytes=true):bZ P t e sz bytes:=by
 refine ⟨h1,?_⟩
 unfold ED at h2
 split at h2
 ·rename_i it hi
  simp only [Bool.and_eq_true,beq_iff_eq] at h2
  obtain ⟨⟨h2,h3⟩,h4⟩:=h2
  split at h4
  ·rename_i z hz
   exact ⟨it,z,hi,h2,h3,hz,by simpa using h4⟩
  ·simp at h4
 ·simp at h2
theorem tQ {P:Program} {vs:List Value} {p:Addr} (h: ∀i (hi:i<vs.length),w.cell? (p.add i)=some vs[i]):(loadCells p vs.length).run P w= .ok vs.toArray w:=by
 have:=gi (P:=P) (w:=w) (a:=p) vs 0 #[] (fun j hj=>by simpa using h j hj)
 simpa [loadCells] using this
def Src (sz n:Nat) (x:Value) (ys:List Value) (w:World):Prop:=
 (∃b l c,x= .slice b l c∧n=l∧aG sz ⟨b,l,c⟩ ys w)∨(∃s:ByteArray,x= .string s∧n=s.size∧ys=s.data.toList.map fun b=> .int .u8 b.toNat)
theorem Src.run {P:Program} {n:Nat} {x:Value} (h:Src sz n x ys w):(Builtin.firstCells sz n x).run P w= .ok ys.toArray w∧(Builtin.lenOf x).run P w= .ok n w:=by
 rcases h with ⟨b,l,c,rfl,rfl,hl,hc⟩|⟨s,rfl,rfl,rfl⟩
 ·refine ⟨?_,rfl⟩
  simp only at hl
  cases b with
  |none=>
   cases ys with
   |nil=>rfl
   |cons y ys=>obtain ⟨p,hp,_⟩:=hc 0 (by simp);cases hp
  |some p=>
   show (loadCells p (n*sz)).run P w=_
   rw [←hl]
   exact tQ fun i hi=>by obtain ⟨q,hq,hc⟩:=hc i hi;cases hq;exact hc
 ·refine ⟨?_,rfl⟩
  show Result.ok ((s.extract 0 s.size).data.map fun b=>Value.int .u8 b.toNat) w=_
  congr 1
  have:s.extract 0 s.size=s:=by simp
  rw [this]
  apply Array.ext'
  simp
theorem Src.len {n:Nat} {x:Value} (h:Src 1 n x ys w):ys.length=n:=by
 rcases h with ⟨b,l,c,rfl,rfl,hl,hc⟩|⟨s,rfl,rfl,rfl⟩
 ·simpa using hl
 ·simp
theorem sG (z:Array Value) (n:Nat):(Builtin.zeroCells z n).size=n*z.size:=by simp [Builtin.zeroCells]
theorem xy {P:Program} {t tx ty e:TypeId} {bytes n:Nat} {x:Value} {K:Sl→World→Prop} (he:bZ P t e sz bytes) (_:0<sz) (hx:(∃e2,P.underlying tx=some (.slice e2))∨P.underlying tx=some .string)
  (hh:Hp E w (aA sz s xs::F)) (hs:Src sz n x ys w) (hyl:ys.length=n*sz) (hys: ∀y∈ys,ay y=true) (hb:(2*(s.len+n)+1024)*bytes≤2^48) (hb2:s.len+n<2^62)
  (h: ∀s' w',Hp E w' (aA sz s' (xs++ys)::F)→s'.len=s.len+n→aG sz s xs w'→K s' w'):aw P (Builtin.append_ #[t,tx] ty ⟨[.slice s.base s.len s.cap,x]⟩) kS w K:=by
 obtain ⟨it,z,hi,hsz,hby,hze,hzs⟩:=he.info
 obtain ⟨hs1,hs2⟩:=hs.run (P:=P)
 have hlen:=hh.bS
 have hcap:=hh.jk
 have hso:(sizeOf e).run P w= .ok sz w:=by rw [cg hi,hsz]
 have step: ∀v w',(Builtin.append_ #[t,tx] ty ⟨[.slice s.base s.len s.cap,x]⟩).run P w= .ok v w'→(∃s':Sl,v= .slice s'.base s'.len s'.cap∧Hp E w' (aA sz s' (xs++ys)::F)∧s'.len=s.len+n∧aG sz s xs w')→
   aw P (Builtin.append_ #[t,tx] ty ⟨[.slice s.base s.len s.cap,x]⟩) kS w K:=by
  rintro v w' h1 ⟨s',rfl,h2,h3,h4⟩
  unfold aw
  rw [h1]
  exact h s' w' h2 h3 h4
 have hlen2:(xs++ys).length=(s.len+n)*sz:=by rw [List.length_append,hlen,hyl,Nat.add_mul]
 by_cases hfit:s.len+n≤s.cap
 ·rcases hh.sX with ⟨rfl,rfl,hF⟩|⟨b,off,arr,tt,h1,h2,h3,h4,hB⟩
  ·have hn0:n=0:=by simp at hfit;exact hfit
   subst hn0
   have hy0:ys= []:=by simpa using hyl
   subst hy0
   refine step (.slice none 0 0) w ?_ ⟨⟨none,0,0⟩,rfl,hh,rfl,hh.av ag.own⟩
   rcases hx with ⟨e2,hd⟩|hd<;>simp [Builtin.append_,run_underlying he.und,hso,run_underlying hd,hs1,hs2]
  ·have hmul:(s.len+n)*sz≤s.cap*sz:=Nat.mul_le_mul_right _ hfit
   rw [Nat.add_mul] at hmul
   have hlr:off+s.len*sz+ys.length≤arr.size:=by omega
   obtain ⟨arr',e1,e2,e3,hB'⟩:=Hp.setRow (off:=off) ys (s.len*sz) w arr hB (by omega)
   have hrow:=FD (P:=P) (off:=off+s.len*sz) hB ys 0 (by omega) hys
   have hro2:aq.setRow w ⟨b,off+s.len*sz,none⟩ ys 0=aq.setRow w ⟨b,off,none⟩ ys (s.len*sz):=by
    have key: ∀(vs:List Value) (w:World) (i:Nat),aq.setRow w ⟨b,off+s.len*sz,none⟩ vs i=aq.setRow w ⟨b,off,none⟩ vs (s.len*sz+i):=by
     intro vs
     induction vs with
     |nil=>intro w i;rfl
     |cons v vs ih=>intro w i;simp only [aq.setRow,ih,al,Nat.add_assoc]
    simpa using key ys w 0
   refine step (.slice s.base (s.len+n) s.cap) (aq.setRow w ⟨b,off,none⟩ ys (s.len*sz)) ?_ ⟨⟨s.base,s.len+n,s.cap⟩,rfl,?_,rfl,⟨hlen,fun i hi=>⟨_,h1,by rw [al,hB'.cell,e3 _ (by omega)];exact h4 i hi⟩⟩⟩
   ·rw [hro2] at hrow
    rcases hx with ⟨e2,hd⟩|hd<;>simp [Builtin.append_,run_underlying he.und,hso,run_underlying hd,hs1,hs2,hfit,h1,al,hrow]
   ·refine Hp.kq hB' hlen2 h1 hfit (by simp only;omega) fun i hi=> ?_
    by_cases hi2:i<xs.length
    ·rw [e3 _ (by omega),List.getElem_append_left hi2];exact h4 i hi2
    ·rw [List.getElem_append_right (by omega)]
     have:=e2 (i - xs.length) (by simp at hi;omega)
     rw [←this]
     congr 1
     omega
 ·have hnext: ¬Builtin.nextslicecap (s.len+n) s.cap*it.bytes>2^48:=by
   have:=Fx (n:=s.len+n) (c:=s.cap) (by omega)
   have h2:Builtin.nextslicecap (s.len+n) s.cap*it.bytes≤(2*(s.len+n)+1024)*bytes:=by rw [hby];exact Nat.mul_le_mul_right _ this
   omega
  have hmax: ¬((s.len+n:Nat):Int)>IntKind.i64.max:=by
   have:IntKind.i64.max=9223372036854775807:=rfl
   rw [this];omega
  have hold:(Builtin.firstCells sz s.len (.slice s.base s.len s.cap)).run P w= .ok xs.toArray w:=by
   have:Src sz s.len (.slice s.base s.len s.cap) xs w:= .inl ⟨s.base,s.len,s.cap,rfl,rfl,hh.av ag.own⟩
   exact (this.run (P:=P)).1
  generalize hq:Question.cut (.appendCap (s.len+n) s.cap e) (w.tape w.drawn (.appendCap (s.len+n) s.cap e))=newCap
  have hnc:s.len+n≤newCap:=by rw [←hq];exact Nat.le_add_right _ _
  have hF:Hp E w F:=hh.drop
  have hD:Hp E w.drew F:=hF.drew (n:=w.drawn+1)
  have hold':(Builtin.firstCells sz s.len (.slice s.base s.len s.cap)).run P w.drew= .ok xs.toArray w.drew:=by
   have:Src sz s.len (.slice s.base s.len s.cap) xs w.drew:= .inl ⟨s.base,s.len,s.cap,rfl,rfl,(hh.drew (n:=w.drawn+1)).av ag.own⟩
   exact (this.run (P:=P)).1
  have hs1':(Builtin.firstCells sz n x).run P w.drew= .ok ys.toArray w.drew:=(Src.run (P:=P) (w:=w.drew) hs).1
  have hA:=hD.alloc (.cells (xs.toArray++ys.toArray++Builtin.zeroCells z.cells (newCap - (s.len+n))) e)
  refine step (.slice (some ⟨w.heap.size,0,none⟩) (s.len+n) newCap) _ ?_ ⟨⟨some ⟨w.heap.size,0,none⟩,s.len+n,newCap⟩,rfl,Hp.kq hA hlen2 rfl hnc ?_ ?_,rfl,((hh.drew (n:=w.drawn+1)).alloc (.cells (xs.toArray++ys.toArray++Builtin.zeroCells z.cells (newCap - (s.len+n))) e)).av (ag.cons ag.own)⟩
  ·have hz': ∀w:World,(zeroValue e).run P w= .ok z w:=by intro w;simp [zeroValue,typeInfo,hi,hze]
   have hti: ∀w:World,(typeInfo e).run P w= .ok it w:=by intro w;simp [typeInfo,hi]
   have hmax': ¬(9223372036854775807<(s.len:Int)+(n:Int)∧it.bytes=0):=by omega
   have hfo:Question.forced (.appendCap (s.len+n) s.cap e)=false:=rfl
   rcases hx with ⟨e2,hd⟩|hd<;>simp [Builtin.append_,run_underlying he.und,hso,run_underlying hd,hs2,hfit,hmax',hti,hnext,hfo,hq,hold',hs1',hz',newRow]
   all_goals rw [←Array.append_assoc,show xs.toArray++ys.toArray=(xs++ys).toArray by simp]
  ·simp only [Array.size_append,List.size_toArray,sG,hzs,hlen,hyl]
   have:newCap*sz=(s.len+n)*sz+(newCap - (s.len+n))*sz:=by rw [←Nat.add_mul];congr 1;omega
   rw [this,Nat.add_mul];omega
  ·intro i hi
   have h1:i<(xs.toArray++ys.toArray).size:=by simpa using hi
   rw [Nat.zero_add,Array.getElem?_append_left h1]
   have:(xs.toArray++ys.toArray)=(xs++ys).toArray:=by simp
   rw [this]
   simp only [List.getElem?_toArray]
   exact List.getElem?_eq_getElem hi
theorem br {P:Program} {t tx ty e:TypeId} {bytes n:Nat} {x:Value} {K:Sl→World→Prop} (he:bZ P t e sz bytes) (hz:0<sz) (hx:(∃e2,P.underlying tx=some (.slice e2))∨P.underlying tx=some .string)
  (hh:Hp E w (aA sz s xs::F)) (hs:Src sz n x ys w) (hyl:ys.length=n*sz) (hys: ∀y∈ys,ay y=true) (hb:(2*(s.len+n)+1024)*bytes≤2^48) (hb2:s.len+n<2^62)
  (h: ∀s' w',Hp E w' (aA sz s' (xs++ys)::F)→s'.len=s.len+n→K s' w'):aw P (Builtin.append_ #[t,tx] ty ⟨[.slice s.base s.len s.cap,x]⟩) kS w K:=
 xy he hz hx hh hs hyl hys hb hb2 fun s' w' h1 h2 _=>h s' w' h1 h2
end
theorem lB.mk {P:Program} {i:FuncId} {first captured:Array Value} {ks:List Ki} {args:List Value} {w:World} {K:jn ks (World→Prop)} (ok:my P i=true) (h:Cl P ks i ⟨first.toList++args++captured.toList⟩ w K):
  lB P (.func (.func i) first captured) ks args w K:=by
 unfold lB
 simp only [ok]
 exact h
theorem aH {X Y:Prop}:aa true X Y=X:=rfl
theorem aE {X Y:Prop}:aa false X Y=Y:=rfl
theorem ak {p:Addr} {K:Addr→Prop}:aN (some p) K=K p:=rfl
theorem au {α:Type} (r:α) (k:α→Prop):bg r k=k r:=rfl
section
variable {E w:World} {F:List HP}
theorem Ld.aD {s:Sc} {b i:Nat} {c:Array Value} {t:TypeId} {fr:Nat×Nat} {K:s.T→Prop} (h:Hp E w (ao b (.cells c t fr)::F)) (x:s.T) (hx:c[i]? =some (s.enc x)) (hk:K x):Ld (.sc s) ⟨b,i,none⟩ w K:=
 Ld.sc x (by rw [h.cell];exact hx) hk
theorem St.aD {v:Value} {K:World→Prop} {b i:Nat} {c:Array Value} {t:TypeId} (hh:Hp E w (ao b (.cells c t (0,0))::F)) (hi:i<c.size) (hv:ay v=true)
  (h: ∀w',Hp E w' (ao b (.cells (c.setIfInBounds i v) t (0,0))::F)→K w'):St ⟨b,i,none⟩ v w K:=St.mk rfl hh hi hv h
end
def g5:Nat:=1099511627776
theorem bN:g5=1099511627776:=rfl
def vB (x:Nat):Value:= .int .u8 (x:Int)
def vI (x:Int):Value:= .int .i64 x
theorem lE {xs:List Nat}: ∀y∈xs.map vB,ay y=true:=by
 intro y hy
 obtain ⟨x,_,rfl⟩:=List.mem_map.1 hy
 rfl
theorem oP {xs:List Int}: ∀y∈xs.map vI,ay y=true:=by
 intro y hy
 obtain ⟨x,_,rfl⟩:=List.mem_map.1 hy
 rfl
theorem St.HI {E w:World} {F:List HP} {sz j:Nat} {s:Sl} {xs:List Value} {i:Int} {v:Value} {K:World→Prop} (hh:Hp E w (aA sz s xs::F)) (hj:j<sz) (h0:0≤i) (h1:i<(s.len:Int)) (hv:ay v=true)
  (h: ∀w',Hp E w' (aA sz s (xs.set (i.toNat*sz+j) v)::F)→K w'):aI s i sz (fun q=>St (q.add j) v w K):=by
 have hl:=hh.bS
 have hlt:i.toNat<s.len:=by omega
 have hmul:i.toNat*sz+sz≤s.len*sz:=by
  have:(i.toNat+1)*sz≤s.len*sz:=Nat.mul_le_mul_right _ hlt
  rw [Nat.succ_mul] at this;exact this
 rcases hh.sX with ⟨rfl,rfl,hF⟩|⟨b,off,arr,t,e1,e2,e3,e4,hB⟩
 ·simp at hlt
 ·have hcm:s.len*sz≤s.cap*sz:=Nat.mul_le_mul_right _ e2
  refine ⟨_,e1,h0,h1,?_⟩
  rw [al]
  show St (Addr.add _ j) v w K
  rw [al]
  refine St.mk rfl hB (by omega) hv fun w' h'=>h _ ?_
  refine h'.kq (by simpa using hl) e1 e2 (by simpa using e3) fun r hr=> ?_
  rw [List.length_set] at hr
  rw [Array.getElem?_setIfInBounds,List.getElem_set]
  by_cases hq:i.toNat*sz+j=r
  ·rw [if_pos (by omega),if_pos (by omega),if_pos hq]
  ·rw [if_neg (by omega),if_neg hq];exact e4 r hr
theorem St.own {E w:World} {F:List HP} {s:Sl} {xs:List Value} {i:Int} {v:Value} {K:World→Prop} (hh:Hp E w (aA 1 s xs::F)) (h0:0≤i) (h1:i<(s.len:Int)) (hv:ay v=true)
  (h: ∀w',Hp E w' (aA 1 s (xs.set i.toNat v)::F)→K w'):aI s i 1 (fun q=>St q v w K):=by
 have:=St.HI (sz:=1) (j:=0) (K:=K) hh (by decide) h0 h1 hv (by simpa using h)
 simpa only [add_zero] using this
theorem ag.aD {F:List HP} {b n m sz:Nat} {arr:Array Value} {xs:List Value} {t:TypeId} {fr:Nat×Nat} (hx:arr.toList=xs) (hl:xs.length=n*sz):ag (ao b (.cells arr t fr)::F) (aG sz ⟨some ⟨b,0,none⟩,n,m⟩ xs):=by
 subst hx
 rintro w f a ⟨g,k,hd,rfl,rfl,h2⟩
 refine ⟨hl,fun i hi=>⟨_,rfl,?_⟩⟩
 have:w.heap[b]? =some (.cells arr t fr):=a b _ (by simp [aM.add,aM.one])
 rw [al]
 simp only [World.cell?,this,Nat.zero_add]
 have hi':i<arr.size:=by simpa using hi
 simp [hi']
theorem ag.nil {F:List HP} {sz:Nat}:ag F (aG sz ⟨none,0,0⟩ []):=fun _ _ _ _=>⟨by simp,fun i hi=>by simp at hi⟩
theorem aI.EG {E w:World} {F:List HP} {sz:Nat} {s:Sl} {xs:List Value} {i:Int} {K:Addr→Prop} (hh:Hp E w F) (hs:ag F (aG sz s xs)) (hz:0<sz) (h0:0≤i) (h1:i<(s.len:Int))
  (h: ∀p,(∀j,j<sz→ag F (fun w=>w.cell? (p.add j)=xs[i.toNat*sz+j]?))→K p):aI s i sz K:=by
 have hs1:=hh.av hs
 have hlt:i.toNat<s.len:=by omega
 have hmul:i.toNat*sz+sz≤s.len*sz:=by
  have:(i.toNat+1)*sz≤s.len*sz:=Nat.mul_le_mul_right _ hlt
  rw [Nat.succ_mul] at this;exact this
 have hx:xs.length=s.len*sz:=hs1.1
 obtain ⟨p,hp,_⟩:=hs1.2 (i.toNat*sz) (by omega)
 refine ⟨p,hp,h0,h1,h _ fun j hj=>hs.imp fun w' hs'=> ?_⟩
 obtain ⟨q,hq,hc⟩:=hs'.2 (i.toNat*sz+j) (by omega)
 have:q=p:=Option.some.inj (hq.symm.trans hp)
 subst this
 rw [List.getElem?_eq_getElem (by omega),←hc]
 congr 1
 unfold Addr.add
 by_cases e1:i.toNat*sz=0<;>by_cases e2:j=0<;>simp [e1,e2,Nat.add_assoc]
theorem bF.own {E w:World} {F:List HP} {s:Sl} {xs:List Value} {lo hi:Int} {K:Sl→Prop} (hh:Hp E w (aA 1 s xs::F)) (h0:0≤lo) (h1:lo≤hi) (h2:hi≤(s.len:Int))
  (h: ∀s':Sl,Hp E w (aA 1 s' ((xs.drop lo.toNat).take (hi.toNat - lo.toNat))::F)→s'.len=hi.toNat - lo.toNat→K s'):bF s lo hi s.cap 1 K:=by
 have hl:=hh.bS
 have hc:=hh.jk
 refine ⟨h0,h1,by omega,by omega,h _ ?_ rfl⟩
 rcases hh.sX with ⟨rfl,rfl,hF⟩|⟨b,off,arr,t,e1,e2,e3,e4,hB⟩
 ·simp only at h2
  have e1:lo.toNat=0:=by omega
  have e2:hi.toNat=0:=by omega
  simpa [e1,e2] using hh
 ·have key:(if (s.cap:Int).toNat=lo.toNat then s.base else s.base.map (·.add (lo.toNat*1)))=if s.cap=lo.toNat then s.base else some ⟨b,off+lo.toNat,none⟩:=by
   rw [Int.toNat_natCast,e1]
   simp only [Option.map_some,al,Nat.mul_one]
  rw [key,Int.toNat_natCast]
  have hlen:((xs.drop lo.toNat).take (hi.toNat - lo.toNat)).length=(hi.toNat - lo.toNat)*1:=by simp [hl];omega
  by_cases hcl:s.cap=lo.toNat
  ·rw [if_pos hcl]
   refine hB.kq hlen e1 (by simp only;omega) (by simp only;omega) fun i hi'=> ?_
   rw [hlen] at hi';omega
  ·rw [if_neg hcl]
   refine hB.kq hlen rfl (by simp only;omega) (by simp only;omega) fun i hi'=> ?_
   have hi2:lo.toNat+i<xs.length:=by rw [hlen] at hi';omega
   rw [Nat.add_assoc,e4 _ hi2]
   simp
theorem bF.rd {w:World} {s:Sl} {xs:List Value} {lo hi mx:Int} {K:Sl→Prop} (hs:aG 1 s xs w) (h0:0≤lo) (h1:lo≤hi) (h2:hi≤(s.len:Int)) (h3:hi≤mx) (h4:mx≤(s.cap:Int))
  (h: ∀s':Sl,(∀w',aG 1 s xs w'→aG 1 s' ((xs.drop lo.toNat).take (hi.toNat - lo.toNat)) w')→s'.len=hi.toNat - lo.toNat→K s'):bF s lo hi mx 1 K:=by
 have hl:=hs.1
 refine ⟨h0,h1,h3,h4,h _ (fun w' hs'=> ?_) rfl⟩
 have hlen:((xs.drop lo.toNat).take (hi.toNat - lo.toNat)).length=(hi.toNat - lo.toNat)*1:=by simp [hl];omega
 refine ⟨hlen,fun i hi'=> ?_⟩
 have hi2:lo.toNat+i<xs.length:=by rw [hlen] at hi';omega
 obtain ⟨p,hp,hcell⟩:=hs'.2 _ hi2
 have hne:mx.toNat≠lo.toNat:=by rw [hlen] at hi';omega
 refine ⟨p.add lo.toNat,by simp [hne,hp],?_⟩
 have:(p.add lo.toNat).add i=p.add (lo.toNat+i):=by
  unfold Addr.add
  by_cases e1:lo.toNat=0<;>by_cases e2:i=0<;>simp [e1,e2,Nat.add_assoc]
 rw [this,hcell]
 simp
end Go.Vc
set_option maxRecDepth 20000
namespace Go.Vc
open Go
section
variable {E w:World} {F:List HP}
theorem Ld.arr {b n:Nat} {cs:Array Value} {t:TypeId} {fr:Nat×Nat} {K:Array Value→Prop} (h:Hp E w (ao b (.cells cs t fr)::F)) (hn:cs.size=n) (hK:K cs):Ld (.arr n) ⟨b,0,none⟩ w K:=by
 refine ⟨cs,hn,fun w' hw i hi=> ?_,hK⟩
 subst hw
 rw [al,h.cell,Nat.zero_add]
 simp [hn,hi]
theorem aq.aD {b n:Nat} {c0 cs:Array Value} {t:TypeId} {K:World→Prop} (h:Hp E w (ao b (.cells c0 t (0,0))::F)) (h0:c0.size=n) (hn:cs.size=n) (hs: ∀v∈cs.toList,ay v=true)
  (hK: ∀w',Hp E w' (ao b (.cells cs t (0,0))::F)→K w'):aq n ⟨b,0,none⟩ cs w K:=by
 refine ⟨hn,fun i hi=>⟨?_,?_,?_⟩,?_⟩
 ·have:cs.getD i undef∈cs.toList:=by simp [hn,hi]
  exact hs _ this
 ·rw [al,h.cell];simp [h0,hi]
 ·rw [al];simp [World.frozen?,h.aD]
 ·obtain ⟨arr',e1,e2,e3,h'⟩:=Hp.setRow (b:=b) (off:=0) cs.toList 0 w c0 h (by simp;omega)
  have:arr'=cs:=by
   apply Array.ext
   ·omega
   ·intro i hi1 hi2
    have:=e2 i (by simpa using hi2)
    rw [show 0+0+i=i by omega,Array.getElem?_eq_getElem hi1] at this
    simpa using this
  subst this
  exact hK _ h'
theorem aC.rd {b n:Nat} {cs:Array Value} {t:TypeId} {fr:Nat×Nat} {i:Int} {s:Sc} {K:s.T→Prop} (h:Hp E w (ao b (.cells cs t fr)::F)) (h0:0≤i) (h1:i<(n:Int)) (x:s.T) (hx:cs[i.toNat]? =some (s.enc x)) (hK:K x):
  aC ⟨b,0,none⟩ n i 1 fun q=>Ld (.sc s) q w K:=by
 refine ⟨h0,h1,?_⟩
 rw [al]
 exact Ld.aD h x (by simpa using hx) hK
theorem aC.wr {b n:Nat} {cs:Array Value} {t:TypeId} {i:Int} {v:Value} {K:World→Prop} (h:Hp E w (ao b (.cells cs t (0,0))::F)) (h0:0≤i) (h1:i<(n:Int)) (hn:cs.size=n) (hv:ay v=true)
  (hK: ∀w',Hp E w' (ao b (.cells (cs.setIfInBounds i.toNat v) t (0,0))::F)→K w'):aC ⟨b,0,none⟩ n i 1 fun q=>St q v w K:=by
 refine ⟨h0,h1,?_⟩
 rw [al]
 exact St.aD h (by omega) hv (by simpa using hK)
theorem gk.rd {s:Sc} {cs:Array Value} {n:Nat} {i:Int} {K:s.T→Prop} (h0:0≤i) (h1:i<(n:Int)) (x:s.T) (hx:cs[i.toNat]? =some (s.enc x)) (hK:K x):gk s cs n i K:=⟨h0,h1,x,hx,hK⟩
end
def ai (k:IntKind) (l:List Nat):Array Value:=⟨l.map fun (n:Nat)=> .int k (n:Int)⟩
theorem aJ {k:IntKind} {l:List Nat}:(ai k l).size=l.length:=by simp [ai]
theorem gm {k:IntKind} {l:List Nat} {i:Nat} (h:i<l.length):(ai k l)[i]? =some (Sc.enc (.int k) (l[i]:Int)):=by simp [ai,h]
theorem cO {k:IntKind} {l:List Nat}: ∀v∈(ai k l).toList,ay v=true:=by
 intro v hv
 simp only [ai,List.mem_map] at hv
 obtain ⟨x,_,rfl⟩:=hv
 rfl
theorem qS {k:IntKind} {l:List Nat} {i x:Nat}:(ai k l).setIfInBounds i (.int k (x:Int))=ai k (l.set i x):=by
 unfold ai
 apply Array.ext'
 simp [List.map_set]
theorem mE {k:IntKind} {n:Nat}:(⟨List.replicate n (.int k 0)⟩:Array Value)=ai k (List.replicate n 0):=by
 unfold ai;simp
theorem qQ.mk {k:IntKind} {n:Nat} {a b:List Nat} {K:Bool→Prop} (ha:a.length=n) (hb:b.length=n) (h:K (a==b)):qQ k n (ai k a) (ai k b) K:=by
 refine ⟨a.map fun (x:Nat)=>(x:Int),b.map fun (x:Nat)=>(x:Int),by simp [ai],by simp [ai],by simpa using ha,by simpa using hb,?_⟩
 have:((a.map fun (x:Nat)=>(x:Int))==(b.map fun (x:Nat)=>(x:Int)))=(a==b):=by
  rw [Bool.eq_iff_iff,beq_iff_eq,beq_iff_eq]
  constructor
  ·intro h
   exact (List.map_inj_right (fun x y h=>by have h:(x:Int)=(y:Int):=h;omega)).1 h
  ·rintro rfl;rfl
 rw [this];exact h
end Go.Vc
set_option maxRecDepth 20000
namespace Go.Vc
open Go
section
variable {E w w':World} {F G:List HP} {sz:Nat} {s:Sl} {xs ys:List Value}
theorem Hp.AE {l:List HP} (h:Hp E w (l++F)):Hp E w F:=by
 induction l with
 |nil=>exact h
 |cons A l ih=>exact ih h.drop
theorem ag.app {φ:World→Prop} (l:List HP) (ht:ag F φ):ag (l++F) φ:=by
 induction l with
 |nil=>exact ht
 |cons A l ih=>exact ih.cons
theorem ag.AX {φ:World→Prop} (ht:ag G φ):ag (G++F) φ:=(ht.app F).perm List.perm_append_comm
def da (E:World) (F:List HP) (w:World):Prop:= ∃l,Hp E w (l++F)
theorem da.mk (h:Hp E w F):da E F w:=⟨[],h⟩
theorem da.CM {A:HP} (h:Hp E w (A::F)):da E F w:=⟨[A],h⟩
theorem da.Jj {A B:HP} (h:Hp E w (A::B::F)):da E F w:=⟨[A,B],h⟩
theorem da.av {φ:World→Prop} (h:da E F w) (ht:ag F φ):φ w:=by
 obtain ⟨l,h⟩:=h
 exact h.av (ht.app l)
theorem bF.Hm {lo hi mx:Int} {K:Sl→Prop} (hl:xs.length=s.len*sz) (h0:0≤lo) (h1:lo≤hi) (h2:hi≤(s.len:Int)) (h3:hi≤mx) (h4:mx≤(s.cap:Int))
  (h: ∀s':Sl,(∀w',aG sz s xs w'→aG sz s' ((xs.drop (lo.toNat*sz)).take ((hi.toNat - lo.toNat)*sz)) w')→s'.len=hi.toNat - lo.toNat→s'.len≤s'.cap→K s'):bF s lo hi mx sz K:=by
 refine ⟨h0,h1,h3,h4,h _ (fun w' hs'=> ?_) rfl (by simp only;omega)⟩
 have hm:hi.toNat*sz≤s.len*sz:=Nat.mul_le_mul_right _ (by omega)
 have hsub:(hi.toNat - lo.toNat)*sz=hi.toNat*sz - lo.toNat*sz:=Nat.sub_mul ..
 have hmono:lo.toNat*sz≤hi.toNat*sz:=Nat.mul_le_mul_right _ (by omega)
 have hlen:((xs.drop (lo.toNat*sz)).take ((hi.toNat - lo.toNat)*sz)).length=(hi.toNat - lo.toNat)*sz:=by
  rw [List.length_take,List.length_drop];omega
 refine ⟨hlen,fun i hi'=> ?_⟩
 rw [hlen] at hi'
 obtain ⟨p,hp,hcell⟩:=hs'.2 (lo.toNat*sz+i) (by omega)
 have hne:mx.toNat≠lo.toNat:=by
  intro e
  have:hi.toNat - lo.toNat=0:=by omega
  rw [this] at hi';omega
 refine ⟨p.add (lo.toNat*sz),by simp [hne,hp],?_⟩
 have:(p.add (lo.toNat*sz)).add i=p.add (lo.toNat*sz+i):=by
  unfold Addr.add
  by_cases e1:lo.toNat*sz=0<;>by_cases e2:i=0<;>simp [e1,e2,Nat.add_assoc]
 rw [this,hcell]
 simp
theorem ad.sc {S:World→Prop} {s:Sc} {p:Addr} {K:s.T→Prop} (x:s.T) (hc: ∀w,S w→w.cell? p=some (s.enc x)) (h:K x):ad (.sc s) p S K:=⟨x,hc,h⟩
theorem bF.whole {b n:Nat} {hi mx:Int} {K:Sl→Prop} (hn:0<n) (h1:hi=(n:Int)) (h2:mx=(n:Int)) (h:K ⟨some ⟨b,0,none⟩,n,n⟩):bF ⟨some ⟨b,0,none⟩,n,n⟩ 0 hi mx 1 K:=by
 subst h1;subst h2
 refine ⟨by omega,by omega,by omega,by simp,?_⟩
 have e:(if ((n:Int)).toNat=(0:Int).toNat then (some ⟨b,0,none⟩:Option Addr) else (some ⟨b,0,none⟩:Option Addr).map (·.add ((0:Int).toNat*1)))=some ⟨b,0,none⟩:=by
  rw [if_neg (by simp;omega)];simp [Addr.add]
 rw [e]
 simpa using h
end
section
variable {α:Type} {g:α→List Value} {sz:Nat} {l:List α}
theorem js (hg: ∀x,(g x).length=sz) (l:List α):(l.flatMap g).length=l.length*sz:=by
 induction l with
 |nil=>simp
 |cons x l ih=>rw [List.flatMap_cons,List.length_append,ih,hg,List.length_cons,Nat.succ_mul];omega
theorem zf (hg: ∀x,(g x).length=sz): ∀(l:List α) (n:Nat),(l.flatMap g).drop (n*sz)=(l.drop n).flatMap g
 |l,0=>by simp
 | [],n+1=>by simp
 |x::l,n+1=>by
  rw [List.drop_succ_cons,List.flatMap_cons,Nat.succ_mul,Nat.add_comm,←List.drop_drop,←hg x,List.drop_left,hg x]
  exact zf hg l n
theorem yG (hg: ∀x,(g x).length=sz): ∀(l:List α) (n:Nat),(l.flatMap g).take (n*sz)=(l.take n).flatMap g
 |l,0=>by simp
 | [],n+1=>by simp
 |x::l,n+1=>by
  rw [List.take_succ_cons,List.flatMap_cons,List.flatMap_cons,Nat.succ_mul,Nat.add_comm,List.take_append,hg x,List.take_of_length_le (by rw [hg x];omega),show sz+n*sz - sz=n*sz by omega,yG hg l n]
theorem n9 (hg: ∀x,(g x).length=sz): ∀(l:List α) (i j:Nat) (hi:i<l.length),j<sz→(l.flatMap g)[i*sz+j]? =(g l[i])[j]?
 |x::l,0,j,_,hj=>by rw [List.flatMap_cons,List.getElem?_append_left (by rw [hg];omega),Nat.zero_mul,Nat.zero_add];rfl
 |x::l,i+1,j,hi,hj=>by
  rw [List.flatMap_cons,List.getElem?_append_right (by rw [hg,Nat.succ_mul];omega),hg,show (i+1)*sz+j - sz=i*sz+j by rw [Nat.succ_mul];omega,n9 hg l i j (by simpa using hi) hj]
  rfl
end
section
variable {E w w':World} {F G:List HP} {sz:Nat} {s:Sl} {α:Type} {g:α→List Value} {l:List α}
theorem aI.el {i:Int} {n:Nat} {K:Addr→Prop} (hg: ∀x,(g x).length=sz) (hz:0<sz) (hs:aG sz s (l.flatMap g) w) (hn:i=(n:Int)) (hi:n<l.length) (h: ∀p,(∀j,j<sz→w.cell? (p.add j)=(g l[n])[j]?)→K p):aI s i sz K:=by
 subst hn
 have hl:=hs.1
 rw [js hg] at hl
 have hle:l.length=s.len:=Nat.eq_of_mul_eq_mul_right hz hl
 refine aI.Hm hs hz (by omega) (by omega) fun p hp=>h p fun j hj=> ?_
 have e:=n9 hg l n j hi hj
 have hlt:n*sz+j<(l.flatMap g).length:=by
  rw [js hg]
  have:(n+1)*sz≤l.length*sz:=Nat.mul_le_mul_right _ hi
  rw [Nat.succ_mul] at this;omega
 rw [hp j (by rw [Int.toNat_natCast];exact hlt) hj]
 simp only [Int.toNat_natCast]
 rw [←e,List.getElem?_eq_getElem hlt]
theorem aI.Kc {i:Int} {n:Nat} {K:Addr→Prop} (hg: ∀x,(g x).length=sz) (hz:0<sz) (hh:Hp E w F) (hs:ag F (aG sz s (l.flatMap g))) (hn:i=(n:Int)) (hi:n<l.length) (h: ∀p,(∀j,j<sz→ag F (fun w=>w.cell? (p.add j)=(g l[n])[j]?))→K p):aI s i sz K:=by
 subst hn
 have hl:=(hh.av hs).1
 rw [js hg] at hl
 have hle:l.length=s.len:=Nat.eq_of_mul_eq_mul_right hz hl
 refine aI.EG hh hs hz (by omega) (by omega) fun p hp=>h p fun j hj=>(hp j hj).imp fun w hw=> ?_
 rw [hw,Int.toNat_natCast,n9 hg l n j hi hj]
theorem aG.len (hg: ∀x,(g x).length=sz) (hz:0<sz) (hs:aG sz s (l.flatMap g) w):s.len=l.length:=by
 have hl:=hs.1
 rw [js hg] at hl
 exact (Nat.eq_of_mul_eq_mul_right hz hl).symm
theorem bF.el {lo hi mx:Int} {a b:Nat} {K:Sl→Prop} (hg: ∀x,(g x).length=sz) (hl:s.len=l.length) (ha:lo=(a:Int)) (hb:hi=(b:Int)) (h1:a≤b) (h2:b≤l.length) (h3:hi≤mx) (h4:mx≤(s.cap:Int))
  (h: ∀s':Sl,(∀w',aG sz s (l.flatMap g) w'→aG sz s' (((l.drop a).take (b - a)).flatMap g) w')→s'.len=b - a→s'.len≤s'.cap→K s'):bF s lo hi mx sz K:=by
 subst ha;subst hb
 refine bF.Hm (xs:=l.flatMap g) (by rw [js hg,hl]) (by omega) (by omega) (by omega) h3 h4 fun s' hs' hl' hc'=>h s' (fun w' hw'=> ?_) (by simpa using hl') hc'
 have:=hs' w' hw'
 simp only [Int.toNat_natCast] at this
 rw [zf hg,yG hg] at this
 exact this
theorem uT {S:World→Prop} {p:Addr}: ∀{ks:List Sc} {i:Nat} {K:TT ks→Prop} (x:TT ks) (_: ∀w,S w→∀j (hj:j<(cU ks x).length),w.cell? (p.add (i+j))=some (cU ks x)[j]) (_:K x),yx S p ks i K
 | [],_,_,_,_,h=>h
 |k::ks,i,K,(x,y),hc,h=>⟨x,fun w hw=>by have:=hc w hw 0 (by simp);simpa using this,uT (ks:=ks) (i:=i+1) y (fun w hw j hj=>by
   have:=hc w hw (j+1) (by simp;omega)
   simpa [Nat.add_assoc,Nat.add_comm 1 j] using this) h⟩
theorem Ld.st {ks:List Sc} {p:Addr} {K:TT ks→Prop} (x:TT ks) (hc: ∀j,j<(cU ks x).length→w.cell? (p.add j)=(cU ks x)[j]?) (h:K x):Ld (.st ks) p w K:=
 uT x (fun w' hw' j hj=>by
  have hw':w'=w:=hw'
  subst hw'
  rw [Nat.zero_add,hc j hj,List.getElem?_eq_getElem hj]) h
theorem Ld.uJ {ks:List Sc} {b:Nat} {cs:Array Value} {t:TypeId} {fr:Nat×Nat} {K:TT ks→Prop} (hh:Hp E w (ao b (.cells cs t fr)::F)) (x:TT ks) (hc:cs=⟨cU ks x⟩) (h:K x):Ld (.st ks) ⟨b,0,none⟩ w K:=by
 subst hc
 refine Ld.st x (fun j hj=> ?_) h
 rw [al,hh.cell];simp
theorem ae.go {b:Nat} {t:TypeId} {K:World→Prop}: ∀(vs:List Value) (i:Nat) (w:World) (c:Array Value),Hp E w (ao b (.cells c t (0,0))::F)→i+vs.length=c.size→(∀v∈vs,ay v=true)→
  (∀c' w',c'.toList=c.toList.take i++vs→Hp E w' (ao b (.cells c' t (0,0))::F)→K w')→ae ⟨b,0,none⟩ vs i w K
 | [],i,w,c,hh,hi,_,hK=>hK c w (by rw [List.append_nil,List.take_of_length_le (by simp;simp at hi;omega)]) hh
 |v::vs,i,w,c,hh,hi,hv,hK=>by
  have h1:=hv v (by simp)
  simp only [List.length_cons] at hi
  unfold ae
  rw [h1]
  have h2:=hh.setCell (i:=i) v
  refine ⟨?_,?_,?_⟩
  ·rw [al,hh.cell];simp;omega
  ·rw [al];simp [World.frozen?,hh.aD]
  ·rw [al,Nat.zero_add]
   refine ae.go vs (i+1) _ _ h2 (by simp;omega) (fun x hx=>hv x (List.mem_cons_of_mem _ hx)) fun c' w' e h3=>hK c' w' ?_ h3
   rw [e,Array.toList_setIfInBounds,List.take_add_one,List.take_set_of_le (by omega)]
   rw [List.getElem?_set_self (by simp;omega)]
   simp
theorem ae.aD {b:Nat} {c:Array Value} {t:TypeId} {vs:List Value} {K:World→Prop} (hh:Hp E w (ao b (.cells c t (0,0))::F)) (hi:vs.length=c.size) (hv: ∀v∈vs,ay v=true)
  (hK: ∀w',Hp E w' (ao b (.cells ⟨vs⟩ t (0,0))::F)→K w'):ae ⟨b,0,none⟩ vs 0 w K:=
 ae.go vs 0 w c hh (by omega) hv fun c' w' e h=>by
  have:c'=⟨vs⟩:=by apply Array.ext';simpa using e
  subst this
  exact hK w' h
theorem Am {P:Program} {t ty e e2:TypeId} {bytes:Nat} {x:α} {cs:Array Value} {K:Sl→World→Prop} (he:bZ P t e sz bytes) (hg: ∀x,(g x).length=sz) (hz:0<sz) (hcs:cs=⟨g x⟩) (hsc: ∀y∈g x,ay y=true)
  (hh:Hp E w (aA sz s (l.flatMap g)::F)) (hb:(2*(l.length+1)+1024)*bytes≤2^48) (hb2:l.length+1<2^62)
  (h: ∀s' w',Hp E w' (aA sz s' ((l++ [x]).flatMap g)::F)→s'.len=l.length+1→K s' w'):
  Nw e2 cs w fun b w1=>aw P (Builtin.append_ #[t,t] ty ⟨[.slice s.base s.len s.cap,.slice (some ⟨b,0,none⟩) 1 1]⟩) kS w1 K:=by
 have hlen:=aG.len hg hz (hh.av ag.own)
 refine Nw.mk hh fun b w1 h1=> ?_
 refine br (ys:=g x) (n:=1) he hz (.inl ⟨e,he.und⟩) h1.p1 (.inl ⟨_,_,_,rfl,rfl,h1.av (ag.aD (xs:=g x) (by rw [hcs]) (by rw [hg];simp))⟩) (by rw [hg];simp) hsc (by rw [hlen];exact hb) (by rw [hlen];exact hb2) fun s' w2 h2 hs'=>h s' w2 ?_ (by rw [hs',hlen])
 rw [List.flatMap_append,show [x].flatMap g=g x by simp]
 exact h2.p1.drop
theorem qH {P:Program} {t ty e:TypeId} {bytes:Nat} {s2:Sl} {ys:List α} {K:Sl→World→Prop} (he:bZ P t e sz bytes) (hg: ∀x,(g x).length=sz) (hz:0<sz) (hsc: ∀x,∀y∈g x,ay y=true)
  (hh:Hp E w (aA sz s (l.flatMap g)::F)) (hs:aG sz s2 (ys.flatMap g) w) (hb:(2*(l.length+ys.length)+1024)*bytes≤2^48) (hb2:l.length+ys.length<2^62)
  (h: ∀s' w',Hp E w' (aA sz s' ((l++ys).flatMap g)::F)→s'.len=l.length+ys.length→K s' w'):
  aw P (Builtin.append_ #[t,t] ty ⟨[.slice s.base s.len s.cap,.slice s2.base s2.len s2.cap]⟩) kS w K:=by
 have hlen:=aG.len hg hz (hh.av ag.own)
 have hlen2:=aG.len hg hz hs
 refine br (ys:=ys.flatMap g) (n:=ys.length) he hz (.inl ⟨e,he.und⟩) hh (.inl ⟨_,_,_,rfl,hlen2.symm,hs⟩) (js hg ys) (fun y hy=> ?_) (by rw [hlen];exact hb) (by rw [hlen];exact hb2) fun s' w2 h2 hs'=>h s' w2 ?_ (by rw [hs',hlen])
 ·obtain ⟨x,_,hx⟩:=List.mem_flatMap.1 hy
  exact hsc x y hx
 ·rw [List.flatMap_append];exact h2
end
end Go.Vc
set_option maxRecDepth 20000
namespace Go.Vc
open Go
section
variable {E w:World} {F:List HP} {A:HP}
theorem da.mem (h:da E F w) (hm:A∈F): ∃G,Hp E w (A::G):=by
 obtain ⟨l,h⟩:=h
 obtain ⟨s,t,rfl⟩:=List.append_of_mem hm
 refine ⟨(l++s)++t,?_⟩
 rw [←List.append_assoc] at h
 exact h.perm List.perm_middle
theorem da.front (h:da E (A::F) w): ∃G,Hp E w (A::G):=h.mem (by simp)
theorem da.Bb {B:HP} (h:da E (A::B::F) w): ∃G,Hp E w (B::G):=h.mem (by simp)
theorem ad.Hj {S:World→Prop} {b n:Nat} {cs:Array Value} {t:TypeId} {fr:Nat×Nat} {K:Array Value→Prop} (hS: ∀w,S w→∃G,Hp E w (ao b (.cells cs t fr)::G)) (hn:cs.size=n) (hK:K cs):ad (.arr n) ⟨b,0,none⟩ S K:=by
 refine ⟨cs,hn,fun w' hw i hi=> ?_,hK⟩
 obtain ⟨G,h⟩:=hS w' hw
 rw [al,h.cell,Nat.zero_add]
 simp [hn,hi]
theorem ad.aD {S:World→Prop} {s:Sc} {b i:Nat} {c:Array Value} {t:TypeId} {fr:Nat×Nat} {K:s.T→Prop} (hS: ∀w,S w→∃G,Hp E w (ao b (.cells c t fr)::G)) (x:s.T) (hx:c[i]? =some (s.enc x)) (hk:K x):ad (.sc s) ⟨b,i,none⟩ S K:=by
 refine ad.sc x (fun w' hw=> ?_) hk
 obtain ⟨G,h⟩:=hS w' hw
 rw [h.cell];exact hx
theorem ad.sub {S:World→Prop} {b n off:Nat} {pre mid post:List Value} {t:TypeId} {fr:Nat×Nat} {K:Array Value→Prop} (hS: ∀w,S w→∃G,Hp E w (ao b (.cells ⟨pre++mid++post⟩ t fr)::G)) (ho:pre.length=off) (hn:mid.length=n) (hK:K ⟨mid⟩):ad (.arr n) ⟨b,off,none⟩ S K:=by
 refine ⟨⟨mid⟩,hn,fun w' hw i hi=> ?_,hK⟩
 obtain ⟨G,h⟩:=hS w' hw
 rw [al,h.cell]
 subst ho
 rw [List.getElem?_toArray,List.append_assoc,List.getElem?_append_right (by omega),List.getElem?_append_left (by omega),show pre.length+i - pre.length=i by omega]
 rw [List.getElem?_eq_getElem (by omega)]
 simp [show i<mid.length by omega]
theorem Ld.sub {b n off:Nat} {pre mid post:List Value} {t:TypeId} {fr:Nat×Nat} {K:Array Value→Prop} (h:Hp E w (ao b (.cells ⟨pre++mid++post⟩ t fr)::F)) (ho:pre.length=off) (hn:mid.length=n) (hK:K ⟨mid⟩):Ld (.arr n) ⟨b,off,none⟩ w K:=
 ad.sub (E:=E) (fun w' hw=>⟨F,by rw [hw];exact h⟩) ho hn hK
end
def cK (n:Nat) (f:Nat→Int):Array Value:=⟨(List.range n).map fun j=> .int .i64 (f j)⟩
theorem cN {n:Nat} {f:Nat→Int}:(cK n f).size=n:=by simp [cK]
theorem qp {n:Nat} {f:Nat→Int} {i:Nat} (h:i<n):(cK n f)[i]? =some (Sc.enc (.int .i64) (f i)):=by
 unfold cK
 rw [List.getElem?_toArray,List.getElem?_map,List.getElem?_range h];rfl
theorem ns {n:Nat} {f:Nat→Int} {i:Nat} {v:Int}:(cK n f).setIfInBounds i (.int .i64 v)=cK n fun j=>if j=i then v else f j:=by
 apply Array.ext_getElem?
 intro j
 rw [Array.getElem?_setIfInBounds]
 unfold cK
 simp only [List.getElem?_toArray,List.getElem?_map,List.size_toArray,List.length_map,List.length_range]
 by_cases hj:j<n
 ·rw [List.getElem?_range hj]
  by_cases e:i=j
  ·subst e;simp [hj]
  ·rw [if_neg e];simp [Ne.symm e]
 ·rw [List.getElem?_eq_none (by simpa using hj)]
  by_cases e:i=j
  ·subst e;simp [hj]
  ·simp [e]
theorem eR {n:Nat} {f g:Nat→Int} (h: ∀i,i<n→f i=g i):cK n f=cK n g:=by
 unfold cK
 congr 1
 exact List.map_congr_left fun j hj=>by rw [h j (by simpa using hj)]
theorem vz {off:Nat}: ∀(vs:List Value) (k:Nat) (pre mid post:List Value),mid.length=vs.length→pre.length=off+k→
  (vs.zipIdx k).foldl (fun (cs:Array Value) (x:Value×Nat)=>cs.setIfInBounds (off+x.2) x.1) ⟨pre++mid++post⟩=⟨pre++vs++post⟩
 | [],k,pre,mid,post,hm,_=>by
  have:mid= []:=List.length_eq_zero_iff.1 hm
  subst this;rfl
 |v::vs,k,pre,mid,post,hm,hp=>by
  obtain ⟨m,mid,rfl⟩: ∃m mid',mid=m::mid':=by
   cases mid with
   |nil=>simp at hm
   |cons m mid=>exact ⟨m,mid,rfl⟩
  rw [List.zipIdx_cons,List.foldl_cons]
  have e:(⟨pre++m::mid++post⟩:Array Value).setIfInBounds (off+k) v=⟨(pre++ [v])++mid++post⟩:=by
   rw [←hp]
   apply Array.ext'
   simp
  show ((vs.zipIdx (k+1)).foldl _ ((⟨pre++m::mid++post⟩:Array Value).setIfInBounds (off+k) v))=_
  rw [e,vz vs (k+1) (pre++ [v]) mid post (by simpa using hm) (by simp;omega)]
  simp
theorem fD {place:Nat→Option (Nat×Nat)} {i off size:Nat} {v:Value} {rest:List (Nat×Value)} {pre mid post:List Value} (hpl:place i=some (off,size)) (ho:pre.length=off) (hm:mid.length=size) (hv:v.cells.size=size):
  Instr.fill place ⟨pre++mid++post⟩ ((i,v)::rest)=Instr.fill place ⟨pre++v.cells.toList++post⟩ rest:=by
 rw [Instr.fill,hpl]
 simp only
 rw [if_neg (by simp [hv];omega)]
 congr 1
 rw [←Array.foldl_toList,Array.toList_zipIdx]
 exact vz (off:=off) v.cells.toList 0 pre mid post (by simp [hm,hv]) (by omega)
end Go.Vc
set_option maxRecDepth 20000
namespace Go.Vc
open Go
class bo (b:Nat) (l:List HP) (c:outParam (Array Value)) (t:outParam TypeId) (fr:outParam (Nat×Nat)) (put:outParam (Obj→List HP)):Prop where
 perm: ∃r,l.Perm (ao b (.cells c t fr)::r)∧∀o,(ao b o::r).Perm (put o)
instance bo.head {b:Nat} {l:List HP} {c:Array Value} {t:TypeId} {fr:Nat×Nat}:bo b (ao b (.cells c t fr)::l) c t fr (fun o=>ao b o::l):=
 ⟨l,.refl _,fun _=> .refl _⟩
instance bo.tail {b:Nat} {A:HP} {l:List HP} {c:Array Value} {t:TypeId} {fr:Nat×Nat} {put:Obj→List HP} [h:bo b l c t fr put]:bo b (A::l) c t fr (fun o=>A::put o):=
 ⟨by
  obtain ⟨r,h1,h2⟩:=h.perm
  exact ⟨A::r,(h1.cons A).trans (.swap ..),fun o=>(List.Perm.swap ..).trans ((h2 o).cons A)⟩⟩
class tp (n:Nat) (l:List HP) (A:outParam HP) (r:outParam (List HP)):Prop where
 perm:l.Perm (A::r)
instance tp.zero {A:HP} {l:List HP}:tp 0 (A::l) A l:=⟨.refl _⟩
instance tp.succ {n:Nat} {A B:HP} {l r:List HP} [h:tp n l A r]:tp (n+1) (B::l) A (B::r):=⟨(h.perm.cons B).trans (.swap ..)⟩
section
variable {E w:World} {l:List HP} {b i:Nat} {c:Array Value} {t:TypeId} {fr:Nat×Nat} {put:Obj→List HP}
theorem Hp.at {A:HP} {r:List HP} (h:Hp E w l) (n:Nat) [hn:tp n l A r]:Hp E w (A::r):=h.perm hn.perm
theorem Hp.no {A:HP} {r:List HP} (h:Hp E w l) (n:Nat) [hn:tp n l A r]:Hp E w r:=(h.perm hn.perm).drop
theorem ag.at {A:HP} {r:List HP} {φ:World→Prop} (n:Nat) [hn:tp n l A r] (ht:ag (A::r) φ):ag l φ:=ht.perm hn.perm.symm
theorem Hp.fb [hf:bo b l c t fr put] (h:Hp E w l):w.heap[b]? =some (.cells c t fr):=by
 obtain ⟨r,h1,_⟩:=hf.perm
 exact (h.perm h1).aD
theorem Hp.fc [bo b l c t fr put] (h:Hp E w l):w.cell? ⟨b,i,none⟩=c[i]? :=by
 simp [World.cell?,h.fb]
def cq (b:Nat) (c:Array Value) (t:TypeId) (fr:Nat×Nat) (w:World):Prop:=w.heap[b]? =some (.cells c t fr)
theorem Hp.hb [bo b l c t fr put] (h:Hp E w l):cq b c t fr w:=h.fb
theorem cq.cell (h:cq b c t fr w):w.cell? ⟨b,i,none⟩=c[i]? :=by simp [World.cell?,show w.heap[b]? =_ from h]
def Sc.C5:(s:Sc)→Value→Option s.T
 | .int k,.int k' n=>match k==k' with|true=>some n|false=>none
 | .bool,.bool b=>some b
 | .ptr,.pointer p=>some p
 | .sl,.slice b l c=>some ⟨b,l,c⟩
 | .str,.string s=>some s
 | .mp,.map m=>some m
 | .any,v=>some v
 | .addr,.pointer (some p)=>some p
 |_,_=>none
def qP:(l:List Sc)→List Value→Option (TT l)
 | [],_=>some ()
 |s::l,v::vs=>match s.C5 v,qP l vs with
  |some x,some y=>some (x,y)
  |_,_=>none
 |_::_,[]=>none
theorem Sc.Er {s:Sc} {v:Value} {x:s.T} (h:s.C5 v=some x):v=s.enc x:=by
 cases s<;>cases v<;>simp only [Sc.C5] at h<;>first|cases h;rfl|cases h|skip
 ·rename_i k k' n
  by_cases e:k=k'
  ·subst e;simp at h;subst h;rfl
  ·have:(k==k')=false:=by simpa using e
   rw [this] at h;cases h
 ·rename_i p
  cases p with
  |none=>cases h
  |some p=>simp only [Option.some.injEq] at h;subst h;rfl
theorem tS: ∀{l:List Sc} {vs:List Value} {x:TT l},qP l vs=some x→∃r,vs=cU l x++r
 | [],vs,(),_=>⟨vs,rfl⟩
 |s::l,v::vs,(x,y),h=>by
  simp only [qP] at h
  split at h
  ·rename_i x' y' hx hy
   simp only [Option.some.injEq,Prod.mk.injEq] at h
   obtain ⟨rfl,rfl⟩:=h
   obtain ⟨r,e⟩:=tS hy
   exact ⟨r,by rw [e,Sc.Er hx];rfl⟩
  ·cases h
 |_::_,[],_,h=>by cases h
class ju (l F:List HP):Prop where
 sub: ∃p,l=p++F
instance ju.refl {F:List HP}:ju F F:=⟨[],rfl⟩
instance ju.cons {A:HP} {l F:List HP} [h:ju l F]:ju (A::l) F:=⟨by obtain ⟨p,e⟩:=h.sub;exact ⟨A::p,by rw [e];rfl⟩⟩
theorem Hp.tl {F:List HP} [h2:ju l F] (h:Hp E w l):Hp E w F:=by
 obtain ⟨p,e⟩:=h2.sub
 subst e;exact h.AE
theorem dw {α β:Type} {K:α→β→Prop} {a a':α} {w:β} (e:a=a') (h:K a' w):K a w:=e▸h
theorem aa.yes {b:Bool} {X Y:Prop} (k:X) (h:b=true:=by with_reducible first|rfl|exact decide_eq_true (by omega)|exact beq_iff_eq.2 (by omega)|exact bne_iff_ne.2 (by omega)|exact Bool.not_false|exact Bool.not_eq_true' _▸decide_eq_false (by omega)):aa b X Y:=aa.t h k
theorem aa.no {b:Bool} {X Y:Prop} (k:Y) (h:b=false:=by with_reducible first|rfl|exact decide_eq_false (by omega)|exact beq_eq_false_iff_ne.2 (by omega)|exact bne_eq_false_iff_eq.2 (by omega)|exact Bool.not_true|exact Bool.not_eq_false' _▸decide_eq_true (by omega)):aa b X Y:=aa.f h k
theorem aa.dt {p:Prop} [Decidable p] {X Y:Prop} (hp:p) (h:X):aa (decide p) X Y:=aa.t (decide_eq_true hp) h
theorem aa.df {p:Prop} [Decidable p] {X Y:Prop} (hp: ¬p) (h:Y):aa (decide p) X Y:=aa.f (decide_eq_false hp) h
theorem aa.fq {p:Prop} [Decidable p] {X Y:Prop} (hp:p) (h:Y):aa (!decide p) X Y:=aa.f (by rw [decide_eq_true hp];rfl) h
theorem aa.fA {p:Prop} [Decidable p] {X Y:Prop} (hp: ¬p) (h:X):aa (!decide p) X Y:=aa.t (by rw [decide_eq_false hp];rfl) h
theorem aa.eB {X Y:Prop} (h:Y):aa (!true) X Y:=h
theorem aa.fp {X Y:Prop} (h:X):aa (!false) X Y:=h
theorem aa.et {a b:Int} {X Y:Prop} (hp:a=b) (h:X):aa (a==b) X Y:=aa.t (beq_iff_eq.2 hp) h
theorem aa.ef {a b:Int} {X Y:Prop} (hp: ¬a=b) (h:Y):aa (a==b) X Y:=aa.f (beq_eq_false_iff_ne.2 hp) h
theorem aa.nt {a b:Int} {X Y:Prop} (hp: ¬a=b) (h:X):aa (a !=b) X Y:=aa.t (bne_iff_ne.2 hp) h
theorem aa.nf {a b:Int} {X Y:Prop} (hp:a=b) (h:Y):aa (a !=b) X Y:=aa.f (bne_eq_false_iff_eq.2 hp) h
theorem aa.dm {p:Prop} [Decidable p] {X Y:Prop} (h1:p→X) (h2: ¬p→Y):aa (decide p) X Y:=aa.mk (fun h=>h1 (of_decide_eq_true h)) (fun h=>h2 (of_decide_eq_false h))
theorem aa.em {a b:Int} {X Y:Prop} (h1:a=b→X) (h2: ¬a=b→Y):aa (a==b) X Y:=aa.mk (fun h=>h1 (beq_iff_eq.1 h)) (fun h=>h2 (beq_eq_false_iff_ne.1 h))
theorem aa.nm {a b:Int} {X Y:Prop} (h1: ¬a=b→X) (h2:a=b→Y):aa (a !=b) X Y:=aa.mk (fun h=>h1 (bne_iff_ne.1 h)) (fun h=>h2 (bne_eq_false_iff_eq.1 h))
theorem ad.xb {S:World→Prop} {s:Sc} {K:s.T→Prop} {x:s.T} (hS: ∀w,S w→cq b c t fr w) (hx:c.toList[i]? =some (s.enc x)) (hK:K x):ad (.sc s) ⟨b,i,none⟩ S K:=
 ⟨x,fun w hw=>by rw [(hS w hw).cell];rw [←hx];simp,hK⟩
theorem ad.xt {S:World→Prop} {ks:List Sc} {K:TT ks→Prop} {x:TT ks} (hS: ∀w,S w→cq b c t fr w) (hx:qP ks (c.toList.drop i)=some x) (hK:K x):ad (.st ks) ⟨b,i,none⟩ S K:=by
 obtain ⟨r,e⟩:=tS hx
 refine uT x (fun w hw j hj=> ?_) hK
 rw [Nat.zero_add,al,(hS w hw).cell]
 have h1:(c.toList.drop i)[j]? =(cU ks x)[j]? :=by rw [e,List.getElem?_append_left hj]
 rw [List.getElem?_drop,List.getElem?_eq_getElem hj] at h1
 rw [←h1];simp
theorem ad.xa {S:World→Prop} {n:Nat} {mid post:List Value} {K:Array Value→Prop} (hS: ∀w,S w→cq b c t fr w) (hx:c.toList.drop i=mid++post) (hn:mid.length=n) (hK:K ⟨mid⟩):ad (.arr n) ⟨b,i,none⟩ S K:=by
 refine ⟨⟨mid⟩,hn,fun w hw j hj=> ?_,hK⟩
 rw [al,(hS w hw).cell]
 have h1:(c.toList.drop i)[j]? =mid[j]? :=by rw [hx,List.getElem?_append_left (by omega)]
 rw [List.getElem?_drop] at h1
 rw [show c[i+j]? =c.toList[i+j]? by simp,h1]
 simp [show j<mid.length by omega]
theorem Ld.xb {s:Sc} {K:s.T→Prop} {x:s.T} [bo b l c t fr put] (h:Hp E w l) (hx:c.toList[i]? =some (s.enc x)) (hK:K x):Ld (.sc s) ⟨b,i,none⟩ w K:=ad.xb (fun w' hw=>by rw [hw];exact h.fb) hx hK
theorem Ld.xt {ks:List Sc} {K:TT ks→Prop} {x:TT ks} [bo b l c t fr put] (h:Hp E w l) (hx:qP ks (c.toList.drop i)=some x) (hK:K x):Ld (.st ks) ⟨b,i,none⟩ w K:=ad.xt (fun w' hw=>by rw [hw];exact h.fb) hx hK
theorem Ld.xa {n:Nat} {mid post:List Value} {K:Array Value→Prop} [bo b l c t fr put] (h:Hp E w l) (hx:c.toList.drop i=mid++post) (hn:mid.length=n) (hK:K ⟨mid⟩):Ld (.arr n) ⟨b,i,none⟩ w K:=ad.xa (fun w' hw=>by rw [hw];exact h.fb) hx hn hK
theorem Ld.xw {n:Nat} {K:Array Value→Prop} [bo b l c t fr put] (h:Hp E w l) (hn:c.size=n) (hK:K c):Ld (.arr n) ⟨b,0,none⟩ w K:=
 Ld.xa (mid:=c.toList) (post:= []) h (by simp) (by simpa using hn) (by simpa using hK)
theorem ad.xw {S:World→Prop} {n:Nat} {K:Array Value→Prop} (hS: ∀w,S w→cq b c t fr w) (hn:c.size=n) (hK:K c):ad (.arr n) ⟨b,0,none⟩ S K:=
 ad.xa (mid:=c.toList) (post:= []) hS (by simp) (by simpa using hn) (by simpa using hK)
theorem ae.Je {b:Nat} {t:TypeId} {F:List HP} {K:World→Prop}: ∀(vs:List Value) (i o:Nat) (w:World) (c:Array Value),Hp E w (ao b (.cells c t (0,0))::F)→o+i+vs.length≤c.size→(∀v∈vs,ay v=true)→
  (∀c' w',c'.toList=c.toList.take (o+i)++vs++c.toList.drop (o+i+vs.length)→Hp E w' (ao b (.cells c' t (0,0))::F)→K w')→ae ⟨b,o,none⟩ vs i w K
 | [],i,o,w,c,hh,hi,_,hK=>hK c w (by simp) hh
 |v::vs,i,o,w,c,hh,hi,hv,hK=>by
  have h1:=hv v (by simp)
  simp only [List.length_cons] at hi
  unfold ae
  rw [h1]
  have h2:=hh.setCell (i:=o+i) v
  refine ⟨?_,?_,?_⟩
  ·rw [al,hh.cell];simp;omega
  ·rw [al];simp [World.frozen?,hh.aD]
  ·rw [al]
   refine ae.Je vs (i+1) o _ _ h2 (by simp;omega) (fun x hx=>hv x (List.mem_cons_of_mem _ hx)) fun c' w' e h3=>hK c' w' ?_ h3
   rw [e,Array.toList_setIfInBounds,show o+(i+1)=o+i+1 by omega,List.take_add_one,List.take_set_of_le (by omega)]
   rw [List.getElem?_set_self (by simp;omega)]
   rw [List.drop_set_of_lt (by omega),List.length_cons]
   simp only [Option.toList_some,List.append_assoc,List.cons_append,List.nil_append]
   rw [show o+i+1+vs.length=o+i+(vs.length+1) by omega]
theorem ae.xm {o:Nat} {vs pre mid post:List Value} {K:World→Prop} [hf:bo b l c t (0,0) put] (h:Hp E w l) (hc:c.toList=pre++(mid++post)) (ho:pre.length=o) (hn:mid.length=vs.length) (hv:vs.all ay=true)
  (hK: ∀w',Hp E w' (put (.cells ⟨pre++(vs++post)⟩ t (0,0)))→K w'):ae ⟨b,o,none⟩ vs 0 w K:=by
 obtain ⟨r,h1,h2⟩:=hf.perm
 have hs:c.size=pre.length+(mid.length+post.length):=by rw [←Array.length_toList,hc];simp
 refine ae.Je vs 0 o w c (h.perm h1) (by omega) (List.all_eq_true.1 hv) fun c' w' e h'=>hK w' ?_
 have:c'=⟨pre++(vs++post)⟩:=by
  apply Array.ext'
  rw [e,hc,Nat.add_zero,←ho,List.take_left,←hn,←List.length_append,←List.append_assoc,List.drop_left,List.append_assoc]
 rw [this] at h'
 exact h'.perm (h2 _)
theorem ae.xw {vs:List Value} {K:World→Prop} [hf:bo b l c t (0,0) put] (h:Hp E w l) (hn:vs.length=c.size) (hv:vs.all ay=true)
  (hK: ∀w',Hp E w' (put (.cells ⟨vs⟩ t (0,0)))→K w'):ae ⟨b,0,none⟩ vs 0 w K:=
 ae.xm (pre:= []) (mid:=c.toList) (post:= []) h (by simp) rfl (by simpa using hn.symm) hv (by simpa using hK)
theorem St.xb {o:Nat} {v:Value} {K:World→Prop} [hf:bo b l c t (0,0) put] (h:Hp E w l) (hi:o<c.size) (hv:ay v=true)
  (hK: ∀w',Hp E w' (put (.cells (c.setIfInBounds o v) t (0,0)))→K w'):St ⟨b,o,none⟩ v w K:=by
 obtain ⟨r,h1,h2⟩:=hf.perm
 exact St.mk rfl (h.perm h1) hi hv fun w' h'=>hK w' (h'.perm (h2 _))
theorem St.xm {o:Nat} {v u:Value} {pre post:List Value} {K:World→Prop} [hf:bo b l c t (0,0) put] (h:Hp E w l) (hc:c.toList=pre++(u::post)) (ho:pre.length=o) (hv:ay v=true)
  (hK: ∀w',Hp E w' (put (.cells ⟨pre++(v::post)⟩ t (0,0)))→K w'):St ⟨b,o,none⟩ v w K:=by
 refine St.xb h ?_ hv fun w' h'=>hK w' ?_
 ·rw [←Array.length_toList,hc];simp;omega
 ·have:c.setIfInBounds o v=⟨pre++(v::post)⟩:=by
   apply Array.ext'
   rw [Array.toList_setIfInBounds,hc,←ho]
   simp
  rwa [this] at h'
def ab:List Value→List Value→List Value
 | [],l=>l
 |_::_,[]=> []
 |v::vs,_::l=>v::ab vs l
def af:List Value→Nat→List Value→List Value
 |l,0,vs=>ab vs l
 |a::l,o+1,vs=>a::af l o vs
 | [],_+1,_=> []
theorem yI: ∀{l vs:List Value},vs.length≤l.length→ab vs l=vs++l.drop vs.length
 |_,[],_=>rfl
 | [],_::_,h=>by simp at h
 |a::l,v::vs,h=>by
  rw [ab,yI (by simpa using h)];rfl
theorem wj: ∀{l:List Value} {o:Nat} {vs:List Value},o+vs.length≤l.length→af l o vs=l.take o++(vs++l.drop (o+vs.length))
 |l,0,vs,h=>by
  have:af l 0 vs=ab vs l:=by cases l<;>rfl
  rw [this,yI (by omega)];simp
 |a::l,o+1,vs,h=>by
  rw [af,wj (by simp at h;omega),show o+1+vs.length=o+vs.length+1 by omega];rfl
 | [],o+1,vs,h=>by simp at h
theorem ae.xs {o:Nat} {vs:List Value} {K:World→Prop} [hf:bo b l c t (0,0) put] (h:Hp E w l) (hb:Nat.ble (o+vs.length) c.toList.length=true) (hv:vs.all ay=true)
  (hK: ∀w',Hp E w' (put (.cells ⟨af c.toList o vs⟩ t (0,0)))→K w'):ae ⟨b,o,none⟩ vs 0 w K:=by
 have hb:=Nat.le_of_ble_eq_true hb
 rw [wj hb] at hK
 refine ae.xm (mid:=(c.toList.drop o).take vs.length) h ?_ (by simp;simp at hb;omega) (by simp;simp at hb;omega) hv hK
 rw [←List.drop_drop,List.take_append_drop,List.take_append_drop]
theorem St.xs {o:Nat} {v:Value} {K:World→Prop} [hf:bo b l c t (0,0) put] (h:Hp E w l) (hb:Nat.ble (o+1) c.toList.length=true) (hv:ay v=true)
  (hK: ∀w',Hp E w' (put (.cells ⟨af c.toList o [v]⟩ t (0,0)))→K w'):St ⟨b,o,none⟩ v w K:=by
 have hb:=Nat.le_of_ble_eq_true hb
 have hb2:o<c.toList.length:=by omega
 rw [wj (by simpa using hb)] at hK
 refine St.xm (u:=c.toList[o]'hb2) (pre:=c.toList.take o) (post:=c.toList.drop (o+1)) h ?_ (by simp;simp at hb;omega) hv (by simpa using hK)
 rw [List.getElem_cons_drop,List.take_append_drop]
theorem aq.xm {n o:Nat} {cs:Array Value} {pre mid post:List Value} {K:World→Prop} [hf:bo b l c t (0,0) put] (h:Hp E w l) (hc:c.toList=pre++(mid++post)) (ho:pre.length=o) (hn:mid.length=n) (hcs:cs.size=n) (hv: ∀v∈cs.toList,ay v=true)
  (hK: ∀w',Hp E w' (put (.cells ⟨pre++(cs.toList++post)⟩ t (0,0)))→K w'):aq n ⟨b,o,none⟩ cs w K:=by
 obtain ⟨r,h1,h2⟩:=hf.perm
 have hh:=h.perm h1
 have hs:c.size=pre.length+(mid.length+post.length):=by rw [←Array.length_toList,hc];simp
 refine ⟨hcs,fun i hi=>⟨?_,?_,?_⟩,?_⟩
 ·have:cs.getD i undef∈cs.toList:=by simp [Array.getD,hcs,hi]
  exact hv _ this
 ·rw [al,hh.cell];simp;omega
 ·rw [al];simp [World.frozen?,hh.aD]
 ·have key: ∀(vs:List Value) (i:Nat) (w:World) (c:Array Value),Hp E w (ao b (.cells c t (0,0))::r)→o+i+vs.length≤c.size→
    Hp E (aq.setRow w ⟨b,o,none⟩ vs i) (ao b (.cells ⟨c.toList.take (o+i)++vs++c.toList.drop (o+i+vs.length)⟩ t (0,0))::r):=by
   intro vs
   induction vs with
   |nil=>intro i w c hh hi;simpa [aq.setRow] using hh
   |cons v vs ih=>
    intro i w c hh hi
    simp only [List.length_cons] at hi
    have h2:=hh.setCell (i:=o+i) v
    have:=ih (i+1) _ _ h2 (by simp;omega)
    unfold aq.setRow
    rw [al]
    rw [Array.toList_setIfInBounds,show o+(i+1)=o+i+1 by omega,List.take_add_one,List.take_set_of_le (by omega),List.getElem?_set_self (by simp;omega),List.drop_set_of_lt (by omega)] at this
    rw [List.length_cons,show o+i+(vs.length+1)=o+i+1+vs.length by omega]
    simpa using this
  have:=key cs.toList 0 w c hh (by rw [Array.length_toList];omega)
  refine hK _ ((this.perm (h2 _)).perm (by
   rw [hc,Nat.add_zero,←ho,List.take_left,show cs.toList.length=mid.length by simp;omega,←List.length_append,←List.append_assoc,List.drop_left,List.append_assoc]))
theorem aq.xw {n:Nat} {cs:Array Value} {K:World→Prop} [hf:bo b l c t (0,0) put] (h:Hp E w l) (hn:c.size=n) (hcs:cs.size=n) (hv: ∀v∈cs.toList,ay v=true)
  (hK: ∀w',Hp E w' (put (.cells cs t (0,0)))→K w'):aq n ⟨b,0,none⟩ cs w K:=
 aq.xm (pre:= []) (mid:=c.toList) (post:= []) h (by simp) rfl (by simpa using hn) hcs hv (by simpa using hK)
end
end Go.Vc
set_option maxRecDepth 20000
namespace Go.Vc
open Go
theorem bg.CR {r:World→Prop} {k:(World→Prop)→Prop} (Q:World→Prop) (h1: ∀w,Q w→r w) (h2: ∀r',(∀w,Q w→r' w)→k r'):bg r k:=h2 r h1
end Go.Vc
namespace Go.Proofs.YtgglghjnakclmaaGreat
open Go Go.Vc
set_option maxRecDepth 100000
theorem xU.ok (a:Sl) (b:Sl) (R:Bool→World→Prop) w (h:
 aw Pg (convert 26 9 (an a)) su w fun (d:ByteArray) c=>
 aw Pg (convert 26 9 (an b)) su c fun (f:ByteArray) e=>
 R ((d).toList==(f).toList) e):Cl Pg [kB] jT ⟨[(an a),(an b)]⟩ w R:=co Tryz.f61 [] h
theorem xn.ok (a:Sl) (b:Int) (R:Sl→World→Prop) w (h:
 aa (b==0)
 (Nw 5 ⟨[]⟩ w fun d c=>
 R (⟨some ⟨d,0,none⟩,0,0⟩:Sl) c)
 (bg (fun (g:World)=>
 Cl Pg [(az .u64),(az .u64)] iu ⟨[(.int .u64 (u64 (a.len:Int))),(.int .u64 (u64 b))]⟩ g fun (i:Int) (j:Int) h=>
 bg (fun (n:World)=>
 aa ((a.len:Int)==0)
 (Nw 5 ⟨[]⟩ n fun p o=>
 R (⟨some ⟨p,0,none⟩,0,0⟩:Sl) o)
 (bg (fun (r:Int) (s:World)=>
 Ext Pg bW ⟨[(ni (i64 j))]⟩ [kS] s fun (u:Sl) t=>
 bF u 0 (i64 j) (i64 j) 1 fun v=>
 aw Pg (Builtin.copy_ #[26,26] 3 ⟨[(an v),(an a)]⟩) kI t fun (y:Int) x=>
 gn y x fun z a1 (b1:Int) c1=>
 aa (decide (b1<(i64 j)))
 (ah c1 fun d1=>
 bF v b1 (v).len (v).cap 1 fun e1=>
 bF v 0 (if r<b1 then r else b1) (v).cap 1 fun f1=>
 aw Pg (Builtin.copy_ #[26,26] 3 ⟨[(an e1),(an f1)]⟩) kI d1 fun (h1:Int) g1=>
 z (i64 (b1+h1)) g1∧a1 (i64 (b1+h1)) g1<a1 b1 c1)
 (R v c1)) fun q=>
 aa (decide ((i64 j)>8192))
 ((a.len:Int)≠0∧
 aa ((i64 ((i64 (Int.tdiv (8192:Int) (a.len:Int)))*(a.len:Int)))==0)
 (q (a.len:Int) n)
 (q (i64 ((i64 (Int.tdiv (8192:Int) (a.len:Int)))*(a.len:Int))) n))
 (q (i64 j) n))) fun k=>
 aa (decide (i>0))
 (False)
 (aa (decide (j>9223372036854775807))
 (False)
 (k h))) fun e=>
 aa (decide (b<0))
 (False)
 (e w))):Cl Pg [kS] iQ ⟨[(an a),(ni b)]⟩ w R:=co Tryz.f292 [(7,[]),(13,[]),(26,[(8,kI)]),(39,[(10,kI)])] h
end Go.Proofs.YtgglghjnakclmaaGreat
set_option maxRecDepth 20000
namespace Go.Vc
open Go
def Jc:List Nat→List Nat→Bool
 |_,[]=>false
 | [],_::_=>true
 |a::x,b::y=>decide (a<b)||(a==b&&Jc x y)
def strOf (b:List Nat):ByteArray:=strOfNums (b.map fun (x:Nat)=>(x:Int))
theorem ob {P:Program} {src e dst:TypeId} {s:Sl} {b:List Nat} {w:World} {K:ByteArray→World→Prop} (hs:P.underlying src=some (.slice e)) (he:P.underlying e=some (.int .u8)) (hd:P.underlying dst=some .string)
  (hh:aG 1 s (b.map vB) w) (hK:K (strOf b) w):aw P (convert src dst (.slice s.base s.len s.cap)) su w K:=by
 have hl:=hh.1
 simp only [List.length_map,Nat.mul_one] at hl
 have key:(convert src dst (.slice s.base s.len s.cap)).run P w= .ok (.string (strOf b)) w:=by
  cases hb:s.base with
  |none=>
   have:b= []:=by
    cases b with
    |nil=>rfl
    |cons x b=>
     obtain ⟨p,hp,_⟩:=hh.2 0 (by simp)
     rw [hb] at hp;cases hp
   subst this
   rw [run_convert_bytes_nil w src e hs he _ _ dst hd];rfl
  |some p=>
   have hc:(loadCells p s.len).run P w= .ok ((b.map fun (x:Nat)=>(x:Int)).map (Value.int .u8)).toArray w:=by
    have:=tQ (P:=P) (w:=w) (vs:=b.map vB) (p:=p) (fun i hi=>by
     obtain ⟨q,hq,hc⟩:=hh.2 i hi
     rw [hb] at hq
     cases hq
     exact hc)
    rw [List.length_map,hl] at this
    rw [this,List.map_map];rfl
   rw [run_convert_bytes_string w src dst e _ _ _ hs he hd,run_bytesToString w _ _ _ _ hc,foldl_push_bytes]
   unfold strOf strOfNums
   simp [ByteArray.empty,ByteArray.emptyWithCapacity]
   rfl
 unfold aw
 rw [key]
 exact hK
theorem rE (b:List Nat):(strOf b).toList=b.map UInt8.ofNat:=by
 unfold strOf strOfNums
 rw [ByteArray.toList_mk,List.map_map]
 refine List.map_congr_left fun x _=> ?_
 simp
theorem Hh {a b:Nat} (ha:a<256) (hb:b<256) (h:UInt8.ofNat a=UInt8.ofNat b):a=b:=by
 have:=congrArg UInt8.toNat h
 simp only [UInt8.toNat_ofNat'] at this
 omega
theorem rF: ∀{a b:List Nat},(∀x∈a,x<256)→(∀x∈b,x<256)→a.map UInt8.ofNat=b.map UInt8.ofNat→a=b
 | [],[],_,_,_=>rfl
 | [],_::_,_,_,h=>by cases h
 |_::_,[],_,_,h=>by cases h
 |x::a,y::b,ha,hb,h=>by
  simp only [List.map_cons,List.cons.injEq] at h
  rw [Hh (ha x (by simp)) (hb y (by simp)) h.1,rF (fun z hz=>ha z (by simp [hz])) (fun z hz=>hb z (by simp [hz])) h.2]
theorem D6 {a b:List Nat} (ha: ∀x∈a,x<256) (hb: ∀x∈b,x<256):((strOf a).toList==(strOf b).toList)=(a==b):=by
 rw [rE,rE,Bool.eq_iff_iff,beq_iff_eq,beq_iff_eq]
 exact ⟨rF ha hb,fun e=>by rw [e]⟩
section
variable {E w:World} {F:List HP}
end
end Go.Vc
set_option maxRecDepth 20000
namespace Go.Proofs.YtgglghjnakclmaaGreat
open Go Go.Vc
section
variable {E w:World} {F:List HP}
theorem Bo {s1 s2:Sl} {a b:List Nat} {K:Bool→World→Prop} (h1:aG 1 s1 (a.map vB) w) (h2:aG 1 s2 (b.map vB) w) (ha: ∀x∈a,x<256) (hb: ∀x∈b,x<256) (hK:K (a==b) w):
  Cl Tryz.prog [kB] jT ⟨[.slice s1.base s1.len s1.cap,.slice s2.base s2.len s2.cap]⟩ w K:=by
 refine xU.ok _ _ _ _ ?_
 refine ob (e:=5) (by kernel_rfl) (by kernel_rfl) (by kernel_rfl) h1 ?_
 refine ob (e:=5) (by kernel_rfl) (by kernel_rfl) (by kernel_rfl) h2 ?_
 rw [D6 ha hb]
 exact hK
end
end Go.Proofs.YtgglghjnakclmaaGreat
namespace Go.Proofs.YtgglghjnakclmaaGreat
open Go Go.Vc
set_option maxRecDepth 100000
theorem zS.ok (R:(Option Addr)→World→Prop) w (h:
 Cl Pg [(.st [.int .i64])] fy ⟨[]⟩ w fun b a=>
 cd Pg 114 [(0,(.agg ⟨[(ni b.1)]⟩))] fun c=>
 Nw 114 c a fun e d=>
 R (some ⟨e,0,none⟩) d):Cl Pg [kP] ey ⟨[]⟩ w R:=co Tryz.f14 [] h
theorem vf.ok (a:(TT aO)) (b:(TT aO)) (R:Bool→World→Prop) w (h:
 Nw 29 ⟨[(.int .u8 a.1),(ni a.2.1),(ni a.2.2.1),(ni a.2.2.2.1),(.int .u32 a.2.2.2.2.1),(an a.2.2.2.2.2.1),(ni a.2.2.2.2.2.2.1)]⟩ w fun d c=>
 Nw 29 ⟨[(.int .u8 b.1),(ni b.2.1),(ni b.2.2.1),(ni b.2.2.2.1),(.int .u32 b.2.2.2.2.1),(an b.2.2.2.2.2.1),(ni b.2.2.2.2.2.2.1)]⟩ c fun f e=>
 Ld (az .u8) (Addr.add ⟨d,0,none⟩ 0) e fun (g:Int)=>
 Ld (az .u8) (Addr.add ⟨f,0,none⟩ 0) e fun (h:Int)=>
 aa (g==h)
 (Ld kI (Addr.add ⟨d,0,none⟩ 1) e fun (i:Int)=>
 Ld kI (Addr.add ⟨f,0,none⟩ 1) e fun (j:Int)=>
 aa (i==j)
 (Ld (.st [.int .i64,.int .i64,.int .u32]) (Addr.add ⟨d,0,none⟩ 2) e fun k=>
 Ld (.st [.int .i64,.int .i64,.int .u32]) (Addr.add ⟨f,0,none⟩ 2) e fun l=>
 aa (((k.1:Int)==(l.1:Int))&&(((k.2.1:Int)==(l.2.1:Int))&&((k.2.2.1:Int)==(l.2.2.1:Int))))
 (Ld kI (Addr.add ⟨d,0,none⟩ 6) e fun (m:Int)=>
 Ld kI (Addr.add ⟨f,0,none⟩ 6) e fun (n:Int)=>
 aa (m==n)
 (Ld kS (Addr.add ⟨d,0,none⟩ 5) e fun (o:Sl)=>
 Ld kS (Addr.add ⟨f,0,none⟩ 5) e fun (p:Sl)=>
 Cl Pg [kB] jT ⟨[(an o),(an p)]⟩ e fun (r:Bool) q=>
 R r q)
 (R false e))
 (R false e))
 (R false e))
 (R false e)):Cl Pg [kB] cx ⟨[(.agg ⟨[(.int .u8 a.1),(ni a.2.1),(ni a.2.2.1),(ni a.2.2.2.1),(.int .u32 a.2.2.2.2.1),(an a.2.2.2.2.2.1),(ni a.2.2.2.2.2.2.1)]⟩),(.agg ⟨[(.int .u8 b.1),(ni b.2.1),(ni b.2.2.1),(ni b.2.2.2.1),(.int .u32 b.2.2.2.2.1),(an b.2.2.2.2.2.1),(ni b.2.2.2.2.2.2.1)]⟩)]⟩ w R:=co Tryz.f18 [] h
theorem jm.ok (a:(Option Addr)) (R:Int→World→Prop) w (h:
 aa (Option.isNone (a:Option Addr))
 (R 0 w)
 (aN a fun b=>
 Ld kI ((b.add 1).add 3) w fun (c:Int)=>
 R c w)):Cl Pg [kI] ca ⟨[(.pointer a)]⟩ w R:=co Tryz.f21 [] h
theorem ux.ok (R:(TT [.int .i64])→World→Prop) w (h:
 Nw 95 ⟨[(ni 0)]⟩ w fun b a=>
 ae ⟨b,0,none⟩ [(ni 1)] 0 a fun c=>
 Ld (.st [.int .i64]) ⟨b,0,none⟩ c fun d=>
 R d c):Cl Pg [(.st [.int .i64])] fy ⟨[]⟩ w R:=co Tryz.f56 [] h
theorem nT.ok (a:(Option Addr)) (b:(Option Addr)) (R:(TT aO)→Bool→World→Prop) w (h:
 Nw 29 ⟨[(.int .u8 0),(ni 0),(ni 0),(ni 0),(.int .u32 0),(.slice none 0 0),(ni 0)]⟩ w fun d c=>
 Cl Pg [(az .u32),(.st aO),kB] cb ⟨[(.pointer a),(.pointer b),(ni 8)]⟩ c fun (f:Int) g (h:Bool) e=>
 Nw 29 ⟨[(.int .u8 0),(ni 0),(ni 0),(ni 0),(.int .u32 0),(.slice none 0 0),(ni 0)]⟩ e fun j i=>
 ae ⟨j,0,none⟩ [(.int .u8 g.1),(ni g.2.1),(ni g.2.2.1),(ni g.2.2.2.1),(.int .u32 g.2.2.2.2.1),(an g.2.2.2.2.2.1),(ni g.2.2.2.2.2.2.1)] 0 i fun k=>
 aa (!h)
 (Ld (.st aO) ⟨j,0,none⟩ k fun l=>
 ae ⟨d,0,none⟩ [(.int .u8 l.1),(ni l.2.1),(ni l.2.2.1),(ni l.2.2.2.1),(.int .u32 l.2.2.2.2.1),(an l.2.2.2.2.2.1),(ni l.2.2.2.2.2.2.1)] 0 k fun m=>
 Ld (.st aO) ⟨d,0,none⟩ m fun n=>
 R n true m)
 (aN a fun o=>
 Ld (.st ea) (o.add 1) k fun p=>
 Cl Pg [(.st ea),kB,kI] jE ⟨[(.agg ⟨[(ni p.1),(ni p.2.1),(ni p.2.2.1),(ni p.2.2.2.1)]⟩),(.int .u8 (u8 f))]⟩ k fun r (s:Bool) (t:Int) q=>
 Nw 100 ⟨[(ni 0),(ni 0),(ni 0),(ni 0)]⟩ q fun v u=>
 ae ⟨v,0,none⟩ [(ni r.1),(ni r.2.1),(ni r.2.2.1),(ni r.2.2.2.1)] 0 u fun x=>
 aa (t !=0)
 (Cl Pg [(.st aO),kB] aZ ⟨[(.pointer a),(ni t)]⟩ x fun z (a1:Bool) y=>
 ae ⟨d,0,none⟩ [(.int .u8 z.1),(ni z.2.1),(ni z.2.2.1),(ni z.2.2.2.1),(.int .u32 z.2.2.2.2.1),(an z.2.2.2.2.2.1),(ni z.2.2.2.2.2.2.1)] 0 y fun b1=>
 Ld (.st aO) ⟨d,0,none⟩ b1 fun c1=>
 R c1 a1 b1)
 (Ld (.st ea) ⟨v,0,none⟩ x fun d1=>
 aN a fun e1=>
 ae (e1.add 1) [(ni d1.1),(ni d1.2.1),(ni d1.2.2.1),(ni d1.2.2.2.1)] 0 x fun f1=>
 aa s
 (Cl Pg [(.st [.int .i64])] dQ ⟨[]⟩ f1 fun h1 g1=>
 aN a fun i1=>
 ae (i1.add 0) [(ni h1.1)] 0 g1 fun j1=>
 Ld kI (Addr.add ⟨v,0,none⟩ 3) j1 fun (k1:Int)=>
 ae ⟨d,0,none⟩ [(.int .u8 2),(ni k1),(ni 0),(ni 0),(.int .u32 0),(.slice none 0 0),(ni 0)] 0 j1 fun l1=>
 Ld (.st aO) ⟨d,0,none⟩ l1 fun m1=>
 R m1 s l1)
 (Ld kI (Addr.add ⟨v,0,none⟩ 3) f1 fun (n1:Int)=>
 ae ⟨d,0,none⟩ [(.int .u8 2),(ni n1),(ni 0),(ni 0),(.int .u32 0),(.slice none 0 0),(ni 0)] 0 f1 fun o1=>
 Ld (.st aO) ⟨d,0,none⟩ o1 fun p1=>
 R p1 s o1)))):Cl Pg [(.st aO),kB] eg ⟨[(.pointer a),(.pointer b)]⟩ w R:=co Tryz.f62 [] h
theorem uk.ok (R:(TT [.int .i64])→World→Prop) w (h:
 Nw 95 ⟨[(ni 0)]⟩ w fun b a=>
 ae ⟨b,0,none⟩ [(ni 2)] 0 a fun c=>
 Ld (.st [.int .i64]) ⟨b,0,none⟩ c fun d=>
 R d c):Cl Pg [(.st [.int .i64])] dQ ⟨[]⟩ w R:=co Tryz.f63 [] h
theorem nX.ok (a:(Option Addr)) (b:(Option Addr)) (R:(TT aO)→Bool→World→Prop) w (h:
 Nw 29 ⟨[(.int .u8 0),(ni 0),(ni 0),(ni 0),(.int .u32 0),(.slice none 0 0),(ni 0)]⟩ w fun d c=>
 Cl Pg [(az .u32),(.st aO),kB] cb ⟨[(.pointer a),(.pointer b),(ni 8)]⟩ c fun (f:Int) g (h:Bool) e=>
 Nw 29 ⟨[(.int .u8 0),(ni 0),(ni 0),(ni 0),(.int .u32 0),(.slice none 0 0),(ni 0)]⟩ e fun j i=>
 ae ⟨j,0,none⟩ [(.int .u8 g.1),(ni g.2.1),(ni g.2.2.1),(ni g.2.2.2.1),(.int .u32 g.2.2.2.2.1),(an g.2.2.2.2.2.1),(ni g.2.2.2.2.2.2.1)] 0 i fun k=>
 aa (!h)
 (Ld (.st aO) ⟨j,0,none⟩ k fun l=>
 ae ⟨d,0,none⟩ [(.int .u8 l.1),(ni l.2.1),(ni l.2.2.1),(ni l.2.2.2.1),(.int .u32 l.2.2.2.2.1),(an l.2.2.2.2.2.1),(ni l.2.2.2.2.2.2.1)] 0 k fun m=>
 Ld (.st aO) ⟨d,0,none⟩ m fun n=>
 R n true m)
 (fC k fun o p=>
 aN a fun q=>
 ad kI ((q.add 1).add 3) o fun (r:Int)=>
 aN a fun s=>
 ad (.st bG) (s.add 5) o fun t=>
 (Cl Pg [(.st bG),kB,kI] cY ⟨[(ni r),(.agg ⟨[(ni t.1),(ni t.2.1),(ni t.2.2.1),(ni t.2.2.2.1),(ni t.2.2.2.2.1),(.int .u32 t.2.2.2.2.2.1),(ni t.2.2.2.2.2.2.1)]⟩),(.int .u8 (u8 f))]⟩ p fun v (x:Bool) (y:Int) u=>
 o u∧
 Nw 102 ⟨[(ni 0),(ni 0),(ni 0),(ni 0),(ni 0),(.int .u32 0),(ni 0)]⟩ u fun a1 z=>
 o z∧
 ae ⟨a1,0,none⟩ [(ni v.1),(ni v.2.1),(ni v.2.2.1),(ni v.2.2.2.1),(ni v.2.2.2.2.1),(.int .u32 v.2.2.2.2.2.1),(ni v.2.2.2.2.2.2.1)] 0 z fun b1=>
 o b1∧
 aa (y !=0)
 (Cl Pg [(.st aO),kB] aZ ⟨[(.pointer a),(ni y)]⟩ b1 fun d1 (e1:Bool) c1=>
 ae ⟨d,0,none⟩ [(.int .u8 d1.1),(ni d1.2.1),(ni d1.2.2.1),(ni d1.2.2.2.1),(.int .u32 d1.2.2.2.2.1),(an d1.2.2.2.2.2.1),(ni d1.2.2.2.2.2.2.1)] 0 c1 fun f1=>
 Ld (.st aO) ⟨d,0,none⟩ f1 fun g1=>
 R g1 e1 f1)
 (Ld (.st bG) ⟨a1,0,none⟩ b1 fun h1=>
 aN a fun i1=>
 ae (i1.add 5) [(ni h1.1),(ni h1.2.1),(ni h1.2.2.1),(ni h1.2.2.2.1),(ni h1.2.2.2.2.1),(.int .u32 h1.2.2.2.2.2.1),(ni h1.2.2.2.2.2.2.1)] 0 b1 fun j1=>
 aa (!x)
 (Ld (.st aO) ⟨j,0,none⟩ j1 fun k1=>
 ae ⟨d,0,none⟩ [(.int .u8 k1.1),(ni k1.2.1),(ni k1.2.2.1),(ni k1.2.2.2.1),(.int .u32 k1.2.2.2.2.1),(an k1.2.2.2.2.2.1),(ni k1.2.2.2.2.2.2.1)] 0 j1 fun l1=>
 Ld (.st aO) ⟨d,0,none⟩ l1 fun m1=>
 R m1 false l1)
 (Ld kI (Addr.add ⟨a1,0,none⟩ 0) j1 fun (n1:Int)=>
 aa (n1==6)
 (Cl Pg [(.st [.int .i64])] dJ ⟨[]⟩ j1 fun p1 o1=>
 aN a fun q1=>
 ae (q1.add 0) [(ni p1.1)] 0 o1 fun r1=>
 Ld (.st [.int .i64,.int .i64,.int .u32]) (Addr.add ⟨a1,0,none⟩ 3) r1 fun s1=>
 ae ⟨d,0,none⟩ [(.int .u8 6),(ni 0),(ni s1.1),(ni s1.2.1),(.int .u32 s1.2.2.1),(.slice none 0 0),(ni 0)] 0 r1 fun t1=>
 Ld (.st aO) ⟨d,0,none⟩ t1 fun u1=>
 R u1 true t1)
 (Cl Pg [(.st [.int .i64])] di ⟨[]⟩ j1 fun x1 v1=>
 cd Pg 106 [] fun y1=>
 aN a fun z1=>
 ae (z1.add 0) [(ni x1.1)] 0 v1 fun a2=>
 aN a fun b2=>
 aq 262 (b2.add 12) y1 a2 fun c2=>
 Ld (.st [.int .i64,.int .i64,.int .u32]) (Addr.add ⟨a1,0,none⟩ 3) c2 fun d2=>
 ae ⟨d,0,none⟩ [(.int .u8 3),(ni 0),(ni d2.1),(ni d2.2.1),(.int .u32 d2.2.2.1),(.slice none 0 0),(ni 0)] 0 c2 fun e2=>
 Ld (.st aO) ⟨d,0,none⟩ e2 fun f2=>
 R f2 true e2))))∧
 (Nw 102 ⟨[(ni 0),(ni 0),(ni 0),(ni 0),(ni 0),(.int .u32 0),(ni 0)]⟩ p fun h2 g2=>
 o g2∧
 Cl Pg [(.st bG),kB,kI] cY ⟨[(ni r),(.agg ⟨[(ni t.1),(ni t.2.1),(ni t.2.2.1),(ni t.2.2.2.1),(ni t.2.2.2.2.1),(.int .u32 t.2.2.2.2.2.1),(ni t.2.2.2.2.2.2.1)]⟩),(.int .u8 (u8 f))]⟩ g2 fun j2 (k2:Bool) (l2:Int) i2=>
 o i2∧
 ae ⟨h2,0,none⟩ [(ni j2.1),(ni j2.2.1),(ni j2.2.2.1),(ni j2.2.2.2.1),(ni j2.2.2.2.2.1),(.int .u32 j2.2.2.2.2.2.1),(ni j2.2.2.2.2.2.2.1)] 0 i2 fun m2=>
 o m2∧
 aa (l2 !=0)
 (Cl Pg [(.st aO),kB] aZ ⟨[(.pointer a),(ni l2)]⟩ m2 fun o2 (p2:Bool) n2=>
 ae ⟨d,0,none⟩ [(.int .u8 o2.1),(ni o2.2.1),(ni o2.2.2.1),(ni o2.2.2.2.1),(.int .u32 o2.2.2.2.2.1),(an o2.2.2.2.2.2.1),(ni o2.2.2.2.2.2.2.1)] 0 n2 fun q2=>
 Ld (.st aO) ⟨d,0,none⟩ q2 fun r2=>
 R r2 p2 q2)
 (Ld (.st bG) ⟨h2,0,none⟩ m2 fun s2=>
 aN a fun t2=>
 ae (t2.add 5) [(ni s2.1),(ni s2.2.1),(ni s2.2.2.1),(ni s2.2.2.2.1),(ni s2.2.2.2.2.1),(.int .u32 s2.2.2.2.2.2.1),(ni s2.2.2.2.2.2.2.1)] 0 m2 fun u2=>
 aa (!k2)
 (Ld (.st aO) ⟨j,0,none⟩ u2 fun v2=>
 ae ⟨d,0,none⟩ [(.int .u8 v2.1),(ni v2.2.1),(ni v2.2.2.1),(ni v2.2.2.2.1),(.int .u32 v2.2.2.2.2.1),(an v2.2.2.2.2.2.1),(ni v2.2.2.2.2.2.2.1)] 0 u2 fun x2=>
 Ld (.st aO) ⟨d,0,none⟩ x2 fun y2=>
 R y2 false x2)
 (Ld kI (Addr.add ⟨h2,0,none⟩ 0) u2 fun (z2:Int)=>
 aa (z2==6)
 (Cl Pg [(.st [.int .i64])] dJ ⟨[]⟩ u2 fun b3 a3=>
 aN a fun c3=>
 ae (c3.add 0) [(ni b3.1)] 0 a3 fun d3=>
 Ld (.st [.int .i64,.int .i64,.int .u32]) (Addr.add ⟨h2,0,none⟩ 3) d3 fun e3=>
 ae ⟨d,0,none⟩ [(.int .u8 6),(ni 0),(ni e3.1),(ni e3.2.1),(.int .u32 e3.2.2.1),(.slice none 0 0),(ni 0)] 0 d3 fun f3=>
 Ld (.st aO) ⟨d,0,none⟩ f3 fun g3=>
 R g3 true f3)
 (Cl Pg [(.st [.int .i64])] di ⟨[]⟩ u2 fun i3 h3=>
 cd Pg 106 [] fun j3=>
 aN a fun k3=>
 ae (k3.add 0) [(ni i3.1)] 0 h3 fun l3=>
 aN a fun m3=>
 aq 262 (m3.add 12) j3 l3 fun n3=>
 Ld (.st [.int .i64,.int .i64,.int .u32]) (Addr.add ⟨h2,0,none⟩ 3) n3 fun o3=>
 ae ⟨d,0,none⟩ [(.int .u8 3),(ni 0),(ni o3.1),(ni o3.2.1),(.int .u32 o3.2.2.1),(.slice none 0 0),(ni 0)] 0 n3 fun p3=>
 Ld (.st aO) ⟨d,0,none⟩ p3 fun q3=>
 R q3 true p3)))))):Cl Pg [(.st aO),kB] ek ⟨[(.pointer a),(.pointer b)]⟩ w R:=co Tryz.f64 [] h
theorem sM.ok (R:(TT [.int .i64])→World→Prop) w (h:
 Nw 95 ⟨[(ni 0)]⟩ w fun b a=>
 ae ⟨b,0,none⟩ [(ni 3)] 0 a fun c=>
 Ld (.st [.int .i64]) ⟨b,0,none⟩ c fun d=>
 R d c):Cl Pg [(.st [.int .i64])] di ⟨[]⟩ w R:=co Tryz.f65 [] h
theorem nc.ok (a:(Option Addr)) (b:(Option Addr)) (R:(TT aO)→Bool→World→Prop) w (h:
 Nw 29 ⟨[(.int .u8 0),(ni 0),(ni 0),(ni 0),(.int .u32 0),(.slice none 0 0),(ni 0)]⟩ w fun d c=>
 Cl Pg [(az .u32),(.st aO),kB] cb ⟨[(.pointer a),(.pointer b),(ni 1)]⟩ c fun (f:Int) g (h:Bool) e=>
 Nw 29 ⟨[(.int .u8 0),(ni 0),(ni 0),(ni 0),(.int .u32 0),(.slice none 0 0),(ni 0)]⟩ e fun j i=>
 ae ⟨j,0,none⟩ [(.int .u8 g.1),(ni g.2.1),(ni g.2.2.1),(ni g.2.2.2.1),(.int .u32 g.2.2.2.2.1),(an g.2.2.2.2.2.1),(ni g.2.2.2.2.2.2.1)] 0 i fun k=>
 aa (!h)
 (Ld (.st aO) ⟨j,0,none⟩ k fun l=>
 ae ⟨d,0,none⟩ [(.int .u8 l.1),(ni l.2.1),(ni l.2.2.1),(ni l.2.2.2.1),(.int .u32 l.2.2.2.2.1),(an l.2.2.2.2.2.1),(ni l.2.2.2.2.2.2.1)] 0 k fun m=>
 Ld (.st aO) ⟨d,0,none⟩ m fun n=>
 R n true m)
 (aN a fun o=>
 Ld (.arr 262) (o.add 12) k fun p=>
 Cl Pg [(.arr 262),kB,kI] fE ⟨[(.agg p),(ni (i64 f))]⟩ k fun r (s:Bool) (t:Int) q=>
 Nw 106 ⟨List.replicate 258 (.int .u8 0)++ [(ni 0),(ni 0),(ni 0),(ni 0)]⟩ q fun v u=>
 aq 262 ⟨v,0,none⟩ r u fun x=>
 aa (t !=0)
 (Cl Pg [(.st aO),kB] aZ ⟨[(.pointer a),(ni t)]⟩ x fun z (a1:Bool) y=>
 ae ⟨d,0,none⟩ [(.int .u8 z.1),(ni z.2.1),(ni z.2.2.1),(ni z.2.2.2.1),(.int .u32 z.2.2.2.2.1),(an z.2.2.2.2.2.1),(ni z.2.2.2.2.2.2.1)] 0 y fun b1=>
 Ld (.st aO) ⟨d,0,none⟩ b1 fun c1=>
 R c1 a1 b1)
 (Ld (.arr 262) ⟨v,0,none⟩ x fun d1=>
 aN a fun e1=>
 aq 262 (e1.add 12) d1 x fun f1=>
 aa s
 (Ld (.arr 258) (Addr.add ⟨v,0,none⟩ 0) f1 fun g1=>
 Cl Pg [(.arr 260),kI] iB ⟨[(.agg g1)]⟩ f1 fun i1 (j1:Int) h1=>
 aN a fun k1=>
 aq 260 (k1.add 274) i1 h1 fun l1=>
 aN a fun m1=>
 Ld kI (((m1.add 5).add 3).add 0) l1 fun (n1:Int)=>
 Cl Pg [(.arr 260)] kR ⟨[(ni n1)]⟩ l1 fun p1 o1=>
 aN a fun q1=>
 aq 260 (q1.add 534) p1 o1 fun r1=>
 Cl Pg [(.st [.int .i64])] dR ⟨[]⟩ r1 fun t1 s1=>
 aN a fun u1=>
 ae (u1.add 0) [(ni t1.1)] 0 s1 fun v1=>
 Ld (.st aO) ⟨j,0,none⟩ v1 fun x1=>
 ae ⟨d,0,none⟩ [(.int .u8 x1.1),(ni x1.2.1),(ni x1.2.2.1),(ni x1.2.2.2.1),(.int .u32 x1.2.2.2.2.1),(an x1.2.2.2.2.2.1),(ni x1.2.2.2.2.2.2.1)] 0 v1 fun y1=>
 Ld (.st aO) ⟨d,0,none⟩ y1 fun z1=>
 R z1 false y1)
 (Ld (.st aO) ⟨j,0,none⟩ f1 fun a2=>
 ae ⟨d,0,none⟩ [(.int .u8 a2.1),(ni a2.2.1),(ni a2.2.2.1),(ni a2.2.2.2.1),(.int .u32 a2.2.2.2.2.1),(an a2.2.2.2.2.2.1),(ni a2.2.2.2.2.2.2.1)] 0 f1 fun b2=>
 Ld (.st aO) ⟨d,0,none⟩ b2 fun c2=>
 R c2 false b2)))):Cl Pg [(.st aO),kB] dS ⟨[(.pointer a),(.pointer b)]⟩ w R:=co Tryz.f66 [] h
theorem qz.ok (R:(TT [.int .i64])→World→Prop) w (h:
 Nw 95 ⟨[(ni 0)]⟩ w fun b a=>
 ae ⟨b,0,none⟩ [(ni 4)] 0 a fun c=>
 Ld (.st [.int .i64]) ⟨b,0,none⟩ c fun d=>
 R d c):Cl Pg [(.st [.int .i64])] dR ⟨[]⟩ w R:=co Tryz.f67 [] h
theorem mL.ok (a:(Option Addr)) (b:(Option Addr)) (R:(TT aO)→Bool→World→Prop) w (h:
 Nw 29 ⟨[(.int .u8 0),(ni 0),(ni 0),(ni 0),(.int .u32 0),(.slice none 0 0),(ni 0)]⟩ w fun d c=>
 Cl Pg [(az .u32),(.st aO),kB] cb ⟨[(.pointer a),(.pointer b),(ni 1)]⟩ c fun (f:Int) g (h:Bool) e=>
 Nw 29 ⟨[(.int .u8 0),(ni 0),(ni 0),(ni 0),(.int .u32 0),(.slice none 0 0),(ni 0)]⟩ e fun j i=>
 ae ⟨j,0,none⟩ [(.int .u8 g.1),(ni g.2.1),(ni g.2.2.1),(ni g.2.2.2.1),(.int .u32 g.2.2.2.2.1),(an g.2.2.2.2.2.1),(ni g.2.2.2.2.2.2.1)] 0 i fun k=>
 aa (!h)
 (Ld (.st aO) ⟨j,0,none⟩ k fun l=>
 ae ⟨d,0,none⟩ [(.int .u8 l.1),(ni l.2.1),(ni l.2.2.1),(ni l.2.2.2.1),(.int .u32 l.2.2.2.2.1),(an l.2.2.2.2.2.1),(ni l.2.2.2.2.2.2.1)] 0 k fun m=>
 Ld (.st aO) ⟨d,0,none⟩ m fun n=>
 R n true m)
 (aN a fun o=>
 Ld (.arr 260) (o.add 274) k fun p=>
 Cl Pg [(.arr 260),kI,kB] gS ⟨[(.agg p),(ni (i64 f))]⟩ k fun r (s:Int) (t:Bool) q=>
 Nw 108 ⟨List.replicate 258 (.int .u8 0)++ [(ni 0),(ni 0)]⟩ q fun v u=>
 aq 260 ⟨v,0,none⟩ r u fun x=>
 Ld (.arr 260) ⟨v,0,none⟩ x fun y=>
 aN a fun z=>
 aq 260 (z.add 274) y x fun a1=>
 aa (!t)
 (Ld (.st aO) ⟨j,0,none⟩ a1 fun b1=>
 ae ⟨d,0,none⟩ [(.int .u8 b1.1),(ni b1.2.1),(ni b1.2.2.1),(ni b1.2.2.2.1),(.int .u32 b1.2.2.2.2.1),(an b1.2.2.2.2.2.1),(ni b1.2.2.2.2.2.2.1)] 0 a1 fun c1=>
 Ld (.st aO) ⟨d,0,none⟩ c1 fun d1=>
 R d1 false c1)
 (aN a fun e1=>
 Ld (.arr 260) (e1.add 534) a1 fun f1=>
 Cl Pg [(.arr 260),kS,kB,kI] jG ⟨[(.agg f1),(ni s)]⟩ a1 fun h1 (i1:Sl) (j1:Bool) (k1:Int) g1=>
 Nw 112 ⟨List.replicate 256 (.int .u8 0)++ [(ni 0),(ni 0),(ni 0),(.bool false)]⟩ g1 fun m1 l1=>
 aq 260 ⟨m1,0,none⟩ h1 l1 fun n1=>
 aa (k1 !=0)
 (Cl Pg [(.st aO),kB] aZ ⟨[(.pointer a),(ni k1)]⟩ n1 fun p1 (q1:Bool) o1=>
 ae ⟨d,0,none⟩ [(.int .u8 p1.1),(ni p1.2.1),(ni p1.2.2.1),(ni p1.2.2.2.1),(.int .u32 p1.2.2.2.2.1),(an p1.2.2.2.2.2.1),(ni p1.2.2.2.2.2.2.1)] 0 o1 fun r1=>
 Ld (.st aO) ⟨d,0,none⟩ r1 fun s1=>
 R s1 q1 r1)
 (Ld (.arr 260) ⟨m1,0,none⟩ n1 fun t1=>
 aN a fun u1=>
 aq 260 (u1.add 534) t1 n1 fun v1=>
 aa j1
 (Cl Pg [(.st [.int .i64])] dM ⟨[]⟩ v1 fun y1 x1=>
 aN a fun z1=>
 ae (z1.add 0) [(ni y1.1)] 0 x1 fun a2=>
 ae ⟨d,0,none⟩ [(.int .u8 4),(ni 0),(ni 0),(ni 0),(.int .u32 0),(an i1),(ni 0)] 0 a2 fun b2=>
 Ld (.st aO) ⟨d,0,none⟩ b2 fun c2=>
 R c2 (decide ((i1.len:Int)>0)) b2)
 (ae ⟨d,0,none⟩ [(.int .u8 4),(ni 0),(ni 0),(ni 0),(.int .u32 0),(an i1),(ni 0)] 0 v1 fun d2=>
 Ld (.st aO) ⟨d,0,none⟩ d2 fun e2=>
 R e2 (decide ((i1.len:Int)>0)) d2))))):Cl Pg [(.st aO),kB] dx ⟨[(.pointer a),(.pointer b)]⟩ w R:=co Tryz.f68 [] h
theorem qj.ok (R:(TT [.int .i64])→World→Prop) w (h:
 Nw 95 ⟨[(ni 0)]⟩ w fun b a=>
 ae ⟨b,0,none⟩ [(ni 5)] 0 a fun c=>
 Ld (.st [.int .i64]) ⟨b,0,none⟩ c fun d=>
 R d c):Cl Pg [(.st [.int .i64])] dM ⟨[]⟩ w R:=co Tryz.f69 [] h
theorem mq.ok (a:(Option Addr)) (b:(Option Addr)) (R:(TT aO)→Bool→World→Prop) w (h:
 Nw 29 ⟨[(.int .u8 0),(ni 0),(ni 0),(ni 0),(.int .u32 0),(.slice none 0 0),(ni 0)]⟩ w fun d c=>
 Cl Pg [(az .u32),kI] dj ⟨[(.pointer b)]⟩ c fun (f:Int) (g:Int) e=>
 aa (f !=0)
 (Cl Pg [(.st aO),kB] aZ ⟨[(.pointer a),(ni 160)]⟩ e fun i (j:Bool) h=>
 ae ⟨d,0,none⟩ [(.int .u8 i.1),(ni i.2.1),(ni i.2.2.1),(ni i.2.2.2.1),(.int .u32 i.2.2.2.2.1),(an i.2.2.2.2.2.1),(ni i.2.2.2.2.2.2.1)] 0 h fun k=>
 Ld (.st aO) ⟨d,0,none⟩ k fun l=>
 R l j k)
 (Cl Pg [(.st [.int .i64])] dQ ⟨[]⟩ e fun n m=>
 aN a fun o=>
 ae (o.add 0) [(ni n.1)] 0 m fun p=>
 aN a fun q=>
 ae (q.add 5) [(ni 0),(ni 0),(ni 0),(ni 0),(ni 0),(.int .u32 0),(ni 0)] 0 p fun r=>
 ae ⟨d,0,none⟩ [(.int .u8 5),(ni 0),(ni 0),(ni 0),(.int .u32 0),(.slice none 0 0),(ni 0)] 0 r fun s=>
 Ld (.st aO) ⟨d,0,none⟩ s fun t=>
 R t true s)):Cl Pg [(.st aO),kB] dy ⟨[(.pointer a),(.pointer b)]⟩ w R:=co Tryz.f70 [] h
theorem uu.ok (R:(TT [.int .i64])→World→Prop) w (h:
 Nw 95 ⟨[(ni 0)]⟩ w fun b a=>
 ae ⟨b,0,none⟩ [(ni 6)] 0 a fun c=>
 Ld (.st [.int .i64]) ⟨b,0,none⟩ c fun d=>
 R d c):Cl Pg [(.st [.int .i64])] dJ ⟨[]⟩ w R:=co Tryz.f71 [] h
theorem nZ.ok (a:(Option Addr)) (b:(Option Addr)) (R:(TT aO)→Bool→World→Prop) w (h:
 Nw 29 ⟨[(.int .u8 0),(ni 0),(ni 0),(ni 0),(.int .u32 0),(.slice none 0 0),(ni 0)]⟩ w fun d c=>
 Cl Pg [kI] bP ⟨[(.pointer b)]⟩ c fun (f:Int) e=>
 aa (decide (f>0))
 (Cl Pg [(.st aO),kB] aZ ⟨[(.pointer a),(ni 261)]⟩ e fun h (i:Bool) g=>
 ae ⟨d,0,none⟩ [(.int .u8 h.1),(ni h.2.1),(ni h.2.2.1),(ni h.2.2.2.1),(.int .u32 h.2.2.2.2.1),(an h.2.2.2.2.2.1),(ni h.2.2.2.2.2.2.1)] 0 g fun j=>
 Ld (.st aO) ⟨d,0,none⟩ j fun k=>
 R k i j)
 (Cl Pg [kB] cB ⟨[(.pointer b)]⟩ e fun (m:Bool) l=>
 aa m
 (Cl Pg [(.st [.int .i64])] eU ⟨[]⟩ l fun o n=>
 aN a fun p=>
 ae (p.add 0) [(ni o.1)] 0 n fun q=>
 ae ⟨d,0,none⟩ [(.int .u8 7),(ni 0),(ni 0),(ni 0),(.int .u32 0),(.slice none 0 0),(ni 0)] 0 q fun r=>
 Ld (.st aO) ⟨d,0,none⟩ r fun s=>
 R s true r)
 (ae ⟨d,0,none⟩ [(.int .u8 1),(ni 0),(ni 0),(ni 0),(.int .u32 0),(.slice none 0 0),(ni 0)] 0 l fun t=>
 Ld (.st aO) ⟨d,0,none⟩ t fun u=>
 R u true t))):Cl Pg [(.st aO),kB] ep ⟨[(.pointer a),(.pointer b)]⟩ w R:=co Tryz.f72 [] h
theorem xF.ok (R:(TT [.int .i64])→World→Prop) w (h:
 Nw 95 ⟨[(ni 0)]⟩ w fun b a=>
 ae ⟨b,0,none⟩ [(ni 7)] 0 a fun c=>
 Ld (.st [.int .i64]) ⟨b,0,none⟩ c fun d=>
 R d c):Cl Pg [(.st [.int .i64])] eU ⟨[]⟩ w R:=co Tryz.f73 [] h
theorem oV.ok (a:(Option Addr)) (b:(Option Addr)) (R:(TT aO)→Bool→World→Prop) w (h:
 Nw 29 ⟨[(.int .u8 0),(ni 0),(ni 0),(ni 0),(.int .u32 0),(.slice none 0 0),(ni 0)]⟩ w fun d c=>
 ae ⟨d,0,none⟩ [(.int .u8 7),(ni 0),(ni 0),(ni 0),(.int .u32 0),(.slice none 0 0),(ni 0)] 0 c fun e=>
 Ld (.st aO) ⟨d,0,none⟩ e fun f=>
 R f true e):Cl Pg [(.st aO),kB] eL ⟨[(.pointer a),(.pointer b)]⟩ w R:=co Tryz.f74 [] h
theorem AK.ok (R:(TT [.int .i64])→World→Prop) w (h:
 Nw 95 ⟨[(ni 0)]⟩ w fun b a=>
 ae ⟨b,0,none⟩ [(ni 8)] 0 a fun c=>
 Ld (.st [.int .i64]) ⟨b,0,none⟩ c fun d=>
 R d c):Cl Pg [(.st [.int .i64])] fL ⟨[]⟩ w R:=co Tryz.f75 [] h
theorem nY.ok (a:(Option Addr)) (b:(Option Addr)) (R:(TT aO)→Bool→World→Prop) w (h:
 Nw 29 ⟨[(.int .u8 0),(ni 0),(ni 0),(ni 0),(.int .u32 0),(.slice none 0 0),(ni 0)]⟩ w fun d c=>
 aN a fun e=>
 Ld kI (e.add 794) c fun (f:Int)=>
 ae ⟨d,0,none⟩ [(.int .u8 8),(ni 0),(ni 0),(ni 0),(.int .u32 0),(.slice none 0 0),(ni f)] 0 c fun g=>
 Ld (.st aO) ⟨d,0,none⟩ g fun h=>
 R h true g):Cl Pg [(.st aO),kB] eu ⟨[(.pointer a),(.pointer b)]⟩ w R:=co Tryz.f76 [] h
theorem ot.ok (a:(Option Addr)) (b:(Option Addr)) (c:Int) (R:Int→(TT aO)→Bool→World→Prop) w (h:
 Nw 29 ⟨[(.int .u8 0),(ni 0),(ni 0),(ni 0),(.int .u32 0),(.slice none 0 0),(ni 0)]⟩ w fun e d=>
 Cl Pg [(az .u32),kB] cD ⟨[(.pointer b),(ni c)]⟩ d fun (g:Int) (h:Bool) f=>
 aa h
 (ah f fun i=>
 Ld (.st aO) ⟨e,0,none⟩ i fun j=>
 ae ⟨e,0,none⟩ [(.int .u8 j.1),(ni j.2.1),(ni j.2.2.1),(ni j.2.2.2.1),(.int .u32 j.2.2.2.2.1),(an j.2.2.2.2.2.1),(ni j.2.2.2.2.2.2.1)] 0 i fun k=>
 Ld (.st aO) ⟨e,0,none⟩ k fun l=>
 R g l true k)
 (Cl Pg [kB] cB ⟨[(.pointer b)]⟩ f fun (n:Bool) m=>
 aa n
 (Cl Pg [(.st aO),kB] aZ ⟨[(.pointer a),(ni 50)]⟩ m fun p (q:Bool) o=>
 ae ⟨e,0,none⟩ [(.int .u8 p.1),(ni p.2.1),(ni p.2.2.1),(ni p.2.2.2.1),(.int .u32 p.2.2.2.2.1),(an p.2.2.2.2.2.1),(ni p.2.2.2.2.2.2.1)] 0 o fun r=>
 ah r fun s=>
 Ld (.st aO) ⟨e,0,none⟩ s fun t=>
 ae ⟨e,0,none⟩ [(.int .u8 t.1),(ni t.2.1),(ni t.2.2.1),(ni t.2.2.2.1),(.int .u32 t.2.2.2.2.1),(an t.2.2.2.2.2.1),(ni t.2.2.2.2.2.2.1)] 0 s fun u=>
 Ld (.st aO) ⟨e,0,none⟩ u fun v=>
 R 0 v false u)
 (ae ⟨e,0,none⟩ [(.int .u8 1),(ni 0),(ni 0),(ni 0),(.int .u32 0),(.slice none 0 0),(ni 0)] 0 m fun x=>
 Ld (.st aO) ⟨e,0,none⟩ x fun y=>
 R 0 y false x))):Cl Pg [(az .u32),(.st aO),kB] cb ⟨[(.pointer a),(.pointer b),(ni c)]⟩ w R:=co Tryz.f113 [] h
theorem nU.ok (a:(Option Addr)) (b:Int) (R:(TT aO)→Bool→World→Prop) w (h:
 Nw 29 ⟨[(.int .u8 0),(ni 0),(ni 0),(ni 0),(.int .u32 0),(.slice none 0 0),(ni 0)]⟩ w fun d c=>
 Cl Pg [(.st [.int .i64])] fL ⟨[]⟩ c fun f e=>
 aN a fun g=>
 ae (g.add 0) [(ni f.1)] 0 e fun h=>
 aN a fun i=>
 St (i.add 794) (ni b) h fun j=>
 ae ⟨d,0,none⟩ [(.int .u8 8),(ni 0),(ni 0),(ni 0),(.int .u32 0),(.slice none 0 0),(ni b)] 0 j fun k=>
 Ld (.st aO) ⟨d,0,none⟩ k fun l=>
 R l true k):Cl Pg [(.st aO),kB] aZ ⟨[(.pointer a),(ni b)]⟩ w R:=co Tryz.f115 [] h
end Go.Proofs.YtgglghjnakclmaaGreat
namespace Go.Proofs.YtgglghjnakclmaaGreat
open Go Go.Vc
set_option maxRecDepth 100000
theorem uz.ok (R:(Option Addr)→World→Prop) w (h:
 Nw 93 ⟨[(.slice none 0 0),(ni 0),(ni 0),(.bool false)]⟩ w fun b a=>
 R (some ⟨b,0,none⟩) a):Cl Pg [kP] dO ⟨[]⟩ w R:=co Tryz.f13 [] h
theorem mF.ok (a:(Option Addr)) (b:Sl) (R:Bool→World→Prop) w (h:
 aa (Option.isNone (a:Option Addr))
 (R false w)
 (aN a fun c=>
 Ld kB (c.add 3) w fun (d:Bool)=>
 aa d
 (R false w)
 (gn 0 w fun e f (g:Int) h=>
 aa (decide (g<(b.len:Int)))
 (aI b g 1 fun i=>
 Ld kS i h fun (j:Sl)=>
 aN a fun k=>
 Ld kS (k.add 0) h fun (l:Sl)=>
 aw Pg (Builtin.append_ #[26,26] 26 ⟨[(an l),(an j)]⟩) kS h fun (n:Sl) m=>
 aN a fun o=>
 St (o.add 0) (an n) m fun p=>
 e (i64 (g+1)) p∧f (i64 (g+1)) p<f g h)
 (R true h)))):Cl Pg [kB] bw ⟨[(.pointer a),(an b)]⟩ w R:=co Tryz.f15 [(10,[(17,kI)])] h
theorem nd.ok (a:(Option Addr)) (R:Bool→World→Prop) w (h:
 aa (Option.isNone (a:Option Addr))
 (R false w)
 (aN a fun b=>
 Ld kB (b.add 3) w fun (c:Bool)=>
 aa c
 (R false w)
 (aN a fun d=>
 St (d.add 3) (.bool true) w fun e=>
 R true e))):Cl Pg [kB] cJ ⟨[(.pointer a)]⟩ w R:=co Tryz.f20 [] h
theorem ml.ok (a:(Option Addr)) (R:Int→World→Prop) w (h:
 aa (Option.isNone (a:Option Addr))
 (R 0 w)
 (ah w fun b=>
 aN a fun c=>
 Ld kS (c.add 0) b fun (d:Sl)=>
 0≤(3:Int)∧
 aN a fun e=>
 Ld kI (e.add 1) b fun (f:Int)=>
 R (i64 ((a9 .i64 (d.len:Int) (3:Int)) - f)) b)):Cl Pg [kI] bP ⟨[(.pointer a)]⟩ w R:=co Tryz.f28 [] h
theorem l9.ok (a:(Option Addr)) (R:Int→Int→World→Prop) w (h:
 aa (Option.isNone (a:Option Addr))
 (R 0 0 w)
 (aN a fun b=>
 Ld kI (b.add 1) w fun (c:Int)=>
 aa (c==0)
 (R 0 0 w)
 (aN a fun d=>
 Ld kI (d.add 1) w fun (e:Int)=>
 Cl Pg [(az .u32),kB] cD ⟨[(.pointer a),(ni (i64 ((8:Int) - e)))]⟩ w fun (g:Int) (h:Bool) f=>
 R g (i64 ((8:Int) - e)) f))):Cl Pg [(az .u32),kI] dj ⟨[(.pointer a)]⟩ w R:=co Tryz.f122 [] h
theorem lR.ok (a:(Option Addr)) (R:Bool→World→Prop) w (h:
 aa (!(Option.isNone (a:Option Addr)))
 (aN a fun b=>
 Ld kB (b.add 3) w fun (c:Bool)=>
 R c w)
 (R false w)):Cl Pg [kB] cB ⟨[(.pointer a)]⟩ w R:=co Tryz.f123 [] h
theorem mw.ok (a:(Option Addr)) (b:Int) (R:Int→Bool→World→Prop) w (h:
 Cl Pg [(az .u32),kB] dz ⟨[(.pointer a),(ni b)]⟩ w fun (d:Int) (e:Bool) c=>
 aa (!e)
 (R 0 false c)
 (aN a fun f=>
 Ld kI (f.add 2) c fun (g:Int)=>
 aN a fun h=>
 St (h.add 2) (ni (i64 (g+b))) c fun i=>
 aN a fun j=>
 Ld kI (j.add 1) i fun (k:Int)=>
 aN a fun l=>
 St (l.add 1) (ni (i64 (k+b))) i fun m=>
 ah m fun n=>
 aN a fun o=>
 Ld kS (o.add 0) n fun (p:Sl)=>
 aN a fun q=>
 Ld kI (q.add 1) n fun (r:Int)=>
 0≤(3:Int)∧
 bF p (cn .i64 r (3:Int)) (p).len (p).cap 1 fun s=>
 aN a fun t=>
 St (t.add 0) (an s) n fun u=>
 aN a fun v=>
 Ld kI (v.add 1) u fun (x:Int)=>
 aN a fun y=>
 St (y.add 1) (ni (cL .i64 x 7)) u fun z=>
 R d true z)):Cl Pg [(az .u32),kB] cD ⟨[(.pointer a),(ni b)]⟩ w R:=co Tryz.f163 [] h
theorem mo.ok (a:(Option Addr)) (b:Int) (R:Int→Bool→World→Prop) w (h:
 bg (fun (f:World)=>
 aN a fun g=>
 Ld kI (g.add 1) f fun (h:Int)=>
 0≤(3:Int)∧
 aN a fun i=>
 Ld kS (i.add 0) f fun (j:Sl)=>
 bF j 0 (cn .i64 (i64 ((i64 (h+b))+7)) (3:Int)) (j).cap 1 fun k=>
 c6 0 0 f fun l m (n:Int) (o:Int) p=>
 aa (decide (o<(k.len:Int)))
 (aI k o 1 fun q=>
 Ld (az .u8) q p fun (r:Int)=>
 0≤(8:Int)∧
 l (jv .u64 (a9 .u64 n (8:Int)) (u64 r)) (i64 (o+1)) p∧m (jv .u64 (a9 .u64 n (8:Int)) (u64 r)) (i64 (o+1)) p<m n o p)
 (0≤(3:Int)∧
 aN a fun s=>
 Ld kI (s.add 1) p fun (t:Int)=>
 0≤(u64 (i64 ((i64 ((a9 .i64 (cn .i64 (i64 ((i64 (h+b))+7)) (3:Int)) (3:Int)) - t)) - b)))∧
 0≤(u64 b)∧
 R (u32 (cL .u64 (cn .u64 n (u64 (i64 ((i64 ((a9 .i64 (cn .i64 (i64 ((i64 (h+b))+7)) (3:Int)) (3:Int)) - t)) - b)))) (u64 ((a9 .u64 (1:Int) (u64 b)) - 1)))) true p)) fun c=>
 aa (Option.isNone (a:Option Addr))
 (R 0 false w)
 (aa (decide (b<0))
 (R 0 false w)
 (aa (decide (b>32))
 (R 0 false w)
 (Cl Pg [kI] bP ⟨[(.pointer a)]⟩ w fun (e:Int) d=>
 aa (decide (b>e))
 (R 0 false d)
 (c d))))):Cl Pg [(az .u32),kB] dz ⟨[(.pointer a),(ni b)]⟩ w R:=co Tryz.f227 [(2,[]),(14,[(6,(az .u64)),(41,kI)])] h
end Go.Proofs.YtgglghjnakclmaaGreat
namespace Go.aK
def bR (b:List Nat) (i:Nat):Nat:=(b.getD (i/8) 0/2^(7 - i % 8)) % 2
def val (b:List Nat) (a:Nat):Nat→Nat
 |0=>0
 |n+1=>2*val b a n+bR b (a+n)
theorem p8 (b:List Nat) (i:Nat):bR b i<2:=Nat.mod_lt _ (by decide)
theorem ir (b:List Nat) (a:Nat): ∀n,val b a n<2^n
 |0=>by simp [val]
 |n+1=>by
  have:=ir b a n
  have:=p8 b (a+n)
  simp only [val,Nat.pow_succ];omega
theorem val_add (b:List Nat) (a n:Nat): ∀m,val b a (n+m)=val b a n*2^m+val b (a+n) m
 |0=>by simp [val]
 |m+1=>by
  rw [←Nat.add_assoc]
  simp only [val,val_add b a n m,Nat.pow_succ,Nat.add_assoc]
  rw [Nat.mul_add,Nat.mul_comm (2^m) 2,Nat.mul_left_comm];omega
theorem Gb (b:List Nat) (a n k:Nat) (h:k<n):val b a n/2^(n - 1 - k) % 2=bR b (a+k):=by
 have h1:=val_add b a (k+1) (n - 1 - k)
 rw [show k+1+(n - 1 - k)=n by omega] at h1
 have h2:=ir b (a+(k+1)) (n - 1 - k)
 rw [h1,Nat.mul_comm,Nat.mul_add_div (Nat.two_pow_pos _),Nat.div_eq_of_lt h2,Nat.add_zero]
 simp only [val]
 have:=p8 b (a+k)
 omega
theorem zI (b:List Nat) (j i:Nat):bR (b.drop j) i=bR b (8*j+i):=by
 unfold bR
 have h1:(8*j+i)/8=j+i/8:=by omega
 have h2:(8*j+i) % 8=i % 8:=by omega
 rw [h1,h2]
 simp only [List.getD_eq_getElem?_getD,List.getElem?_drop]
theorem vu (b:List Nat) (j a:Nat): ∀n,val (b.drop j) a n=val b (8*j+a) n
 |0=>rfl
 |n+1=>by simp only [val,vu b j a n,zI,Nat.add_assoc]
theorem vE (b:List Nat) (j:Nat) (h:b.getD j 0<256):val b (8*j) 8=b.getD j 0:=by
 have e: ∀i,i<8→bR b (8*j+i)=b.getD j 0/2^(7 - i) % 2:=by
  intro i hi
  unfold bR
  rw [show (8*j+i)/8=j by omega,show (8*j+i) % 8=i by omega]
 simp only [val]
 rw [e 0 (by decide),e 1 (by decide),e 2 (by decide),e 3 (by decide),e 4 (by decide),e 5 (by decide),e 6 (by decide),e 7 (by decide)]
 generalize b.getD j 0=x at h
 simp only [Nat.reduceSub,Nat.reducePow]
 omega
theorem Bj (b:List Nat) (m:Nat) (h:b.getD m 0<256):val b 0 (8*(m+1))=val b 0 (8*m)*256+b.getD m 0:=by
 rw [show 8*(m+1)=8*m+8 by omega,val_add,Nat.zero_add,vE b m h]
theorem Fa {b:List Nat} (h: ∀x∈b,x<256) (m:Nat):b.getD m 0<256:=by
 rw [List.getD_eq_getElem?_getD]
 cases hh:b[m]? with
 |none=>simp
 |some x=>simpa using h x (List.mem_of_getElem? hh)
theorem Fe (b:List Nat) (a w k:Nat):val b 0 (a+w+k)/2^k % 2^w=val b a w:=by
 rw [val_add b 0 (a+w) k,val_add b 0 a w,Nat.zero_add,Nat.mul_comm _ (2^k),Nat.mul_add_div (Nat.two_pow_pos _),Nat.zero_add,
  Nat.div_eq_of_lt (ir b _ k),Nat.add_zero,Nat.mul_comm,Nat.mul_add_mod,Nat.mod_eq_of_lt (ir b a w)]
theorem Fm (a c:Nat) (h:c<256):a*256|||c=a*256+c:=by
 have:=Nat.two_pow_add_eq_or_of_lt (i:=8) (b:=c) h a
 rw [Nat.mul_comm] at this
 rw [←this]
theorem v9 (a w:Nat):a&&&(2^w - 1)=a % 2^w:=Nat.and_two_pow_sub_one_eq_mod a w
end Go.aK
namespace Go.Proofs.YtgglghjnakclmaaGreat
open Go Go.Vc Go.aK
theorem B9:bZ Tryz.prog 26 5 1 1:=bZ.of (by kernel_rfl) (by kernel_rfl)
def Rd (p:Addr) (c:List Nat) (u:Nat) (e:Bool):HP:=fun f=> ∃x:Nat×Sl×TypeId,
 (p=⟨x.1,0,none⟩∧u≤8*c.length∧(∀y∈c,y<256)∧c.length≤g5)∧
 Sat [ao x.1 (.cells #[.slice x.2.1.base x.2.1.len x.2.1.cap,.int .i64 ((u % 8:Nat):Int),.int .i64 (u:Int),.bool e] x.2.2 (0,0)),aA 1 x.2.1 ((c.drop (u/8)).map vB)] f
section
variable {E w:World} {F:List HP} {p:Addr} {c:List Nat} {u:Nat} {e:Bool}
theorem Rd.fu (h:Hp E w (Rd p c u e::F)): ∃b s t,p=⟨b,0,none⟩∧u≤8*c.length∧(∀y∈c,y<256)∧c.length≤g5∧
  Hp E w (ao b (.cells #[.slice s.base s.len s.cap,.int .i64 ((u % 8:Nat):Int),.int .i64 (u:Int),.bool e] t (0,0))::aA 1 s ((c.drop (u/8)).map vB)::F):=by
 obtain ⟨⟨b,s,t⟩,⟨h1,h2,h3,h4⟩,h⟩:=h.EO (X:=fun x:Nat×Sl×TypeId=>p=⟨x.1,0,none⟩∧u≤8*c.length∧(∀y∈c,y<256)∧c.length≤g5)
  (L:=fun x=> [ao x.1 (.cells #[.slice x.2.1.base x.2.1.len x.2.1.cap,.int .i64 ((u % 8:Nat):Int),.int .i64 (u:Int),.bool e] x.2.2 (0,0)),aA 1 x.2.1 ((c.drop (u/8)).map vB)]) (fun f hf=>hf)
 exact ⟨b,s,t,h1,h2,h3,h4,h⟩
theorem Rd.shut {b:Nat} {s:Sl} {t:TypeId} (h2:u≤8*c.length) (h3: ∀y∈c,y<256) (h4:c.length≤g5)
  (h:Hp E w (ao b (.cells #[.slice s.base s.len s.cap,.int .i64 ((u % 8:Nat):Int),.int .i64 (u:Int),.bool e] t (0,0))::aA 1 s ((c.drop (u/8)).map vB)::F)):Hp E w (Rd ⟨b,0,none⟩ c u e::F):=
 Hp.EY (l:= [_,_]) (fun f hf=>⟨(b,s,t),⟨rfl,h2,h3,h4⟩,hf⟩) h
set_option maxRecDepth 20000
theorem tc {K:Option Addr→World→Prop} (h:Hp E w F) (hK: ∀p w',Hp E w' (Rd p [] 0 false::F)→K (some p) w'):Cl Tryz.prog [kP] dO ⟨[]⟩ w K:=by
 refine uz.ok _ _ ?_
 refine Nw.mk h fun b w' h'=>hK _ _ ?_
 exact Rd.shut (s:=⟨none,0,0⟩) (by simp) (by simp) (by simp) ((h'.aW 1).p1)
theorem r0 {K:Int→World→Prop} (h:Hp E w (Rd p c u e::F)) (hK: ∀w',Hp E w' (Rd p c u e::F)→w'.heap=w.heap→K ((8*c.length - u:Nat):Int) w'):Cl Tryz.prog [kI] bP ⟨[.pointer (some p)]⟩ w K:=by
 obtain ⟨b,s,t,rfl,h1,h2,h3,h⟩:=Rd.fu h
 refine ml.ok _ _ _ ?_
 simp only [Option.isNone,aE,ak,al,Nat.zero_add]
 have hd:Hp E {w with drawn:=w.drawn+1} _:=h.drew
 have hl:=hd.p1.bS
 rw [bN] at h3
 refine Ld.aD hd s rfl ⟨by decide,Ld.aD hd _ rfl ?_⟩
 have e1:s.len=c.length - u/8:=by simpa using hl.symm
 have e2:i64 (a9 .i64 (s.len:Int) 3 - ((u % 8:Nat):Int))=((8*c.length - u:Nat):Int):=by
  have:a9 .i64 (s.len:Int) 3=((s.len*2^3:Nat):Int):=cW (k:= .i64) (b:=3) (by decide) (by have:IntKind.max .i64=9223372036854775807:=rfl;rw [this];omega)
  rw [this,aj (by omega)]
  omega
 rw [e2]
 exact hK _ (Rd.shut h1 h2 (by rw [bN];exact h3) hd) rfl
theorem yT {K:Bool→World→Prop} (h:Hp E w (Rd p c u e::F)) (hK:K e w):Cl Tryz.prog [kB] cB ⟨[.pointer (some p)]⟩ w K:=by
 obtain ⟨b,s,t,rfl,h1,h2,h3,h⟩:=Rd.fu h
 refine lR.ok _ _ _ ?_
 simp only [Option.isNone,Bool.not_false,aH,ak,al,Nat.zero_add]
 exact Ld.aD h _ rfl hK
theorem EK {K:Bool→World→Prop} (h:Hp E w (Rd p c u e::F)) (hK: ∀w',Hp E w' (Rd p c u true::F)→K (!e) w'):Cl Tryz.prog [kB] cJ ⟨[.pointer (some p)]⟩ w K:=by
 have h0:=h
 obtain ⟨b,s,t,rfl,h1,h2,h3,h⟩:=Rd.fu h
 refine nd.ok _ _ _ ?_
 simp only [Option.isNone,aE,ak,al,Nat.zero_add]
 refine Ld.aD h _ rfl ?_
 cases e
 ·exact St.aD h (by simp) rfl fun w' h'=>hK _ (Rd.shut h1 h2 h3 h')
 ·exact hK _ h0
theorem Gs {K:Bool→World→Prop} {s:Sl} {cs:List Sl} {bs:List (List Nat)} (h:Hp E w (Rd p c u e::F))
  (hs:ag F (aG 1 s (cs.map fun x=> .slice x.base x.len x.cap))) (hl:cs.length=bs.length) (hcl:cs.length≤g5) (hc: ∀i (h:i<cs.length),ag F (aG 1 cs[i] ((bs.getD i []).map vB)))
  (hb: ∀b∈bs,∀y∈b,y<256) (hbig:c.length+bs.flatten.length≤g5)
  (hK: ∀w',Hp E w' (Rd p (if e then c else c++bs.flatten) u e::F)→K (!e) w'):Cl Tryz.prog [kB] bw ⟨[.pointer (some p),.slice s.base s.len s.cap]⟩ w K:=by
 refine mF.ok _ _ _ _ ?_
 simp only [Option.isNone,aE,ak]
 have h0:=h
 obtain ⟨b,s0,t0,rfl,h1,h2,h3,h⟩:=Rd.fu h
 have hlen:s.len=cs.length:=by have:=(h.drop.drop.av hs).1;simpa using this.symm
 simp only [al,Nat.zero_add]
 refine Ld.aD h _ rfl ?_
 cases e
 ·refine ⟨fun i w'=> ∃k:Nat,i=(k:Int)∧k≤cs.length∧Hp E w' (Rd ⟨b,0,none⟩ (c++(bs.take k).flatten) u false::F),fun i _=>cs.length - i.toNat,⟨0,rfl,by omega,by simpa using h0⟩,?_⟩
  rintro i w' ⟨k,rfl,hk,hh⟩
  refine aa.mk (fun hlt=> ?_) (fun hge=> ?_)
  ·have hlt:k<cs.length:=by simpa [hlen] using hlt
   obtain ⟨b',s',t',hp,g1,g2,g3,hh⟩:=Rd.fu hh
   cases hp
   refine aI.rd (hh.drop.drop.av hs) (by omega) (by omega) fun q hi hq=> ?_
   have hq':w'.cell? q=some (Sc.sl.enc cs[k]):=by simpa using hq
   refine Ld.sc _ hq' ?_
   simp only [ak,al,Nat.zero_add]
   refine Ld.aD hh s' rfl ?_
   have hsrc:=hh.drop.drop.av (hc k hlt)
   have hlen2:=hsrc.1
   simp only [List.length_map,Nat.mul_one] at hlen2
   have hfl:(bs.take (k+1)).flatten=(bs.take k).flatten++bs.getD k []:=by
    rw [List.take_add_one,List.flatten_append]
    congr 1
    have:k<bs.length:=by omega
    simp [this]
   have hle:(bs.take (k+1)).flatten.length≤bs.flatten.length:=by
    have:=congrArg (fun l=>(List.flatten l).length) (List.take_append_drop (k+1) bs)
    simp only [List.flatten_append,List.length_append] at this
    omega
   rw [hfl,List.length_append] at hle
   have ho:=hh.p1.bS
   simp only [List.length_map,Nat.mul_one,List.length_drop,List.length_append] at ho
   rw [bN] at hbig hcl
   refine br B9 (by decide) (.inl ⟨5,by kernel_rfl⟩) hh.p1 (.inl ⟨_,_,_,rfl,rfl,hsrc⟩) (by simpa using hlen2) lE (by omega) (by omega) fun s2 w2 h2' hs2=> ?_
   refine St.aD h2'.p1 (by simp) rfl fun w3 h3'=> ?_
   refine ⟨⟨k+1,?_,by omega,?_⟩,?_⟩
   ·rw [aj (by omega)];rfl
   ·refine Rd.shut (s:=s2) (t:=t') ?_ ?_ ?_ ?_
    ·rw [hfl,←List.append_assoc,List.length_append];omega
    ·intro y hy
     rw [hfl,←List.append_assoc,List.mem_append] at hy
     rcases hy with hy|hy
     ·exact g2 y hy
     ·have:k<bs.length:=by omega
      simp only [List.getD_eq_getElem?_getD,this,List.getElem?_eq_getElem,Option.getD_some] at hy
      exact hb _ (List.getElem_mem _) y hy
    ·rw [hfl,←List.append_assoc,List.length_append,bN];rw [List.length_append];omega
    ·rw [hfl,←List.append_assoc,List.drop_append_of_le_length (by omega),List.map_append]
     exact h3'
   ·rw [aj (by omega)];omega
  ·have hge: ¬(k:Int)<(s.len:Int):=by simpa using hge
   have:k=cs.length:=by omega
   subst this
   refine hK _ ?_
   rw [hl,List.take_length] at hh
   exact hh
 ·exact hK _ h0
def gQ (c:List Nat) (u:Nat) (width:Int):Int:=if 0≤width∧width≤32∧width≤((8*c.length - u:Nat):Int) then (val c u width.toNat:Int) else 0
def fz (c:List Nat) (u:Nat) (width:Int):Bool:=decide (0≤width∧width≤32∧width≤((8*c.length - u:Nat):Int))
theorem GI {width:Int} {K:Int→Bool→World→Prop} (h:Hp E w (Rd p c u e::F)) (hK: ∀w',Hp E w' (Rd p c u e::F)→w'.heap=w.heap→K (gQ c u width) (fz c u width) w'):
  Cl Tryz.prog [az .u32,kB] dz ⟨[.pointer (some p),.int .i64 width]⟩ w K:=by
 refine mo.ok _ _ _ _ ?_
 simp only [au,Option.isNone,aE]
 refine aa.mk (fun hlt=> ?_) (fun h1=>aa.mk (fun hlt=> ?_) (fun h2=>r0 h fun w1 hh heq=>aa.mk (fun hlt=> ?_) (fun h3=> ?_)))
 ·have hlt:width<0:=by simpa using hlt
  have:=hK w h rfl
  rwa [gQ,if_neg (by omega),fz,decide_eq_false (by omega)] at this
 ·have hlt:width>32:=by simpa using hlt
  have:=hK w h rfl
  rwa [gQ,if_neg (by omega),fz,decide_eq_false (by omega)] at this
 ·have hlt:width>((8*c.length - u:Nat):Int):=by simpa using hlt
  have:=hK w1 hh heq
  rwa [gQ,if_neg (by omega),fz,decide_eq_false (by omega)] at this
 ·have h1:0≤width:=by simpa using h1
  have h2:width≤32:=by simpa using h2
  have h3:width≤((8*c.length - u:Nat):Int):=by simpa using h3
  have hK:=hK w1 hh heq
  rw [gQ,if_pos ⟨h1,h2,h3⟩,fz,decide_eq_true ⟨h1,h2,h3⟩] at hK
  obtain ⟨n,rfl⟩:=Int.eq_ofNat_of_zero_le h1
  rw [Int.toNat_natCast] at hK
  obtain ⟨b,s,t,rfl,g1,g2,g3,hh⟩:=Rd.fu hh
  rw [bN] at g3
  simp only [ak,al,Nat.zero_add]
  refine Ld.aD hh _ rfl ⟨by decide,Ld.aD hh s rfl ?_⟩
  have em:cn .i64 (i64 (i64 (((u % 8:Nat):Int)+(n:Int))+7)) 3=(((u % 8+n+7)/8:Nat):Int):=by
   simp (disch:=omega) only [aj]
   have:=eI (k:= .i64) (a:=u % 8+n+7) (b:=3) (by decide)
   simpa using this
  rw [em]
  generalize hm:(u % 8+n+7)/8=m
  have hl:=hh.p1.bS
  simp only [List.length_map,Nat.mul_one,List.length_drop] at hl
  have hsl:aG 1 s ((c.drop (u/8)).map vB) w1:=hh.drop.av ag.own
  have hcap:=hh.drop.jk
  refine bF.rd hsl (by omega) (by omega) (by omega) (by omega) (by omega) fun s2 hs2 hl2=> ?_
  have hs2:=hs2 w1 hsl
  simp only [Int.toNat_zero,List.drop_zero,Nat.sub_zero,Int.toNat_natCast] at hs2 hl2
  refine ⟨fun v i w'=>w'=w1∧∃k:Nat,i=(k:Int)∧k≤m∧v=(val (c.drop (u/8)) 0 (8*k):Int),
   fun _ i _=>m - i.toNat,⟨rfl,0,rfl,by omega,rfl⟩,?_⟩
  rintro v i w' ⟨rfl,k,rfl,hk,rfl⟩
  refine aa.mk (fun hlt=> ?_) (fun hge=> ?_)
  ·have hlt:k<m:=by have:(k:Int)<(s2.len:Int):=by simpa using hlt
                    omega
   refine aI.rd hs2 (by omega) (by omega) fun q hi hq=> ?_
   have hkl:k<(c.drop (u/8)).length:=by rw [List.length_drop];omega
   have hq':w'.cell? q=some (Sc.enc (.int .u8) ((c.drop (u/8)).getD k 0:Int)):=by
    rw [hq]
    simp [vB,List.getD_eq_getElem?_getD,show u/8+k<c.length by rw [List.length_drop] at hkl;omega]
   refine Ld.sc _ hq' ⟨by decide,?_⟩
   have hc8:(c.drop (u/8)).getD k 0<256:=Fa (fun y hy=>g2 y (List.mem_of_mem_drop hy)) k
   have hv:=ir (c.drop (u/8)) 0 (8*k)
   have hm5:m≤5:=by omega
   have hp:2^(8*k)≤2^32:=Nat.pow_le_pow_right (by decide) (by omega)
   have e2:jv .u64 (a9 .u64 (val (c.drop (u/8)) 0 (8*k):Int) 8) (u64 ((c.drop (u/8)).getD k 0:Int))=(val (c.drop (u/8)) 0 (8*(k+1)):Int):=by
    have hmx:IntKind.max .u64=18446744073709551615:=rfl
    have e3:=cW (k:= .u64) (a:=val (c.drop (u/8)) 0 (8*k)) (b:=8) (by decide) (by rw [hmx];omega)
    rw [fQ (by omega)]
    have e3:a9 .u64 (val (c.drop (u/8)) 0 (8*k):Int) 8=((val (c.drop (u/8)) 0 (8*k)*256:Nat):Int):=by simpa using e3
    rw [e3]
    have e4:=Fm (val (c.drop (u/8)) 0 (8*k)) _ hc8
    rw [oZ (by rw [hmx];omega) (by rw [hmx];omega) (by rw [e4,hmx];omega),e4,Bj _ _ hc8]
   rw [e2,aj (by omega)]
   exact ⟨⟨rfl,k+1,rfl,by omega,rfl⟩,by dsimp only;omega⟩
  ·have hge:k=m:=by have: ¬(k:Int)<(s2.len:Int):=by simpa using hge
                    omega
   subst hge
   refine ⟨by decide,Ld.aD hh _ rfl ?_⟩
   have e1:u64 (i64 (i64 (a9 .i64 (k:Int) 3 - ((u % 8:Nat):Int)) - (n:Int)))=((8*k - u % 8 - n:Nat):Int):=by
    have:=cW (k:= .i64) (a:=k) (b:=3) (by decide) (by have:IntKind.max .i64=9223372036854775807:=rfl;rw [this];omega)
    have e0:a9 .i64 (k:Int) 3=((k*8:Nat):Int):=by simpa using this
    rw [e0]
    simp (disch:=omega) only [aj,fQ]
    omega
   have e2:u64 (n:Int)=(n:Int):=fQ (by omega)
   have e3:u64 (a9 .u64 1 (n:Int) - 1)=((2^n - 1:Nat):Int):=by
    have hp:2^n≤2^32:=Nat.pow_le_pow_right (by decide) (by omega)
    have:=cW (k:= .u64) (a:=1) (b:=n) (by have:IntKind.bits .u64=64:=rfl;omega) (by have:IntKind.max .u64=18446744073709551615:=rfl;rw [this];omega)
    have e0:a9 .u64 1 (n:Int)=((2^n:Nat):Int):=by simpa using this
    have:=Nat.two_pow_pos n
    rw [e0,fQ (by omega)]
    omega
   rw [e1,e2,e3]
   refine ⟨by omega,by omega,?_⟩
   have hv:=ir (c.drop (u/8)) 0 (8*k)
   have hmx:IntKind.max .u64=18446744073709551615:=rfl
   have hp:2^(8*k)≤2^40:=Nat.pow_le_pow_right (by decide) (by omega)
   have hp2:2^n≤2^32:=Nat.pow_le_pow_right (by decide) (by omega)
   have hq:=Nat.div_le_self (val (c.drop (u/8)) 0 (8*k)) (2^(8*k - u % 8 - n))
   rw [eI (k:= .u64) (by have:IntKind.bits .u64=64:=rfl;omega),kG (by rw [hmx];omega) (by rw [hmx];omega),v9]
   have hmid:=Fe (c.drop (u/8)) (u % 8) n (8*k - u % 8 - n)
   rw [show u % 8+n+(8*k - u % 8 - n)=8*k by omega,vu c (u/8) (u % 8) n,show 8*(u/8)+u % 8=u by omega] at hmid
   rw [hmid]
   have hlt:=ir c u n
   rw [gy (by omega)]
   exact hK
theorem Bd {width:Int} {K:Int→Bool→World→Prop} (h:Hp E w (Rd p c u e::F)) (hK: ∀w',Hp E w' (Rd p c (if fz c u width then u+width.toNat else u) e::F)→K (gQ c u width) (fz c u width) w'):
  Cl Tryz.prog [az .u32,kB] cD ⟨[.pointer (some p),.int .i64 width]⟩ w K:=by
 refine mw.ok _ _ _ _ ?_
 refine GI h fun w1 h1 _=> ?_
 by_cases hb:fz c u width=true
 ·rw [hb,if_pos rfl] at hK
  rw [hb]
  simp only [Bool.not_true,aE]
  unfold fz at hb
  obtain ⟨b0,b1,b2⟩:=of_decide_eq_true hb
  obtain ⟨n,rfl⟩:=Int.eq_ofNat_of_zero_le b0
  rw [Int.toNat_natCast] at hK
  obtain ⟨b,s,t,rfl,g1,g2,g3,h1⟩:=Rd.fu h1
  rw [bN] at g3
  simp only [ak,al,Nat.zero_add]
  refine Ld.aD h1 _ rfl ?_
  rw [aj (by omega)]
  refine St.aD h1 (by simp) rfl fun w2 h2=> ?_
  refine Ld.aD h2 _ rfl ?_
  rw [aj (by omega)]
  refine St.aD h2 (by simp) rfl fun w3 h3=>ah.mk h3 fun w4 h4=> ?_
  refine Ld.aD h4 s rfl (Ld.aD h4 _ rfl ⟨by decide,?_⟩)
  have e1:cn .i64 (((u % 8:Nat):Int)+(n:Int)) 3=(((u % 8+n)/8:Nat):Int):=by
   have:=eI (k:= .i64) (a:=u % 8+n) (b:=3) (by decide)
   simpa using this
  rw [e1]
  have hl:=h4.p1.bS
  simp only [List.length_map,Nat.mul_one,List.length_drop] at hl
  refine bF.own h4.p1 (by omega) (by omega) (by omega) fun s2 h5 hl2=> ?_
  refine St.aD h5.p1 (by simp) rfl fun w6 h6=> ?_
  refine Ld.aD h6 _ rfl ?_
  refine St.aD h6 (by simp) rfl fun w7 h7=>hK _ ?_
  have e2:cL .i64 (((u % 8:Nat):Int)+(n:Int)) 7=(((u+n) % 8:Nat):Int):=by
   have hmx:IntKind.max .i64=9223372036854775807:=rfl
   have:=kG (k:= .i64) (a:=u % 8+n) (b:=7) (by rw [hmx];omega) (by rw [hmx];omega)
   have e3:=v9 (u % 8+n) 3
   simp only [Nat.reducePow,Nat.reduceSub] at e3
   rw [e3] at this
   have:cL .i64 (((u % 8:Nat):Int)+(n:Int)) 7=(((u % 8+n) % 8:Nat):Int):=by simpa using this
   rw [this]
   congr 1;omega
  rw [e2] at h7
  refine Rd.shut (s:=s2) (t:=t) (by omega) g2 (by rw [bN];exact g3) ?_
  have e4:((u:Int)+(n:Int))=((u+n:Nat):Int):=by omega
  have e5:(List.take (((s.len:Int)).toNat - ((((u % 8+n)/8:Nat):Int)).toNat) (((c.drop (u/8)).map vB).drop ((((u % 8+n)/8:Nat):Int)).toNat))=(c.drop ((u+n)/8)).map vB:=by
   rw [Int.toNat_natCast,Int.toNat_natCast,List.take_of_length_le (by simp;omega),←List.map_drop,List.drop_drop]
   congr 2;omega
  rw [e5,e4] at h7
  exact h7
 ·have hb:fz c u width=false:=by simpa using hb
  rw [hb,if_neg (by simp)] at hK
  rw [hb]
  simp only [Bool.not_false,aH]
  have hv:gQ c u width=0:=by unfold gQ;rw [if_neg];unfold fz at hb;exact of_decide_eq_false hb
  have:=hK w1 h1
  rwa [hv] at this
def dW (u:Nat):Nat:=if u % 8=0 then 0 else 8 - u % 8
theorem Gf {K:Int→Int→World→Prop} (h:Hp E w (Rd p c u e::F)) (hK: ∀w',Hp E w' (Rd p c (u+dW u) e::F)→K (val c u (dW u):Int) (dW u:Int) w'):
  Cl Tryz.prog [az .u32,kI] dj ⟨[.pointer (some p)]⟩ w K:=by
 refine l9.ok _ _ _ ?_
 have h0:=h
 obtain ⟨b,s,t,rfl,g1,g2,g3,h⟩:=Rd.fu h
 rw [bN] at g3
 simp only [Option.isNone,aE,ak,al,Nat.zero_add]
 refine Ld.aD h _ rfl ?_
 by_cases hu:u % 8=0
 ·have:dW u=0:=by simp [dW,hu]
  rw [this] at hK
  refine aa.t (by simp [hu]) (hK _ h0)
 ·have hp:dW u=8 - u % 8:=by simp [dW,hu]
  rw [hp] at hK
  refine aa.f (by simp;omega) (Ld.aD h _ rfl ?_)
  rw [aj (by omega)]
  have hpk:fz c u (8 - ((u % 8:Nat):Int))=true:=decide_eq_true (by omega)
  refine Bd h0 fun w1 h1=> ?_
  rw [hpk,if_pos rfl] at h1
  have e1:(8 - ((u % 8:Nat):Int)).toNat=8 - u % 8:=by omega
  have e2:(8 - ((u % 8:Nat):Int))=((8 - u % 8:Nat):Int):=by omega
  have hv:gQ c u (8 - ((u % 8:Nat):Int))=(val c u (8 - u % 8):Int):=by
   unfold gQ;rw [if_pos (by omega),e1]
  rw [e1] at h1
  rw [hv,e2]
  exact hK _ h1
end
end Go.Proofs.YtgglghjnakclmaaGreat
namespace Go.Proofs.YtgglghjnakclmaaGreat
open Go Go.Vc
set_option maxRecDepth 100000
theorem yi.ok (a:(TT ea)) (b:Int) (R:(TT ea)→Bool→Int→World→Prop) w (h:
 Nw 100 ⟨[(ni a.1),(ni a.2.1),(ni a.2.2.1),(ni a.2.2.2.1)]⟩ w fun d c=>
 Nw 100 ⟨[(ni 0),(ni 0),(ni 0),(ni 0)]⟩ c fun f e=>
 bg (fun (n1:World)=>
 Ld (.st [.int .i64,.int .i64]) (Addr.add ⟨d,0,none⟩ 1) n1 fun o1=>
 Cl Pg [(.st [.int .i64,.int .i64]),kB,kB] eV ⟨[(.agg ⟨[(ni o1.1),(ni o1.2.1)]⟩),(.int .u8 b),(ni 65536)]⟩ n1 fun q1 (r1:Bool) (s1:Bool) p1=>
 Nw 98 ⟨[(ni 0),(ni 0)]⟩ p1 fun u1 t1=>
 ae ⟨u1,0,none⟩ [(ni q1.1),(ni q1.2.1)] 0 t1 fun v1=>
 aa (!s1)
 (Ld (.st ea) ⟨f,0,none⟩ v1 fun x1=>
 ae ⟨f,0,none⟩ [(ni x1.1),(ni x1.2.1),(ni x1.2.2.1),(ni x1.2.2.2.1)] 0 v1 fun y1=>
 Ld (.st ea) ⟨f,0,none⟩ y1 fun z1=>
 R z1 false 242 y1)
 (aa r1
 (Ld kI (Addr.add ⟨u1,0,none⟩ 0) v1 fun (a2:Int)=>
 ae ⟨f,0,none⟩ [(ni 4),(ni 0),(ni 0),(ni a2)] 0 v1 fun b2=>
 Ld (.st ea) ⟨f,0,none⟩ b2 fun c2=>
 R c2 true 0 b2)
 (Ld (.st [.int .i64,.int .i64]) ⟨u1,0,none⟩ v1 fun d2=>
 ae ⟨f,0,none⟩ [(ni 3),(ni d2.1),(ni d2.2.1),(ni 0)] 0 v1 fun e2=>
 Ld (.st ea) ⟨f,0,none⟩ e2 fun f2=>
 R f2 false 0 e2))) fun g=>
 bg (fun (m:Bool) (n:World)=>
 aa m
 (Ld (.st ea) ⟨f,0,none⟩ n fun o=>
 ae ⟨f,0,none⟩ [(ni o.1),(ni o.2.1),(ni o.2.2.1),(ni o.2.2.2.1)] 0 n fun p=>
 Ld (.st ea) ⟨f,0,none⟩ p fun q=>
 R q false 2 p)
 (Ld kI (Addr.add ⟨d,0,none⟩ 0) n fun (r:Int)=>
 aa (decide (r<3))
 (Ld kI (Addr.add ⟨d,0,none⟩ 0) n fun (s:Int)=>
 0≤(s:Int)∧(s:Int)<(((ByteArray.mk #[87,80,1])).size:Int)∧
 aa (b==(uB (ByteArray.mk #[87,80,1]) (s:Int).toNat))
 (Ld kI (Addr.add ⟨d,0,none⟩ 0) n fun (t:Int)=>
 ae ⟨f,0,none⟩ [(ni (i64 (t+1))),(ni 0),(ni 0),(ni 0)] 0 n fun u=>
 Ld (.st ea) ⟨f,0,none⟩ u fun v=>
 R v false 0 u)
 (Ld kI (Addr.add ⟨d,0,none⟩ 0) n fun (x:Int)=>
 aa (decide (x<2))
 (Ld (.st ea) ⟨f,0,none⟩ n fun y=>
 ae ⟨f,0,none⟩ [(ni y.1),(ni y.2.1),(ni y.2.2.1),(ni y.2.2.2.1)] 0 n fun z=>
 Ld (.st ea) ⟨f,0,none⟩ z fun a1=>
 R a1 false 240 z)
 (Ld kI (Addr.add ⟨d,0,none⟩ 0) n fun (b1:Int)=>
 aa (decide (b1<3))
 (Ld (.st ea) ⟨f,0,none⟩ n fun c1=>
 ae ⟨f,0,none⟩ [(ni c1.1),(ni c1.2.1),(ni c1.2.2.1),(ni c1.2.2.2.1)] 0 n fun d1=>
 Ld (.st ea) ⟨f,0,none⟩ d1 fun e1=>
 R e1 false 241 d1)
 (g n))))
 (Ld kI (Addr.add ⟨d,0,none⟩ 0) n fun (f1:Int)=>
 aa (decide (f1<2))
 (Ld (.st ea) ⟨f,0,none⟩ n fun g1=>
 ae ⟨f,0,none⟩ [(ni g1.1),(ni g1.2.1),(ni g1.2.2.1),(ni g1.2.2.2.1)] 0 n fun h1=>
 Ld (.st ea) ⟨f,0,none⟩ h1 fun i1=>
 R i1 false 240 h1)
 (Ld kI (Addr.add ⟨d,0,none⟩ 0) n fun (j1:Int)=>
 aa (decide (j1<3))
 (Ld (.st ea) ⟨f,0,none⟩ n fun k1=>
 ae ⟨f,0,none⟩ [(ni k1.1),(ni k1.2.1),(ni k1.2.2.1),(ni k1.2.2.2.1)] 0 n fun l1=>
 Ld (.st ea) ⟨f,0,none⟩ l1 fun m1=>
 R m1 false 241 l1)
 (g n))))) fun h=>
 Ld (.st ea) ⟨d,0,none⟩ e fun i=>
 Cl Pg [kB] iK ⟨[(.agg ⟨[(ni i.1),(ni i.2.1),(ni i.2.2.1),(ni i.2.2.2.1)]⟩)]⟩ e fun (k:Bool) j=>
 aa (!k)
 (h true j)
 (Ld kI (Addr.add ⟨d,0,none⟩ 0) j fun (l:Int)=>
 h (l==4) j)):Cl Pg [(.st ea),kB,kI] jE ⟨[(.agg ⟨[(ni a.1),(ni a.2.1),(ni a.2.2.1),(ni a.2.2.2.1)]⟩),(.int .u8 b)]⟩ w R:=co Tryz.f114 [(2,[]),(3,[(9,kB)])] h
theorem ry.ok (a:Int) (b:(TT bG)) (c:Int) (R:(TT bG)→Bool→Int→World→Prop) w (h:
 Nw 102 ⟨[(ni b.1),(ni b.2.1),(ni b.2.2.1),(ni b.2.2.2.1),(ni b.2.2.2.2.1),(.int .u32 b.2.2.2.2.2.1),(ni b.2.2.2.2.2.2.1)]⟩ w fun e d=>
 Nw 102 ⟨[(ni 0),(ni 0),(ni 0),(ni 0),(ni 0),(.int .u32 0),(ni 0)]⟩ d fun g f=>
 aw Pg (Instr.makeMap 245 none) kM f fun i h=>
 aw Pg (do Instr.mapUpdate 245 (.map i) (ni 0) (.func (.func 166) ⟨[]⟩ ⟨[]⟩);pure undef) kV h fun _ j=>
 aw Pg (do Instr.mapUpdate 245 (.map i) (ni 1) (.func (.func 167) ⟨[]⟩ ⟨[]⟩);pure undef) kV j fun _ k=>
 aw Pg (do Instr.mapUpdate 245 (.map i) (ni 2) (.func (.func 168) ⟨[]⟩ ⟨[]⟩);pure undef) kV k fun _ l=>
 aw Pg (do Instr.mapUpdate 245 (.map i) (ni 3) (.func (.func 169) ⟨[]⟩ ⟨[]⟩);pure undef) kV l fun _ m=>
 aw Pg (do Instr.mapUpdate 245 (.map i) (ni 5) (.func (.func 169) ⟨[]⟩ ⟨[]⟩);pure undef) kV m fun _ n=>
 Ld kI (Addr.add ⟨e,0,none⟩ 0) n fun (o:Int)=>
 aw Pg (Instr.lookup 245 (.map i) (ni o) false) kV n fun q p=>
 jc q fun r=>
 aa r
 (Ld (.st bG) ⟨g,0,none⟩ p fun s=>
 ae ⟨g,0,none⟩ [(ni s.1),(ni s.2.1),(ni s.2.2.1),(ni s.2.2.2.1),(ni s.2.2.2.2.1),(.int .u32 s.2.2.2.2.2.1),(ni s.2.2.2.2.2.2.1)] 0 p fun t=>
 Ld (.st bG) ⟨g,0,none⟩ t fun u=>
 R u false 2 t)
 (Ld (.st bG) ⟨e,0,none⟩ p fun v=>
 Cl Pg [kB] fG ⟨[(ni a),(.agg ⟨[(ni v.1),(ni v.2.1),(ni v.2.2.1),(ni v.2.2.2.1),(ni v.2.2.2.2.1),(.int .u32 v.2.2.2.2.2.1),(ni v.2.2.2.2.2.2.1)]⟩)]⟩ p fun (y:Bool) x=>
 aa (!y)
 (Ld (.st bG) ⟨g,0,none⟩ x fun z=>
 ae ⟨g,0,none⟩ [(ni z.1),(ni z.2.1),(ni z.2.2.1),(ni z.2.2.2.1),(ni z.2.2.2.2.1),(.int .u32 z.2.2.2.2.2.1),(ni z.2.2.2.2.2.2.1)] 0 x fun a1=>
 Ld (.st bG) ⟨g,0,none⟩ a1 fun b1=>
 R b1 false 2 a1)
 (Ld (.st bG) ⟨e,0,none⟩ x fun c1=>
 lB Pg q [(.st bG),kB] [(ni a),(.agg ⟨[(ni c1.1),(ni c1.2.1),(ni c1.2.2.1),(ni c1.2.2.2.1),(ni c1.2.2.2.2.1),(.int .u32 c1.2.2.2.2.2.1),(ni c1.2.2.2.2.2.2.1)]⟩),(.int .u8 c)] x fun e1 (f1:Bool) d1=>
 ae ⟨e,0,none⟩ [(ni e1.1),(ni e1.2.1),(ni e1.2.2.1),(ni e1.2.2.2.1),(ni e1.2.2.2.2.1),(.int .u32 e1.2.2.2.2.2.1),(ni e1.2.2.2.2.2.2.1)] 0 d1 fun g1=>
 aa (!f1)
 (Ld (.st bG) ⟨g,0,none⟩ g1 fun h1=>
 ae ⟨g,0,none⟩ [(ni h1.1),(ni h1.2.1),(ni h1.2.2.1),(ni h1.2.2.2.1),(ni h1.2.2.2.2.1),(.int .u32 h1.2.2.2.2.2.1),(ni h1.2.2.2.2.2.2.1)] 0 g1 fun i1=>
 Ld (.st bG) ⟨g,0,none⟩ i1 fun j1=>
 R j1 false 242 i1)
 (fC g1 fun k1 l1=>
 ad (.st bG) ⟨e,0,none⟩ k1 fun m1=>
 ad kI (Addr.add ⟨e,0,none⟩ 0) k1 fun (n1:Int)=>
 aa (n1==4)
 (ae ⟨g,0,none⟩ [(ni m1.1),(ni m1.2.1),(ni m1.2.2.1),(ni m1.2.2.2.1),(ni m1.2.2.2.2.1),(.int .u32 m1.2.2.2.2.2.1),(ni m1.2.2.2.2.2.2.1)] 0 l1 fun o1=>
 k1 o1∧
 Ld (.st bG) ⟨g,0,none⟩ o1 fun p1=>
 R p1 true 0 o1)
 (ad kI (Addr.add ⟨e,0,none⟩ 0) k1 fun (q1:Int)=>
 ae ⟨g,0,none⟩ [(ni m1.1),(ni m1.2.1),(ni m1.2.2.1),(ni m1.2.2.2.1),(ni m1.2.2.2.2.1),(.int .u32 m1.2.2.2.2.2.1),(ni m1.2.2.2.2.2.2.1)] 0 l1 fun r1=>
 k1 r1∧
 Ld (.st bG) ⟨g,0,none⟩ r1 fun s1=>
 R s1 (q1==6) 0 r1))))):Cl Pg [(.st bG),kB,kI] cY ⟨[(ni a),(.agg ⟨[(ni b.1),(ni b.2.1),(ni b.2.2.1),(ni b.2.2.2.1),(ni b.2.2.2.2.1),(.int .u32 b.2.2.2.2.2.1),(ni b.2.2.2.2.2.2.1)]⟩),(.int .u8 c)]⟩ w R:=co Tryz.f116 [] h
theorem uR.ok (a:(TT ea)) (R:Bool→World→Prop) w (h:
 Nw 100 ⟨[(ni a.1),(ni a.2.1),(ni a.2.2.1),(ni a.2.2.2.1)]⟩ w fun c b=>
 Ld kI (Addr.add ⟨c,0,none⟩ 0) b fun (d:Int)=>
 aa (d==3)
 (Ld (.st [.int .i64,.int .i64]) (Addr.add ⟨c,0,none⟩ 1) b fun e=>
 Cl Pg [kB] ew ⟨[(.agg ⟨[(ni e.1),(ni e.2.1)]⟩),(ni 65536)]⟩ b fun (g:Bool) f=>
 aa g
 (Ld kI (Addr.add ⟨c,0,none⟩ 3) f fun (h:Int)=>
 R (h==0) f)
 (R false f))
 (Ld kI (Addr.add ⟨c,0,none⟩ 0) b fun (i:Int)=>
 aa (i==4)
 (Ld (.st [.int .i64,.int .i64]) (Addr.add ⟨c,0,none⟩ 1) b fun j=>
 aa (((j.1:Int)==(0:Int))&&((j.2.1:Int)==(0:Int)))
 (Ld kI (Addr.add ⟨c,0,none⟩ 3) b fun (k:Int)=>
 Cl Pg [kB] bU ⟨[(ni k),(ni 1),(ni 65536)]⟩ b fun (m:Bool) l=>
 R m l)
 (R false b))
 (Ld kI (Addr.add ⟨c,0,none⟩ 0) b fun (n:Int)=>
 Cl Pg [kB] bU ⟨[(ni n),(ni 0),(ni 3)]⟩ b fun (p:Bool) o=>
 aa p
 (Ld (.st ea) ⟨c,0,none⟩ o fun q=>
 Ld kI (Addr.add ⟨c,0,none⟩ 0) o fun (r:Int)=>
 R (((q.1:Int)==r)&&((((q.2.1:Int)==(0:Int))&&((q.2.2.1:Int)==(0:Int)))&&((q.2.2.2.1:Int)==(0:Int)))) o)
 (R false o)))):Cl Pg [kB] iK ⟨[(.agg ⟨[(ni a.1),(ni a.2.1),(ni a.2.2.1),(ni a.2.2.2.1)]⟩)]⟩ w R:=co Tryz.f164 [] h
theorem xL.ok (a:(TT [.int .i64,.int .i64])) (b:Int) (c:Int) (R:(TT [.int .i64,.int .i64])→Bool→Bool→World→Prop) w (h:
 Nw 98 ⟨[(ni a.1),(ni a.2.1)]⟩ w fun e d=>
 Nw 98 ⟨[(ni 0),(ni 0)]⟩ d fun g f=>
 Ld (.st [.int .i64,.int .i64]) ⟨e,0,none⟩ f fun h=>
 Cl Pg [(.st [.int .i64,.int .i64]),kB,kI] jN ⟨[(.agg ⟨[(ni h.1),(ni h.2.1)]⟩),(.int .u8 b)]⟩ f fun j (k:Bool) (l:Int) i=>
 ae ⟨g,0,none⟩ [(ni j.1),(ni j.2.1)] 0 i fun m=>
 Ld (.st [.int .i64,.int .i64]) ⟨g,0,none⟩ m fun n=>
 aa (l==0)
 (Ld kI (Addr.add ⟨g,0,none⟩ 0) m fun (o:Int)=>
 aa (decide (o≤c))
 (aa (!k)
 (ae ⟨g,0,none⟩ [(ni n.1),(ni n.2.1)] 0 m fun p=>
 Ld (.st [.int .i64,.int .i64]) ⟨g,0,none⟩ p fun q=>
 R q k true p)
 (Ld kI (Addr.add ⟨g,0,none⟩ 0) m fun (r:Int)=>
 ae ⟨g,0,none⟩ [(ni n.1),(ni n.2.1)] 0 m fun s=>
 Ld (.st [.int .i64,.int .i64]) ⟨g,0,none⟩ s fun t=>
 R t k (decide (r>0)) s))
 (ae ⟨g,0,none⟩ [(ni n.1),(ni n.2.1)] 0 m fun u=>
 Ld (.st [.int .i64,.int .i64]) ⟨g,0,none⟩ u fun v=>
 R v k false u))
 (ae ⟨g,0,none⟩ [(ni n.1),(ni n.2.1)] 0 m fun x=>
 Ld (.st [.int .i64,.int .i64]) ⟨g,0,none⟩ x fun y=>
 R y k false x)):Cl Pg [(.st [.int .i64,.int .i64]),kB,kB] eV ⟨[(.agg ⟨[(ni a.1),(ni a.2.1)]⟩),(.int .u8 b),(ni c)]⟩ w R:=co Tryz.f165 [] h
theorem xZ.ok (a:Int) (b:(TT bG)) (c:Int) (R:(TT bG)→Bool→World→Prop) w (h:
 Nw 102 ⟨[(ni b.1),(ni b.2.1),(ni b.2.2.1),(ni b.2.2.2.1),(ni b.2.2.2.2.1),(.int .u32 b.2.2.2.2.2.1),(ni b.2.2.2.2.2.2.1)]⟩ w fun e d=>
 Nw 102 ⟨[(ni 0),(ni 0),(ni 0),(ni 0),(ni 0),(.int .u32 0),(ni 0)]⟩ d fun g f=>
 St (Addr.add ⟨e,0,none⟩ 0) (ni 1) f fun h=>
 aa (c==0)
 (St (Addr.add ⟨e,0,none⟩ 0) (ni 5) h fun i=>
 Ld (.st bG) ⟨e,0,none⟩ i fun j=>
 ae ⟨g,0,none⟩ [(ni j.1),(ni j.2.1),(ni j.2.2.1),(ni j.2.2.2.1),(ni j.2.2.2.2.1),(.int .u32 j.2.2.2.2.2.1),(ni j.2.2.2.2.2.2.1)] 0 i fun k=>
 Ld (.st bG) ⟨g,0,none⟩ k fun l=>
 R l (decide (c≤1)) k)
 (Ld (.st bG) ⟨e,0,none⟩ h fun m=>
 ae ⟨g,0,none⟩ [(ni m.1),(ni m.2.1),(ni m.2.2.1),(ni m.2.2.2.1),(ni m.2.2.2.2.1),(.int .u32 m.2.2.2.2.2.1),(ni m.2.2.2.2.2.2.1)] 0 h fun n=>
 Ld (.st bG) ⟨g,0,none⟩ n fun o=>
 R o (decide (c≤1)) n)):Cl Pg [(.st bG),kB] cT ⟨[(ni a),(.agg ⟨[(ni b.1),(ni b.2.1),(ni b.2.2.1),(ni b.2.2.2.1),(ni b.2.2.2.2.1),(.int .u32 b.2.2.2.2.2.1),(ni b.2.2.2.2.2.2.1)]⟩),(.int .u8 c)]⟩ w R:=co Tryz.f166 [] h
theorem xz.ok (a:Int) (b:(TT bG)) (c:Int) (R:(TT bG)→Bool→World→Prop) w (h:
 Nw 102 ⟨[(ni b.1),(ni b.2.1),(ni b.2.2.1),(ni b.2.2.2.1),(ni b.2.2.2.2.1),(.int .u32 b.2.2.2.2.2.1),(ni b.2.2.2.2.2.2.1)]⟩ w fun e d=>
 Nw 102 ⟨[(ni 0),(ni 0),(ni 0),(ni 0),(ni 0),(.int .u32 0),(ni 0)]⟩ d fun g f=>
 Ld (.st [.int .i64,.int .i64]) (Addr.add ⟨e,0,none⟩ 1) f fun h=>
 Cl Pg [(.st [.int .i64,.int .i64]),kB,kB] eV ⟨[(.agg ⟨[(ni h.1),(ni h.2.1)]⟩),(.int .u8 c),(ni a)]⟩ f fun j (k:Bool) (l:Bool) i=>
 Nw 98 ⟨[(ni 0),(ni 0)]⟩ i fun n m=>
 ae ⟨n,0,none⟩ [(ni j.1),(ni j.2.1)] 0 m fun o=>
 Ld (.st [.int .i64,.int .i64]) ⟨n,0,none⟩ o fun p=>
 ae (Addr.add ⟨e,0,none⟩ 1) [(ni p.1),(ni p.2.1)] 0 o fun q=>
 aa k
 (Ld kI (Addr.add ⟨n,0,none⟩ 0) q fun (r:Int)=>
 ae ⟨e,0,none⟩ [(ni 2),(ni 0),(ni 0),(ni r),(ni 0),(.int .u32 0),(ni 0)] 0 q fun s=>
 Ld (.st bG) ⟨e,0,none⟩ s fun t=>
 ae ⟨g,0,none⟩ [(ni t.1),(ni t.2.1),(ni t.2.2.1),(ni t.2.2.2.1),(ni t.2.2.2.2.1),(.int .u32 t.2.2.2.2.2.1),(ni t.2.2.2.2.2.2.1)] 0 s fun u=>
 Ld (.st bG) ⟨g,0,none⟩ u fun v=>
 R v l u)
 (Ld (.st bG) ⟨e,0,none⟩ q fun x=>
 ae ⟨g,0,none⟩ [(ni x.1),(ni x.2.1),(ni x.2.2.1),(ni x.2.2.2.1),(ni x.2.2.2.2.1),(.int .u32 x.2.2.2.2.2.1),(ni x.2.2.2.2.2.2.1)] 0 q fun y=>
 Ld (.st bG) ⟨g,0,none⟩ y fun z=>
 R z l y)):Cl Pg [(.st bG),kB] cV ⟨[(ni a),(.agg ⟨[(ni b.1),(ni b.2.1),(ni b.2.2.1),(ni b.2.2.2.1),(ni b.2.2.2.2.1),(.int .u32 b.2.2.2.2.2.1),(ni b.2.2.2.2.2.2.1)]⟩),(.int .u8 c)]⟩ w R:=co Tryz.f167 [] h
theorem wU.ok (a:Int) (b:(TT bG)) (c:Int) (R:(TT bG)→Bool→World→Prop) w (h:
 Nw 102 ⟨[(ni b.1),(ni b.2.1),(ni b.2.2.1),(ni b.2.2.2.1),(ni b.2.2.2.2.1),(.int .u32 b.2.2.2.2.2.1),(ni b.2.2.2.2.2.2.1)]⟩ w fun e d=>
 Nw 102 ⟨[(ni 0),(ni 0),(ni 0),(ni 0),(ni 0),(.int .u32 0),(ni 0)]⟩ d fun g f=>
 Ld (.st [.int .i64,.int .i64]) (Addr.add ⟨e,0,none⟩ 1) f fun h=>
 Ld kI ((Addr.add ⟨e,0,none⟩ 3).add 0) f fun (i:Int)=>
 Cl Pg [(.st [.int .i64,.int .i64]),kB,kB] eV ⟨[(.agg ⟨[(ni h.1),(ni h.2.1)]⟩),(.int .u8 c),(ni i)]⟩ f fun k (l:Bool) (m:Bool) j=>
 Nw 98 ⟨[(ni 0),(ni 0)]⟩ j fun o n=>
 ae ⟨o,0,none⟩ [(ni k.1),(ni k.2.1)] 0 n fun p=>
 Ld (.st [.int .i64,.int .i64]) ⟨o,0,none⟩ p fun q=>
 ae (Addr.add ⟨e,0,none⟩ 1) [(ni q.1),(ni q.2.1)] 0 p fun r=>
 aa l
 (Ld kI ((Addr.add ⟨e,0,none⟩ 3).add 0) r fun (s:Int)=>
 Ld kI (Addr.add ⟨o,0,none⟩ 0) r fun (t:Int)=>
 ae ⟨e,0,none⟩ [(ni 3),(ni 0),(ni 0),(ni s),(ni t),(.int .u32 0),(ni 0)] 0 r fun u=>
 Ld (.st bG) ⟨e,0,none⟩ u fun v=>
 ae ⟨g,0,none⟩ [(ni v.1),(ni v.2.1),(ni v.2.2.1),(ni v.2.2.2.1),(ni v.2.2.2.2.1),(.int .u32 v.2.2.2.2.2.1),(ni v.2.2.2.2.2.2.1)] 0 u fun x=>
 Ld (.st bG) ⟨g,0,none⟩ x fun y=>
 R y m x)
 (Ld (.st bG) ⟨e,0,none⟩ r fun z=>
 ae ⟨g,0,none⟩ [(ni z.1),(ni z.2.1),(ni z.2.2.1),(ni z.2.2.2.1),(ni z.2.2.2.2.1),(.int .u32 z.2.2.2.2.2.1),(ni z.2.2.2.2.2.2.1)] 0 r fun a1=>
 Ld (.st bG) ⟨g,0,none⟩ a1 fun b1=>
 R b1 m a1)):Cl Pg [(.st bG),kB] cH ⟨[(ni a),(.agg ⟨[(ni b.1),(ni b.2.1),(ni b.2.2.1),(ni b.2.2.2.1),(ni b.2.2.2.2.1),(.int .u32 b.2.2.2.2.2.1),(ni b.2.2.2.2.2.2.1)]⟩),(.int .u8 c)]⟩ w R:=co Tryz.f168 [] h
theorem zV.ok (a:Int) (b:(TT bG)) (c:Int) (R:(TT bG)→Bool→World→Prop) w (h:
 Nw 102 ⟨[(ni b.1),(ni b.2.1),(ni b.2.2.1),(ni b.2.2.2.1),(ni b.2.2.2.2.1),(.int .u32 b.2.2.2.2.2.1),(ni b.2.2.2.2.2.2.1)]⟩ w fun e d=>
 Nw 102 ⟨[(ni 0),(ni 0),(ni 0),(ni 0),(ni 0),(.int .u32 0),(ni 0)]⟩ d fun g f=>
 Ld (az .u32) ((Addr.add ⟨e,0,none⟩ 3).add 2) f fun (h:Int)=>
 0≤(8:Int)∧
 St ((Addr.add ⟨e,0,none⟩ 3).add 2) (.int .u32 (jv .u32 (a9 .u32 h (8:Int)) (u32 c))) f fun i=>
 Ld kI (Addr.add ⟨e,0,none⟩ 6) i fun (j:Int)=>
 St (Addr.add ⟨e,0,none⟩ 6) (ni (i64 (j+1))) i fun k=>
 Ld kI (Addr.add ⟨e,0,none⟩ 6) k fun (l:Int)=>
 aa (l==4)
 (Ld kI (Addr.add ⟨e,0,none⟩ 0) k fun (m:Int)=>
 St (Addr.add ⟨e,0,none⟩ 0) (ni (i64 (m+1))) k fun n=>
 Ld (.st bG) ⟨e,0,none⟩ n fun o=>
 ae ⟨g,0,none⟩ [(ni o.1),(ni o.2.1),(ni o.2.2.1),(ni o.2.2.2.1),(ni o.2.2.2.2.1),(.int .u32 o.2.2.2.2.2.1),(ni o.2.2.2.2.2.2.1)] 0 n fun p=>
 Ld (.st bG) ⟨g,0,none⟩ p fun q=>
 R q true p)
 (Ld (.st bG) ⟨e,0,none⟩ k fun r=>
 ae ⟨g,0,none⟩ [(ni r.1),(ni r.2.1),(ni r.2.2.1),(ni r.2.2.2.1),(ni r.2.2.2.2.1),(.int .u32 r.2.2.2.2.2.1),(ni r.2.2.2.2.2.2.1)] 0 k fun s=>
 Ld (.st bG) ⟨g,0,none⟩ s fun t=>
 R t true s)):Cl Pg [(.st bG),kB] bQ ⟨[(ni a),(.agg ⟨[(ni b.1),(ni b.2.1),(ni b.2.2.1),(ni b.2.2.2.1),(ni b.2.2.2.2.1),(.int .u32 b.2.2.2.2.2.1),(ni b.2.2.2.2.2.2.1)]⟩),(.int .u8 c)]⟩ w R:=co Tryz.f169 [] h
theorem qy.ok (a:Int) (b:(TT bG)) (R:Bool→World→Prop) w (h:
 Nw 102 ⟨[(ni b.1),(ni b.2.1),(ni b.2.2.1),(ni b.2.2.2.1),(ni b.2.2.2.2.1),(.int .u32 b.2.2.2.2.2.1),(ni b.2.2.2.2.2.2.1)]⟩ w fun d c=>
 Ld (.st [.int .i64,.int .i64,.int .u32]) (Addr.add ⟨d,0,none⟩ 3) c fun e=>
 Nw 25 ⟨[(ni 0),(ni 0),(.int .u32 0)]⟩ c fun g f=>
 ae ⟨g,0,none⟩ [(ni e.1),(ni e.2.1),(.int .u32 e.2.2.1)] 0 f fun h=>
 bg (fun (q:Bool) (r:World)=>
 Cl Pg [kB] bU ⟨[(ni a),(ni 1),(ni 65536)]⟩ r fun (t:Bool) s=>
 aa (!t)
 (R false s)
 (Ld kI (Addr.add ⟨d,0,none⟩ 0) s fun (u:Int)=>
 aa (u==0)
 (Ld (.st bG) ⟨d,0,none⟩ s fun v=>
 R (((v.1:Int)==(0:Int))&&((((v.2.1:Int)==(0:Int))&&((v.2.2.1:Int)==(0:Int)))&&((((v.2.2.2.1:Int)==(0:Int))&&(((v.2.2.2.2.1:Int)==(0:Int))&&((v.2.2.2.2.2.1:Int)==(0:Int))))&&((v.2.2.2.2.2.2.1:Int)==(0:Int))))) s)
 (aa (u==1)
 (Ld (.st [.int .i64,.int .i64]) (Addr.add ⟨d,0,none⟩ 1) s fun x=>
 Cl Pg [kB] ew ⟨[(.agg ⟨[(ni x.1),(ni x.2.1)]⟩),(ni a)]⟩ s fun (z:Bool) y=>
 aa z
 (Ld (.st bG) ⟨d,0,none⟩ y fun a1=>
 Ld (.st [.int .i64,.int .i64]) (Addr.add ⟨d,0,none⟩ 1) y fun b1=>
 R (((a1.1:Int)==(1:Int))&&((((a1.2.1:Int)==(b1.1:Int))&&((a1.2.2.1:Int)==(b1.2.1:Int)))&&((((a1.2.2.2.1:Int)==(0:Int))&&(((a1.2.2.2.2.1:Int)==(0:Int))&&((a1.2.2.2.2.2.1:Int)==(0:Int))))&&((a1.2.2.2.2.2.2.1:Int)==(0:Int))))) y)
 (R false y))
 (aa (u==2)
 (Ld kI (Addr.add ⟨g,0,none⟩ 0) s fun (c1:Int)=>
 Cl Pg [kB] bU ⟨[(ni c1),(ni 1),(ni a)]⟩ s fun (e1:Bool) d1=>
 aa e1
 (Ld (.st [.int .i64,.int .i64]) (Addr.add ⟨d,0,none⟩ 1) d1 fun f1=>
 Ld kI (Addr.add ⟨g,0,none⟩ 0) d1 fun (g1:Int)=>
 Cl Pg [kB] ew ⟨[(.agg ⟨[(ni f1.1),(ni f1.2.1)]⟩),(ni g1)]⟩ d1 fun (i1:Bool) h1=>
 aa i1
 (Ld (.st bG) ⟨d,0,none⟩ h1 fun j1=>
 Ld (.st [.int .i64,.int .i64]) (Addr.add ⟨d,0,none⟩ 1) h1 fun k1=>
 Ld kI (Addr.add ⟨g,0,none⟩ 0) h1 fun (l1:Int)=>
 R (((j1.1:Int)==(2:Int))&&((((j1.2.1:Int)==(k1.1:Int))&&((j1.2.2.1:Int)==(k1.2.1:Int)))&&((((j1.2.2.2.1:Int)==l1)&&(((j1.2.2.2.2.1:Int)==(0:Int))&&((j1.2.2.2.2.2.1:Int)==(0:Int))))&&((j1.2.2.2.2.2.2.1:Int)==(0:Int))))) h1)
 (R false h1))
 (R false d1))
 (aa (u==3)
 (aa q
 (Ld (az .u32) (Addr.add ⟨g,0,none⟩ 2) s fun (m1:Int)=>
 Ld kI (Addr.add ⟨d,0,none⟩ 6) s fun (n1:Int)=>
 Cl Pg [kB] gD ⟨[(.int .u32 m1),(ni n1)]⟩ s fun (p1:Bool) o1=>
 aa p1
 (Ld (.st [.int .i64,.int .i64]) (Addr.add ⟨d,0,none⟩ 1) o1 fun q1=>
 R (((q1.1:Int)==(0:Int))&&((q1.2.1:Int)==(0:Int))) o1)
 (R false o1))
 (R false s))
 (aa (u==4)
 (aa q
 (Ld (.st bG) ⟨d,0,none⟩ s fun r1=>
 Ld (.st [.int .i64,.int .i64,.int .u32]) ⟨g,0,none⟩ s fun s1=>
 R (((r1.1:Int)==(4:Int))&&((((r1.2.1:Int)==(0:Int))&&((r1.2.2.1:Int)==(0:Int)))&&((((r1.2.2.2.1:Int)==(s1.1:Int))&&(((r1.2.2.2.2.1:Int)==(s1.2.1:Int))&&((r1.2.2.2.2.2.1:Int)==(s1.2.2.1:Int))))&&((r1.2.2.2.2.2.2.1:Int)==(4:Int))))) s)
 (R false s))
 (aa (u==5)
 (Ld (az .u32) (Addr.add ⟨g,0,none⟩ 2) s fun (t1:Int)=>
 Ld kI (Addr.add ⟨d,0,none⟩ 6) s fun (u1:Int)=>
 Cl Pg [kB] gD ⟨[(.int .u32 t1),(ni u1)]⟩ s fun (x1:Bool) v1=>
 aa x1
 (Ld (.st bG) ⟨d,0,none⟩ v1 fun y1=>
 Ld (az .u32) (Addr.add ⟨g,0,none⟩ 2) v1 fun (z1:Int)=>
 Ld kI (Addr.add ⟨d,0,none⟩ 6) v1 fun (a2:Int)=>
 R (((y1.1:Int)==(5:Int))&&((((y1.2.1:Int)==(0:Int))&&((y1.2.2.1:Int)==(0:Int)))&&((((y1.2.2.2.1:Int)==(0:Int))&&(((y1.2.2.2.2.1:Int)==(0:Int))&&((y1.2.2.2.2.2.1:Int)==z1)))&&((y1.2.2.2.2.2.2.1:Int)==a2)))) v1)
 (R false v1))
 (aa (u==6)
 (Ld (.st bG) ⟨d,0,none⟩ s fun b2=>
 Ld (az .u32) (Addr.add ⟨g,0,none⟩ 2) s fun (c2:Int)=>
 R (((b2.1:Int)==(6:Int))&&((((b2.2.1:Int)==(0:Int))&&((b2.2.2.1:Int)==(0:Int)))&&((((b2.2.2.2.1:Int)==(0:Int))&&(((b2.2.2.2.2.1:Int)==(0:Int))&&((b2.2.2.2.2.2.1:Int)==c2)))&&((b2.2.2.2.2.2.2.1:Int)==(4:Int))))) s)
 (R false s))))))))) fun i=>
 Ld kI (Addr.add ⟨g,0,none⟩ 0) h fun (j:Int)=>
 Cl Pg [kB] bU ⟨[(ni j),(ni 1),(ni a)]⟩ h fun (l:Bool) k=>
 aa l
 (Ld kI (Addr.add ⟨g,0,none⟩ 1) k fun (m:Int)=>
 Ld kI (Addr.add ⟨g,0,none⟩ 0) k fun (n:Int)=>
 Cl Pg [kB] bU ⟨[(ni m),(ni 1),(ni n)]⟩ k fun (p:Bool) o=>
 i p o)
 (i false k)):Cl Pg [kB] fG ⟨[(ni a),(.agg ⟨[(ni b.1),(ni b.2.1),(ni b.2.2.1),(ni b.2.2.2.1),(ni b.2.2.2.2.1),(.int .u32 b.2.2.2.2.2.1),(ni b.2.2.2.2.2.2.1)]⟩)]⟩ w R:=co Tryz.f170 [(4,[(6,kB)])] h
theorem ug.ok (a:Int) (b:Int) (c:Int) (R:Bool→World→Prop) w (h:
 aa (decide (a≥b))
 (R (decide (a≤c)) w)
 (R false w)):Cl Pg [kB] bU ⟨[(ni a),(ni b),(ni c)]⟩ w R:=co Tryz.f199 [] h
theorem uN.ok (a:(TT [.int .i64,.int .i64])) (b:Int) (R:Bool→World→Prop) w (h:
 Nw 98 ⟨[(ni a.1),(ni a.2.1)]⟩ w fun d c=>
 Ld (.st [.int .i64,.int .i64]) ⟨d,0,none⟩ c fun e=>
 Cl Pg [kB] fZ ⟨[(.agg ⟨[(ni e.1),(ni e.2.1)]⟩)]⟩ c fun (g:Bool) f=>
 aa g
 (Ld kI (Addr.add ⟨d,0,none⟩ 0) f fun (h:Int)=>
 R (decide (h≤b)) f)
 (R false f)):Cl Pg [kB] ew ⟨[(.agg ⟨[(ni a.1),(ni a.2.1)]⟩),(ni b)]⟩ w R:=co Tryz.f228 [] h
theorem ye.ok (a:Int) (b:Int) (R:Bool→World→Prop) w (h:
 Cl Pg [kB] bU ⟨[(ni b),(ni 0),(ni 3)]⟩ w fun (d:Bool) c=>
 aa d
 (0≤(i64 ((8:Int)*b))∧
 R ((cn .u64 (u64 a) (i64 ((8:Int)*b)))==0) c)
 (R false c)):Cl Pg [kB] gD ⟨[(.int .u32 a),(ni b)]⟩ w R:=co Tryz.f230 [] h
end Go.Proofs.YtgglghjnakclmaaGreat
namespace Go.Proofs.YtgglghjnakclmaaGreat
open Go Go.Vc
set_option maxRecDepth 100000
theorem xQ.ok (a:(TT [.int .i64,.int .i64])) (b:Int) (R:(TT [.int .i64,.int .i64])→Bool→Int→World→Prop) w (h:
 Nw 98 ⟨[(ni a.1),(ni a.2.1)]⟩ w fun d c=>
 Nw 98 ⟨[(ni 0),(ni 0)]⟩ c fun f e=>
 Ld kI (Addr.add ⟨d,0,none⟩ 0) e fun (g:Int)=>
 0≤(7:Int)∧
 bg (fun (h1:World)=>
 Ld kI (Addr.add ⟨d,0,none⟩ 1) h1 fun (i1:Int)=>
 ae ⟨f,0,none⟩ [(ni (jv .i64 (a9 .i64 g (7:Int)) (i64 (cL .u8 b 127)))),(ni (i64 (i1+1)))] 0 h1 fun j1=>
 Ld (.st [.int .i64,.int .i64]) ⟨f,0,none⟩ j1 fun k1=>
 R k1 (decide (b<128)) 0 j1) fun h=>
 Ld (.st [.int .i64,.int .i64]) ⟨d,0,none⟩ e fun i=>
 Cl Pg [kB] fZ ⟨[(.agg ⟨[(ni i.1),(ni i.2.1)]⟩)]⟩ e fun (k:Bool) j=>
 aa (!k)
 (Ld (.st [.int .i64,.int .i64]) ⟨f,0,none⟩ j fun l=>
 ae ⟨f,0,none⟩ [(ni l.1),(ni l.2.1)] 0 j fun m=>
 Ld (.st [.int .i64,.int .i64]) ⟨f,0,none⟩ m fun n=>
 R n false 2 m)
 (aa (b==128)
 (Ld kI (Addr.add ⟨d,0,none⟩ 1) j fun (o:Int)=>
 aa (o==0)
 (Ld (.st [.int .i64,.int .i64]) ⟨f,0,none⟩ j fun p=>
 ae ⟨f,0,none⟩ [(ni p.1),(ni p.2.1)] 0 j fun q=>
 Ld (.st [.int .i64,.int .i64]) ⟨f,0,none⟩ q fun r=>
 R r false 51 q)
 (aa (decide ((jv .i64 (a9 .i64 g (7:Int)) (i64 (cL .u8 b 127)))>2147483647))
 (Ld (.st [.int .i64,.int .i64]) ⟨f,0,none⟩ j fun s=>
 ae ⟨f,0,none⟩ [(ni s.1),(ni s.2.1)] 0 j fun t=>
 Ld (.st [.int .i64,.int .i64]) ⟨f,0,none⟩ t fun u=>
 R u false 52 t)
 (Ld kI (Addr.add ⟨d,0,none⟩ 1) j fun (v:Int)=>
 aa (v==4)
 (aa (decide (b≥128))
 (Ld (.st [.int .i64,.int .i64]) ⟨f,0,none⟩ j fun x=>
 ae ⟨f,0,none⟩ [(ni x.1),(ni x.2.1)] 0 j fun y=>
 Ld (.st [.int .i64,.int .i64]) ⟨f,0,none⟩ y fun z=>
 R z false 52 y)
 (h j))
 (h j))))
 (aa (decide ((jv .i64 (a9 .i64 g (7:Int)) (i64 (cL .u8 b 127)))>2147483647))
 (Ld (.st [.int .i64,.int .i64]) ⟨f,0,none⟩ j fun a1=>
 ae ⟨f,0,none⟩ [(ni a1.1),(ni a1.2.1)] 0 j fun b1=>
 Ld (.st [.int .i64,.int .i64]) ⟨f,0,none⟩ b1 fun c1=>
 R c1 false 52 b1)
 (Ld kI (Addr.add ⟨d,0,none⟩ 1) j fun (d1:Int)=>
 aa (d1==4)
 (aa (decide (b≥128))
 (Ld (.st [.int .i64,.int .i64]) ⟨f,0,none⟩ j fun e1=>
 ae ⟨f,0,none⟩ [(ni e1.1),(ni e1.2.1)] 0 j fun f1=>
 Ld (.st [.int .i64,.int .i64]) ⟨f,0,none⟩ f1 fun g1=>
 R g1 false 52 f1)
 (h j))
 (h j))))):Cl Pg [(.st [.int .i64,.int .i64]),kB,kI] jN ⟨[(.agg ⟨[(ni a.1),(ni a.2.1)]⟩),(.int .u8 b)]⟩ w R:=co Tryz.f229 [(4,[])] h
theorem vL.ok (a:(TT [.int .i64,.int .i64])) (R:Bool→World→Prop) w (h:
 Nw 98 ⟨[(ni a.1),(ni a.2.1)]⟩ w fun c b=>
 Ld kI (Addr.add ⟨c,0,none⟩ 1) b fun (d:Int)=>
 aa (decide (d<1))
 (Ld (.st [.int .i64,.int .i64]) ⟨c,0,none⟩ b fun e=>
 R (((e.1:Int)==(0:Int))&&((e.2.1:Int)==(0:Int))) b)
 (Ld kI (Addr.add ⟨c,0,none⟩ 1) b fun (f:Int)=>
 aa (decide (f>4))
 (Ld (.st [.int .i64,.int .i64]) ⟨c,0,none⟩ b fun g=>
 R (((g.1:Int)==(0:Int))&&((g.2.1:Int)==(0:Int))) b)
 (ah b fun h=>
 Ld kI (Addr.add ⟨c,0,none⟩ 0) h fun (i:Int)=>
 Ld kI (Addr.add ⟨c,0,none⟩ 1) h fun (j:Int)=>
 0≤(i64 ((7:Int)*(i64 (j - 1))))∧
 aa (decide (i≥(a9 .i64 (1:Int) (i64 ((7:Int)*(i64 (j - 1)))))))
 (Ld kI (Addr.add ⟨c,0,none⟩ 0) h fun (k:Int)=>
 Ld kI (Addr.add ⟨c,0,none⟩ 1) h fun (l:Int)=>
 0≤(i64 ((7:Int)*l))∧
 R (decide (k<(a9 .i64 (1:Int) (i64 ((7:Int)*l))))) h)
 (R false h)))):Cl Pg [kB] fZ ⟨[(.agg ⟨[(ni a.1),(ni a.2.1)]⟩)]⟩ w R:=co Tryz.f289 [] h
end Go.Proofs.YtgglghjnakclmaaGreat
set_option maxRecDepth 20000
namespace Go.Srt
def vm (v:Nat):Nat:=if v=0 then 0 else if v<128 then 1 else if v<16384 then 2 else if v<2097152 then 3 else 4
theorem FV {v c:Nat} (hv:v≤65536) (hc:128≤c) (hc2:c<256) (h0: ¬(v=0∧c=128)):vm v+1=vm (128*v+c % 128):=by
 unfold vm
 repeat' split
 all_goals omega
theorem vi {v:Nat} (hv:v≤65536):(v=0∧vm v=0)∨(1≤v∧v<128∧vm v=1)∨(128≤v∧v<16384∧vm v=2)∨(16384≤v∧v<2097152∧vm v=3):=by
 unfold vm
 repeat' split
 all_goals omega
theorem IU {v:Nat} (hv:v≤65536):vm v≤3∧(vm v=0↔v=0):=by
 have:=vi hv
 omega
end Go.Srt
namespace Go.Vc
theorem IA {v c:Nat} (hv:v≤65536) (hc:c<256):jv .i64 (a9 .i64 (v:Int) 7) (i64 (cL .u8 (c:Int) 127))=((128*v+c % 128:Nat):Int):=by
 have hmx:IntKind.max .i64=9223372036854775807:=rfl
 have hm8:IntKind.max .u8=255:=rfl
 have e1:a9 .i64 (v:Int) 7=((v*128:Nat):Int):=by
  have:=cW (k:= .i64) (a:=v) (b:=7) (by decide) (by rw [hmx];omega)
  simpa using this
 have e2:cL .u8 (c:Int) 127=((c % 128:Nat):Int):=by
  have:=kG (k:= .u8) (a:=c) (b:=127) (by rw [hm8];omega) (by rw [hm8];omega)
  rw [show c&&&127=c % 128 from Nat.and_two_pow_sub_one_eq_mod c 7] at this
  simpa using this
 have e3:v*128|||c % 128=128*v+c % 128:=by
  rw [Nat.mul_comm v 128]
  exact (Nat.two_pow_add_eq_or_of_lt (i:=7) (by omega) v).symm
 rw [e1,e2,aj (by omega),oZ (by rw [hmx];omega) (by rw [hmx];omega) (by rw [e3,hmx];omega),e3]
end Go.Vc
namespace Go.Proofs.YtgglghjnakclmaaGreat
open Go Go.Vc Go.Srt
section
variable {E w:World} {F:List HP}
theorem vp {v:Nat} {K:Bool→World→Prop} (h:Hp E w F) (hv:v≤65536) (hK: ∀w',Hp E w' F→K true w'):
  Cl Tryz.prog [kB] fZ ⟨[.agg ⟨[.int .i64 (v:Int),.int .i64 (vm v:Int)]⟩]⟩ w K:=by
 refine vL.ok ((v:Int),(vm v:Int),()) _ _ ?_
 (try simp only [au,ak,al,Nat.zero_add,Nat.add_zero,Nat.reduceAdd,Bool.not_true,Bool.not_false,aH,aE,Option.isNone])
 (with_reducible repeat first|refine Nw.mk h fun b w h=> ?_|refine ah.mk h fun w h=> ?_|refine Ld.xb h rfl ?_|refine Ld.xt h rfl ?_|refine ad.xb (fun _ h=>h) rfl ?_|refine ad.xt (fun _ h=>h) rfl ?_|refine ⟨h.hb,?_⟩|refine ae.xw h rfl rfl fun w h=> ?_|(refine ae.xs h rfl rfl fun w h=> ?_;dsimp only [af,ab] at h)|(refine St.xs h rfl rfl fun w h=> ?_;dsimp only [af,ab] at h)|refine aa.yes ?_|refine aa.no ?_|refine ⟨by first|omega|decide,?_⟩)
 rcases vi hv with ⟨h1,h2⟩|⟨h0,h1,h2⟩|⟨h0,h1,h2⟩|⟨h0,h1,h2⟩
 all_goals rw [h2] at h⊢
 ·subst h1
  (with_reducible repeat first|refine Nw.mk h fun b w h=> ?_|refine ah.mk h fun w h=> ?_|refine Ld.xb h rfl ?_|refine Ld.xt h rfl ?_|refine ad.xb (fun _ h=>h) rfl ?_|refine ad.xt (fun _ h=>h) rfl ?_|refine ⟨h.hb,?_⟩|refine ae.xw h rfl rfl fun w h=> ?_|(refine ae.xs h rfl rfl fun w h=> ?_;dsimp only [af,ab] at h)|(refine St.xs h rfl rfl fun w h=> ?_;dsimp only [af,ab] at h)|refine aa.yes ?_|refine aa.no ?_|refine ⟨by first|omega|decide,?_⟩)
  exact hK _ h.tl
 all_goals
  (with_reducible repeat first|refine Nw.mk h fun b w h=> ?_|refine ah.mk h fun w h=> ?_|refine Ld.xb h rfl ?_|refine Ld.xt h rfl ?_|refine ad.xb (fun _ h=>h) rfl ?_|refine ad.xt (fun _ h=>h) rfl ?_|refine ⟨h.hb,?_⟩|refine ae.xw h rfl rfl fun w h=> ?_|(refine ae.xs h rfl rfl fun w h=> ?_;dsimp only [af,ab] at h)|(refine St.xs h rfl rfl fun w h=> ?_;dsimp only [af,ab] at h)|refine aa.yes ?_|refine aa.no ?_|refine ⟨by first|omega|decide,?_⟩)
  refine aa.dt ?_ ?_
  ·first
   |rw [show a9 .i64 1 (i64 (7*i64 (((1:Nat):Int) - 1)))=1 by decide];omega
   |rw [show a9 .i64 1 (i64 (7*i64 (((2:Nat):Int) - 1)))=128 by decide];omega
   |rw [show a9 .i64 1 (i64 (7*i64 (((3:Nat):Int) - 1)))=16384 by decide];omega
  (with_reducible repeat first|refine Nw.mk h fun b w h=> ?_|refine ah.mk h fun w h=> ?_|refine Ld.xb h rfl ?_|refine Ld.xt h rfl ?_|refine ad.xb (fun _ h=>h) rfl ?_|refine ad.xt (fun _ h=>h) rfl ?_|refine ⟨h.hb,?_⟩|refine ae.xw h rfl rfl fun w h=> ?_|(refine ae.xs h rfl rfl fun w h=> ?_;dsimp only [af,ab] at h)|(refine St.xs h rfl rfl fun w h=> ?_;dsimp only [af,ab] at h)|refine aa.yes ?_|refine aa.no ?_|refine ⟨by first|omega|decide,?_⟩)
  refine dw ?_ (hK _ h.tl)
  refine decide_eq_true ?_
  first
   |rw [show a9 .i64 1 (i64 (7*((1:Nat):Int)))=128 by decide];omega
   |rw [show a9 .i64 1 (i64 (7*((2:Nat):Int)))=16384 by decide];omega
   |rw [show a9 .i64 1 (i64 (7*((3:Nat):Int)))=2097152 by decide];omega
theorem FQ {v c:Nat} {K:Int×Int×Unit→Bool→Int→World→Prop} (h:Hp E w F) (hv:v≤65536) (hc:c<256)
  (hbad:v=0∧c=128→∀w',Hp E w' F→K (0,0,()) false 51 w')
  (hK: ¬(v=0∧c=128)→∀w',Hp E w' F→K (((128*v+c % 128:Nat):Int),((vm v+1:Nat):Int),()) (decide (c<128)) 0 w'):
  Cl Tryz.prog [.st [.int .i64,.int .i64],kB,kI] jN ⟨[.agg ⟨[.int .i64 (v:Int),.int .i64 (vm v:Int)]⟩,.int .u8 (c:Int)]⟩ w K:=by
 refine xQ.ok ((v:Int),(vm v:Int),()) _ _ _ ?_
 (try simp only [au,ak,al,Nat.zero_add,Nat.add_zero,Nat.reduceAdd,Bool.not_true,Bool.not_false,aH,aE,Option.isNone])
 (with_reducible repeat first|refine Nw.mk h fun b w h=> ?_|refine ah.mk h fun w h=> ?_|refine Ld.xb h rfl ?_|refine Ld.xt h rfl ?_|refine ad.xb (fun _ h=>h) rfl ?_|refine ad.xt (fun _ h=>h) rfl ?_|refine ⟨h.hb,?_⟩|refine ae.xw h rfl rfl fun w h=> ?_|(refine ae.xs h rfl rfl fun w h=> ?_;dsimp only [af,ab] at h)|(refine St.xs h rfl rfl fun w h=> ?_;dsimp only [af,ab] at h)|refine aa.yes ?_|refine aa.no ?_|refine ⟨by first|omega|decide,?_⟩)
 refine vp h hv fun w h=> ?_
 (try simp only [au,ak,al,Nat.zero_add,Nat.add_zero,Nat.reduceAdd,Bool.not_true,Bool.not_false,aH,aE,Option.isNone])
 rw [IA hv hc]
 have hvm:=IU hv
 have fin: ∀w,¬(v=0∧c=128)→Hp E w F→K (((128*v+c % 128:Nat):Int),i64 ((vm v:Int)+1),()) (decide ((c:Int)<128)) 0 w:=fun w hn h=>by
  have:=hK hn w h
  rw [aj (by omega)]
  rw [show ((vm v+1:Nat):Int)=(vm v:Int)+1 from rfl] at this
  rwa [show decide ((c:Int)<128)=decide (c<128) from decide_eq_decide.2 (by omega)]
 (first|refine aa.dm (fun hb=> ?_) (fun hb=> ?_)|refine aa.em (fun hb=> ?_) (fun hb=> ?_)|refine aa.nm (fun hb=> ?_) (fun hb=> ?_)|refine aa.mk (fun hb=> ?_) (fun hb=> ?_))
 ·(with_reducible repeat first|refine Nw.mk h fun b w h=> ?_|refine ah.mk h fun w h=> ?_|refine Ld.xb h rfl ?_|refine Ld.xt h rfl ?_|refine ad.xb (fun _ h=>h) rfl ?_|refine ad.xt (fun _ h=>h) rfl ?_|refine ⟨h.hb,?_⟩|refine ae.xw h rfl rfl fun w h=> ?_|(refine ae.xs h rfl rfl fun w h=> ?_;dsimp only [af,ab] at h)|(refine St.xs h rfl rfl fun w h=> ?_;dsimp only [af,ab] at h)|refine aa.yes ?_|refine aa.no ?_|refine ⟨by first|omega|decide,?_⟩)
  (first|refine aa.dm (fun hb=> ?_) (fun hb=> ?_)|refine aa.em (fun hb=> ?_) (fun hb=> ?_)|refine aa.nm (fun hb=> ?_) (fun hb=> ?_)|refine aa.mk (fun hb=> ?_) (fun hb=> ?_))
  ·(with_reducible repeat first|refine Nw.mk h fun b w h=> ?_|refine ah.mk h fun w h=> ?_|refine Ld.xb h rfl ?_|refine Ld.xt h rfl ?_|refine ad.xb (fun _ h=>h) rfl ?_|refine ad.xt (fun _ h=>h) rfl ?_|refine ⟨h.hb,?_⟩|refine ae.xw h rfl rfl fun w h=> ?_|(refine ae.xs h rfl rfl fun w h=> ?_;dsimp only [af,ab] at h)|(refine St.xs h rfl rfl fun w h=> ?_;dsimp only [af,ab] at h)|refine aa.yes ?_|refine aa.no ?_|refine ⟨by first|omega|decide,?_⟩)
   exact hbad (by omega) _ h.tl
  ·(with_reducible repeat first|refine Nw.mk h fun b w h=> ?_|refine ah.mk h fun w h=> ?_|refine Ld.xb h rfl ?_|refine Ld.xt h rfl ?_|refine ad.xb (fun _ h=>h) rfl ?_|refine ad.xt (fun _ h=>h) rfl ?_|refine ⟨h.hb,?_⟩|refine ae.xw h rfl rfl fun w h=> ?_|(refine ae.xs h rfl rfl fun w h=> ?_;dsimp only [af,ab] at h)|(refine St.xs h rfl rfl fun w h=> ?_;dsimp only [af,ab] at h)|refine aa.yes ?_|refine aa.no ?_|refine ⟨by first|omega|decide,?_⟩)
   exact fin _ (by omega) h.tl
 ·(with_reducible repeat first|refine Nw.mk h fun b w h=> ?_|refine ah.mk h fun w h=> ?_|refine Ld.xb h rfl ?_|refine Ld.xt h rfl ?_|refine ad.xb (fun _ h=>h) rfl ?_|refine ad.xt (fun _ h=>h) rfl ?_|refine ⟨h.hb,?_⟩|refine ae.xw h rfl rfl fun w h=> ?_|(refine ae.xs h rfl rfl fun w h=> ?_;dsimp only [af,ab] at h)|(refine St.xs h rfl rfl fun w h=> ?_;dsimp only [af,ab] at h)|refine aa.yes ?_|refine aa.no ?_|refine ⟨by first|omega|decide,?_⟩)
  exact fin _ (by omega) h.tl
end
end Go.Proofs.YtgglghjnakclmaaGreat
set_option maxRecDepth 20000
namespace Go.Rk
section
variable {α:Type} {lt:α→α→Bool}
structure SO (lt:α→α→Bool):Prop where
 irr: ∀a,lt a a=false
 trans: ∀a b c,lt a b=true→lt b c=true→lt a c=true
 ntrans: ∀a b c,lt a b=false→lt b c=false→lt a c=false
theorem SO.HO (h:SO lt) {a b:α} (hab:lt a b=true):lt b a=false:=by
 cases hb:lt b a with
 |false=>rfl
 |true=>have:=h.trans _ _ _ hab hb;rw [h.irr] at this;cases this
theorem tG {p q:α→Bool}: ∀{l:List α},(∀z∈l,p z=true→q z=true)→(∃x,x∈l∧q x=true∧p x=false)→l.countP p<l.countP q
 | [],_,⟨x,hx,_⟩=>by cases hx
 |a::l,h,⟨x,hx,hq,hp⟩=>by
  have hle:l.countP p≤l.countP q:=List.countP_mono_left fun z hz=>h z (List.mem_cons_of_mem _ hz)
  rw [List.countP_cons,List.countP_cons]
  rcases List.mem_cons.1 hx with rfl|hx
  ·rw [hq,hp];simp;omega
  ·have ih:=tG (fun z hz=>h z (List.mem_cons_of_mem _ hz)) ⟨x,hx,hq,hp⟩
   cases hpa:p a with
   |false=>simp;split<;>omega
   |true=>rw [h a (by simp) hpa];simp;omega
theorem iS (h:SO lt): ∀{S:List α},S.Pairwise (fun a b=>lt a b=true)→∀(j:Nat) (hj:j<S.length),S.countP (fun x=>lt x S[j])=j
 | [],_,j,hj=>by simp at hj
 |a::S,hp,0,_=>by
  rw [List.pairwise_cons] at hp
  rw [List.countP_cons,List.getElem_cons_zero,h.irr,List.countP_eq_zero.2 fun x hx=>by rw [h.HO (hp.1 x hx)];decide]
  rfl
 |a::S,hp,j+1,hj=>by
  rw [List.pairwise_cons] at hp
  have hj':j<S.length:=by simpa using hj
  rw [List.countP_cons,List.getElem_cons_succ,iS h hp.2 j hj',hp.1 _ (List.getElem_mem hj')]
  rfl
theorem sw (h:SO lt) {S:List α} (hp:S.Pairwise (fun a b=>lt a b=true)) {x:α} (hx:x∈S): ∃hj:S.countP (fun y=>lt y x)<S.length,S[S.countP (fun y=>lt y x)]=x:=by
 obtain ⟨j,hj,rfl⟩:=List.getElem_of_mem hx
 have:=iS h hp j hj
 exact ⟨by omega,by simp only [this]⟩
theorem tY (h:SO lt) {S T:List α} (hpm:S.Perm T) (hS:S.Pairwise (fun a b=>lt a b=true)) (hT:T.Pairwise (fun a b=>lt a b=true)):S=T:=by
 apply List.ext_getElem hpm.length_eq
 intro r h1 h3
 have hr:=iS h hS r h1
 rw [hpm.countP_eq] at hr
 obtain ⟨h4,h5⟩:=sw h hT (hpm.mem_iff.1 (List.getElem_mem h1))
 rw [←h5]
 simp only [hr]
def rk (lt:α→α→Bool) (dom:List α) (x:α):Nat:=dom.countP fun y=>lt y x
theorem EX (h:SO lt) {dom:List α} {x y:α} (hx:x∈dom) (hl:lt x y=true):rk lt dom x<rk lt dom y:=
 tG (fun _ _ hz=>h.trans _ _ _ hz hl) ⟨x,hx,hl,h.irr x⟩
def yO (lt:α→α→Bool) (dom:List α):Prop:= ∀x∈dom,∀y∈dom,x≠y→lt x y=true∨lt y x=true
theorem Hl (h:SO lt) {dom:List α} (ht:yO lt dom) {x y:α} (hx:x∈dom) (hy:y∈dom) (he:rk lt dom x=rk lt dom y):x=y:=by
 by_cases e:x=y
 ·exact e
 ·rcases ht x hx y hy e with h1|h1
  ·have:=EX h hx h1;omega
  ·have:=EX h hy h1;omega
def p7 (lt:α→α→Bool) (dom:List α):List α:=dom.mergeSort fun a b=> !lt b a
theorem dX (dom:List α):(p7 lt dom).Perm dom:=List.mergeSort_perm ..
theorem zt (dom:List α):(p7 lt dom).length=dom.length:=(dX dom).length_eq
theorem nA (h:SO lt) {dom:List α} (hn:dom.Nodup) (ht:yO lt dom):(p7 lt dom).Pairwise fun a b=>lt a b=true:=by
 have h1:=List.pairwise_mergeSort (le:=fun a b=> !lt b a) (fun a b c h1 h2=>by
   simp only [Bool.not_eq_true'] at*;exact h.ntrans _ _ _ h2 h1) (fun a b=>by
   cases hab:lt a b with
   |true=>simp [h.HO hab]
   |false=>simp) dom
 have h2:(p7 lt dom).Nodup:=(dX dom).nodup_iff.2 hn
 have h3:(p7 lt dom).Pairwise fun a b=>a∈dom∧b∈dom:=List.Pairwise.imp_of_mem (fun {a b} ha hb _=>⟨(dX dom).mem_iff.1 ha,(dX dom).mem_iff.1 hb⟩) h2
 exact ((h1.and h2).and h3).imp fun {a b} hh=>by
  rcases ht a hh.2.1 b hh.2.2 hh.1.2 with h4|h4
  ·exact h4
  ·have:=hh.1.1;simp [h4] at this
theorem BG (h:SO lt) {dom:List α} (hn:dom.Nodup) (ht:yO lt dom) {x:α} (hx:x∈dom): ∃hj:rk lt dom x<(p7 lt dom).length,(p7 lt dom)[rk lt dom x]=x:=by
 have:=sw h (nA h hn ht) ((dX dom).mem_iff.2 hx)
 rw [(dX dom).countP_eq] at this
 exact this
theorem Iw (h:SO lt) {dom:List α} (hn:dom.Nodup) (ht:yO lt dom) {r:Nat} (hr:r<(p7 lt dom).length):rk lt dom (p7 lt dom)[r]=r:=by
 have:=iS h (nA h hn ht) r hr
 rwa [(dX dom).countP_eq] at this
theorem A4 (h:SO lt) {dom:List α} (hn:dom.Nodup) (ht:yO lt dom) {x:α} (hx:x∈dom):rk lt dom x<dom.length:=by
 obtain ⟨hj,_⟩:=BG h hn ht hx
 rwa [zt] at hj
end
end Go.Rk
set_option maxRecDepth 20000
namespace Go.Inc
inductive vA (σ β ε:Type) where
 |more (s:σ)|fin (b:β)|bad (e:ε)
inductive Ia (α σ β ε:Type) where
 |short (s:σ)|fin (b:β) (rest:List α)|bad (e:ε)
def run {α σ β ε:Type} (f:σ→α→vA σ β ε):σ→List α→Ia α σ β ε
 |s,[]=> .short s
 |s,c::l=>match f s c with
  | .more s'=>run f s' l
  | .fin b=> .fin b l
  | .bad e=> .bad e
section
variable {α σ β ε:Type} {f:σ→α→vA σ β ε}
theorem sr (s:σ):run f s []= .short s:=rfl
theorem eP (s:σ) (c:α) (l:List α):run f s (c::l)=match f s c with
  | .more s'=>run f s' l
  | .fin b=> .fin b l
  | .bad e=> .bad e:=rfl
theorem cG {s s':σ} {c:α} {l:List α} (h:f s c= .more s'):run f s (c::l)=run f s' l:=by rw [eP,h]
theorem sy {s:σ} {b:β} {c:α} {l:List α} (h:f s c= .fin b):run f s (c::l)= .fin b l:=by rw [eP,h]
theorem yU: ∀(a:List α) (s:σ) (l:List α),run f s (a++l)=match run f s a with
  | .short s'=>run f s' l
  | .fin b r=> .fin b (r++l)
  | .bad e=> .bad e
 | [],s,l=>rfl
 |c::a,s,l=>by
  rw [List.cons_append,eP,eP]
  cases f s c with
  |more s'=>exact yU a s' l
  |fin b=>rfl
  |bad e=>rfl
theorem hJ {s s':σ} {a:List α} (h:run f s a= .short s') (l:List α):run f s (a++l)=run f s' l:=by rw [yU,h]
theorem tg: ∀{l:List α} {s:σ} {b:β} {r:List α},run f s l= .fin b r→∃a c s',l=a++c::r∧run f s a= .short s'∧f s' c= .fin b
 | [],s,b,r,h=>by cases h
 |c::l,s,b,r,h=>by
  rw [eP] at h
  cases hc:f s c with
  |more s'=>
   rw [hc] at h
   obtain ⟨a,c',s'',rfl,h1,h2⟩:=tg h
   exact ⟨c::a,c',s'',rfl,by rw [cG hc,h1],h2⟩
  |fin b'=>
   rw [hc] at h
   cases h
   exact ⟨[],c,s,rfl,rfl,hc⟩
  |bad e=>rw [hc] at h;cases h
end
end Go.Inc
set_option maxRecDepth 20000
namespace Go.Hd
open Go.Inc
def lL (n:Nat):List Nat:=if _h:n=0 then [] else lL (n/128)++ [128+n % 128]
termination_by n
decreasing_by omega
def fm (n:Nat):List Nat:=lL (n/128)++ [n % 128]
theorem gY:lL 0= []:=by rw [lL];simp
theorem ku {n:Nat} (h:0<n):lL n=lL (n/128)++ [128+n % 128]:=by rw [lL,dif_neg (by omega)]
theorem I9 (n:Nat): ∀x∈lL n,x<256:=by
 induction n using Nat.strongRecOn with
 |ind n ih=>
  rcases Nat.eq_zero_or_pos n with e|e
  ·rw [e,gY];simp
  ·rw [ku e]
   intro x hx
   rcases List.mem_append.1 hx with h|h
   ·exact ih (n/128) (by omega) x h
   ·rw [List.mem_singleton] at h;omega
theorem xi (n:Nat): ∀x∈fm n,x<256:=by
 intro x hx
 rcases List.mem_append.1 hx with h|h
 ·exact I9 _ x h
 ·rw [List.mem_singleton] at h;omega
def grow (most v c:Nat):Option (Nat×Bool):=
 if v=0∧c=128 then none else
 if 128*v+c % 128≤most∧(c<128→0<128*v+c % 128) then some (128*v+c % 128,decide (c<128)) else none
theorem sO {most n:Nat} (h0:0<n) (h:n≤most):grow most (n/128) (128+n % 128)=some (n,false):=by
 unfold grow
 have e:128*(n/128)+(128+n % 128) % 128=n:=by omega
 rw [if_neg (by omega),e,if_pos ⟨h,fun _=>h0⟩,decide_eq_false (by omega)]
theorem qb {most n:Nat} (h0:0<n) (h:n≤most):grow most (n/128) (n % 128)=some (n,true):=by
 unfold grow
 have e:128*(n/128)+n % 128 % 128=n:=by omega
 rw [if_neg (by omega),e,if_pos ⟨h,fun _=>h0⟩,decide_eq_true (by omega)]
theorem gf {most v c n:Nat} {d:Bool} (hc:c<256) (h:grow most v c=some (n,d)):n≤most∧0<n∧n=128*v+c % 128∧d=decide (c<128):=by
 unfold grow at h
 split at h
 ·cases h
 ·split at h
  ·rename_i h1 h2
   cases h
   refine ⟨h2.1,?_,rfl,rfl⟩
   by_cases hc:c<128
   ·exact h2.2 hc
   ·omega
  ·cases h
structure HS where
 at_:Nat
 v:Nat
deriving DecidableEq
def sY (i:Nat):Nat:=if i=0 then 0x57 else if i=1 then 0x50 else 1
def cr (s:HS) (c:Nat):vA HS Nat Nat:=
 if s.at_<3 then
  if c=sY s.at_ then .more ⟨s.at_+1,0⟩ else .bad (if s.at_=2 then 241 else 240)
 else match grow 65536 s.v c with
  |none=> .bad 242
  |some (n,true)=> .fin n
  |some (n,false)=> .more ⟨3,n⟩
def iN (n:Nat):List Nat:= [0x57,0x50,1]++fm n
theorem JD {n:Nat} (h:n≤65536):run cr ⟨3,0⟩ (lL n)= .short ⟨3,n⟩:=by
 induction n using Nat.strongRecOn with
 |ind n ih=>
  rcases Nat.eq_zero_or_pos n with e|e
  ·rw [e,gY];rfl
  ·rw [ku e,hJ (ih (n/128) (by omega) (by omega))]
   refine cG ?_
   simp only [cr]
   rw [if_neg (by decide),sO e h]
theorem GD {n:Nat} (h0:0<n) (h:n≤65536) (r:List Nat):run cr ⟨0,0⟩ (iN n++r)= .fin n r:=by
 unfold iN fm
 rw [List.append_assoc,List.append_assoc]
 show run cr ⟨3,0⟩ (lL (n/128)++([n % 128]++r))=_
 rw [hJ (JD (by omega))]
 refine sy ?_
 simp only [cr]
 rw [if_neg (by decide),qb h0 h]
structure MS where
 at_:Nat
 v:Nat
 M:Nat
 P:Nat
 sum:Nat
 many:Nat
deriving DecidableEq
inductive Mk where
 |aD (M P sum:Nat)|tail (sum:Nat)
deriving DecidableEq
def gp:MS:=⟨0,0,0,0,0,0⟩
def aX (n:Nat) (s:MS) (c:Nat):vA MS Mk Nat:=
 if s.at_=0 then
  if c=0 then .more ⟨5,0,0,0,0,0⟩ else if c=1 then .more ⟨1,0,0,0,0,0⟩ else .bad 242
 else if s.at_=1 then
  match grow n s.v c with
  |none=> .bad 242
  |some (m,true)=> .more ⟨2,0,m,0,0,0⟩
  |some (m,false)=> .more ⟨1,m,0,0,0,0⟩
 else if s.at_=2 then
  match grow s.M s.v c with
  |none=> .bad 242
  |some (p,true)=> .more ⟨3,0,s.M,p,0,0⟩
  |some (p,false)=> .more ⟨2,p,s.M,0,0,0⟩
 else if s.many=3 then
  if s.at_=3 then .fin (.aD s.M s.P (256*s.sum+c)) else .fin (.tail (256*s.sum+c))
 else .more {s with sum:=256*s.sum+c,many:=s.many+1}
def jV (s:Nat):List Nat:= [s/16777216 % 256,s/65536 % 256,s/256 % 256,s % 256]
theorem EW (s:Nat): ∀x∈jV s,x<256:=by
 intro x hx
 simp [jV] at hx
 omega
def jB (M P sum:Nat):List Nat:=1::(fm M++fm P++jV sum)
def jJ (sum:Nat):List Nat:=0::jV sum
theorem IW {n v:Nat} (h:v≤n):run (aX n) ⟨1,0,0,0,0,0⟩ (lL v)= .short ⟨1,v,0,0,0,0⟩:=by
 induction v using Nat.strongRecOn with
 |ind v ih=>
  rcases Nat.eq_zero_or_pos v with e|e
  ·rw [e,gY];rfl
  ·rw [ku e,hJ (ih (v/128) (by omega) (by omega))]
   refine cG ?_
   simp only [aX]
   rw [if_neg (by decide),if_pos trivial,sO e h]
theorem Jb {n M v:Nat} (h:v≤M):run (aX n) ⟨2,0,M,0,0,0⟩ (lL v)= .short ⟨2,v,M,0,0,0⟩:=by
 induction v using Nat.strongRecOn with
 |ind v ih=>
  rcases Nat.eq_zero_or_pos v with e|e
  ·rw [e,gY];rfl
  ·rw [ku e,hJ (ih (v/128) (by omega) (by omega))]
   refine cG ?_
   simp only [aX]
   rw [if_neg (by decide),if_neg (by decide),if_pos trivial,sO e h]
theorem Hq {n M:Nat} (h0:0<M) (h:M≤n) (r:List Nat):run (aX n) ⟨1,0,0,0,0,0⟩ (fm M++r)=run (aX n) ⟨2,0,M,0,0,0⟩ r:=by
 unfold fm
 rw [List.append_assoc,hJ (IW (by omega))]
 refine cG ?_
 simp only [aX]
 rw [if_neg (by decide),if_pos trivial,qb h0 h]
theorem GZ {n M P:Nat} (h0:0<P) (h:P≤M) (r:List Nat):run (aX n) ⟨2,0,M,0,0,0⟩ (fm P++r)=run (aX n) ⟨3,0,M,P,0,0⟩ r:=by
 unfold fm
 rw [List.append_assoc,hJ (Jb (by omega))]
 refine cG ?_
 simp only [aX]
 rw [if_neg (by decide),if_neg (by decide),if_pos trivial,qb h0 h]
theorem A7 {s:Nat} (h:s<4294967296):256*(256*(256*(256*0+s/16777216 % 256)+s/65536 % 256)+s/256 % 256)+s % 256=s:=by omega
theorem Io {n M P s:Nat} (h:s<4294967296) (r:List Nat):run (aX n) ⟨3,0,M,P,0,0⟩ (jV s++r)= .fin (.aD M P s) r:=by
 show Ia.fin (Mk.aD M P (256*(256*(256*(256*0+s/16777216 % 256)+s/65536 % 256)+s/256 % 256)+s % 256)) r=_
 rw [A7 h]
theorem GK {n s:Nat} (h:s<4294967296) (r:List Nat):run (aX n) ⟨5,0,0,0,0,0⟩ (jV s++r)= .fin (.tail s) r:=by
 show Ia.fin (Mk.tail (256*(256*(256*(256*0+s/16777216 % 256)+s/65536 % 256)+s/256 % 256)+s % 256)) r=_
 rw [A7 h]
theorem Cs {n M P s:Nat} (h0:0<M) (h1:M≤n) (h2:0<P) (h3:P≤M) (h4:s<4294967296) (r:List Nat):run (aX n) gp (jB M P s++r)= .fin (.aD M P s) r:=by
 show run (aX n) ⟨1,0,0,0,0,0⟩ (fm M++fm P++jV s++r)=_
 rw [List.append_assoc,List.append_assoc,Hq h0 h1,GZ h2 h3,Io h4]
theorem BL {n s:Nat} (h4:s<4294967296) (r:List Nat):run (aX n) gp (jJ s++r)= .fin (.tail s) r:=by
 show run (aX n) ⟨5,0,0,0,0,0⟩ (jV s++r)=_
 rw [GK h4]
end Go.Hd
set_option maxRecDepth 20000
namespace Go.Vc
open Go
set_option linter.unusedSectionVars false
structure nH (P:Program) {α:Type} [DecidableEq α] (kt:TypeId) (ke:α→Value):Prop where
 und: ∃d,P.underlying kt=some d∧∀a b,Instr.sameNow d (ke a) (ke b)=none∨Instr.sameNow d (ke a) (ke b)=some (decide (a=b))
 check: ∀e a w,(Instr.checkKey e 10000 kt (ke a)).run P w= .ok () w
 eq: ∀a b w,(Op.equal kt (ke a) (ke b)).run P w= .ok (decide (a=b)) w
 same: ∀a,Instr.sameBits 10000 (ke a) (ke a)=true
section
variable {P:Program} {α β:Type} [DecidableEq α] {ke:α→Value} {ve:β→Value} {kt:TypeId}
def eh (ke:α→Value) (ve:β→Value) (es:List MapEntry) (l:List (α×β)):Prop:=es.map (fun e=>(e.key,e.val))=l.map fun p=>(ke p.1,ve p.2)
def findAt (a:α):List (α×β)→Nat→Option (Nat×β)
 | [],_=>none
 |p::l,i=>if a=p.1 then some (i,p.2) else findAt a l (i+1)
theorem lI {e:MapEntry} {es:List MapEntry} {l:List (α×β)} (h:eh ke ve (e::es) l): ∃p l',l=p::l'∧e.key=ke p.1∧e.val=ve p.2∧eh ke ve es l':=by
 unfold eh at h
 cases l with
 |nil=>simp at h
 |cons p l'=>
  simp only [List.map_cons,List.cons.injEq,Prod.mk.injEq] at h
  exact ⟨p,l',rfl,h.1.1,h.1.2,h.2⟩
theorem r5 (hk:nH P kt ke) (a:α) (w:World): ∀(es:List MapEntry) (l:List (α×β)) (i:Nat),eh ke ve es l→(Instr.findAsking kt (ke a) es i).run P w= .ok ((findAt a l i).map fun q=>(q.1,ve q.2)) w
 | [],l,i,h=>by
  have:l= []:=by unfold eh at h;cases l<;>simp at h⊢
  subst this
  simp [Instr.findAsking,findAt]
 |e::es,l,i,h=>by
  obtain ⟨p,l',rfl,h1,h2,h3⟩:=lI h
  simp only [Instr.findAsking,Sem.run_bind,h1,hk.eq,Result.andThen_ok,findAt]
  by_cases hq:a=p.1
  ·simp [hq,h2]
  ·simp [hq,r5 hk a w es l' (i+1) h3]
theorem CN {d:TypeDesc} (hd: ∀a b,Instr.sameNow d (ke a) (ke b)=none∨Instr.sameNow d (ke a) (ke b)=some (decide (a=b))) (a:α): ∀(es:List MapEntry) (l:List (α×β)) (i:Nat),eh ke ve es l→
  Instr.findNow d (ke a) es i=none∨Instr.findNow d (ke a) es i=some ((findAt a l i).map fun q=>(q.1,ve q.2))
 | [],l,i,h=>by
  have:l= []:=by unfold eh at h;cases l<;>simp at h⊢
  subst this
  exact .inr rfl
 |e::es,l,i,h=>by
  obtain ⟨p,l',rfl,h1,h2,h3⟩:=lI h
  unfold Instr.findNow
  rw [h1]
  rcases hd a p.1 with h0|h0
  ·rw [h0];exact .inl rfl
  ·rw [h0]
   by_cases hq:a=p.1
   ·right;simp [findAt,hq,h2]
   ·simp only [hq,decide_false,findAt,if_false]
    exact CN hd a es l' (i+1) h3
theorem pX (hk:nH P kt ke) (a:α) (w:World) (es:List MapEntry) (l:List (α×β)) (h:eh ke ve es l):(Instr.findKey kt (ke a) es).run P w= .ok ((findAt a l 0).map fun q=>(q.1,ve q.2)) w:=by
 obtain ⟨d,hu,hd⟩:=hk.und
 simp only [Instr.findKey,Sem.run_bind,run_underlying hu,Result.andThen_ok]
 rcases CN (ve:=ve) hd a es l 0 h with h0|h0
 ·rw [h0];exact r5 hk a w es l 0 h
 ·rw [h0];rfl
def eK (a:α) (b:β):List (α×β)→List (α×β)
 | []=> [(a,b)]
 |p::l=>if a=p.1 then (a,b)::l else p::eK a b l
theorem oD {a:α}: ∀{l:List (α×β)} {i j:Nat} {v:β},findAt a l i=some (j,v)→i≤j
 | [],i,j,v,h=>by simp [findAt] at h
 |p::l,i,j,v,h=>by
  unfold findAt at h
  split at h
  ·simp at h;omega
  ·have:=oD h;omega
theorem vX {a:α} {b:β} {f:MapEntry→MapEntry} (hf: ∀e,e.key=ke a→(f e).key=ke a∧(f e).val=ve b): ∀{es:List MapEntry} {l:List (α×β)} {i j:Nat} {v:β},eh ke ve es l→findAt a l i=some (i+j,v)→
  eh ke ve (es.modify j f) (eK a b l)
 | [],l,i,j,v,h,hf2=>by
  have:l= []:=by unfold eh at h;cases l<;>simp at h⊢
  subst this
  simp [findAt] at hf2
 |e::es,l,i,j,v,h,hf2=>by
  obtain ⟨p,l',rfl,h1,h2,h3⟩:=lI h
  unfold findAt at hf2
  unfold eK
  by_cases hq:a=p.1
  ·rw [if_pos hq] at hf2⊢
   have:j=0:=by simp at hf2;omega
   subst this
   obtain ⟨q1,q2⟩:=hf e (by rw [h1,hq])
   unfold eh at h3⊢
   simp [List.modify,q1,q2,h3]
  ·rw [if_neg hq] at hf2⊢
   have hge:=oD hf2
   obtain ⟨j,rfl⟩: ∃j',j=j'+1:=⟨j - 1,by omega⟩
   have ih:=vX (f:=f) hf (i:=i+1) (j:=j) (v:=v) h3 (by rw [hf2];congr 2;omega)
   unfold eh at ih⊢
   simp only [List.modify_succ_cons,List.map_cons,ih,h1,h2]
theorem u5 {a:α}: ∀{es:List MapEntry} {l:List (α×β)} {i j:Nat} {v:β},eh ke ve es l→findAt a l i=some (i+j,v)→∃e,es[j]? =some e∧e.key=ke a
 | [],l,i,j,v,h,hf2=>by
  have:l= []:=by unfold eh at h;cases l<;>simp at h⊢
  subst this
  simp [findAt] at hf2
 |e::es,l,i,j,v,h,hf2=>by
  obtain ⟨p,l',rfl,h1,h2,h3⟩:=lI h
  unfold findAt at hf2
  by_cases hq:a=p.1
  ·rw [if_pos hq] at hf2
   have:j=0:=by simp at hf2;omega
   subst this
   exact ⟨e,rfl,by rw [h1,hq]⟩
  ·rw [if_neg hq] at hf2
   have hge:=oD hf2
   obtain ⟨j,rfl⟩: ∃j',j=j'+1:=⟨j - 1,by omega⟩
   obtain ⟨e',h4,h5⟩:=u5 (i:=i+1) (j:=j) (v:=v) h3 (by rw [hf2];congr 2;omega)
   exact ⟨e',by simpa using h4,h5⟩
theorem tK {a:α} {b:β}: ∀{l:List (α×β)} {i:Nat},findAt a l i=none→eK a b l=l++ [(a,b)]
 | [],_,_=>rfl
 |p::l,i,h=>by
  unfold findAt at h
  unfold eK
  by_cases hq:a=p.1
  ·rw [if_pos hq] at h;cases h
  ·rw [if_neg hq] at h⊢
   rw [tK h];rfl
end
def jP {α β:Type} (ke:α→Value) (ve:β→Value) (m:Option Nat) (l:List (α×β)):HP:=fun f=> ∃b es clock,m=some b∧eh ke ve es.toList l∧f=aM.one b (.map es clock)
section
variable {P:Program} {α β:Type} [DecidableEq α] {ke:α→Value} {ve:β→Value} {kt vt t:TypeId} {E w:World} {F:List HP} {m:Option Nat} {l:List (α×β)}
theorem Hp.yM (h:Hp E w (jP ke ve m l::F)): ∃b es clock,m=some b∧eh ke ve es.toList l∧Hp E w (ao b (.map es clock)::F):=by
 obtain ⟨f,a,g,k,hd,e,⟨b,es,clock,h1,h2,h3⟩,h4⟩:=h.frag
 exact ⟨b,es,clock,h1,h2,h.os,h.output,h.tape,f,a,g,k,hd,e,h3,h4⟩
theorem Hp.zc {b clock:Nat} {es:Array MapEntry} (h:Hp E w (ao b (.map es clock)::F)) (he:eh ke ve es.toList l):Hp E w (jP ke ve (some b) l::F):=
 h.CX fun _ hf=>⟨b,es,clock,rfl,he,hf⟩
theorem run_makeMap {K:Option Nat→World→Prop} (h:Hp E w F) (hK: ∀m w',Hp E w' (jP ke ve m []::F)→K m w'):aw P (Instr.makeMap t none) kM w K:=by
 unfold aw
 have e:(Instr.makeMap t none).run P w= .ok (.map (some w.heap.size)) (w.alloc (.map #[] 0)):=rfl
 rw [e]
 exact hK _ _ (Hp.zc (h.alloc _) rfl)
theorem dA (hk:nH P kt ke) (hu:P.underlying t=some (.map kt vt)) {a:α} {b:β} {K:Value→World→Prop} (h:Hp E w (jP ke ve m l::F)) (hK: ∀w',Hp E w' (jP ke ve m (eK a b l)::F)→K undef w'):
  aw P (do Instr.mapUpdate t (.map m) (ke a) (ve b);pure undef) kV w K:=by
 obtain ⟨r,es,clock,rfl,he,hB⟩:=h.yM
 have hb:=hB.aD
 have hfk:=pX (ve:=ve) hk a w es.toList l he
 have key: ∀es' clock',(do Instr.mapUpdate t (.map (some r)) (ke a) (ve b);pure undef:Sem Value).run P w= .ok undef {w with heap:=w.heap.setIfInBounds r (.map es' clock')}→eh ke ve es'.toList (eK a b l)→
   aw P (do Instr.mapUpdate t (.map (some r)) (ke a) (ve b);pure undef) kV w K:=by
  intro es' clock' h1 h2
  unfold aw
  rw [h1]
  exact hK _ (Hp.zc (hB.setObj rfl rfl rfl rfl) h2)
 cases hf:findAt a l 0 with
 |none=>
  rw [hf] at hfk
  refine key (es.push ⟨ke a,ve b,clock⟩) (clock+1) ?_ ?_
  ·simp [Instr.mapUpdate,run_underlying hu,MapKept.run_getObj_map hb,hk.check,hfk,MapKept.run_setObj_map _ hb]
  ·rw [tK hf]
   unfold eh at he⊢
   simp [he]
 |some q=>
  obtain ⟨j,v⟩:=q
  rw [hf] at hfk
  have hfk':(Instr.findKey kt (ke a) es.toList).run P w= .ok (some (j,ve v)) w:=hfk
  have hkey:((es[j]?).map (·.key)).getD (ke a)=ke a:=by
   obtain ⟨e,he1,he2⟩:=u5 (ke:=ke) (ve:=ve) he (i:=0) (j:=j) (v:=v) (by simpa using hf)
   have:es[j]? =some e:=by simpa using he1
   rw [this];exact he2
  refine key (es.modify j fun e=>{e with key:=ke a,val:=ve b}) clock ?_ ?_
  ·simp [Instr.mapUpdate,run_underlying hu,MapKept.run_getObj_map hb,hk.check,hfk',hkey,Instr.keyThatStays,hk.same,MapKept.run_setObj_map _ hb]
  ·rw [Array.toList_modify]
   exact vX (ke:=ke) (ve:=ve) (a:=a) (b:=b) (fun e _=>⟨rfl,rfl⟩) he (i:=0) (j:=j) (v:=v) (by simpa using hf)
end
end Go.Vc
set_option maxRecDepth 20000
namespace Go.Vc
open Go
set_option linter.unusedSectionVars false
section
variable {P:Program} {α β:Type} [DecidableEq α] {ke:α→Value} {ve:β→Value} {kt vt t ty:TypeId} {E w:World} {F:List HP} {m:Option Nat} {l:List (α×β)}
theorem xJ (hk:nH P kt ke) (hu:P.underlying t=some (.map kt vt)) {a:α} {z:Value} (hz: ∀w,(zeroValue vt).run P w= .ok z w) (h:Hp E w (jP ke ve m l::F)):
  (Instr.lookup t (.map m) (ke a) false).run P w= .ok (match findAt a l 0 with|some q=>ve q.2|none=>z) w:=by
 obtain ⟨r,es,clock,rfl,he,hB⟩:=h.yM
 have hb:=hB.aD
 have hfk:=pX (ve:=ve) hk a w es.toList l he
 cases hf:findAt a l 0 with
 |none=>
  rw [hf] at hfk
  simp [Instr.lookup,run_underlying hu,MapKept.run_getObj_map hb,hk.check,hfk,hz]
 |some q=>
  rw [hf] at hfk
  simp [Instr.lookup,run_underlying hu,MapKept.run_getObj_map hb,hk.check,hfk]
end
end Go.Vc
set_option maxRecDepth 20000
namespace Go.Vc
theorem I7 {v c:Nat} (hv:v<16777216) (hc:c<256):jv .u32 (a9 .u32 (v:Int) 8) (u32 (c:Int))=((256*v+c:Nat):Int):=by
 have hmx:IntKind.max .u32=4294967295:=rfl
 have e1:a9 .u32 (v:Int) 8=((v*256:Nat):Int):=by
  have:=cW (k:= .u32) (a:=v) (b:=8) (by decide) (by rw [hmx];omega)
  simpa using this
 have e3:v*256|||c=256*v+c:=by
  rw [Nat.mul_comm v 256]
  exact (Nat.two_pow_add_eq_or_of_lt (i:=8) (by omega) v).symm
 rw [e1,gy (by omega),oZ (by rw [hmx];omega) (by rw [hmx];omega) (by rw [e3,hmx];omega),e3]
end Go.Vc
namespace Go.Hd
open Go.Inc Go.Srt
def vy (s:HS):Prop:=s.at_≤3∧(s.at_<3→s.v=0)∧s.v≤65536
def l8 (n:Nat) (m:MS):Prop:=
 (m.at_=0∧m=gp)∨(m.at_=1∧m.v≤n∧m.M=0∧m.P=0∧m.sum=0∧m.many=0)∨(m.at_=2∧1≤m.M∧m.M≤n∧m.v≤m.M∧m.P=0∧m.sum=0∧m.many=0)∨
 (m.at_=3∧1≤m.M∧m.M≤n∧1≤m.P∧m.P≤m.M∧m.v=0∧m.many≤3∧m.sum<256^m.many)∨
 (m.at_=5∧m.M=0∧m.P=0∧m.v=0∧m.many≤3∧m.sum<256^m.many)
theorem D0 {s s':HS} {c:Nat} (h:vy s) (hc:c<256) (he:cr s c= .more s'):vy s':=by
 unfold cr at he
 split at he
 ·split at he
  ·cases he
   exact ⟨by dsimp only;omega,fun _=>rfl,by dsimp only;omega⟩
  ·cases he
 ·split at he
  ·cases he
  ·cases he
  ·rename_i n hg
   cases he
   exact ⟨by dsimp only;omega,fun h=>by dsimp only at h;omega,(gf hc hg).1⟩
theorem CB {s:HS} {c n:Nat} (hc:c<256) (he:cr s c= .fin n):1≤n∧n≤65536:=by
 unfold cr at he
 split at he
 ·split at he<;>cases he
 ·split at he
  ·cases he
  ·rename_i n hg
   cases he
   have:=gf hc hg
   omega
  ·cases he
theorem vK {n:Nat} {s s':MS} {c:Nat} (h:l8 n s) (hc:c<256) (he:aX n s c= .more s'):l8 n s':=by
 obtain ⟨at_,v,M,P,sum,many⟩:=s
 unfold l8 at h
 unfold aX at he
 dsimp only at h he
 split at he
 ·split at he
  ·cases he
   right;right;right;right;simp
  ·split at he
   ·cases he
    right;left;simp
   ·cases he
 ·split at he
  ·split at he
   ·cases he
   ·rename_i m hg
    have:=gf hc hg
    cases he
    right;right;left;simp;omega
   ·rename_i m hg
    have:=gf hc hg
    cases he
    right;left;simp;omega
  ·split at he
   ·split at he
    ·cases he
    ·rename_i m hg
     have:=gf hc hg
     cases he
     right;right;right;left;simp;omega
    ·rename_i m hg
     have:=gf hc hg
     cases he
     right;right;left;simp;omega
   ·split at he
    ·split at he<;>cases he
    ·cases he
     rename_i h3
     rcases h with ⟨h,_⟩|⟨h,_⟩|⟨h,_⟩|⟨h,h1⟩|⟨h,h1⟩
     ·omega
     ·omega
     ·omega
     ·right;right;right;left
      simp only
      have:256*sum+c<256^(many+1):=by rw [Nat.pow_succ];omega
      refine ⟨h,?_⟩
      omega
     ·right;right;right;right
      simp only
      have:256*sum+c<256^(many+1):=by rw [Nat.pow_succ];omega
      refine ⟨h,?_⟩
      omega
theorem tA {n:Nat} {s:MS} {c:Nat} {M P u:Nat} (h:l8 n s) (he:aX n s c= .fin (.aD M P u)):1≤M∧M≤n∧1≤P∧P≤M:=by
 obtain ⟨at_,v,M',P',sum,many⟩:=s
 unfold l8 at h
 unfold aX at he
 dsimp only at h he
 split at he
 ·split at he
  ·cases he
  ·split at he<;>cases he
 ·split at he
  ·split at he<;>cases he
  ·split at he
   ·split at he<;>cases he
   ·split at he
    ·split at he
     ·cases he
      omega
     ·cases he
    ·cases he
end Go.Hd
namespace Go.Proofs.YtgglghjnakclmaaGreat
open Go Go.Vc Go.Srt Go.Inc Go.Hd
abbrev T2:=Int×Int×Unit
abbrev BI (s:HS):Int×Int×Int×Int×Unit:=((s.at_:Int),(s.v:Int),(vm s.v:Int),0,())
abbrev HH (m:MS):Int×Int×Int×Int×Int×Int×Int×Unit:=((m.at_:Int),(m.v:Int),(vm m.v:Int),(m.M:Int),(m.P:Int),(m.sum:Int),(m.many:Int),())
section
variable {E w:World} {F:List HP}
theorem HM:Tryz.prog.underlying 3=some (.int .i64):=by kernel_rfl
theorem kl:nH Tryz.prog (α:=Int) 3 (fun n=>Value.int .i64 n) where
 und:=⟨_,HM,fun a b=> .inr rfl⟩
 check:=fun e a w=>by
  have: ∀(e:Bool) (c:Int) (w:World),(Instr.checkKey e 10000 3 (.int .i64 c)).run Tryz.prog w= .ok () w:=fun e c w=>by kernel_rfl
  exact this e a w
 eq:=fun a b w=>by
  exact (run_equalIn_int w 9999 _ _ _ _ _ HM).trans (by rw [show (a==b)=decide (a=b) from rfl])
 same:=fun a=>by simp [Instr.sameBits]
theorem dg {a b c:Int} {K:Bool→World→Prop} (hK:K (decide (b≤a∧a≤c)) w):Cl Tryz.prog [kB] bU ⟨[.int .i64 a,.int .i64 b,.int .i64 c]⟩ w K:=by
 refine ug.ok _ _ _ _ _ ?_
 (first|refine aa.dm (fun hb=> ?_) (fun hb=> ?_)|refine aa.em (fun hb=> ?_) (fun hb=> ?_)|refine aa.nm (fun hb=> ?_) (fun hb=> ?_)|refine aa.mk (fun hb=> ?_) (fun hb=> ?_))
 ·refine dw (decide_eq_decide.2 ?_) hK
  omega
 ·refine dw (decide_eq_false ?_).symm hK
  omega
theorem sC {v:Nat} {most:Int} {K:Bool→World→Prop} (h:Hp E w F) (hv:v≤65536) (hm:(v:Int)≤most) (hK: ∀w',Hp E w' F→K true w'):
  Cl Tryz.prog [kB] ew ⟨[.agg ⟨[.int .i64 (v:Int),.int .i64 (vm v:Int)]⟩,.int .i64 most]⟩ w K:=by
 refine uN.ok ((v:Int),(vm v:Int),()) _ _ _ ?_
 (try simp only [au,ak,al,Nat.zero_add,Nat.add_zero,Nat.reduceAdd,Bool.not_true,Bool.not_false,aH,aE,Option.isNone])
 (with_reducible repeat first|refine Nw.mk h fun b w h=> ?_|refine ah.mk h fun w h=> ?_|refine Ld.xb h rfl ?_|refine Ld.xt h rfl ?_|refine ad.xb (fun _ h=>h) rfl ?_|refine ad.xt (fun _ h=>h) rfl ?_|refine ⟨h.hb,?_⟩|refine ae.xw h rfl rfl fun w h=> ?_|(refine ae.xs h rfl rfl fun w h=> ?_;dsimp only [af,ab] at h)|(refine St.xs h rfl rfl fun w h=> ?_;dsimp only [af,ab] at h)|refine aa.yes ?_|refine aa.no ?_|refine ⟨by first|omega|decide,?_⟩)
 refine vp h hv fun w h=> ?_
 (with_reducible repeat first|refine Nw.mk h fun b w h=> ?_|refine ah.mk h fun w h=> ?_|refine Ld.xb h rfl ?_|refine Ld.xt h rfl ?_|refine ad.xb (fun _ h=>h) rfl ?_|refine ad.xt (fun _ h=>h) rfl ?_|refine ⟨h.hb,?_⟩|refine ae.xw h rfl rfl fun w h=> ?_|(refine ae.xs h rfl rfl fun w h=> ?_;dsimp only [af,ab] at h)|(refine St.xs h rfl rfl fun w h=> ?_;dsimp only [af,ab] at h)|refine aa.yes ?_|refine aa.no ?_|refine ⟨by first|omega|decide,?_⟩)
 exact dw (decide_eq_true hm) (hK _ h.tl)
theorem wX {v c most:Nat} {K:T2→Bool→Bool→World→Prop} (h:Hp E w F) (hv:v≤most) (hm:most≤65536) (hc:c<256)
  (hbad:grow most v c=none→∀o d w',Hp E w' F→K o d false w')
  (hK: ∀n d,grow most v c=some (n,d)→∀k w',(d=false→k=(vm n:Int))→Hp E w' F→K ((n:Int),k,()) d true w'):
  Cl Tryz.prog [.st [.int .i64,.int .i64],kB,kB] eV ⟨[.agg ⟨[.int .i64 (v:Int),.int .i64 (vm v:Int)]⟩,.int .u8 (c:Int),.int .i64 (most:Int)]⟩ w K:=by
 refine xL.ok ((v:Int),(vm v:Int),()) _ _ _ _ ?_
 (try simp only [au,ak,al,Nat.zero_add,Nat.add_zero,Nat.reduceAdd,Bool.not_true,Bool.not_false,aH,aE,Option.isNone])
 (with_reducible repeat first|refine Nw.mk h fun b w h=> ?_|refine ah.mk h fun w h=> ?_|refine Ld.xb h rfl ?_|refine Ld.xt h rfl ?_|refine ad.xb (fun _ h=>h) rfl ?_|refine ad.xt (fun _ h=>h) rfl ?_|refine ⟨h.hb,?_⟩|refine ae.xw h rfl rfl fun w h=> ?_|(refine ae.xs h rfl rfl fun w h=> ?_;dsimp only [af,ab] at h)|(refine St.xs h rfl rfl fun w h=> ?_;dsimp only [af,ab] at h)|refine aa.yes ?_|refine aa.no ?_|refine ⟨by first|omega|decide,?_⟩)
 refine FQ h (by omega) hc (fun hb w h=> ?_) (fun hb w h=> ?_)
 ·(with_reducible repeat first|refine Nw.mk h fun b w h=> ?_|refine ah.mk h fun w h=> ?_|refine Ld.xb h rfl ?_|refine Ld.xt h rfl ?_|refine ad.xb (fun _ h=>h) rfl ?_|refine ad.xt (fun _ h=>h) rfl ?_|refine ⟨h.hb,?_⟩|refine ae.xw h rfl rfl fun w h=> ?_|(refine ae.xs h rfl rfl fun w h=> ?_;dsimp only [af,ab] at h)|(refine St.xs h rfl rfl fun w h=> ?_;dsimp only [af,ab] at h)|refine aa.yes ?_|refine aa.no ?_|refine ⟨by first|omega|decide,?_⟩)
  exact hbad (by unfold grow;rw [if_pos hb]) _ _ _ h.tl
 ·(with_reducible repeat first|refine Nw.mk h fun b w h=> ?_|refine ah.mk h fun w h=> ?_|refine Ld.xb h rfl ?_|refine Ld.xt h rfl ?_|refine ad.xb (fun _ h=>h) rfl ?_|refine ad.xt (fun _ h=>h) rfl ?_|refine ⟨h.hb,?_⟩|refine ae.xw h rfl rfl fun w h=> ?_|(refine ae.xs h rfl rfl fun w h=> ?_;dsimp only [af,ab] at h)|(refine St.xs h rfl rfl fun w h=> ?_;dsimp only [af,ab] at h)|refine aa.yes ?_|refine aa.no ?_|refine ⟨by first|omega|decide,?_⟩)
  by_cases hc1:c<128
  ·rw [decide_eq_true hc1]
   by_cases hle:128*v+c % 128≤most
   ·(with_reducible repeat first|refine Nw.mk h fun b w h=> ?_|refine ah.mk h fun w h=> ?_|refine Ld.xb h rfl ?_|refine Ld.xt h rfl ?_|refine ad.xb (fun _ h=>h) rfl ?_|refine ad.xt (fun _ h=>h) rfl ?_|refine ⟨h.hb,?_⟩|refine ae.xw h rfl rfl fun w h=> ?_|(refine ae.xs h rfl rfl fun w h=> ?_;dsimp only [af,ab] at h)|(refine St.xs h rfl rfl fun w h=> ?_;dsimp only [af,ab] at h)|refine aa.yes ?_|refine aa.no ?_|refine ⟨by first|omega|decide,?_⟩)
    (try simp only [au,ak,al,Nat.zero_add,Nat.add_zero,Nat.reduceAdd,Bool.not_true,Bool.not_false,aH,aE,Option.isNone])
    (with_reducible repeat first|refine Nw.mk h fun b w h=> ?_|refine ah.mk h fun w h=> ?_|refine Ld.xb h rfl ?_|refine Ld.xt h rfl ?_|refine ad.xb (fun _ h=>h) rfl ?_|refine ad.xt (fun _ h=>h) rfl ?_|refine ⟨h.hb,?_⟩|refine ae.xw h rfl rfl fun w h=> ?_|(refine ae.xs h rfl rfl fun w h=> ?_;dsimp only [af,ab] at h)|(refine St.xs h rfl rfl fun w h=> ?_;dsimp only [af,ab] at h)|refine aa.yes ?_|refine aa.no ?_|refine ⟨by first|omega|decide,?_⟩)
    by_cases h0:0<128*v+c % 128
    ·refine dw (decide_eq_true (by omega)) (hK _ true ?_ _ _ (fun hh=>by cases hh) h.tl)
     unfold grow
     rw [if_neg hb,if_pos ⟨hle,fun _=>h0⟩,decide_eq_true hc1]
    ·refine dw (decide_eq_false (by omega)) (hbad ?_ _ _ _ h.tl)
     unfold grow
     rw [if_neg hb,if_neg (fun hh=>h0 (hh.2 hc1))]
   ·(with_reducible repeat first|refine Nw.mk h fun b w h=> ?_|refine ah.mk h fun w h=> ?_|refine Ld.xb h rfl ?_|refine Ld.xt h rfl ?_|refine ad.xb (fun _ h=>h) rfl ?_|refine ad.xt (fun _ h=>h) rfl ?_|refine ⟨h.hb,?_⟩|refine ae.xw h rfl rfl fun w h=> ?_|(refine ae.xs h rfl rfl fun w h=> ?_;dsimp only [af,ab] at h)|(refine St.xs h rfl rfl fun w h=> ?_;dsimp only [af,ab] at h)|refine aa.yes ?_|refine aa.no ?_|refine ⟨by first|omega|decide,?_⟩)
    refine hbad ?_ _ _ _ h.tl
    unfold grow
    rw [if_neg hb,if_neg (fun hh=>hle hh.1)]
  ·rw [decide_eq_false hc1]
   by_cases hle:128*v+c % 128≤most
   ·(with_reducible repeat first|refine Nw.mk h fun b w h=> ?_|refine ah.mk h fun w h=> ?_|refine Ld.xb h rfl ?_|refine Ld.xt h rfl ?_|refine ad.xb (fun _ h=>h) rfl ?_|refine ad.xt (fun _ h=>h) rfl ?_|refine ⟨h.hb,?_⟩|refine ae.xw h rfl rfl fun w h=> ?_|(refine ae.xs h rfl rfl fun w h=> ?_;dsimp only [af,ab] at h)|(refine St.xs h rfl rfl fun w h=> ?_;dsimp only [af,ab] at h)|refine aa.yes ?_|refine aa.no ?_|refine ⟨by first|omega|decide,?_⟩)
    (try simp only [au,ak,al,Nat.zero_add,Nat.add_zero,Nat.reduceAdd,Bool.not_true,Bool.not_false,aH,aE,Option.isNone])
    (with_reducible repeat first|refine Nw.mk h fun b w h=> ?_|refine ah.mk h fun w h=> ?_|refine Ld.xb h rfl ?_|refine Ld.xt h rfl ?_|refine ad.xb (fun _ h=>h) rfl ?_|refine ad.xt (fun _ h=>h) rfl ?_|refine ⟨h.hb,?_⟩|refine ae.xw h rfl rfl fun w h=> ?_|(refine ae.xs h rfl rfl fun w h=> ?_;dsimp only [af,ab] at h)|(refine St.xs h rfl rfl fun w h=> ?_;dsimp only [af,ab] at h)|refine aa.yes ?_|refine aa.no ?_|refine ⟨by first|omega|decide,?_⟩)
    refine hK _ false ?_ _ _ (fun _=>by rw [FV (by omega) (by omega) hc hb]) h.tl
    unfold grow
    rw [if_neg hb,if_pos ⟨hle,fun hh=>absurd hh hc1⟩,decide_eq_false hc1]
   ·(with_reducible repeat first|refine Nw.mk h fun b w h=> ?_|refine ah.mk h fun w h=> ?_|refine Ld.xb h rfl ?_|refine Ld.xt h rfl ?_|refine ad.xb (fun _ h=>h) rfl ?_|refine ad.xt (fun _ h=>h) rfl ?_|refine ⟨h.hb,?_⟩|refine ae.xw h rfl rfl fun w h=> ?_|(refine ae.xs h rfl rfl fun w h=> ?_;dsimp only [af,ab] at h)|(refine St.xs h rfl rfl fun w h=> ?_;dsimp only [af,ab] at h)|refine aa.yes ?_|refine aa.no ?_|refine ⟨by first|omega|decide,?_⟩)
    refine hbad ?_ _ _ _ h.tl
    unfold grow
    rw [if_neg hb,if_neg (fun hh=>hle hh.1)]
theorem Dn {s:HS} {K:Bool→World→Prop} (h:Hp E w F) (hs:vy s) (hK: ∀w',Hp E w' F→K true w'):
  Cl Tryz.prog [kB] iK ⟨[.agg ⟨[.int .i64 (s.at_:Int),.int .i64 (s.v:Int),.int .i64 (vm s.v:Int),.int .i64 0]⟩]⟩ w K:=by
 obtain ⟨at_,v⟩:=s
 obtain ⟨h1,h2,h3⟩:=hs
 dsimp only at h1 h2 h3⊢
 refine uR.ok ((at_:Int),(v:Int),(vm v:Int),0,()) _ _ ?_
 (try simp only [au,ak,al,Nat.zero_add,Nat.add_zero,Nat.reduceAdd,Bool.not_true,Bool.not_false,aH,aE,Option.isNone])
 (with_reducible repeat first|refine Nw.mk h fun b w h=> ?_|refine ah.mk h fun w h=> ?_|refine Ld.xb h rfl ?_|refine Ld.xt h rfl ?_|refine ad.xb (fun _ h=>h) rfl ?_|refine ad.xt (fun _ h=>h) rfl ?_|refine ⟨h.hb,?_⟩|refine ae.xw h rfl rfl fun w h=> ?_|(refine ae.xs h rfl rfl fun w h=> ?_;dsimp only [af,ab] at h)|(refine St.xs h rfl rfl fun w h=> ?_;dsimp only [af,ab] at h)|refine aa.yes ?_|refine aa.no ?_|refine ⟨by first|omega|decide,?_⟩)
 by_cases ha:at_=3
 ·subst ha
  (with_reducible repeat first|refine Nw.mk h fun b w h=> ?_|refine ah.mk h fun w h=> ?_|refine Ld.xb h rfl ?_|refine Ld.xt h rfl ?_|refine ad.xb (fun _ h=>h) rfl ?_|refine ad.xt (fun _ h=>h) rfl ?_|refine ⟨h.hb,?_⟩|refine ae.xw h rfl rfl fun w h=> ?_|(refine ae.xs h rfl rfl fun w h=> ?_;dsimp only [af,ab] at h)|(refine St.xs h rfl rfl fun w h=> ?_;dsimp only [af,ab] at h)|refine aa.yes ?_|refine aa.no ?_|refine ⟨by first|omega|decide,?_⟩)
  refine sC h h3 (by omega) fun w h=> ?_
  (with_reducible repeat first|refine Nw.mk h fun b w h=> ?_|refine ah.mk h fun w h=> ?_|refine Ld.xb h rfl ?_|refine Ld.xt h rfl ?_|refine ad.xb (fun _ h=>h) rfl ?_|refine ad.xt (fun _ h=>h) rfl ?_|refine ⟨h.hb,?_⟩|refine ae.xw h rfl rfl fun w h=> ?_|(refine ae.xs h rfl rfl fun w h=> ?_;dsimp only [af,ab] at h)|(refine St.xs h rfl rfl fun w h=> ?_;dsimp only [af,ab] at h)|refine aa.yes ?_|refine aa.no ?_|refine ⟨by first|omega|decide,?_⟩)
  exact hK _ h.tl
 ·(with_reducible repeat first|refine Nw.mk h fun b w h=> ?_|refine ah.mk h fun w h=> ?_|refine Ld.xb h rfl ?_|refine Ld.xt h rfl ?_|refine ad.xb (fun _ h=>h) rfl ?_|refine ad.xt (fun _ h=>h) rfl ?_|refine ⟨h.hb,?_⟩|refine ae.xw h rfl rfl fun w h=> ?_|(refine ae.xs h rfl rfl fun w h=> ?_;dsimp only [af,ab] at h)|(refine St.xs h rfl rfl fun w h=> ?_;dsimp only [af,ab] at h)|refine aa.yes ?_|refine aa.no ?_|refine ⟨by first|omega|decide,?_⟩)
  refine dg ?_
  (with_reducible repeat first|refine Nw.mk h fun b w h=> ?_|refine ah.mk h fun w h=> ?_|refine Ld.xb h rfl ?_|refine Ld.xt h rfl ?_|refine ad.xb (fun _ h=>h) rfl ?_|refine ad.xt (fun _ h=>h) rfl ?_|refine ⟨h.hb,?_⟩|refine ae.xw h rfl rfl fun w h=> ?_|(refine ae.xs h rfl rfl fun w h=> ?_;dsimp only [af,ab] at h)|(refine St.xs h rfl rfl fun w h=> ?_;dsimp only [af,ab] at h)|refine aa.yes ?_|refine aa.no ?_|refine ⟨by first|omega|decide,?_⟩)
  have:=h2 (by omega)
  subst this
  refine dw ?_ (hK _ h.tl)
  simp [vm]
theorem Fo {s:HS} {c:Nat} {K:Int×Int×Int×Int×Unit→Bool→Int→World→Prop} (h:Hp E w F) (hs:vy s) (hc:c<256)
  (hm: ∀s' w',cr s c= .more s'→Hp E w' F→K (BI s') false 0 w')
  (hf: ∀n w',cr s c= .fin n→Hp E w' F→K (4,0,0,(n:Int),()) true 0 w')
  (hb: ∀e o w',cr s c= .bad e→Hp E w' F→K o false (e:Int) w'):
  Cl Tryz.prog [.st [.int .i64,.int .i64,.int .i64,.int .i64],kB,kI] jE ⟨[.agg ⟨[.int .i64 (s.at_:Int),.int .i64 (s.v:Int),.int .i64 (vm s.v:Int),.int .i64 0]⟩,.int .u8 (c:Int)]⟩ w K:=by
 obtain ⟨at_,v⟩:=s
 obtain ⟨h1,h2,h3⟩:=hs
 dsimp only at h1 h2 h3⊢
 refine yi.ok ((at_:Int),(v:Int),(vm v:Int),0,()) _ _ _ ?_
 (try simp only [au,ak,al,Nat.zero_add,Nat.add_zero,Nat.reduceAdd,Bool.not_true,Bool.not_false,aH,aE,Option.isNone])
 (with_reducible repeat first|refine Nw.mk h fun b w h=> ?_|refine ah.mk h fun w h=> ?_|refine Ld.xb h rfl ?_|refine Ld.xt h rfl ?_|refine ad.xb (fun _ h=>h) rfl ?_|refine ad.xt (fun _ h=>h) rfl ?_|refine ⟨h.hb,?_⟩|refine ae.xw h rfl rfl fun w h=> ?_|(refine ae.xs h rfl rfl fun w h=> ?_;dsimp only [af,ab] at h)|(refine St.xs h rfl rfl fun w h=> ?_;dsimp only [af,ab] at h)|refine aa.yes ?_|refine aa.no ?_|refine ⟨by first|omega|decide,?_⟩)
 refine Dn (s:=⟨at_,v⟩) h ⟨h1,h2,h3⟩ fun w h=> ?_
 (try simp only [au,ak,al,Nat.zero_add,Nat.add_zero,Nat.reduceAdd,Bool.not_true,Bool.not_false,aH,aE,Option.isNone])
 (with_reducible repeat first|refine Nw.mk h fun b w h=> ?_|refine ah.mk h fun w h=> ?_|refine Ld.xb h rfl ?_|refine Ld.xt h rfl ?_|refine ad.xb (fun _ h=>h) rfl ?_|refine ad.xt (fun _ h=>h) rfl ?_|refine ⟨h.hb,?_⟩|refine ae.xw h rfl rfl fun w h=> ?_|(refine ae.xs h rfl rfl fun w h=> ?_;dsimp only [af,ab] at h)|(refine St.xs h rfl rfl fun w h=> ?_;dsimp only [af,ab] at h)|refine aa.yes ?_|refine aa.no ?_|refine ⟨by first|omega|decide,?_⟩)
 by_cases ha:at_<3
 ·have:=h2 ha
  subst this
  have hx:((uB (ByteArray.mk #[87,80,1]) ((at_:Int)).toNat:Int))=((sY at_:Nat):Int):=by
   rw [Int.toNat_natCast]
   have:at_=0∨at_=1∨at_=2:=by omega
   rcases this with rfl|rfl|rfl<;>rfl
  (with_reducible repeat first|refine Nw.mk h fun b w h=> ?_|refine ah.mk h fun w h=> ?_|refine Ld.xb h rfl ?_|refine Ld.xt h rfl ?_|refine ad.xb (fun _ h=>h) rfl ?_|refine ad.xt (fun _ h=>h) rfl ?_|refine ⟨h.hb,?_⟩|refine ae.xw h rfl rfl fun w h=> ?_|(refine ae.xs h rfl rfl fun w h=> ?_;dsimp only [af,ab] at h)|(refine St.xs h rfl rfl fun w h=> ?_;dsimp only [af,ab] at h)|refine aa.yes ?_|refine aa.no ?_|refine ⟨by first|omega|decide,?_⟩)
  rw [hx]
  refine ⟨by have:(((ByteArray.mk #[87,80,1]).size:Nat):Int)=3:=rfl
             omega,?_⟩
  by_cases hcm:c=sY at_
  ·refine aa.et (by omega) ?_
   (with_reducible repeat first|refine Nw.mk h fun b w h=> ?_|refine ah.mk h fun w h=> ?_|refine Ld.xb h rfl ?_|refine Ld.xt h rfl ?_|refine ad.xb (fun _ h=>h) rfl ?_|refine ad.xt (fun _ h=>h) rfl ?_|refine ⟨h.hb,?_⟩|refine ae.xw h rfl rfl fun w h=> ?_|(refine ae.xs h rfl rfl fun w h=> ?_;dsimp only [af,ab] at h)|(refine St.xs h rfl rfl fun w h=> ?_;dsimp only [af,ab] at h)|refine aa.yes ?_|refine aa.no ?_|refine ⟨by first|omega|decide,?_⟩)
   rw [aj (by omega)]
   exact hm ⟨at_+1,0⟩ _ (by unfold cr;dsimp only;rw [if_pos ha,if_pos hcm]) h.tl
  ·refine aa.ef (by omega) ?_
   (with_reducible repeat first|refine Nw.mk h fun b w h=> ?_|refine ah.mk h fun w h=> ?_|refine Ld.xb h rfl ?_|refine Ld.xt h rfl ?_|refine ad.xb (fun _ h=>h) rfl ?_|refine ad.xt (fun _ h=>h) rfl ?_|refine ⟨h.hb,?_⟩|refine ae.xw h rfl rfl fun w h=> ?_|(refine ae.xs h rfl rfl fun w h=> ?_;dsimp only [af,ab] at h)|(refine St.xs h rfl rfl fun w h=> ?_;dsimp only [af,ab] at h)|refine aa.yes ?_|refine aa.no ?_|refine ⟨by first|omega|decide,?_⟩)
   by_cases ha2:at_=2
   ·(with_reducible repeat first|refine Nw.mk h fun b w h=> ?_|refine ah.mk h fun w h=> ?_|refine Ld.xb h rfl ?_|refine Ld.xt h rfl ?_|refine ad.xb (fun _ h=>h) rfl ?_|refine ad.xt (fun _ h=>h) rfl ?_|refine ⟨h.hb,?_⟩|refine ae.xw h rfl rfl fun w h=> ?_|(refine ae.xs h rfl rfl fun w h=> ?_;dsimp only [af,ab] at h)|(refine St.xs h rfl rfl fun w h=> ?_;dsimp only [af,ab] at h)|refine aa.yes ?_|refine aa.no ?_|refine ⟨by first|omega|decide,?_⟩)
    exact hb 241 _ _ (by unfold cr;dsimp only;rw [if_pos ha,if_neg hcm,if_pos ha2]) h.tl
   ·(with_reducible repeat first|refine Nw.mk h fun b w h=> ?_|refine ah.mk h fun w h=> ?_|refine Ld.xb h rfl ?_|refine Ld.xt h rfl ?_|refine ad.xb (fun _ h=>h) rfl ?_|refine ad.xt (fun _ h=>h) rfl ?_|refine ⟨h.hb,?_⟩|refine ae.xw h rfl rfl fun w h=> ?_|(refine ae.xs h rfl rfl fun w h=> ?_;dsimp only [af,ab] at h)|(refine St.xs h rfl rfl fun w h=> ?_;dsimp only [af,ab] at h)|refine aa.yes ?_|refine aa.no ?_|refine ⟨by first|omega|decide,?_⟩)
    exact hb 240 _ _ (by unfold cr;dsimp only;rw [if_pos ha,if_neg hcm,if_neg ha2]) h.tl
 ·(with_reducible repeat first|refine Nw.mk h fun b w h=> ?_|refine ah.mk h fun w h=> ?_|refine Ld.xb h rfl ?_|refine Ld.xt h rfl ?_|refine ad.xb (fun _ h=>h) rfl ?_|refine ad.xt (fun _ h=>h) rfl ?_|refine ⟨h.hb,?_⟩|refine ae.xw h rfl rfl fun w h=> ?_|(refine ae.xs h rfl rfl fun w h=> ?_;dsimp only [af,ab] at h)|(refine St.xs h rfl rfl fun w h=> ?_;dsimp only [af,ab] at h)|refine aa.yes ?_|refine aa.no ?_|refine ⟨by first|omega|decide,?_⟩)
  refine wX (most:=65536) h h3 (by omega) hc (fun hg o d w h=> ?_) (fun n d hg k w hk h=> ?_)
  ·(with_reducible repeat first|refine Nw.mk h fun b w h=> ?_|refine ah.mk h fun w h=> ?_|refine Ld.xb h rfl ?_|refine Ld.xt h rfl ?_|refine ad.xb (fun _ h=>h) rfl ?_|refine ad.xt (fun _ h=>h) rfl ?_|refine ⟨h.hb,?_⟩|refine ae.xw h rfl rfl fun w h=> ?_|(refine ae.xs h rfl rfl fun w h=> ?_;dsimp only [af,ab] at h)|(refine St.xs h rfl rfl fun w h=> ?_;dsimp only [af,ab] at h)|refine aa.yes ?_|refine aa.no ?_|refine ⟨by first|omega|decide,?_⟩)
   (try simp only [au,ak,al,Nat.zero_add,Nat.add_zero,Nat.reduceAdd,Bool.not_true,Bool.not_false,aH,aE,Option.isNone])
   (with_reducible repeat first|refine Nw.mk h fun b w h=> ?_|refine ah.mk h fun w h=> ?_|refine Ld.xb h rfl ?_|refine Ld.xt h rfl ?_|refine ad.xb (fun _ h=>h) rfl ?_|refine ad.xt (fun _ h=>h) rfl ?_|refine ⟨h.hb,?_⟩|refine ae.xw h rfl rfl fun w h=> ?_|(refine ae.xs h rfl rfl fun w h=> ?_;dsimp only [af,ab] at h)|(refine St.xs h rfl rfl fun w h=> ?_;dsimp only [af,ab] at h)|refine aa.yes ?_|refine aa.no ?_|refine ⟨by first|omega|decide,?_⟩)
   exact hb 242 _ _ (by unfold cr;dsimp only;rw [if_neg ha,hg]) h.tl
  ·cases d
   ·have:=hk rfl
    subst this
    (with_reducible repeat first|refine Nw.mk h fun b w h=> ?_|refine ah.mk h fun w h=> ?_|refine Ld.xb h rfl ?_|refine Ld.xt h rfl ?_|refine ad.xb (fun _ h=>h) rfl ?_|refine ad.xt (fun _ h=>h) rfl ?_|refine ⟨h.hb,?_⟩|refine ae.xw h rfl rfl fun w h=> ?_|(refine ae.xs h rfl rfl fun w h=> ?_;dsimp only [af,ab] at h)|(refine St.xs h rfl rfl fun w h=> ?_;dsimp only [af,ab] at h)|refine aa.yes ?_|refine aa.no ?_|refine ⟨by first|omega|decide,?_⟩)
    (try simp only [au,ak,al,Nat.zero_add,Nat.add_zero,Nat.reduceAdd,Bool.not_true,Bool.not_false,aH,aE,Option.isNone])
    (with_reducible repeat first|refine Nw.mk h fun b w h=> ?_|refine ah.mk h fun w h=> ?_|refine Ld.xb h rfl ?_|refine Ld.xt h rfl ?_|refine ad.xb (fun _ h=>h) rfl ?_|refine ad.xt (fun _ h=>h) rfl ?_|refine ⟨h.hb,?_⟩|refine ae.xw h rfl rfl fun w h=> ?_|(refine ae.xs h rfl rfl fun w h=> ?_;dsimp only [af,ab] at h)|(refine St.xs h rfl rfl fun w h=> ?_;dsimp only [af,ab] at h)|refine aa.yes ?_|refine aa.no ?_|refine ⟨by first|omega|decide,?_⟩)
    exact hm ⟨3,n⟩ _ (by unfold cr;dsimp only;rw [if_neg ha,hg]) h.tl
   ·(with_reducible repeat first|refine Nw.mk h fun b w h=> ?_|refine ah.mk h fun w h=> ?_|refine Ld.xb h rfl ?_|refine Ld.xt h rfl ?_|refine ad.xb (fun _ h=>h) rfl ?_|refine ad.xt (fun _ h=>h) rfl ?_|refine ⟨h.hb,?_⟩|refine ae.xw h rfl rfl fun w h=> ?_|(refine ae.xs h rfl rfl fun w h=> ?_;dsimp only [af,ab] at h)|(refine St.xs h rfl rfl fun w h=> ?_;dsimp only [af,ab] at h)|refine aa.yes ?_|refine aa.no ?_|refine ⟨by first|omega|decide,?_⟩)
    (try simp only [au,ak,al,Nat.zero_add,Nat.add_zero,Nat.reduceAdd,Bool.not_true,Bool.not_false,aH,aE,Option.isNone])
    (with_reducible repeat first|refine Nw.mk h fun b w h=> ?_|refine ah.mk h fun w h=> ?_|refine Ld.xb h rfl ?_|refine Ld.xt h rfl ?_|refine ad.xb (fun _ h=>h) rfl ?_|refine ad.xt (fun _ h=>h) rfl ?_|refine ⟨h.hb,?_⟩|refine ae.xw h rfl rfl fun w h=> ?_|(refine ae.xs h rfl rfl fun w h=> ?_;dsimp only [af,ab] at h)|(refine St.xs h rfl rfl fun w h=> ?_;dsimp only [af,ab] at h)|refine aa.yes ?_|refine aa.no ?_|refine ⟨by first|omega|decide,?_⟩)
    exact hf n _ (by unfold cr;dsimp only;rw [if_neg ha,hg]) h.tl
end
end Go.Proofs.YtgglghjnakclmaaGreat
set_option maxRecDepth 20000
namespace Go.Proofs.YtgglghjnakclmaaGreat
open Go Go.Vc Go.Srt Go.Inc Go.Hd
section
variable {E w:World} {F:List HP}
theorem Ca {s m:Nat} {K:Bool→World→Prop} (hm:m≤3) (hs:s<256^m) (hK:K true w):Cl Tryz.prog [kB] gD ⟨[.int .u32 (s:Int),.int .i64 (m:Int)]⟩ w K:=by
 refine ye.ok _ _ _ _ ?_
 refine dg ?_
 (with_reducible repeat first|refine Nw.mk h fun b w h=> ?_|refine ah.mk h fun w h=> ?_|refine Ld.xb h rfl ?_|refine Ld.xt h rfl ?_|refine ad.xb (fun _ h=>h) rfl ?_|refine ad.xt (fun _ h=>h) rfl ?_|refine ⟨h.hb,?_⟩|refine ae.xw h rfl rfl fun w h=> ?_|(refine ae.xs h rfl rfl fun w h=> ?_;dsimp only [af,ab] at h)|(refine St.xs h rfl rfl fun w h=> ?_;dsimp only [af,ab] at h)|refine aa.yes ?_|refine aa.no ?_|refine ⟨by first|omega|decide,?_⟩)
 rw [aj (by omega)]
 refine ⟨by omega,dw ?_ hK⟩
 rw [show (8*(m:Int))=((8*m:Nat):Int) by omega,fQ (by
  have:m=0∨m=1∨m=2∨m=3:=by omega
  rcases this with rfl|rfl|rfl|rfl<;>simp at hs<;>omega),eI (by have:IntKind.bits .u64=64:=rfl;omega),Nat.pow_mul,Nat.div_eq_of_lt (by simpa using hs)]
 rfl
theorem Ex {n:Nat} {m:MS} {K:Bool→World→Prop} (h:Hp E w F) (hn:1≤n) (hn2:n≤65536) (hm:l8 n m) (hK: ∀w',Hp E w' F→K true w'):
  Cl Tryz.prog [kB] fG ⟨[.int .i64 (n:Int),.agg ⟨[.int .i64 (m.at_:Int),.int .i64 (m.v:Int),.int .i64 (vm m.v:Int),.int .i64 (m.M:Int),.int .i64 (m.P:Int),.int .u32 (m.sum:Int),.int .i64 (m.many:Int)]⟩]⟩ w K:=by
 obtain ⟨at_,v,M,P,sum,many⟩:=m
 unfold l8 at hm
 dsimp only at hm⊢
 refine qy.ok _ ((at_:Int),(v:Int),(vm v:Int),(M:Int),(P:Int),(sum:Int),(many:Int),()) _ _ ?_
 (try simp only [au,ak,al,Nat.zero_add,Nat.add_zero,Nat.reduceAdd,Bool.not_true,Bool.not_false,aH,aE,Option.isNone])
 (with_reducible repeat first|refine Nw.mk h fun b w h=> ?_|refine ah.mk h fun w h=> ?_|refine Ld.xb h rfl ?_|refine Ld.xt h rfl ?_|refine ad.xb (fun _ h=>h) rfl ?_|refine ad.xt (fun _ h=>h) rfl ?_|refine ⟨h.hb,?_⟩|refine ae.xw h rfl rfl fun w h=> ?_|(refine ae.xs h rfl rfl fun w h=> ?_;dsimp only [af,ab] at h)|(refine St.xs h rfl rfl fun w h=> ?_;dsimp only [af,ab] at h)|refine aa.yes ?_|refine aa.no ?_|refine ⟨by first|omega|decide,?_⟩)
 refine dg ?_
 rcases hm with ⟨h1,h2⟩|⟨h1,h2,h3,h4,h5,h6⟩|⟨h1,h2,h3,h4,h5,h6,h7⟩|⟨h1,h2,h3,h4,h5,h6,h7,h8⟩|⟨h1,h2,h3,h4,h5,h6⟩
 ·cases h2
  (with_reducible repeat first|refine Nw.mk h fun b w h=> ?_|refine ah.mk h fun w h=> ?_|refine Ld.xb h rfl ?_|refine Ld.xt h rfl ?_|refine ad.xb (fun _ h=>h) rfl ?_|refine ad.xt (fun _ h=>h) rfl ?_|refine ⟨h.hb,?_⟩|refine ae.xw h rfl rfl fun w h=> ?_|(refine ae.xs h rfl rfl fun w h=> ?_;dsimp only [af,ab] at h)|(refine St.xs h rfl rfl fun w h=> ?_;dsimp only [af,ab] at h)|refine aa.yes ?_|refine aa.no ?_|refine ⟨by first|omega|decide,?_⟩)
  refine dg ?_
  (with_reducible repeat first|refine Nw.mk h fun b w h=> ?_|refine ah.mk h fun w h=> ?_|refine Ld.xb h rfl ?_|refine Ld.xt h rfl ?_|refine ad.xb (fun _ h=>h) rfl ?_|refine ad.xt (fun _ h=>h) rfl ?_|refine ⟨h.hb,?_⟩|refine ae.xw h rfl rfl fun w h=> ?_|(refine ae.xs h rfl rfl fun w h=> ?_;dsimp only [af,ab] at h)|(refine St.xs h rfl rfl fun w h=> ?_;dsimp only [af,ab] at h)|refine aa.yes ?_|refine aa.no ?_|refine ⟨by first|omega|decide,?_⟩)
  exact hK _ h.tl
 ·subst h1 h3 h4 h5 h6
  (with_reducible repeat first|refine Nw.mk h fun b w h=> ?_|refine ah.mk h fun w h=> ?_|refine Ld.xb h rfl ?_|refine Ld.xt h rfl ?_|refine ad.xb (fun _ h=>h) rfl ?_|refine ad.xt (fun _ h=>h) rfl ?_|refine ⟨h.hb,?_⟩|refine ae.xw h rfl rfl fun w h=> ?_|(refine ae.xs h rfl rfl fun w h=> ?_;dsimp only [af,ab] at h)|(refine St.xs h rfl rfl fun w h=> ?_;dsimp only [af,ab] at h)|refine aa.yes ?_|refine aa.no ?_|refine ⟨by first|omega|decide,?_⟩)
  refine dg ?_
  (with_reducible repeat first|refine Nw.mk h fun b w h=> ?_|refine ah.mk h fun w h=> ?_|refine Ld.xb h rfl ?_|refine Ld.xt h rfl ?_|refine ad.xb (fun _ h=>h) rfl ?_|refine ad.xt (fun _ h=>h) rfl ?_|refine ⟨h.hb,?_⟩|refine ae.xw h rfl rfl fun w h=> ?_|(refine ae.xs h rfl rfl fun w h=> ?_;dsimp only [af,ab] at h)|(refine St.xs h rfl rfl fun w h=> ?_;dsimp only [af,ab] at h)|refine aa.yes ?_|refine aa.no ?_|refine ⟨by first|omega|decide,?_⟩)
  refine sC h (by omega) (by omega) fun w h=> ?_
  (with_reducible repeat first|refine Nw.mk h fun b w h=> ?_|refine ah.mk h fun w h=> ?_|refine Ld.xb h rfl ?_|refine Ld.xt h rfl ?_|refine ad.xb (fun _ h=>h) rfl ?_|refine ad.xt (fun _ h=>h) rfl ?_|refine ⟨h.hb,?_⟩|refine ae.xw h rfl rfl fun w h=> ?_|(refine ae.xs h rfl rfl fun w h=> ?_;dsimp only [af,ab] at h)|(refine St.xs h rfl rfl fun w h=> ?_;dsimp only [af,ab] at h)|refine aa.yes ?_|refine aa.no ?_|refine ⟨by first|omega|decide,?_⟩)
  refine dw ?_ (hK _ h.tl)
  simp
 ·subst h1 h5 h6 h7
  (with_reducible repeat first|refine Nw.mk h fun b w h=> ?_|refine ah.mk h fun w h=> ?_|refine Ld.xb h rfl ?_|refine Ld.xt h rfl ?_|refine ad.xb (fun _ h=>h) rfl ?_|refine ad.xt (fun _ h=>h) rfl ?_|refine ⟨h.hb,?_⟩|refine ae.xw h rfl rfl fun w h=> ?_|(refine ae.xs h rfl rfl fun w h=> ?_;dsimp only [af,ab] at h)|(refine St.xs h rfl rfl fun w h=> ?_;dsimp only [af,ab] at h)|refine aa.yes ?_|refine aa.no ?_|refine ⟨by first|omega|decide,?_⟩)
  refine dg ?_
  (with_reducible repeat first|refine Nw.mk h fun b w h=> ?_|refine ah.mk h fun w h=> ?_|refine Ld.xb h rfl ?_|refine Ld.xt h rfl ?_|refine ad.xb (fun _ h=>h) rfl ?_|refine ad.xt (fun _ h=>h) rfl ?_|refine ⟨h.hb,?_⟩|refine ae.xw h rfl rfl fun w h=> ?_|(refine ae.xs h rfl rfl fun w h=> ?_;dsimp only [af,ab] at h)|(refine St.xs h rfl rfl fun w h=> ?_;dsimp only [af,ab] at h)|refine aa.yes ?_|refine aa.no ?_|refine ⟨by first|omega|decide,?_⟩)
  refine dg ?_
  (with_reducible repeat first|refine Nw.mk h fun b w h=> ?_|refine ah.mk h fun w h=> ?_|refine Ld.xb h rfl ?_|refine Ld.xt h rfl ?_|refine ad.xb (fun _ h=>h) rfl ?_|refine ad.xt (fun _ h=>h) rfl ?_|refine ⟨h.hb,?_⟩|refine ae.xw h rfl rfl fun w h=> ?_|(refine ae.xs h rfl rfl fun w h=> ?_;dsimp only [af,ab] at h)|(refine St.xs h rfl rfl fun w h=> ?_;dsimp only [af,ab] at h)|refine aa.yes ?_|refine aa.no ?_|refine ⟨by first|omega|decide,?_⟩)
  refine dg ?_
  (with_reducible repeat first|refine Nw.mk h fun b w h=> ?_|refine ah.mk h fun w h=> ?_|refine Ld.xb h rfl ?_|refine Ld.xt h rfl ?_|refine ad.xb (fun _ h=>h) rfl ?_|refine ad.xt (fun _ h=>h) rfl ?_|refine ⟨h.hb,?_⟩|refine ae.xw h rfl rfl fun w h=> ?_|(refine ae.xs h rfl rfl fun w h=> ?_;dsimp only [af,ab] at h)|(refine St.xs h rfl rfl fun w h=> ?_;dsimp only [af,ab] at h)|refine aa.yes ?_|refine aa.no ?_|refine ⟨by first|omega|decide,?_⟩)
  refine sC h (by omega) (by omega) fun w h=> ?_
  (with_reducible repeat first|refine Nw.mk h fun b w h=> ?_|refine ah.mk h fun w h=> ?_|refine Ld.xb h rfl ?_|refine Ld.xt h rfl ?_|refine ad.xb (fun _ h=>h) rfl ?_|refine ad.xt (fun _ h=>h) rfl ?_|refine ⟨h.hb,?_⟩|refine ae.xw h rfl rfl fun w h=> ?_|(refine ae.xs h rfl rfl fun w h=> ?_;dsimp only [af,ab] at h)|(refine St.xs h rfl rfl fun w h=> ?_;dsimp only [af,ab] at h)|refine aa.yes ?_|refine aa.no ?_|refine ⟨by first|omega|decide,?_⟩)
  refine dw ?_ (hK _ h.tl)
  simp
 ·subst h1 h6
  (with_reducible repeat first|refine Nw.mk h fun b w h=> ?_|refine ah.mk h fun w h=> ?_|refine Ld.xb h rfl ?_|refine Ld.xt h rfl ?_|refine ad.xb (fun _ h=>h) rfl ?_|refine ad.xt (fun _ h=>h) rfl ?_|refine ⟨h.hb,?_⟩|refine ae.xw h rfl rfl fun w h=> ?_|(refine ae.xs h rfl rfl fun w h=> ?_;dsimp only [af,ab] at h)|(refine St.xs h rfl rfl fun w h=> ?_;dsimp only [af,ab] at h)|refine aa.yes ?_|refine aa.no ?_|refine ⟨by first|omega|decide,?_⟩)
  refine dg ?_
  rw [decide_eq_true (show 1≤(P:Int)∧(P:Int)≤(M:Int) by omega)]
  refine dg ?_
  (with_reducible repeat first|refine Nw.mk h fun b w h=> ?_|refine ah.mk h fun w h=> ?_|refine Ld.xb h rfl ?_|refine Ld.xt h rfl ?_|refine ad.xb (fun _ h=>h) rfl ?_|refine ad.xt (fun _ h=>h) rfl ?_|refine ⟨h.hb,?_⟩|refine ae.xw h rfl rfl fun w h=> ?_|(refine ae.xs h rfl rfl fun w h=> ?_;dsimp only [af,ab] at h)|(refine St.xs h rfl rfl fun w h=> ?_;dsimp only [af,ab] at h)|refine aa.yes ?_|refine aa.no ?_|refine ⟨by first|omega|decide,?_⟩)
  refine Ca h7 h8 ?_
  (with_reducible repeat first|refine Nw.mk h fun b w h=> ?_|refine ah.mk h fun w h=> ?_|refine Ld.xb h rfl ?_|refine Ld.xt h rfl ?_|refine ad.xb (fun _ h=>h) rfl ?_|refine ad.xt (fun _ h=>h) rfl ?_|refine ⟨h.hb,?_⟩|refine ae.xw h rfl rfl fun w h=> ?_|(refine ae.xs h rfl rfl fun w h=> ?_;dsimp only [af,ab] at h)|(refine St.xs h rfl rfl fun w h=> ?_;dsimp only [af,ab] at h)|refine aa.yes ?_|refine aa.no ?_|refine ⟨by first|omega|decide,?_⟩)
  exact hK _ h.tl
 ·subst h1 h2 h3 h4
  (with_reducible repeat first|refine Nw.mk h fun b w h=> ?_|refine ah.mk h fun w h=> ?_|refine Ld.xb h rfl ?_|refine Ld.xt h rfl ?_|refine ad.xb (fun _ h=>h) rfl ?_|refine ad.xt (fun _ h=>h) rfl ?_|refine ⟨h.hb,?_⟩|refine ae.xw h rfl rfl fun w h=> ?_|(refine ae.xs h rfl rfl fun w h=> ?_;dsimp only [af,ab] at h)|(refine St.xs h rfl rfl fun w h=> ?_;dsimp only [af,ab] at h)|refine aa.yes ?_|refine aa.no ?_|refine ⟨by first|omega|decide,?_⟩)
  refine dg ?_
  (with_reducible repeat first|refine Nw.mk h fun b w h=> ?_|refine ah.mk h fun w h=> ?_|refine Ld.xb h rfl ?_|refine Ld.xt h rfl ?_|refine ad.xb (fun _ h=>h) rfl ?_|refine ad.xt (fun _ h=>h) rfl ?_|refine ⟨h.hb,?_⟩|refine ae.xw h rfl rfl fun w h=> ?_|(refine ae.xs h rfl rfl fun w h=> ?_;dsimp only [af,ab] at h)|(refine St.xs h rfl rfl fun w h=> ?_;dsimp only [af,ab] at h)|refine aa.yes ?_|refine aa.no ?_|refine ⟨by first|omega|decide,?_⟩)
  refine Ca h5 h6 ?_
  (with_reducible repeat first|refine Nw.mk h fun b w h=> ?_|refine ah.mk h fun w h=> ?_|refine Ld.xb h rfl ?_|refine Ld.xt h rfl ?_|refine ad.xb (fun _ h=>h) rfl ?_|refine ad.xt (fun _ h=>h) rfl ?_|refine ⟨h.hb,?_⟩|refine ae.xw h rfl rfl fun w h=> ?_|(refine ae.xs h rfl rfl fun w h=> ?_;dsimp only [af,ab] at h)|(refine St.xs h rfl rfl fun w h=> ?_;dsimp only [af,ab] at h)|refine aa.yes ?_|refine aa.no ?_|refine ⟨by first|omega|decide,?_⟩)
  refine dw ?_ (hK _ h.tl)
  simp [vm]
end
end Go.Proofs.YtgglghjnakclmaaGreat
namespace Go.Vc
open Go
section
variable {P:Program} {α β:Type} [DecidableEq α] {ke:α→Value} {ve:β→Value} {kt vt t:TypeId} {E w:World} {F:List HP} {m:Option Nat} {l:List (α×β)}
theorem jc.fn {t:Fn} {a b:Array Value} {K:Bool→Prop} (h:K false):jc (.func t a b) K:=h
theorem aw.found (hk:nH P kt ke) (hu:P.underlying t=some (.map kt vt)) {a:α} {q:Nat×β} {z:Value} {k:Ki} {x:k.T} {K:k.T→World→Prop} (hz: ∀w,(zeroValue vt).run P w= .ok z w) (h:Hp E w (jP ke ve m l::F)) (hf:findAt a l 0=some q) (hx:ve q.2=k.enc x) (hK:K x w):
  aw P (Instr.lookup t (.map m) (ke a) false) k w K:=by
 unfold aw
 rw [xJ hk hu hz h,hf]
 dsimp only
 rw [hx]
 exact Ki.kp.2 hK
end
end Go.Vc
namespace Go.Proofs.YtgglghjnakclmaaGreat
open Go Go.Vc Go.Srt Go.Inc Go.Hd
abbrev ly:=Int×Int×Int×Int×Int×Int×Int×Unit
section
variable {E w:World} {F:List HP}
def BP (n:Nat) (m:MS) (c:Nat) (E:World) (F:List HP) (K:ly→Bool→World→Prop):Prop:=
 (∀m' w',aX n m c= .more m'→m'.at_≠4→m'.at_≠6→Hp E w' F→K (HH m') true w')∧
 (∀M P u w',aX n m c= .fin (.aD M P u)→Hp E w' F→K (4,0,0,(M:Int),(P:Int),(u:Int),4,()) true w')∧
 (∀u w',aX n m c= .fin (.tail u)→Hp E w' F→K (6,0,0,0,0,(u:Int),4,()) true w')∧
 (∀e o w',aX n m c= .bad e→e=242→Hp E w' F→K o false w')
theorem GR {n:Nat} {c:Nat} {K:ly→Bool→World→Prop} (h:Hp E w F) (hc:c<256) (hK:BP n gp c E F K):
  Cl Tryz.prog [.st [.int .i64,.int .i64,.int .i64,.int .i64,.int .i64,.int .u32,.int .i64],kB] cT ⟨[.int .i64 (n:Int),.agg ⟨[.int .i64 0,.int .i64 0,.int .i64 0,.int .i64 0,.int .i64 0,.int .u32 0,.int .i64 0]⟩,.int .u8 (c:Int)]⟩ w K:=by
 obtain ⟨k1,_,_,k4⟩:=hK
 refine xZ.ok _ (0,0,0,0,0,0,0,()) _ _ _ ?_
 (try simp only [au,ak,al,Nat.zero_add,Nat.add_zero,Nat.reduceAdd,Bool.not_true,Bool.not_false,aH,aE,Option.isNone])
 (with_reducible repeat first|refine Nw.mk h fun b w h=> ?_|refine ah.mk h fun w h=> ?_|refine Ld.xb h rfl ?_|refine Ld.xt h rfl ?_|refine ad.xb (fun _ h=>h) rfl ?_|refine ad.xt (fun _ h=>h) rfl ?_|refine ⟨h.hb,?_⟩|refine ae.xw h rfl rfl fun w h=> ?_|(refine ae.xs h rfl rfl fun w h=> ?_;dsimp only [af,ab] at h)|(refine St.xs h rfl rfl fun w h=> ?_;dsimp only [af,ab] at h)|refine aa.yes ?_|refine aa.no ?_|refine ⟨by first|omega|decide,?_⟩)
 by_cases h0:c=0
 ·subst h0
  (with_reducible repeat first|refine Nw.mk h fun b w h=> ?_|refine ah.mk h fun w h=> ?_|refine Ld.xb h rfl ?_|refine Ld.xt h rfl ?_|refine ad.xb (fun _ h=>h) rfl ?_|refine ad.xt (fun _ h=>h) rfl ?_|refine ⟨h.hb,?_⟩|refine ae.xw h rfl rfl fun w h=> ?_|(refine ae.xs h rfl rfl fun w h=> ?_;dsimp only [af,ab] at h)|(refine St.xs h rfl rfl fun w h=> ?_;dsimp only [af,ab] at h)|refine aa.yes ?_|refine aa.no ?_|refine ⟨by first|omega|decide,?_⟩)
  exact k1 ⟨5,0,0,0,0,0⟩ _ rfl (by dsimp only;decide) (by dsimp only;decide) h.tl
 ·(with_reducible repeat first|refine Nw.mk h fun b w h=> ?_|refine ah.mk h fun w h=> ?_|refine Ld.xb h rfl ?_|refine Ld.xt h rfl ?_|refine ad.xb (fun _ h=>h) rfl ?_|refine ad.xt (fun _ h=>h) rfl ?_|refine ⟨h.hb,?_⟩|refine ae.xw h rfl rfl fun w h=> ?_|(refine ae.xs h rfl rfl fun w h=> ?_;dsimp only [af,ab] at h)|(refine St.xs h rfl rfl fun w h=> ?_;dsimp only [af,ab] at h)|refine aa.yes ?_|refine aa.no ?_|refine ⟨by first|omega|decide,?_⟩)
  by_cases h1:c=1
  ·subst h1
   exact k1 ⟨1,0,0,0,0,0⟩ _ rfl (by dsimp only;decide) (by dsimp only;decide) h.tl
  ·refine dw (decide_eq_false (by omega)) (k4 242 _ _ ?_ rfl h.tl)
   unfold aX gp
   simp [h0,h1]
theorem GB {n v:Nat} {c:Nat} {K:ly→Bool→World→Prop} (h:Hp E w F) (hn:n≤65536) (hv:v≤n) (hc:c<256) (hK:BP n ⟨1,v,0,0,0,0⟩ c E F K):
  Cl Tryz.prog [.st [.int .i64,.int .i64,.int .i64,.int .i64,.int .i64,.int .u32,.int .i64],kB] cV ⟨[.int .i64 (n:Int),.agg ⟨[.int .i64 1,.int .i64 (v:Int),.int .i64 (vm v:Int),.int .i64 0,.int .i64 0,.int .u32 0,.int .i64 0]⟩,.int .u8 (c:Int)]⟩ w K:=by
 obtain ⟨k1,_,_,k4⟩:=hK
 refine xz.ok _ (1,(v:Int),(vm v:Int),0,0,0,0,()) _ _ _ ?_
 (try simp only [au,ak,al,Nat.zero_add,Nat.add_zero,Nat.reduceAdd,Bool.not_true,Bool.not_false,aH,aE,Option.isNone])
 (with_reducible repeat first|refine Nw.mk h fun b w h=> ?_|refine ah.mk h fun w h=> ?_|refine Ld.xb h rfl ?_|refine Ld.xt h rfl ?_|refine ad.xb (fun _ h=>h) rfl ?_|refine ad.xt (fun _ h=>h) rfl ?_|refine ⟨h.hb,?_⟩|refine ae.xw h rfl rfl fun w h=> ?_|(refine ae.xs h rfl rfl fun w h=> ?_;dsimp only [af,ab] at h)|(refine St.xs h rfl rfl fun w h=> ?_;dsimp only [af,ab] at h)|refine aa.yes ?_|refine aa.no ?_|refine ⟨by first|omega|decide,?_⟩)
 refine wX h hv hn hc (fun hg o d w h=> ?_) (fun m d hg k w hk h=> ?_)
 ·(with_reducible repeat first|refine Nw.mk h fun b w h=> ?_|refine ah.mk h fun w h=> ?_|refine Ld.xb h rfl ?_|refine Ld.xt h rfl ?_|refine ad.xb (fun _ h=>h) rfl ?_|refine ad.xt (fun _ h=>h) rfl ?_|refine ⟨h.hb,?_⟩|refine ae.xw h rfl rfl fun w h=> ?_|(refine ae.xs h rfl rfl fun w h=> ?_;dsimp only [af,ab] at h)|(refine St.xs h rfl rfl fun w h=> ?_;dsimp only [af,ab] at h)|refine aa.yes ?_|refine aa.no ?_|refine ⟨by first|omega|decide,?_⟩)
  cases d
  ·(with_reducible repeat first|refine Nw.mk h fun b w h=> ?_|refine ah.mk h fun w h=> ?_|refine Ld.xb h rfl ?_|refine Ld.xt h rfl ?_|refine ad.xb (fun _ h=>h) rfl ?_|refine ad.xt (fun _ h=>h) rfl ?_|refine ⟨h.hb,?_⟩|refine ae.xw h rfl rfl fun w h=> ?_|(refine ae.xs h rfl rfl fun w h=> ?_;dsimp only [af,ab] at h)|(refine St.xs h rfl rfl fun w h=> ?_;dsimp only [af,ab] at h)|refine aa.yes ?_|refine aa.no ?_|refine ⟨by first|omega|decide,?_⟩)
   exact k4 242 _ _ (by unfold aX;simp [hg]) rfl h.tl
  ·(with_reducible repeat first|refine Nw.mk h fun b w h=> ?_|refine ah.mk h fun w h=> ?_|refine Ld.xb h rfl ?_|refine Ld.xt h rfl ?_|refine ad.xb (fun _ h=>h) rfl ?_|refine ad.xt (fun _ h=>h) rfl ?_|refine ⟨h.hb,?_⟩|refine ae.xw h rfl rfl fun w h=> ?_|(refine ae.xs h rfl rfl fun w h=> ?_;dsimp only [af,ab] at h)|(refine St.xs h rfl rfl fun w h=> ?_;dsimp only [af,ab] at h)|refine aa.yes ?_|refine aa.no ?_|refine ⟨by first|omega|decide,?_⟩)
   exact k4 242 _ _ (by unfold aX;simp [hg]) rfl h.tl
 ·cases d
  ·have:=hk rfl
   subst this
   (with_reducible repeat first|refine Nw.mk h fun b w h=> ?_|refine ah.mk h fun w h=> ?_|refine Ld.xb h rfl ?_|refine Ld.xt h rfl ?_|refine ad.xb (fun _ h=>h) rfl ?_|refine ad.xt (fun _ h=>h) rfl ?_|refine ⟨h.hb,?_⟩|refine ae.xw h rfl rfl fun w h=> ?_|(refine ae.xs h rfl rfl fun w h=> ?_;dsimp only [af,ab] at h)|(refine St.xs h rfl rfl fun w h=> ?_;dsimp only [af,ab] at h)|refine aa.yes ?_|refine aa.no ?_|refine ⟨by first|omega|decide,?_⟩)
   exact k1 ⟨1,m,0,0,0,0⟩ _ (by unfold aX;simp [hg]) (by dsimp only;decide) (by dsimp only;decide) h.tl
  ·(with_reducible repeat first|refine Nw.mk h fun b w h=> ?_|refine ah.mk h fun w h=> ?_|refine Ld.xb h rfl ?_|refine Ld.xt h rfl ?_|refine ad.xb (fun _ h=>h) rfl ?_|refine ad.xt (fun _ h=>h) rfl ?_|refine ⟨h.hb,?_⟩|refine ae.xw h rfl rfl fun w h=> ?_|(refine ae.xs h rfl rfl fun w h=> ?_;dsimp only [af,ab] at h)|(refine St.xs h rfl rfl fun w h=> ?_;dsimp only [af,ab] at h)|refine aa.yes ?_|refine aa.no ?_|refine ⟨by first|omega|decide,?_⟩)
   exact k1 ⟨2,0,m,0,0,0⟩ _ (by unfold aX;simp [hg]) (by dsimp only;decide) (by dsimp only;decide) h.tl
theorem Fl {n v M:Nat} {c:Nat} {K:ly→Bool→World→Prop} (h:Hp E w F) (hn:M≤65536) (hv:v≤M) (hc:c<256) (hK:BP n ⟨2,v,M,0,0,0⟩ c E F K):
  Cl Tryz.prog [.st [.int .i64,.int .i64,.int .i64,.int .i64,.int .i64,.int .u32,.int .i64],kB] cH ⟨[.int .i64 (n:Int),.agg ⟨[.int .i64 2,.int .i64 (v:Int),.int .i64 (vm v:Int),.int .i64 (M:Int),.int .i64 0,.int .u32 0,.int .i64 0]⟩,.int .u8 (c:Int)]⟩ w K:=by
 obtain ⟨k1,_,_,k4⟩:=hK
 refine wU.ok _ (2,(v:Int),(vm v:Int),(M:Int),0,0,0,()) _ _ _ ?_
 (try simp only [au,ak,al,Nat.zero_add,Nat.add_zero,Nat.reduceAdd,Bool.not_true,Bool.not_false,aH,aE,Option.isNone])
 (with_reducible repeat first|refine Nw.mk h fun b w h=> ?_|refine ah.mk h fun w h=> ?_|refine Ld.xb h rfl ?_|refine Ld.xt h rfl ?_|refine ad.xb (fun _ h=>h) rfl ?_|refine ad.xt (fun _ h=>h) rfl ?_|refine ⟨h.hb,?_⟩|refine ae.xw h rfl rfl fun w h=> ?_|(refine ae.xs h rfl rfl fun w h=> ?_;dsimp only [af,ab] at h)|(refine St.xs h rfl rfl fun w h=> ?_;dsimp only [af,ab] at h)|refine aa.yes ?_|refine aa.no ?_|refine ⟨by first|omega|decide,?_⟩)
 refine wX h hv hn hc (fun hg o d w h=> ?_) (fun m d hg k w hk h=> ?_)
 ·(with_reducible repeat first|refine Nw.mk h fun b w h=> ?_|refine ah.mk h fun w h=> ?_|refine Ld.xb h rfl ?_|refine Ld.xt h rfl ?_|refine ad.xb (fun _ h=>h) rfl ?_|refine ad.xt (fun _ h=>h) rfl ?_|refine ⟨h.hb,?_⟩|refine ae.xw h rfl rfl fun w h=> ?_|(refine ae.xs h rfl rfl fun w h=> ?_;dsimp only [af,ab] at h)|(refine St.xs h rfl rfl fun w h=> ?_;dsimp only [af,ab] at h)|refine aa.yes ?_|refine aa.no ?_|refine ⟨by first|omega|decide,?_⟩)
  cases d
  ·(with_reducible repeat first|refine Nw.mk h fun b w h=> ?_|refine ah.mk h fun w h=> ?_|refine Ld.xb h rfl ?_|refine Ld.xt h rfl ?_|refine ad.xb (fun _ h=>h) rfl ?_|refine ad.xt (fun _ h=>h) rfl ?_|refine ⟨h.hb,?_⟩|refine ae.xw h rfl rfl fun w h=> ?_|(refine ae.xs h rfl rfl fun w h=> ?_;dsimp only [af,ab] at h)|(refine St.xs h rfl rfl fun w h=> ?_;dsimp only [af,ab] at h)|refine aa.yes ?_|refine aa.no ?_|refine ⟨by first|omega|decide,?_⟩)
   exact k4 242 _ _ (by unfold aX;simp [hg]) rfl h.tl
  ·(with_reducible repeat first|refine Nw.mk h fun b w h=> ?_|refine ah.mk h fun w h=> ?_|refine Ld.xb h rfl ?_|refine Ld.xt h rfl ?_|refine ad.xb (fun _ h=>h) rfl ?_|refine ad.xt (fun _ h=>h) rfl ?_|refine ⟨h.hb,?_⟩|refine ae.xw h rfl rfl fun w h=> ?_|(refine ae.xs h rfl rfl fun w h=> ?_;dsimp only [af,ab] at h)|(refine St.xs h rfl rfl fun w h=> ?_;dsimp only [af,ab] at h)|refine aa.yes ?_|refine aa.no ?_|refine ⟨by first|omega|decide,?_⟩)
   exact k4 242 _ _ (by unfold aX;simp [hg]) rfl h.tl
 ·cases d
  ·have:=hk rfl
   subst this
   (with_reducible repeat first|refine Nw.mk h fun b w h=> ?_|refine ah.mk h fun w h=> ?_|refine Ld.xb h rfl ?_|refine Ld.xt h rfl ?_|refine ad.xb (fun _ h=>h) rfl ?_|refine ad.xt (fun _ h=>h) rfl ?_|refine ⟨h.hb,?_⟩|refine ae.xw h rfl rfl fun w h=> ?_|(refine ae.xs h rfl rfl fun w h=> ?_;dsimp only [af,ab] at h)|(refine St.xs h rfl rfl fun w h=> ?_;dsimp only [af,ab] at h)|refine aa.yes ?_|refine aa.no ?_|refine ⟨by first|omega|decide,?_⟩)
   exact k1 ⟨2,m,M,0,0,0⟩ _ (by unfold aX;simp [hg]) (by dsimp only;decide) (by dsimp only;decide) h.tl
  ·(with_reducible repeat first|refine Nw.mk h fun b w h=> ?_|refine ah.mk h fun w h=> ?_|refine Ld.xb h rfl ?_|refine Ld.xt h rfl ?_|refine ad.xb (fun _ h=>h) rfl ?_|refine ad.xt (fun _ h=>h) rfl ?_|refine ⟨h.hb,?_⟩|refine ae.xw h rfl rfl fun w h=> ?_|(refine ae.xs h rfl rfl fun w h=> ?_;dsimp only [af,ab] at h)|(refine St.xs h rfl rfl fun w h=> ?_;dsimp only [af,ab] at h)|refine aa.yes ?_|refine aa.no ?_|refine ⟨by first|omega|decide,?_⟩)
   exact k1 ⟨3,0,M,m,0,0⟩ _ (by unfold aX;simp [hg]) (by dsimp only;decide) (by dsimp only;decide) h.tl
theorem EC {n a M P sum many:Nat} {c:Nat} {K:ly→Bool→World→Prop} (h:Hp E w F) (ha:a=3∨(a=5∧M=0∧P=0)) (hm:many≤3) (hs:sum<256^many) (hc:c<256) (hK:BP n ⟨a,0,M,P,sum,many⟩ c E F K):
  Cl Tryz.prog [.st [.int .i64,.int .i64,.int .i64,.int .i64,.int .i64,.int .u32,.int .i64],kB] bQ ⟨[.int .i64 (n:Int),.agg ⟨[.int .i64 (a:Int),.int .i64 0,.int .i64 0,.int .i64 (M:Int),.int .i64 (P:Int),.int .u32 (sum:Int),.int .i64 (many:Int)]⟩,.int .u8 (c:Int)]⟩ w K:=by
 obtain ⟨k1,k2,k3,k4⟩:=hK
 have hs2:sum<16777216:=by
  have:256^many≤256^3:=Nat.pow_le_pow_right (by decide) hm
  omega
 refine zV.ok _ ((a:Int),0,0,(M:Int),(P:Int),(sum:Int),(many:Int),()) _ _ _ ?_
 (try simp only [au,ak,al,Nat.zero_add,Nat.add_zero,Nat.reduceAdd,Bool.not_true,Bool.not_false,aH,aE,Option.isNone])
 (with_reducible repeat first|refine Nw.mk h fun b w h=> ?_|refine ah.mk h fun w h=> ?_|refine Ld.xb h rfl ?_|refine Ld.xt h rfl ?_|refine ad.xb (fun _ h=>h) rfl ?_|refine ad.xt (fun _ h=>h) rfl ?_|refine ⟨h.hb,?_⟩|refine ae.xw h rfl rfl fun w h=> ?_|(refine ae.xs h rfl rfl fun w h=> ?_;dsimp only [af,ab] at h)|(refine St.xs h rfl rfl fun w h=> ?_;dsimp only [af,ab] at h)|refine aa.yes ?_|refine aa.no ?_|refine ⟨by first|omega|decide,?_⟩)
 rw [aj (x:=(many:Int)+1) (by omega)] at h⊢
 rw [I7 hs2 hc] at h
 by_cases hm3:many=3
 ·subst hm3
  (with_reducible repeat first|refine Nw.mk h fun b w h=> ?_|refine ah.mk h fun w h=> ?_|refine Ld.xb h rfl ?_|refine Ld.xt h rfl ?_|refine ad.xb (fun _ h=>h) rfl ?_|refine ad.xt (fun _ h=>h) rfl ?_|refine ⟨h.hb,?_⟩|refine ae.xw h rfl rfl fun w h=> ?_|(refine ae.xs h rfl rfl fun w h=> ?_;dsimp only [af,ab] at h)|(refine St.xs h rfl rfl fun w h=> ?_;dsimp only [af,ab] at h)|refine aa.yes ?_|refine aa.no ?_|refine ⟨by first|omega|decide,?_⟩)
  rw [aj (by omega)] at h⊢
  rcases ha with rfl|⟨rfl,rfl,rfl⟩
  ·exact k2 M P (256*sum+c) _ (by unfold aX;simp) h.tl
  ·exact k3 (256*sum+c) _ (by unfold aX;simp) h.tl
 ·(with_reducible repeat first|refine Nw.mk h fun b w h=> ?_|refine ah.mk h fun w h=> ?_|refine Ld.xb h rfl ?_|refine Ld.xt h rfl ?_|refine ad.xb (fun _ h=>h) rfl ?_|refine ad.xt (fun _ h=>h) rfl ?_|refine ⟨h.hb,?_⟩|refine ae.xw h rfl rfl fun w h=> ?_|(refine ae.xs h rfl rfl fun w h=> ?_;dsimp only [af,ab] at h)|(refine St.xs h rfl rfl fun w h=> ?_;dsimp only [af,ab] at h)|refine aa.yes ?_|refine aa.no ?_|refine ⟨by first|omega|decide,?_⟩)
  refine k1 ⟨a,0,M,P,256*sum+c,many+1⟩ _ ?_ ?_ ?_ h.tl
  ·unfold aX
   rcases ha with rfl|⟨rfl,rfl,rfl⟩<;>simp [hm3]
  ·dsimp only;omega
  ·dsimp only;omega
theorem pc:Tryz.prog.underlying 245=some (.map 3 246):=by kernel_rfl
theorem Be (w:World):(zeroValue 246).run Tryz.prog w= .ok .nilFunc w:=by kernel_rfl
set_option maxRecDepth 20000
abbrev fv (i:Nat):Value:= .func (.func i) ⟨[]⟩ ⟨[]⟩
theorem zk {n:Nat} {m:MS} {c:Nat} {K:ly→Bool→Int→World→Prop} (h:Hp E w F) (hn:1≤n) (hn2:n≤65536) (hm:l8 n m) (hc:c<256)
  (hmore: ∀m' w',aX n m c= .more m'→Hp E w' F→K (HH m') false 0 w')
  (hblk: ∀M P u w',aX n m c= .fin (.aD M P u)→Hp E w' F→K (4,0,0,(M:Int),(P:Int),(u:Int),4,()) true 0 w')
  (htail: ∀u w',aX n m c= .fin (.tail u)→Hp E w' F→K (6,0,0,0,0,(u:Int),4,()) true 0 w')
  (hbad: ∀e o w',aX n m c= .bad e→Hp E w' F→K o false (e:Int) w'):
  Cl Tryz.prog [.st [.int .i64,.int .i64,.int .i64,.int .i64,.int .i64,.int .u32,.int .i64],kB,kI] cY ⟨[.int .i64 (n:Int),.agg ⟨[.int .i64 (m.at_:Int),.int .i64 (m.v:Int),.int .i64 (vm m.v:Int),.int .i64 (m.M:Int),.int .i64 (m.P:Int),.int .u32 (m.sum:Int),.int .i64 (m.many:Int)]⟩,.int .u8 (c:Int)]⟩ w K:=by
 have main: ∀(q:Nat) (i:Nat),findAt (m.at_:Int) [((0:Int),fv cT),(1,fv cV),(2,fv cH),(3,fv bQ),(5,fv bQ)] 0=some (q,fv i)→my Tryz.prog i=true→
   (∀(F':List HP) (w:World) (K':ly→Bool→World→Prop),Hp E w F'→BP n m c E F' K'→Cl Tryz.prog [.st [.int .i64,.int .i64,.int .i64,.int .i64,.int .i64,.int .u32,.int .i64],kB] i ⟨[.int .i64 (n:Int),.agg ⟨[.int .i64 (m.at_:Int),.int .i64 (m.v:Int),.int .i64 (vm m.v:Int),.int .i64 (m.M:Int),.int .i64 (m.P:Int),.int .u32 (m.sum:Int),.int .i64 (m.many:Int)]⟩,.int .u8 (c:Int)]⟩ w K')→
   Cl Tryz.prog [.st [.int .i64,.int .i64,.int .i64,.int .i64,.int .i64,.int .u32,.int .i64],kB,kI] cY ⟨[.int .i64 (n:Int),.agg ⟨[.int .i64 (m.at_:Int),.int .i64 (m.v:Int),.int .i64 (vm m.v:Int),.int .i64 (m.M:Int),.int .i64 (m.P:Int),.int .u32 (m.sum:Int),.int .i64 (m.many:Int)]⟩,.int .u8 (c:Int)]⟩ w K:=by
  intro q i hq hok hcall
  refine ry.ok _ (HH m) _ _ _ ?_
  (try simp only [au,ak,al,Nat.zero_add,Nat.add_zero,Nat.reduceAdd,Bool.not_true,Bool.not_false,aH,aE,Option.isNone])
  refine Nw.mk h fun b5 w h=>Nw.mk h fun b7 w h=> ?_
  refine run_makeMap (ke:=fun n:Int=>Value.int .i64 n) (ve:=fun v:Value=>v) h fun mp w h=> ?_
  refine dA (ke:=fun n:Int=>Value.int .i64 n) (ve:=fun v:Value=>v) (l:=_) kl pc (a:=0) (b:=fv cT) h fun w h=> ?_
  refine dA (ke:=fun n:Int=>Value.int .i64 n) (ve:=fun v:Value=>v) (l:=_) kl pc (a:=1) (b:=fv cV) h fun w h=> ?_
  refine dA (ke:=fun n:Int=>Value.int .i64 n) (ve:=fun v:Value=>v) (l:=_) kl pc (a:=2) (b:=fv cH) h fun w h=> ?_
  refine dA (ke:=fun n:Int=>Value.int .i64 n) (ve:=fun v:Value=>v) (l:=_) kl pc (a:=3) (b:=fv bQ) h fun w h=> ?_
  refine dA (ke:=fun n:Int=>Value.int .i64 n) (ve:=fun v:Value=>v) (l:=_) kl pc (a:=5) (b:=fv bQ) h fun w h=> ?_
  rw [show eK (5:Int) (fv bQ) (eK 3 (fv bQ) (eK 2 (fv cH) (eK 1 (fv cV) (eK 0 (fv cT) []))))
   = [((0:Int),fv cT),(1,fv cV),(2,fv cH),(3,fv bQ),(5,fv bQ)] from rfl] at h
  (with_reducible repeat first|refine Nw.mk h fun b w h=> ?_|refine ah.mk h fun w h=> ?_|refine Ld.xb h rfl ?_|refine Ld.xt h rfl ?_|refine ad.xb (fun _ h=>h) rfl ?_|refine ad.xt (fun _ h=>h) rfl ?_|refine ⟨h.hb,?_⟩|refine ae.xw h rfl rfl fun w h=> ?_|(refine ae.xs h rfl rfl fun w h=> ?_;dsimp only [af,ab] at h)|(refine St.xs h rfl rfl fun w h=> ?_;dsimp only [af,ab] at h)|refine aa.yes ?_|refine aa.no ?_|refine ⟨by first|omega|decide,?_⟩)
  refine aw.found (ke:=fun n:Int=>Value.int .i64 n) (ve:=fun v:Value=>v) kl pc (a:=(m.at_:Int)) (x:=fv i) Be h hq rfl ?_
  refine jc.fn ?_
  have h:=h.drop
  (with_reducible repeat first|refine Nw.mk h fun b w h=> ?_|refine ah.mk h fun w h=> ?_|refine Ld.xb h rfl ?_|refine Ld.xt h rfl ?_|refine ad.xb (fun _ h=>h) rfl ?_|refine ad.xt (fun _ h=>h) rfl ?_|refine ⟨h.hb,?_⟩|refine ae.xw h rfl rfl fun w h=> ?_|(refine ae.xs h rfl rfl fun w h=> ?_;dsimp only [af,ab] at h)|(refine St.xs h rfl rfl fun w h=> ?_;dsimp only [af,ab] at h)|refine aa.yes ?_|refine aa.no ?_|refine ⟨by first|omega|decide,?_⟩)
  refine Ex h hn hn2 hm fun w h=> ?_
  (with_reducible repeat first|refine Nw.mk h fun b w h=> ?_|refine ah.mk h fun w h=> ?_|refine Ld.xb h rfl ?_|refine Ld.xt h rfl ?_|refine ad.xb (fun _ h=>h) rfl ?_|refine ad.xt (fun _ h=>h) rfl ?_|refine ⟨h.hb,?_⟩|refine ae.xw h rfl rfl fun w h=> ?_|(refine ae.xs h rfl rfl fun w h=> ?_;dsimp only [af,ab] at h)|(refine St.xs h rfl rfl fun w h=> ?_;dsimp only [af,ab] at h)|refine aa.yes ?_|refine aa.no ?_|refine ⟨by first|omega|decide,?_⟩)
  refine lB.mk hok (hcall _ _ _ h ⟨fun m' w h1 h2 h3 h=> ?_,fun M P u w h1 h=> ?_,fun u w h1 h=> ?_,fun e o w h1 h2 h=> ?_⟩)
  ·(with_reducible repeat first|refine Nw.mk h fun b w h=> ?_|refine ah.mk h fun w h=> ?_|refine Ld.xb h rfl ?_|refine Ld.xt h rfl ?_|refine ad.xb (fun _ h=>h) rfl ?_|refine ad.xt (fun _ h=>h) rfl ?_|refine ⟨h.hb,?_⟩|refine ae.xw h rfl rfl fun w h=> ?_|(refine ae.xs h rfl rfl fun w h=> ?_;dsimp only [af,ab] at h)|(refine St.xs h rfl rfl fun w h=> ?_;dsimp only [af,ab] at h)|refine aa.yes ?_|refine aa.no ?_|refine ⟨by first|omega|decide,?_⟩)
   have h:=h.drew (n:=w.drawn+1)
   refine ⟨cq b5 _ _ _,h.hb,?_⟩
   (with_reducible repeat first|refine Nw.mk h fun b w h=> ?_|refine ah.mk h fun w h=> ?_|refine Ld.xb h rfl ?_|refine Ld.xt h rfl ?_|refine ad.xb (fun _ h=>h) rfl ?_|refine ad.xt (fun _ h=>h) rfl ?_|refine ⟨h.hb,?_⟩|refine ae.xw h rfl rfl fun w h=> ?_|(refine ae.xs h rfl rfl fun w h=> ?_;dsimp only [af,ab] at h)|(refine St.xs h rfl rfl fun w h=> ?_;dsimp only [af,ab] at h)|refine aa.yes ?_|refine aa.no ?_|refine ⟨by first|omega|decide,?_⟩)
   refine aa.ef (show¬(m'.at_:Int)=4 by omega) ?_
   (with_reducible repeat first|refine Nw.mk h fun b w h=> ?_|refine ah.mk h fun w h=> ?_|refine Ld.xb h rfl ?_|refine Ld.xt h rfl ?_|refine ad.xb (fun _ h=>h) rfl ?_|refine ad.xt (fun _ h=>h) rfl ?_|refine ⟨h.hb,?_⟩|refine ae.xw h rfl rfl fun w h=> ?_|(refine ae.xs h rfl rfl fun w h=> ?_;dsimp only [af,ab] at h)|(refine St.xs h rfl rfl fun w h=> ?_;dsimp only [af,ab] at h)|refine aa.yes ?_|refine aa.no ?_|refine ⟨by first|omega|decide,?_⟩)
   have e6:((m'.at_:Int)==6)=false:=beq_eq_false_iff_ne.2 (by omega)
   have h6:=hmore m' _ h1 h.tl
   rw [←e6] at h6
   exact h6
  ·(with_reducible repeat first|refine Nw.mk h fun b w h=> ?_|refine ah.mk h fun w h=> ?_|refine Ld.xb h rfl ?_|refine Ld.xt h rfl ?_|refine ad.xb (fun _ h=>h) rfl ?_|refine ad.xt (fun _ h=>h) rfl ?_|refine ⟨h.hb,?_⟩|refine ae.xw h rfl rfl fun w h=> ?_|(refine ae.xs h rfl rfl fun w h=> ?_;dsimp only [af,ab] at h)|(refine St.xs h rfl rfl fun w h=> ?_;dsimp only [af,ab] at h)|refine aa.yes ?_|refine aa.no ?_|refine ⟨by first|omega|decide,?_⟩)
   have h:=h.drew (n:=w.drawn+1)
   refine ⟨cq b5 _ _ _,h.hb,?_⟩
   (with_reducible repeat first|refine Nw.mk h fun b w h=> ?_|refine ah.mk h fun w h=> ?_|refine Ld.xb h rfl ?_|refine Ld.xt h rfl ?_|refine ad.xb (fun _ h=>h) rfl ?_|refine ad.xt (fun _ h=>h) rfl ?_|refine ⟨h.hb,?_⟩|refine ae.xw h rfl rfl fun w h=> ?_|(refine ae.xs h rfl rfl fun w h=> ?_;dsimp only [af,ab] at h)|(refine St.xs h rfl rfl fun w h=> ?_;dsimp only [af,ab] at h)|refine aa.yes ?_|refine aa.no ?_|refine ⟨by first|omega|decide,?_⟩)
   exact hblk M P u _ h1 h.tl
  ·(with_reducible repeat first|refine Nw.mk h fun b w h=> ?_|refine ah.mk h fun w h=> ?_|refine Ld.xb h rfl ?_|refine Ld.xt h rfl ?_|refine ad.xb (fun _ h=>h) rfl ?_|refine ad.xt (fun _ h=>h) rfl ?_|refine ⟨h.hb,?_⟩|refine ae.xw h rfl rfl fun w h=> ?_|(refine ae.xs h rfl rfl fun w h=> ?_;dsimp only [af,ab] at h)|(refine St.xs h rfl rfl fun w h=> ?_;dsimp only [af,ab] at h)|refine aa.yes ?_|refine aa.no ?_|refine ⟨by first|omega|decide,?_⟩)
   have h:=h.drew (n:=w.drawn+1)
   refine ⟨cq b5 _ _ _,h.hb,?_⟩
   (with_reducible repeat first|refine Nw.mk h fun b w h=> ?_|refine ah.mk h fun w h=> ?_|refine Ld.xb h rfl ?_|refine Ld.xt h rfl ?_|refine ad.xb (fun _ h=>h) rfl ?_|refine ad.xt (fun _ h=>h) rfl ?_|refine ⟨h.hb,?_⟩|refine ae.xw h rfl rfl fun w h=> ?_|(refine ae.xs h rfl rfl fun w h=> ?_;dsimp only [af,ab] at h)|(refine St.xs h rfl rfl fun w h=> ?_;dsimp only [af,ab] at h)|refine aa.yes ?_|refine aa.no ?_|refine ⟨by first|omega|decide,?_⟩)
   exact htail u _ h1 h.tl
  ·(with_reducible repeat first|refine Nw.mk h fun b w h=> ?_|refine ah.mk h fun w h=> ?_|refine Ld.xb h rfl ?_|refine Ld.xt h rfl ?_|refine ad.xb (fun _ h=>h) rfl ?_|refine ad.xt (fun _ h=>h) rfl ?_|refine ⟨h.hb,?_⟩|refine ae.xw h rfl rfl fun w h=> ?_|(refine ae.xs h rfl rfl fun w h=> ?_;dsimp only [af,ab] at h)|(refine St.xs h rfl rfl fun w h=> ?_;dsimp only [af,ab] at h)|refine aa.yes ?_|refine aa.no ?_|refine ⟨by first|omega|decide,?_⟩)
   subst h2
   exact hbad 242 _ _ h1 h.tl
 obtain ⟨at_,v,M,P,sum,many⟩:=m
 have hm0:=hm
 unfold l8 at hm0
 dsimp only at hm0
 rcases hm0 with ⟨h1,h2⟩|⟨h1,h2,h3,h4,h5,h6⟩|⟨h1,h2,h3,h4,h5,h6,h7⟩|⟨h1,h2,h3,h4,h5,h6,h7,h8⟩|⟨h1,h2,h3,h4,h5,h6⟩
 ·cases h2
  exact main 0 cT rfl (by kernel_rfl) fun F' w K' h hK=>GR h hc hK
 ·subst h1 h3 h4 h5 h6
  exact main 1 cV rfl (by kernel_rfl) fun F' w K' h hK=>GB h hn2 h2 hc hK
 ·subst h1 h5 h6 h7
  exact main 2 cH rfl (by kernel_rfl) fun F' w K' h hK=>Fl (M:=M) h (by omega) h4 hc hK
 ·subst h1 h6
  exact main 3 bQ rfl (by kernel_rfl) fun F' w K' h hK=>EC h (.inl rfl) h7 h8 hc hK
 ·subst h1 h2 h3 h4
  exact main 4 bQ rfl (by kernel_rfl) fun F' w K' h hK=>EC h (.inr ⟨rfl,rfl,rfl⟩) h5 h6 hc hK
end
end Go.Proofs.YtgglghjnakclmaaGreat
namespace Go.Proofs.YtgglghjnakclmaaGreat
open Go Go.Vc
set_option maxRecDepth 100000
theorem qc.ok (a:(Array Value)) (b:Int) (R:(Array Value)→Bool→Int→World→Prop) w (h:
 Nw 106 a w fun d c=>
 Nw 106 ⟨List.replicate 258 (.int .u8 0)++ [(ni 0),(ni 0),(ni 0),(ni 0)]⟩ c fun f e=>
 bg (fun (u:World)=>
 Ld (.arr 262) ⟨d,0,none⟩ u fun v=>
 Cl Pg [(.arr 262),kB] fH ⟨[(.agg v),(ni b)]⟩ u fun y (z:Bool) x=>
 aq 262 ⟨d,0,none⟩ y x fun a1=>
 aa (!z)
 (Ld (.arr 262) ⟨f,0,none⟩ a1 fun b1=>
 aq 262 ⟨f,0,none⟩ b1 a1 fun c1=>
 Ld (.arr 262) ⟨f,0,none⟩ c1 fun d1=>
 R d1 false 100 c1)
 (fC a1 fun e1 f1=>
 ad (.arr 262) ⟨d,0,none⟩ e1 fun g1=>
 ad kI (Addr.add ⟨d,0,none⟩ 258) e1 fun (h1:Int)=>
 aq 262 ⟨f,0,none⟩ g1 f1 fun i1=>
 e1 i1∧
 Ld (.arr 262) ⟨f,0,none⟩ i1 fun j1=>
 R j1 (h1==258) 0 i1)) fun g=>
 Ld (.arr 262) ⟨d,0,none⟩ e fun h=>
 Cl Pg [kB] fl ⟨[(.agg h)]⟩ e fun (j:Bool) i=>
 aa (!j)
 (Ld (.arr 262) ⟨f,0,none⟩ i fun k=>
 aq 262 ⟨f,0,none⟩ k i fun l=>
 Ld (.arr 262) ⟨f,0,none⟩ l fun m=>
 R m false 2 l)
 (Ld kI (Addr.add ⟨d,0,none⟩ 258) i fun (n:Int)=>
 aa (n==258)
 (Ld (.arr 262) ⟨f,0,none⟩ i fun o=>
 aq 262 ⟨f,0,none⟩ o i fun p=>
 Ld (.arr 262) ⟨f,0,none⟩ p fun q=>
 R q false 2 p)
 (0≤(1:Int)∧
 aa ((cn .i64 b (1:Int)) !=0)
 (Ld (.arr 262) ⟨f,0,none⟩ i fun r=>
 aq 262 ⟨f,0,none⟩ r i fun s=>
 Ld (.arr 262) ⟨f,0,none⟩ s fun t=>
 R t false 2 s)
 (g i)))):Cl Pg [(.arr 262),kB,kI] fE ⟨[(.agg a),(ni b)]⟩ w R:=co Tryz.f117 [(2,[])] h
theorem pG.ok (a:(Array Value)) (R:Bool→World→Prop) w (h:
 Nw 106 a w fun c b=>
 Ld (.arr 262) ⟨c,0,none⟩ b fun d=>
 Cl Pg [kB] cE ⟨[(.agg d)]⟩ b fun (f:Bool) e=>
 aa f
 (R true e)
 (bg (fun (x:World)=>
 Ld kI (Addr.add ⟨c,0,none⟩ 258) x fun (y:Int)=>
 aa (y==0)
 (Ld kI (Addr.add ⟨c,0,none⟩ 261) x fun (z:Int)=>
 aa (z==0)
 (R true x)
 (Ld kI (Addr.add ⟨c,0,none⟩ 261) x fun (a1:Int)=>
 aa (a1==1)
 (Ld kI (Addr.add ⟨c,0,none⟩ 260) x fun (b1:Int)=>
 aa (decide (b1>0))
 (R true x)
 (Ld kI (Addr.add ⟨c,0,none⟩ 261) x fun (c1:Int)=>
 aa (c1==2)
 (Ld kI (Addr.add ⟨c,0,none⟩ 260) x fun (d1:Int)=>
 R (decide (d1<15)) x)
 (R false x)))
 (Ld kI (Addr.add ⟨c,0,none⟩ 261) x fun (e1:Int)=>
 aa (e1==2)
 (Ld kI (Addr.add ⟨c,0,none⟩ 260) x fun (f1:Int)=>
 R (decide (f1<15)) x)
 (R false x))))
 (aa (y==258)
 (ah x fun g1=>
 Ld kI (Addr.add ⟨c,0,none⟩ 259) g1 fun (h1:Int)=>
 aa (h1==4)
 (Ld kI (Addr.add ⟨c,0,none⟩ 261) g1 fun (i1:Int)=>
 aa (i1==0)
 (Ld kI (Addr.add ⟨c,0,none⟩ 260) g1 fun (j1:Int)=>
 Ld kI (Addr.add ⟨c,0,none⟩ 258) g1 fun (k1:Int)=>
 aC (Addr.add ⟨c,0,none⟩ 0) 258 (i64 (k1 - 1)) 1 fun l1=>
 Ld (az .u8) l1 g1 fun (m1:Int)=>
 aa (j1==(i64 m1))
 (Ld (.arr 258) (Addr.add ⟨c,0,none⟩ 0) g1 fun n1=>
 Cl Pg [kB] dB ⟨[(.agg n1)]⟩ g1 fun (p1:Bool) o1=>
 R p1 o1)
 (R false g1))
 (R false g1))
 (R false g1))
 (ah x fun q1=>
 Ld kI (Addr.add ⟨c,0,none⟩ 258) q1 fun (r1:Int)=>
 aC (Addr.add ⟨c,0,none⟩ 0) 258 (i64 (r1 - 1)) 1 fun s1=>
 Ld (az .u8) s1 q1 fun (t1:Int)=>
 Ld kI (Addr.add ⟨c,0,none⟩ 260) q1 fun (u1:Int)=>
 Ld kI (Addr.add ⟨c,0,none⟩ 261) q1 fun (v1:Int)=>
 Cl Pg [kB] eQ ⟨[(ni (i64 t1)),(ni u1),(ni v1)]⟩ q1 fun (y1:Bool) x1=>
 R y1 x1))) fun g=>
 Ld kI (Addr.add ⟨c,0,none⟩ 259) e fun (h:Int)=>
 Cl Pg [kB] bB ⟨[(ni h),(ni 4),(ni 5)]⟩ e fun (j:Bool) i=>
 aa (!j)
 (R false i)
 (Ld kI (Addr.add ⟨c,0,none⟩ 258) i fun (k:Int)=>
 Cl Pg [kB] bB ⟨[(ni k),(ni 0),(ni 258)]⟩ i fun (m:Bool) l=>
 aa (!m)
 (R false l)
 (Ld kI (Addr.add ⟨c,0,none⟩ 260) l fun (n:Int)=>
 Cl Pg [kB] bB ⟨[(ni n),(ni 0),(ni 15)]⟩ l fun (p:Bool) o=>
 aa (!p)
 (R false o)
 (Ld kI (Addr.add ⟨c,0,none⟩ 261) o fun (q:Int)=>
 Cl Pg [kB] bB ⟨[(ni q),(ni 0),(ni 2)]⟩ o fun (s:Bool) r=>
 aa (!s)
 (R false r)
 (Ld (.arr 262) ⟨c,0,none⟩ r fun t=>
 Cl Pg [kB] fh ⟨[(.agg t)]⟩ r fun (v:Bool) u=>
 aa (!v)
 (R false u)
 (g u))))))):Cl Pg [kB] fl ⟨[(.agg a)]⟩ w R:=co Tryz.f171 [(7,[])] h
theorem qg.ok (a:(Array Value)) (b:Int) (R:(Array Value)→Bool→World→Prop) w (h:
 Nw 106 a w fun d c=>
 Nw 106 ⟨List.replicate 258 (.int .u8 0)++ [(ni 0),(ni 0),(ni 0),(ni 0)]⟩ c fun f e=>
 Ld kI (Addr.add ⟨d,0,none⟩ 259) e fun (g:Int)=>
 aa (decide (g<4))
 (Ld kI (Addr.add ⟨d,0,none⟩ 260) e fun (h:Int)=>
 0≤(1:Int)∧
 Ld kI (Addr.add ⟨d,0,none⟩ 259) e fun (i:Int)=>
 St (Addr.add ⟨d,0,none⟩ 260) (ni (jv .i64 (a9 .i64 h (1:Int)) b)) e fun j=>
 St (Addr.add ⟨d,0,none⟩ 259) (ni (i64 (i+1))) j fun k=>
 Ld (.arr 262) ⟨d,0,none⟩ k fun l=>
 aq 262 ⟨f,0,none⟩ l k fun m=>
 Ld (.arr 262) ⟨f,0,none⟩ m fun n=>
 R n true m)
 (bg (fun (q:Bool) (r:World)=>
 aa q
 (Ld kI (Addr.add ⟨d,0,none⟩ 258) r fun (s:Int)=>
 Ld kI (Addr.add ⟨d,0,none⟩ 260) r fun (t:Int)=>
 aC (Addr.add ⟨d,0,none⟩ 0) 258 s 1 fun u=>
 St u (.int .u8 (u8 t)) r fun v=>
 Ld kI (Addr.add ⟨d,0,none⟩ 258) v fun (x:Int)=>
 St (Addr.add ⟨d,0,none⟩ 258) (ni (i64 (x+1))) v fun y=>
 St (Addr.add ⟨d,0,none⟩ 261) (ni 0) y fun z=>
 fC z fun a1 b1=>
 ad (.arr 262) ⟨d,0,none⟩ a1 fun c1=>
 ad kI (Addr.add ⟨d,0,none⟩ 258) a1 fun (d1:Int)=>
 aa (decide (d1<258))
 (aq 262 ⟨f,0,none⟩ c1 b1 fun e1=>
 a1 e1∧
 Ld (.arr 262) ⟨f,0,none⟩ e1 fun f1=>
 R f1 true e1)
 (ad (.arr 258) (Addr.add ⟨d,0,none⟩ 0) a1 fun g1=>
 Cl Pg [kB] dB ⟨[(.agg g1)]⟩ b1 fun (i1:Bool) h1=>
 a1 h1∧
 aq 262 ⟨f,0,none⟩ c1 h1 fun j1=>
 a1 j1∧
 Ld (.arr 262) ⟨f,0,none⟩ j1 fun k1=>
 R k1 i1 j1))
 (Ld kI (Addr.add ⟨d,0,none⟩ 259) r fun (l1:Int)=>
 aa (l1==4)
 (St (Addr.add ⟨d,0,none⟩ 259) (ni 5) r fun m1=>
 Ld (.arr 262) ⟨d,0,none⟩ m1 fun n1=>
 aq 262 ⟨f,0,none⟩ n1 m1 fun o1=>
 Ld (.arr 262) ⟨f,0,none⟩ o1 fun p1=>
 R p1 true o1)
 (aa (b==0)
 (Ld kI (Addr.add ⟨d,0,none⟩ 261) r fun (q1:Int)=>
 aa (q1 !=2)
 (Ld kI (Addr.add ⟨d,0,none⟩ 260) r fun (r1:Int)=>
 Ld kI (Addr.add ⟨d,0,none⟩ 260) r fun (s1:Int)=>
 St (Addr.add ⟨d,0,none⟩ 260) (ni (i64 (s1+1))) r fun t1=>
 St (Addr.add ⟨d,0,none⟩ 261) (ni 1) t1 fun u1=>
 St (Addr.add ⟨d,0,none⟩ 259) (ni 4) u1 fun v1=>
 Ld (.arr 262) ⟨d,0,none⟩ v1 fun x1=>
 aq 262 ⟨f,0,none⟩ x1 v1 fun y1=>
 Ld (.arr 262) ⟨f,0,none⟩ y1 fun z1=>
 R z1 (decide (r1<15)) y1)
 (Ld kI (Addr.add ⟨d,0,none⟩ 260) r fun (a2:Int)=>
 St (Addr.add ⟨d,0,none⟩ 260) (ni (i64 (a2+1))) r fun b2=>
 St (Addr.add ⟨d,0,none⟩ 261) (ni 1) b2 fun c2=>
 St (Addr.add ⟨d,0,none⟩ 259) (ni 4) c2 fun d2=>
 Ld (.arr 262) ⟨d,0,none⟩ d2 fun e2=>
 aq 262 ⟨f,0,none⟩ e2 d2 fun f2=>
 Ld (.arr 262) ⟨f,0,none⟩ f2 fun g2=>
 R g2 false f2))
 (Ld kI (Addr.add ⟨d,0,none⟩ 261) r fun (h2:Int)=>
 aa (h2 !=1)
 (Ld kI (Addr.add ⟨d,0,none⟩ 260) r fun (i2:Int)=>
 Ld kI (Addr.add ⟨d,0,none⟩ 260) r fun (j2:Int)=>
 St (Addr.add ⟨d,0,none⟩ 260) (ni (i64 (j2 - 1))) r fun k2=>
 St (Addr.add ⟨d,0,none⟩ 261) (ni 2) k2 fun l2=>
 St (Addr.add ⟨d,0,none⟩ 259) (ni 4) l2 fun m2=>
 Ld (.arr 262) ⟨d,0,none⟩ m2 fun n2=>
 aq 262 ⟨f,0,none⟩ n2 m2 fun o2=>
 Ld (.arr 262) ⟨f,0,none⟩ o2 fun p2=>
 R p2 (decide (i2>0)) o2)
 (Ld kI (Addr.add ⟨d,0,none⟩ 260) r fun (q2:Int)=>
 St (Addr.add ⟨d,0,none⟩ 260) (ni (i64 (q2 - 1))) r fun r2=>
 St (Addr.add ⟨d,0,none⟩ 261) (ni 2) r2 fun s2=>
 St (Addr.add ⟨d,0,none⟩ 259) (ni 4) s2 fun t2=>
 Ld (.arr 262) ⟨d,0,none⟩ t2 fun u2=>
 aq 262 ⟨f,0,none⟩ u2 t2 fun v2=>
 Ld (.arr 262) ⟨f,0,none⟩ v2 fun x2=>
 R x2 false v2))))) fun o=>
 Ld kI (Addr.add ⟨d,0,none⟩ 259) e fun (p:Int)=>
 aa (p==4)
 (o (b==0) e)
 (o false e))):Cl Pg [(.arr 262),kB] fH ⟨[(.agg a),(ni b)]⟩ w R:=co Tryz.f172 [(6,[(38,kB)])] h
theorem g8.ok (a:(Array Value)) (R:Bool→World→Prop) w (h:
 Nw 106 a w fun c b=>
 fC b fun d e=>
 ad kI (Addr.add ⟨c,0,none⟩ 259) d fun (f:Int)=>
 Cl Pg [kB] bB ⟨[(ni f),(ni 0),(ni 3)]⟩ e fun (h:Bool) g=>
 d g∧
 aa h
 (ad kI (Addr.add ⟨c,0,none⟩ 260) d fun (i:Int)=>
 ad kI (Addr.add ⟨c,0,none⟩ 259) d fun (j:Int)=>
 0≤j∧
 Cl Pg [kB] bB ⟨[(ni i),(ni 0),(ni (i64 ((a9 .i64 (1:Int) j) - 1)))]⟩ g fun (l:Bool) k=>
 d k∧
 aa l
 (ad (.arr 262) ⟨c,0,none⟩ d fun m=>
 ad kI (Addr.add ⟨c,0,none⟩ 259) d fun (n:Int)=>
 ad kI (Addr.add ⟨c,0,none⟩ 260) d fun (o:Int)=>
 cd Pg 106 [(2,(ni n)),(3,(ni o))] fun p=>
 rY Pg 106 m p fun q=>
 R q k)
 (R false k))
 (R false g)):Cl Pg [kB] cE ⟨[(.agg a)]⟩ w R:=co Tryz.f231 [] h
theorem oh.ok (a:Int) (b:Int) (c:Int) (R:Bool→World→Prop) w (h:
 aa (decide (a≥b))
 (R (decide (a≤c)) w)
 (R false w)):Cl Pg [kB] bB ⟨[(ni a),(ni b),(ni c)]⟩ w R:=co Tryz.f232 [] h
theorem pF.ok (a:(Array Value)) (R:Bool→World→Prop) w (h:
 Nw 106 a w fun c b=>
 Ld (.arr 258) (Addr.add ⟨c,0,none⟩ 0) b fun d=>
 gn 0 b fun e f (g:Int) h=>
 aa (decide (g<258))
 (gk (.int .u8) d 258 g fun (i:Int)=>
 aa (decide (i>15))
 (R false h)
 (Ld kI (Addr.add ⟨c,0,none⟩ 258) h fun (j:Int)=>
 aa (decide (g≥j))
 (aa (decide (i>0))
 (R false h)
 (e (i64 (g+1)) h∧f (i64 (g+1)) h<f g h))
 (e (i64 (g+1)) h∧f (i64 (g+1)) h<f g h)))
 (R true h)):Cl Pg [kB] fh ⟨[(.agg a)]⟩ w R:=co Tryz.f233 [(5,[(7,kI)])] h
theorem om.ok (a:Int) (b:Int) (c:Int) (R:Bool→World→Prop) w (h:
 aa (c==0)
 (R (a==b) w)
 (aa (c==1)
 (R (decide (a<b)) w)
 (R (decide (a>b)) w))):Cl Pg [kB] eQ ⟨[(ni a),(ni b),(ni c)]⟩ w R:=co Tryz.f234 [] h
end Go.Proofs.YtgglghjnakclmaaGreat
set_option maxRecDepth 20000
namespace Go.Vc
open Go
section
variable {E w:World} {l:List HP} {b n k o:Nat} {L r:List Value} {t:TypeId} {fr:Nat×Nat} {put:Obj→List HP}
theorem iC (hL:L.length=n):(L++r)[k+n]? =r[k]? :=by
 rw [List.getElem?_append_right (by omega)]
 congr 1;omega
theorem yE: ∀{L r:List Value} {n k:Nat} {vs:List Value},L.length=n→af (L++r) (k+n) vs=L++af r k vs
 | [],r,n,k,vs,h=>by
  have:n=0:=by simpa using h.symm
  subst this;rfl
 |a::L,r,n,k,vs,h=>by
  obtain ⟨m,rfl⟩: ∃m,n=m+1:=⟨L.length,by simpa using h.symm⟩
  rw [show k+(m+1)=(k+m)+1 by omega,List.cons_append,af,yE (by simpa using h)]
  rfl
theorem ad.q {S:World→Prop} {s:Sc} {K:s.T→Prop} {x:s.T} (hS: ∀w,S w→cq b ⟨L++r⟩ t fr w) (hL:L.length=n) (ho:o=k+n) (hx:r[k]? =some (s.enc x)) (hK:K x):ad (.sc s) ⟨b,o,none⟩ S K:=by
 subst ho
 exact ad.xb hS ((iC hL).trans hx) hK
theorem Ld.q {s:Sc} {K:s.T→Prop} {x:s.T} [bo b l ⟨L++r⟩ t fr put] (h:Hp E w l) (hL:L.length=n) (ho:o=k+n) (hx:r[k]? =some (s.enc x)) (hK:K x):Ld (.sc s) ⟨b,o,none⟩ w K:=
 ad.q (fun w' hw=>by rw [hw];exact h.fb) hL ho hx hK
theorem ad.p {S:World→Prop} {K:Array Value→Prop} (hS: ∀w,S w→cq b ⟨L++r⟩ t fr w) (hL:L.length=n) (hK:K ⟨L⟩):ad (.arr n) ⟨b,0,none⟩ S K:=
 ad.xa (mid:=L) (post:=r) hS rfl hL hK
theorem Ld.p {K:Array Value→Prop} [bo b l ⟨L++r⟩ t fr put] (h:Hp E w l) (hL:L.length=n) (hK:K ⟨L⟩):Ld (.arr n) ⟨b,0,none⟩ w K:=
 ad.p (fun w' hw=>by rw [hw];exact h.fb) hL hK
theorem Ld.qw {m:Nat} {K:Array Value→Prop} [bo b l ⟨L++r⟩ t fr put] (h:Hp E w l) (hL:L.length=n) (hm:n+r.length=m) (hK:K ⟨L++r⟩):Ld (.arr m) ⟨b,0,none⟩ w K:=
 Ld.xw h (by simp [hL,hm]) hK
theorem ad.qw {S:World→Prop} {m:Nat} {K:Array Value→Prop} (hS: ∀w,S w→cq b ⟨L++r⟩ t fr w) (hL:L.length=n) (hm:n+r.length=m) (hK:K ⟨L++r⟩):ad (.arr m) ⟨b,0,none⟩ S K:=
 ad.xw hS (by simp [hL,hm]) hK
theorem St.q {v:Value} {K:World→Prop} [bo b l ⟨L++r⟩ t (0,0) put] (h:Hp E w l) (hL:L.length=n) (ho:o=k+n) (hb:Nat.ble (k+1) r.length=true) (hv:ay v=true)
  (hK: ∀w',Hp E w' (put (.cells ⟨L++af r k [v]⟩ t (0,0)))→K w'):St ⟨b,o,none⟩ v w K:=by
 subst ho
 have hb':=Nat.le_of_ble_eq_true hb
 refine St.xs h (Nat.ble_eq_true_of_le (by simp;omega)) hv fun w' h'=>hK w' ?_
 rw [show (⟨L++r⟩:Array Value).toList=L++r from rfl,yE hL] at h'
 exact h'
theorem aq.q {m:Nat} {cs:Array Value} {c:Array Value} {K:World→Prop} [bo b l c t (0,0) put] (h:Hp E w l) (hc:c.size=m) (hcs:cs.size=m) (hv:cs.toList.all ay=true)
  (hK: ∀w',Hp E w' (put (.cells cs t (0,0)))→K w'):aq m ⟨b,0,none⟩ cs w K:=aq.xw h hc hcs (List.all_eq_true.1 hv) hK
theorem St.g {v:Value} {K:World→Prop} [bo b l ⟨L++r⟩ t (0,0) put] (h:Hp E w l) (ho:o<L.length) (hv:ay v=true)
  (hK: ∀w',Hp E w' (put (.cells ⟨L.set o v++r⟩ t (0,0)))→K w'):St ⟨b,o,none⟩ v w K:=by
 refine St.xb h (by simp;omega) hv fun w' h'=>hK w' ?_
 have:(⟨L++r⟩:Array Value).setIfInBounds o v=⟨L.set o v++r⟩:=by
  apply Array.ext'
  rw [Array.toList_setIfInBounds,List.set_append_left _ _ ho]
 rwa [this] at h'
theorem Ld.g {s:Sc} {K:s.T→Prop} {x:s.T} [bo b l ⟨L++r⟩ t fr put] (h:Hp E w l) (hx:L[o]? =some (s.enc x)) (hK:K x):Ld (.sc s) ⟨b,o,none⟩ w K:=by
 refine Ld.xb h ?_ hK
 have:o<L.length:=by
  rcases Nat.lt_or_ge o L.length with h|h
  ·exact h
  ·rw [List.getElem?_eq_none h] at hx;cases hx
 rw [show (⟨L++r⟩:Array Value).toList=L++r from rfl,List.getElem?_append_left this,hx]
end
end Go.Vc
set_option maxRecDepth 20000
namespace Go.Vc
open Go
section
variable {E w:World} {F:List HP}
theorem tW {P:Program} {t e:TypeId} {n:Nat} {k:IntKind} {it:TypeInfo} (hu:P.underlying t=some (.array n e)) (hue:P.underlying e=some (.int k)) (hi:P.info? e=some it) (hs:it.size=1) {a b:List Int} (ha:a.length=n) (hb:b.length=n)
  (D:Nat) (hD:2≤D) (w:World):(Op.equalIn D t (.agg ⟨a.map (.int k)⟩) (.agg ⟨b.map (.int k)⟩)).run P w= .ok (a==b) w:=by
 obtain ⟨D,rfl⟩: ∃d,D=d+1+1:=⟨D - 2,by omega⟩
 rw [run_equalIn_array w (D+1) _ _ hu hi,ld hi,hs,←ha,gW hue (ha.trans hb.symm) _ (by simp),all_eq (ha.trans hb.symm)]
theorem jZ {P:Program} {t:TypeId} {it:TypeInfo} {cs:List Value} {off:Nat} {K:Option Value→Prop} (h1:eX P t=some true) (h2:P.info? t=some it) (h:K (some (.agg ⟨(cs.drop off).take it.size⟩))):dK P t cs off K:=by
 unfold dK;rw [h1,h2];exact h
theorem db {P:Program} {t:TypeId} {it:TypeInfo} {cs:List Value} {off:Nat} {v:Value} {K:Option Value→Prop} (h1:eX P t=some false) (h2:P.info? t=some it) (hv:cs[off]? =some v) (h:K (some v)):dK P t cs off K:=by
 unfold dK;rw [h1,h2,hv];exact h
end
end Go.Vc
namespace Go.Proofs.YtgglghjnakclmaaGreat
open Go Go.Vc
theorem yR: ∃it,Tryz.prog.info? 3=some it:=by
 have:(Tryz.prog.info? 3).isSome=true:=by kernel_rfl
 exact Option.isSome_iff_exists.1 this
theorem FA: ∃it,Tryz.prog.info? 104=some it∧it.size=258:=by
 have h:(Tryz.prog.info? 104).map (·.size)=some 258:=by kernel_rfl
 obtain ⟨it,h1,h2⟩:=Option.map_eq_some_iff.1 h
 exact ⟨it,h1,h2⟩
theorem CT: ∃it,Tryz.prog.info? 5=some it∧it.size=1:=by
 have h:(Tryz.prog.info? 5).map (·.size)=some 1:=by kernel_rfl
 obtain ⟨it,h1,h2⟩:=Option.map_eq_some_iff.1 h
 exact ⟨it,h1,h2⟩
theorem Hr:Tryz.prog.underlying 104=some (.array 258 5):=by kernel_rfl
theorem ER:Tryz.prog.underlying 5=some (.int .u8):=by kernel_rfl
theorem Bi:Tryz.prog.underlying 3=some (.int .i64):=by kernel_rfl
end Go.Proofs.YtgglghjnakclmaaGreat
namespace Go.Proofs.YtgglghjnakclmaaGreat
open Go Go.Vc
set_option maxRecDepth 100000
theorem yf.ok (a:(Array Value)) (R:Bool→World→Prop) w (h:
 Nw 104 a w fun c b=>
 Ld (.arr 258) ⟨c,0,none⟩ b fun d=>
 Cl Pg [kB] gX ⟨[(.agg d)]⟩ b fun (f:Bool) e=>
 aa f
 (aC ⟨c,0,none⟩ 258 257 1 fun g=>
 Ld (az .u8) g e fun (h:Int)=>
 R (decide (h>0)) e)
 (R false e)):Cl Pg [kB] dB ⟨[(.agg a)]⟩ w R:=co Tryz.f173 [] h
theorem tf.ok (a:(Array Value)) (R:Bool→World→Prop) w (h:
 Nw 104 a w fun c b=>
 Ld (.arr 258) ⟨c,0,none⟩ b fun d=>
 Cl Pg [kI] l5 ⟨[(.agg d)]⟩ b fun (f:Int) e=>
 R (f==32768) e):Cl Pg [kB] gX ⟨[(.agg a)]⟩ w R:=co Tryz.f235 [] h
theorem wW.ok (a:(Array Value)) (R:(TT Bn)→World→Prop) w (h:
 Nw 104 a w fun c b=>
 Nw 309 ⟨List.replicate 16 (ni 0)⟩ b fun e d=>
 Ld (.arr 258) ⟨c,0,none⟩ d fun f=>
 gn 0 d fun g h (i:Int) j=>
 aa (decide (i<258))
 (gk (.int .u8) f 258 i fun (k:Int)=>
 aa (decide ((i64 k)<16))
 (aC ⟨e,0,none⟩ 16 k 1 fun l=>
 Ld kI l j fun (m:Int)=>
 aC ⟨e,0,none⟩ 16 k 1 fun n=>
 St n (ni (i64 (m+1))) j fun o=>
 g (i64 (i+1)) o∧h (i64 (i+1)) o<h i j)
 (g (i64 (i+1)) j∧h (i64 (i+1)) j<h i j))
 (Ld (.st Bn) ⟨e,0,none⟩ j fun p=>
 ae ⟨e,0,none⟩ [(ni p.1),(ni p.2.1),(ni p.2.2.1),(ni p.2.2.2.1),(ni p.2.2.2.2.1),(ni p.2.2.2.2.2.1),(ni p.2.2.2.2.2.2.1),(ni p.2.2.2.2.2.2.2.1),(ni p.2.2.2.2.2.2.2.2.1),(ni p.2.2.2.2.2.2.2.2.2.1),(ni p.2.2.2.2.2.2.2.2.2.2.1),(ni p.2.2.2.2.2.2.2.2.2.2.2.1),(ni p.2.2.2.2.2.2.2.2.2.2.2.2.1),(ni p.2.2.2.2.2.2.2.2.2.2.2.2.2.1),(ni p.2.2.2.2.2.2.2.2.2.2.2.2.2.2.1),(ni p.2.2.2.2.2.2.2.2.2.2.2.2.2.2.2.1)] 0 j fun q=>
 Ld (.st Bn) ⟨e,0,none⟩ q fun r=>
 R r q)):Cl Pg [(.st Bn)] iL ⟨[(.agg a)]⟩ w R:=co Tryz.f236 [(5,[(6,kI)])] h
theorem AY.ok (a:(Array Value)) (R:Int→World→Prop) w (h:
 Nw 104 a w fun c b=>
 Ld (.arr 258) ⟨c,0,none⟩ b fun d=>
 c6 0 0 b fun e f (g:Int) (h:Int) i=>
 aa (decide (h<258))
 (gk (.int .u8) d 258 h fun (j:Int)=>
 Cl Pg [kI] jI ⟨[(.int .u8 j)]⟩ i fun (l:Int) k=>
 e (i64 (g+l)) (i64 (h+1)) k∧f (i64 (g+l)) (i64 (h+1)) k<f g h i)
 (R g i)):Cl Pg [kI] l5 ⟨[(.agg a)]⟩ w R:=co Tryz.f290 [(5,[(2,kI),(6,kI)])] h
theorem xR.ok (a:Int) (R:Int→World→Prop) w (h:
 aa (a==0)
 (R 0 w)
 (aa (decide (a>15))
 (R 32769 w)
 (0≤a∧
 R (cn .i64 (32768:Int) a) w))):Cl Pg [kI] jI ⟨[(.int .u8 a)]⟩ w R:=co Tryz.f320 [] h
end Go.Proofs.YtgglghjnakclmaaGreat
namespace Go.Proofs.YtgglghjnakclmaaGreat
open Go Go.Vc
set_option maxRecDepth 100000
theorem uv.ok (a:(Array Value)) (R:(Array Value)→Int→World→Prop) w (h:
 Nw 104 a w fun c b=>
 Nw 108 ⟨List.replicate 258 (.int .u8 0)++ [(ni 0),(ni 0)]⟩ b fun e d=>
 Ld (.arr 258) ⟨c,0,none⟩ d fun f=>
 Cl Pg [kB] dB ⟨[(.agg f)]⟩ d fun (h:Bool) g=>
 aa (!h)
 (cd Pg 108 [] fun i=>
 aq 260 ⟨e,0,none⟩ i g fun j=>
 Ld (.arr 260) ⟨e,0,none⟩ j fun k=>
 R k 2 j)
 (Ld (.arr 258) ⟨c,0,none⟩ g fun l=>
 cd Pg 108 [(0,(.agg l))] fun m=>
 aq 260 ⟨e,0,none⟩ m g fun n=>
 Ld (.arr 260) ⟨e,0,none⟩ n fun o=>
 R o 0 n)):Cl Pg [(.arr 260),kI] iB ⟨[(.agg a)]⟩ w R:=co Tryz.f118 [] h
theorem sU.ok (a:(Array Value)) (b:Int) (R:(Array Value)→Int→Bool→World→Prop) w (h:
 Nw 108 a w fun d c=>
 Nw 108 ⟨List.replicate 258 (.int .u8 0)++ [(ni 0),(ni 0)]⟩ c fun f e=>
 bg (fun (q:World)=>
 Ld (.arr 258) (Addr.add ⟨d,0,none⟩ 0) q fun r=>
 Ld kI (Addr.add ⟨d,0,none⟩ 258) q fun (s:Int)=>
 0≤(1:Int)∧
 Ld kI (Addr.add ⟨d,0,none⟩ 259) q fun (t:Int)=>
 cd Pg 108 [(0,(.agg r)),(1,(ni (jv .i64 (a9 .i64 s (1:Int)) b))),(2,(ni (i64 (t+1))))] fun u=>
 aq 260 ⟨f,0,none⟩ u q fun v=>
 Ld (.arr 258) (Addr.add ⟨f,0,none⟩ 0) v fun x=>
 Ld kI (Addr.add ⟨f,0,none⟩ 259) v fun (y:Int)=>
 Cl Pg [kI,kI] eb ⟨[(.agg x),(ni y)]⟩ v fun (a1:Int) (b1:Int) z=>
 Ld kI (Addr.add ⟨f,0,none⟩ 258) z fun (c1:Int)=>
 aa (decide (c1≥(i64 (a1+b1))))
 (Ld (.arr 260) ⟨f,0,none⟩ z fun d1=>
 aq 260 ⟨f,0,none⟩ d1 z fun e1=>
 Ld (.arr 260) ⟨f,0,none⟩ e1 fun f1=>
 R f1 0 false e1)
 (ah z fun g1=>
 Ld (.arr 258) (Addr.add ⟨f,0,none⟩ 0) g1 fun h1=>
 Ld kI (Addr.add ⟨f,0,none⟩ 259) g1 fun (i1:Int)=>
 Ld kI (Addr.add ⟨f,0,none⟩ 258) g1 fun (j1:Int)=>
 (Ld (.arr 258) (Addr.add ⟨d,0,none⟩ 0) g1 fun k1=>
 cd Pg 108 [(0,(.agg k1))] fun l1=>
 Cl Pg [kI] ga ⟨[(.agg h1),(ni i1),(ni (i64 (j1 - a1)))]⟩ g1 fun (n1:Int) m1=>
 aq 260 ⟨f,0,none⟩ l1 m1 fun o1=>
 Ld (.arr 260) ⟨f,0,none⟩ o1 fun p1=>
 R p1 n1 true o1)∧
 (Cl Pg [kI] ga ⟨[(.agg h1),(ni i1),(ni (i64 (j1 - a1)))]⟩ g1 fun (r1:Int) q1=>
 Ld (.arr 258) (Addr.add ⟨d,0,none⟩ 0) q1 fun s1=>
 cd Pg 108 [(0,(.agg s1))] fun t1=>
 aq 260 ⟨f,0,none⟩ t1 q1 fun u1=>
 Ld (.arr 260) ⟨f,0,none⟩ u1 fun v1=>
 R v1 r1 true u1))) fun g=>
 0≤(1:Int)∧
 aa ((cn .i64 b (1:Int)) !=0)
 (Ld (.arr 260) ⟨d,0,none⟩ e fun h=>
 aq 260 ⟨f,0,none⟩ h e fun i=>
 Ld (.arr 260) ⟨f,0,none⟩ i fun j=>
 R j 0 false i)
 (Ld (.arr 260) ⟨d,0,none⟩ e fun k=>
 Cl Pg [kB] gj ⟨[(.agg k)]⟩ e fun (m:Bool) l=>
 aa (!m)
 (Ld (.arr 260) ⟨d,0,none⟩ l fun n=>
 aq 260 ⟨f,0,none⟩ n l fun o=>
 Ld (.arr 260) ⟨f,0,none⟩ o fun p=>
 R p 0 false o)
 (g l))):Cl Pg [(.arr 260),kI,kB] gS ⟨[(.agg a),(ni b)]⟩ w R:=co Tryz.f120 [(2,[]),(17,[])] h
theorem rS.ok (a:(Array Value)) (R:Bool→World→Prop) w (h:
 Nw 108 a w fun c b=>
 bg (fun (m:World)=>
 Ld (.arr 258) (Addr.add ⟨c,0,none⟩ 0) m fun n=>
 Ld kI (Addr.add ⟨c,0,none⟩ 259) m fun (o:Int)=>
 Cl Pg [kI,kI] eb ⟨[(.agg n),(ni o)]⟩ m fun (q:Int) (r:Int) p=>
 Ld kI (Addr.add ⟨c,0,none⟩ 258) p fun (s:Int)=>
 R (decide (s≥(i64 (q+r)))) p) fun d=>
 Ld (.arr 258) (Addr.add ⟨c,0,none⟩ 0) b fun e=>
 Cl Pg [kB] dB ⟨[(.agg e)]⟩ b fun (g:Bool) f=>
 aa (!g)
 (R false f)
 (Ld kI (Addr.add ⟨c,0,none⟩ 259) f fun (h:Int)=>
 aa (decide (h<0))
 (R false f)
 (Ld kI (Addr.add ⟨c,0,none⟩ 259) f fun (i:Int)=>
 aa (decide (i≥15))
 (R false f)
 (Ld kI (Addr.add ⟨c,0,none⟩ 258) f fun (j:Int)=>
 aa (decide (j<0))
 (R false f)
 (Ld kI (Addr.add ⟨c,0,none⟩ 258) f fun (k:Int)=>
 Ld kI (Addr.add ⟨c,0,none⟩ 259) f fun (l:Int)=>
 0≤l∧
 aa ((cn .i64 k l) !=0)
 (R false f)
 (d f)))))):Cl Pg [kB] gj ⟨[(.agg a)]⟩ w R:=co Tryz.f175 [(2,[])] h
theorem qO.ok (a:(Array Value)) (b:Int) (R:Int→Int→World→Prop) w (h:
 Nw 104 a w fun d c=>
 Ld (.arr 258) ⟨d,0,none⟩ c fun e=>
 Cl Pg [(.st Bn)] iL ⟨[(.agg e)]⟩ c fun g f=>
 Nw 309 ⟨List.replicate 16 (ni 0)⟩ f fun i h=>
 ae ⟨i,0,none⟩ [(ni g.1),(ni g.2.1),(ni g.2.2.1),(ni g.2.2.2.1),(ni g.2.2.2.2.1),(ni g.2.2.2.2.2.1),(ni g.2.2.2.2.2.2.1),(ni g.2.2.2.2.2.2.2.1),(ni g.2.2.2.2.2.2.2.2.1),(ni g.2.2.2.2.2.2.2.2.2.1),(ni g.2.2.2.2.2.2.2.2.2.2.1),(ni g.2.2.2.2.2.2.2.2.2.2.2.1),(ni g.2.2.2.2.2.2.2.2.2.2.2.2.1),(ni g.2.2.2.2.2.2.2.2.2.2.2.2.2.1),(ni g.2.2.2.2.2.2.2.2.2.2.2.2.2.2.1),(ni g.2.2.2.2.2.2.2.2.2.2.2.2.2.2.2.1)] 0 h fun j=>
 aC ⟨i,0,none⟩ 16 0 1 fun k=>
 St k (ni 0) j fun l=>
 c6 0 1 l fun m n (o:Int) (p:Int) q=>
 aa (decide (p≤b))
 (aC ⟨i,0,none⟩ 16 (i64 (p - 1)) 1 fun r=>
 Ld kI r q fun (s:Int)=>
 0≤(1:Int)∧
 m (a9 .i64 (i64 (o+s)) (1:Int)) (i64 (p+1)) q∧n (a9 .i64 (i64 (o+s)) (1:Int)) (i64 (p+1)) q<n o p q)
 (ah q fun t=>
 aC ⟨i,0,none⟩ 16 b 1 fun u=>
 Ld kI u t fun (v:Int)=>
 R o v t)):Cl Pg [kI,kI] eb ⟨[(.agg a),(ni b)]⟩ w R:=co Tryz.f176 [(9,[(4,kI),(7,kI)])] h
theorem xj.ok (a:(Array Value)) (b:Int) (c:Int) (R:Int→World→Prop) w (h:
 Nw 104 a w fun e d=>
 Ld (.arr 258) ⟨e,0,none⟩ d fun f=>
 c6 c 0 d fun g h (i:Int) (j:Int) k=>
 aa (decide (j<258))
 (gk (.int .u8) f 258 j fun (l:Int)=>
 aa ((i64 l) !=b)
 (g i (i64 (j+1)) k∧h i (i64 (j+1)) k<h i j k)
 (aa (i==0)
 (R j k)
 (g (i64 (i - 1)) (i64 (j+1)) k∧h (i64 (i - 1)) (i64 (j+1)) k<h i j k)))
 (R 0 k)):Cl Pg [kI] ga ⟨[(.agg a),(ni b),(ni c)]⟩ w R:=co Tryz.f177 [(5,[(2,kI),(10,kI)])] h
end Go.Proofs.YtgglghjnakclmaaGreat
set_option maxRecDepth 20000
namespace Go.Srt
def wt (n:Nat):Nat:=if n=0 then 0 else if n>15 then 32769 else 2^(15 - n)
def aR (l:List Nat):Nat:=(l.map wt).sum
theorem IP (n:Nat):wt n≤32769:=by
 unfold wt
 split
 ·omega
 ·split
  ·omega
  ·have:2^(15 - n)≤2^15:=Nat.pow_le_pow_right (by decide) (by omega)
   omega
theorem ph: ∀l:List Nat,aR l≤32769*l.length
 | []=>by simp [aR]
 |x::l=>by
  have:=ph l
  have:=IP x
  simp only [aR,List.map_cons,List.sum_cons,List.length_cons] at*
  omega
theorem jq {l:List Nat} {k:Nat} (h:k<l.length):aR (l.take (k+1))=aR (l.take k)+wt l[k]:=by
 unfold aR
 rw [List.take_add_one,List.map_append,List.sum_append,List.getElem?_eq_getElem h]
 simp only [Option.toList,List.map_cons,List.map_nil,List.sum_cons,List.sum_nil,Nat.add_zero]
theorem lF {l:List Nat} {k:Nat}:aR (l.take k)≤aR l:=by
 have:=congrArg aR (List.take_append_drop k l)
 unfold aR at this⊢
 rw [List.map_append,List.sum_append] at this
 omega
theorem Im {l:List Nat} {x:Nat} (h:x∈l):wt x≤aR l:=by
 obtain ⟨i,hi,rfl⟩:=List.getElem_of_mem h
 have:=jq hi
 have:=lF (l:=l) (k:=i+1)
 omega
def used (l:List Nat):List Nat:=(List.range l.length).filter fun s=>decide (0<l.getD s 0)
def bJ (l ys:List Nat):Prop:=ys.Perm (used l)∧ys.Pairwise fun a b=>l.getD a 0<l.getD b 0∨(l.getD a 0=l.getD b 0∧a<b)
end Go.Srt
set_option maxRecDepth 20000
namespace Go.Proofs.YtgglghjnakclmaaGreat
open Go Go.Vc Go.Srt
section
variable {E w:World} {F:List HP}
theorem FO {n:Nat} {K:Int→World→Prop} (hK:K (wt n:Int) w):Cl Tryz.prog [kI] jI ⟨[.int .u8 (n:Int)]⟩ w K:=by
 refine xR.ok _ _ _ ?_
 unfold wt at hK
 refine aa.mk (fun h=> ?_) (fun h=>aa.mk (fun h2=> ?_) (fun h2=>⟨by omega,?_⟩))
 ·have h:n=0:=by have:=of_decide_eq_true h;omega
  rw [if_pos h] at hK;exact hK
 ·have h:n≠0:=by have:=of_decide_eq_false h;omega
  have h2:n>15:=by have:=of_decide_eq_true h2;omega
  rw [if_neg h,if_pos h2] at hK;exact hK
 ·have h:n≠0:=by have:=of_decide_eq_false h;omega
  have h2: ¬n>15:=by have:=of_decide_eq_false h2;omega
  rw [if_neg h,if_neg h2] at hK
  have e:=eI (k:= .i64) (a:=32768) (b:=n) (by have:IntKind.bits .i64=64:=rfl;omega)
  rw [show (32768:Int)=((32768:Nat):Int) from rfl,e]
  have:32768/2^n=2^(15 - n):=by
   have e15:(2:Nat)^15=32768:=by decide
   have e2:=Nat.pow_sub_mul_pow 2 (show n≤15 by omega)
   rw [e15] at e2
   exact Nat.div_eq_of_eq_mul_left (Nat.two_pow_pos n) e2.symm
  rw [this];exact hK
set_option maxRecDepth 20000 in
theorem AR {l:List Nat} {K:Int→World→Prop} (h:Hp E w F) (hl:l.length=258) (hK: ∀w',Hp E w' F→K (aR l:Int) w'):Cl Tryz.prog [kI] l5 ⟨[.agg (ai .u8 l)]⟩ w K:=by
 refine AY.ok _ _ _ ?_
 refine Nw.mk h fun b w1 h1=>Ld.arr h1 (by rw [aJ,hl]) ?_
 have hb:=ph l
 refine ⟨fun sm i w'=> ∃k:Nat,i=(k:Int)∧k≤258∧sm=(aR (l.take k):Int)∧Hp E w' F,fun _ i _=>258 - i.toNat,⟨0,rfl,by omega,by simp [aR],h1.drop⟩,?_⟩
 intro sm i w' hI
 obtain ⟨k,hi,hk,hs,hh⟩:=hI
 subst hi
 subst hs
 refine aa.mk (fun hlt=> ?_) (fun hge=> ?_)
 ·have hlt:k<258:=by have:=of_decide_eq_true hlt;omega
  have hkl:k<l.length:=by omega
  refine gk.rd (s:= .int .u8) (by omega) (by omega) (l[k]:Int) (by rw [Int.toNat_natCast];exact gm hkl) (FO ?_)
  have e:=jq hkl
  have:=lF (l:=l) (k:=k+1)
  rw [aj (x:=(aR (l.take k):Int)+(wt l[k]:Int)) (by omega),aj (by omega)]
  exact ⟨⟨k+1,rfl,by omega,by rw [e];rfl,hh⟩,by dsimp only;omega⟩
 ·have hge:k=258:=by have:=of_decide_eq_false hge;omega
  subst hge
  rw [←hl,List.take_length]
  exact hK _ hh
end
end Go.Proofs.YtgglghjnakclmaaGreat
set_option maxRecDepth 20000
namespace Go.Srt
def sh (l:List Nat) (s:Nat):Nat:=2^(15 - l.getD s 0)
def start (l ys:List Nat) (i:Nat):Nat:=((ys.take i).map (sh l)).sum
theorem nv {l ys:List Nat} {i:Nat} (h:i<ys.length):start l ys (i+1)=start l ys i+sh l ys[i]:=by
 unfold start
 rw [List.take_add_one,List.map_append,List.sum_append,List.getElem?_eq_getElem h]
 simp only [Option.toList,List.map_cons,List.map_nil,List.sum_cons,List.sum_nil,Nat.add_zero]
theorem wZ (l:List Nat) (s:Nat):0<sh l s:=Nat.two_pow_pos _
theorem Av {l ys:List Nat} {i j:Nat} (h:i≤j):start l ys i≤start l ys j:=by
 unfold start
 have:=List.take_append_drop i (ys.take j)
 rw [List.take_take,Nat.min_eq_left h] at this
 have h2:=congrArg (fun l'=>(l'.map (sh l)).sum) this
 simp only [List.map_append,List.sum_append] at h2
 omega
theorem dh {l:List Nat} {s:Nat}:s∈used l↔s<l.length∧0<l.getD s 0:=by
 unfold used
 rw [List.mem_filter,List.mem_range];simp
theorem tP (l:List Nat):aR l=((used l).map fun s=>wt (l.getD s 0)).sum:=by
 have key: ∀k,k≤l.length→aR (l.take k)=(((List.range k).filter fun s=>decide (0<l.getD s 0)).map fun s=>wt (l.getD s 0)).sum:=by
  intro k
  induction k with
  |zero=>intro _;simp [aR]
  |succ k ih=>
   intro hk
   rw [jq (by omega),ih (by omega),List.range_succ,List.filter_append,List.map_append,List.sum_append]
   have hg:l.getD k 0=l[k]:=by rw [List.getD_eq_getElem?_getD,List.getElem?_eq_getElem (by omega)];rfl
   by_cases h:0<l.getD k 0
   ·rw [List.filter_cons_of_pos (by simpa using h)];simp only [List.filter_nil,List.map_cons,List.map_nil,List.sum_cons,List.sum_nil,hg];rfl
   ·rw [List.filter_cons_of_neg (by simpa using h)]
    have:l[k]=0:=by omega
    rw [this];rfl
 have:=key l.length (Nat.le_refl _)
 rw [List.take_length] at this
 exact this
theorem fB {l:List Nat} (hv:aR l≤32768) (s:Nat):l.getD s 0≤15:=by
 rw [List.getD_eq_getElem?_getD]
 cases h:l[s]? with
 |none=>simp
 |some x=>
  have:=Im (List.mem_of_getElem? h)
  unfold wt at this
  simp only [Option.getD_some]
  rcases Nat.lt_or_ge 15 x with hx|hx
  ·rw [if_neg (by omega),if_pos (by omega)] at this;omega
  ·exact hx
theorem Bh {l ys:List Nat} (hv:aR l≤32768) (h:bJ l ys):start l ys ys.length=aR l:=by
 unfold start
 rw [List.take_length,tP,(h.1.map (sh l)).sum_nat]
 congr 1
 refine List.map_congr_left fun s hs=> ?_
 have h1:=(dh.1 hs).2
 have h2:=fB hv s
 unfold sh wt
 rw [if_neg (by omega),if_neg (by omega)]
theorem CY {l ys:List Nat} (hv:aR l≤32768) (h:bJ l ys) {i:Nat} (hi:i≤ys.length):start l ys i≤32768:=by
 have:=Av (l:=l) (ys:=ys) hi
 rw [Bh hv h] at this
 omega
theorem zm {l ys:List Nat} (h:bJ l ys) {i j:Nat} (hj:j<ys.length) (hij:i≤j):l.getD (ys[i]'(by omega)) 0≤l.getD ys[j] 0:=by
 by_cases e:i=j
 ·subst e;exact Nat.le_refl _
 ·have:=(List.pairwise_iff_getElem.1 h.2) i j (by omega) hj (by omega)
  omega
theorem tF {l ys:List Nat} (h:bJ l ys) {i:Nat} (hi:i<ys.length): ∀k,k≤i→sh l ys[i]∣start l ys k
 |0,_=>by simp [start]
 |k+1,hk=>by
  rw [nv (by omega)]
  refine Nat.dvd_add (tF h hi k (by omega)) ?_
  have:=zm h hi (show k≤i by omega)
  unfold sh
  exact Nat.pow_dvd_pow 2 (by omega)
def cM (l ys:List Nat) (i:Nat):Nat:=start l ys i/sh l (ys.getD i 0)
theorem iP {ys:List Nat} {i:Nat} (hi:i<ys.length):ys.getD i 0=ys[i]:=by
 rw [List.getD_eq_getElem?_getD,List.getElem?_eq_getElem hi];rfl
theorem j6 {l ys:List Nat} (h:bJ l ys) {i:Nat} (hi:i<ys.length):cM l ys i*sh l ys[i]=start l ys i:=by
 unfold cM
 rw [iP hi]
 exact Nat.div_mul_cancel (tF h hi i (Nat.le_refl _))
theorem Cn {l:List Nat} (hv:aR l≤32768) (s:Nat):2^l.getD s 0*sh l s=32768:=by
 unfold sh
 rw [←Nat.pow_add,show l.getD s 0+(15 - l.getD s 0)=15 by have:=fB hv s;omega]
theorem ub {l ys:List Nat} (hv:aR l≤32768) (h:bJ l ys) {i:Nat} (hi:i<ys.length):cM l ys i<2^l.getD ys[i] 0:=by
 have h1:=j6 h hi
 have h2:=CY hv h (show i+1≤ys.length by omega)
 rw [nv hi] at h2
 have h3:=Cn hv ys[i]
 have h4:=wZ l ys[i]
 have h5:(cM l ys i+1)*sh l ys[i]≤2^l.getD ys[i] 0*sh l ys[i]:=by rw [Nat.succ_mul];omega
 exact Nat.le_of_mul_le_mul_right h5 h4
end Go.Srt
set_option maxRecDepth 20000
namespace Go.Srt
def bO (l ys:List Nat):Nat→List Nat
 |0=>List.replicate 258 0
 |i+1=>(bO l ys i).set (ys.getD i 0) (cM l ys i)
theorem ff (l ys:List Nat): ∀i,(bO l ys i).length=258
 |0=>List.length_replicate
 |i+1=>by rw [bO,List.length_set,ff l ys i]
theorem Hu {l ys:List Nat} (h:bJ l ys) {i j:Nat} (hj:j<ys.length) (hij:i<j):ys[i]'(by omega)≠ys[j]:=by
 have:=(List.pairwise_iff_getElem.1 h.2) i j (by omega) hj hij
 intro e
 rw [e] at this
 omega
theorem mY {l ys:List Nat} (h:bJ l ys) (hin: ∀s∈ys,s<258): ∀(i:Nat),i≤ys.length→∀j (hj:j<ys.length),j<i→(bO l ys i).getD ys[j] 0=cM l ys j
 |0,_,_,_,hji=>by omega
 |i+1,hi,j,hj,hji=>by
  have hi':i<ys.length:=by omega
  rw [bO,iP hi']
  by_cases e:j=i
  ·subst e
   have:ys[j]<(bO l ys j).length:=by rw [ff];exact hin _ (List.getElem_mem hj)
   rw [List.getD_eq_getElem?_getD,List.getElem?_set_self this];rfl
  ·have hne:=Hu h hi' (show j<i by omega)
   rw [List.getD_eq_getElem?_getD,List.getElem?_set_ne (fun hh=>hne hh.symm),←List.getD_eq_getElem?_getD]
   exact mY h hin i (by omega) j hj (by omega)
end Go.Srt
set_option maxRecDepth 20000
namespace Go.Srt
def many (l:List Nat) (n:Nat):Nat:=if n=0 then 0 else l.count n
def fst (l:List Nat):Nat→Nat
 |0=>0
 |n+1=>2*(fst l n+many l n)
def low (l:List Nat):Nat→Nat
 |0=>0
 |n+1=>low l n+many l n*2^(15 - n)
theorem sV (l:List Nat): ∀n,n≤15→fst l n*2^(15 - n)=low l n
 |0,_=>by simp [fst,low]
 |n+1,h=>by
  have ih:=sV l n (by omega)
  have e:2^(15 - n)=2*2^(15 - (n+1)):=by rw [show 15 - n=(15 - (n+1))+1 by omega,Nat.pow_succ,Nat.mul_comm]
  rw [fst,low,←ih,←Nat.add_mul,e,Nat.mul_comm 2 (fst l n+many l n),Nat.mul_assoc]
theorem yQ (n:Nat):low [] n=0:=by
 induction n with
 |zero=>rfl
 |succ n ih=>rw [low,ih];simp [many]
theorem sn (l:List Nat) (x:Nat): ∀n,low (l++ [x]) n=low l n+if 0<x∧x<n then 2^(15 - x) else 0
 |0=>by simp [low]
 |n+1=>by
  rw [low,low,sn l x n]
  unfold many
  rw [List.count_append,List.count_singleton]
  by_cases h0:n=0
  ·subst h0;rw [if_pos rfl,if_pos rfl,if_neg (by omega),if_neg (by omega)]
  ·rw [if_neg h0,if_neg h0]
   by_cases hx:x=n
   ·subst hx
    rw [if_neg (by omega),if_pos (by simp),if_pos (by omega),Nat.add_mul];omega
   ·rw [if_neg (show¬(x==n)=true by simpa using hx)]
    by_cases h:0<x∧x<n
    ·rw [if_pos h,if_pos (by omega),Nat.add_zero];omega
    ·rw [if_neg h,if_neg (by omega),Nat.add_zero,Nat.add_zero,Nat.add_zero]
theorem v7 (l:List Nat) {n m:Nat} (h:n≤m):low l n≤low l m:=by
 induction m with
 |zero=>have:n=0:=by omega
        subst this;exact Nat.le_refl _
 |succ m ih=>
  by_cases e:n=m+1
  ·subst e;exact Nat.le_refl _
  ·have:=ih (by omega)
   rw [low];omega
theorem Fc: ∀(k:Nat) (l:List Nat),l.length=k→(∀x∈l,x≤15)→low l 16=aR l:=by
 intro k
 induction k with
 |zero=>intro l h _;have:l= []:=List.length_eq_zero_iff.1 h
        subst this;simp [yQ,aR]
 |succ k ih=>
  intro l hl h
  have hne:l≠ []:=by intro e;subst e;simp at hl
  obtain ⟨l',x,rfl⟩: ∃l' x,l=l'++ [x]:=⟨l.dropLast,l.getLast hne,(List.dropLast_concat_getLast hne).symm⟩
  rw [sn,ih l' (by simpa using hl) (fun y hy=>h y (by simp [hy]))]
  have hx:=h x (by simp)
  unfold aR
  rw [List.map_append,List.sum_append]
  congr 1
  simp only [List.map_cons,List.map_nil,List.sum_cons,List.sum_nil,Nat.add_zero]
  unfold wt
  by_cases h0:x=0
  ·rw [if_neg (by omega),if_pos h0]
  ·rw [if_pos (by omega),if_neg h0,if_neg (by omega)]
theorem E3 {l:List Nat} (hv:aR l≤32768):low l 16=aR l:=Fc _ l rfl fun x hx=>by
 obtain ⟨i,hi,rfl⟩:=List.getElem_of_mem hx
 have:=fB hv i
 rwa [List.getD_eq_getElem?_getD,List.getElem?_eq_getElem hi] at this
def fW (l:List Nat) (s:Nat):Nat:=(l.take s).count (l.getD s 0)
def code (l:List Nat) (s:Nat):Nat:=fst l (l.getD s 0)+fW l s
def pos (l:List Nat) (s:Nat):Nat:=low l (l.getD s 0)+fW l s*2^(15 - l.getD s 0)
theorem nh {l:List Nat} (hv:aR l≤32768) (s:Nat):code l s*2^(15 - l.getD s 0)=pos l s:=by
 unfold code pos
 rw [Nat.add_mul,sV l _ (fB hv s)]
theorem bC {l:List Nat} {i:Nat} (h:i<l.length):l.getD i 0=l[i]:=by rw [List.getD_eq_getElem?_getD,List.getElem?_eq_getElem h];rfl
theorem jS (l:List Nat) (k x:Nat):(l.take k).count x≤l.count x:=(List.take_sublist k l).count_le x
theorem cS {l:List Nat} {k:Nat} (h:k<l.length) (x:Nat):(l.take (k+1)).count x=(l.take k).count x+if l[k]=x then 1 else 0:=by
 rw [List.take_add_one,List.getElem?_eq_getElem h,List.count_append]
 simp only [Option.toList,List.count_singleton,beq_iff_eq]
theorem ln {l:List Nat} {i j:Nat} (h:i≤j) (x:Nat):(l.take i).count x≤(l.take j).count x:=by
 have:(l.take i)=(l.take j).take i:=by rw [List.take_take,Nat.min_eq_left h]
 rw [this];exact jS _ _ _
theorem yF {l:List Nat} {s:Nat} (hs:s<l.length) (h0:0<l.getD s 0):fW l s<many l (l.getD s 0):=by
 unfold fW many
 rw [if_neg (by omega)]
 have h1:=cS hs (l.getD s 0)
 rw [bC hs,if_pos rfl] at h1
 have h2:=jS l (s+1) (l[s])
 rw [bC hs]
 omega
theorem vk {l:List Nat} {s:Nat} (hs:s<l.length) (h0:0<l.getD s 0):pos l s+2^(15 - l.getD s 0)≤low l (l.getD s 0+1):=by
 have:=yF hs h0
 unfold pos
 rw [low,Nat.add_assoc,←Nat.succ_mul]
 exact Nat.add_le_add_left (Nat.mul_le_mul_right _ this) _
theorem lN {l:List Nat} {s t:Nat} (hs:s<l.length) (ht:t<l.length) (h0:0<l.getD s 0) (hne:s≠t) (h:l.getD s 0<l.getD t 0∨(l.getD s 0=l.getD t 0∧s<t)):pos l s+2^(15 - l.getD s 0)≤pos l t:=by
 rcases h with h|⟨h,hst⟩
 ·have h1:=vk hs h0
  have h2:=v7 l (show l.getD s 0+1≤l.getD t 0 by omega)
  unfold pos at h1⊢
  omega
 ·have h1:=cS hs (l.getD t 0)
  rw [if_pos (by rw [←h,bC hs])] at h1
  have h2:=ln (l:=l) (show s+1≤t by omega) (l.getD t 0)
  unfold pos fW
  rw [h,Nat.add_assoc,←Nat.succ_mul]
  exact Nat.add_le_add_left (Nat.mul_le_mul_right _ (by omega)) _
theorem CZ {l:List Nat} {s t x:Nat} (hs:s<l.length) (ht:t<l.length) (h0:0<l.getD s 0) (h1:0<l.getD t 0) (hxs:pos l s≤x) (hxs':x<pos l s+2^(15 - l.getD s 0)) (hxt:pos l t≤x) (hxt':x<pos l t+2^(15 - l.getD t 0)):s=t:=by
 by_cases e:s=t
 ·exact e
 ·rcases Nat.lt_trichotomy (l.getD s 0) (l.getD t 0) with h|h|h
  ·have:=lN hs ht h0 e (.inl h);omega
  ·rcases Nat.lt_or_ge s t with h'|h'
   ·have:=lN hs ht h0 e (.inr ⟨h,h'⟩);omega
   ·have:=lN ht hs h1 (Ne.symm e) (.inr ⟨h.symm,by omega⟩);omega
  ·have:=lN ht hs h1 (Ne.symm e) (.inl h);omega
theorem FM (l:List Nat) (n:Nat): ∀p,p<l.count n→∃s,s<l.length∧l.getD s 0=n∧fW l s=p:=by
 intro p hp
 have key: ∀k,k≤l.length→p<(l.take k).count n→∃s,s<k∧l.getD s 0=n∧fW l s=p:=by
  intro k
  induction k with
  |zero=>intro _ h;simp at h
  |succ k ih=>
   intro hk h
   by_cases h2:p<(l.take k).count n
   ·obtain ⟨s,h1,h3⟩:=ih (by omega) h2;exact ⟨s,by omega,h3⟩
   ·have h3:=cS (l:=l) (k:=k) (by omega) n
    by_cases h4:l[k]=n
    ·rw [if_pos h4] at h3
     refine ⟨k,by omega,by rw [bC (by omega),h4],?_⟩
     unfold fW
     rw [bC (by omega),h4];omega
    ·rw [if_neg h4] at h3;omega
 obtain ⟨s,h1,h2⟩:=key l.length (Nat.le_refl _) (by rwa [List.take_length])
 exact ⟨s,by omega,h2⟩
theorem wi {l:List Nat} {s t:Nat} (hs:s<l.length) (ht:t<l.length) (h:l.getD s 0=l.getD t 0) (hr:fW l s=fW l t):s=t:=by
 have aux: ∀{s t:Nat},s<l.length→t<l.length→l.getD s 0=l.getD t 0→fW l s=fW l t→¬s<t:=by
  intro s t hs ht h hr hlt
  have h1:=cS hs (l.getD t 0)
  rw [if_pos (by rw [←h,bC hs])] at h1
  have h2:=ln (l:=l) (show s+1≤t by omega) (l.getD t 0)
  unfold fW at hr
  rw [h] at hr
  omega
 have h1:=aux hs ht h hr
 have h2:=aux ht hs h.symm hr.symm
 omega
def yP (l:List Nat) (n s t:Nat):Bool:=decide (0<l.getD t 0)&&decide (l.getD t 0<n∨(l.getD t 0=n∧t<s))
theorem ru (l:List Nat) (n s:Nat) (hn:0<n): ∀k,k≤l.length→(((List.range k).filter (yP l n s)).map (sh l)).sum=low (l.take k) n+((l.take k).take s).count n*2^(15 - n)
 |0,_=>by simp [yQ]
 |k+1,hk=>by
  have hk':k<l.length:=by omega
  rw [List.range_succ,List.filter_append,List.map_append,List.sum_append,ru l n s hn k (by omega)]
  have e1:l.take (k+1)=l.take k++ [l[k]]:=by rw [List.take_add_one,List.getElem?_eq_getElem hk'];rfl
  rw [e1,sn]
  have hg:=bC hk'
  have hlen:(l.take k).length=k:=by simp;omega
  have hc:0<l[k]→(l[k]<n∨(l[k]=n∧k<s))→yP l n s k=true:=fun h0 h1=>by
   unfold yP;rw [hg,Bool.and_eq_true,decide_eq_true_eq,decide_eq_true_eq];exact ⟨h0,h1⟩
  have hc': ¬(0<l[k]∧(l[k]<n∨(l[k]=n∧k<s)))→¬yP l n s k=true:=fun h=>by
   unfold yP;rw [hg,Bool.and_eq_true,decide_eq_true_eq,decide_eq_true_eq];exact h
  by_cases hks:k<s
  ·have e2:(l.take k++ [l[k]]).take s=l.take k++ [l[k]]:=List.take_of_length_le (by rw [List.length_append,hlen];simp;omega)
   have e3:(l.take k).take s=l.take k:=List.take_of_length_le (by omega)
   rw [e2,e3,List.count_append,List.count_singleton]
   by_cases h0:0<l[k]∧l[k]<n
   ·rw [List.filter_cons_of_pos (hc h0.1 (.inl h0.2)),if_pos h0,if_neg (by rw [beq_iff_eq];omega)]
    simp only [List.filter_nil,List.map_cons,List.map_nil,List.sum_cons,List.sum_nil,sh,hg,Nat.add_zero];omega
   ·rw [if_neg h0]
    by_cases h1:l[k]=n
    ·rw [List.filter_cons_of_pos (hc (by omega) (.inr ⟨h1,hks⟩)),if_pos (by simpa using h1),Nat.add_mul]
     simp only [List.filter_nil,List.map_cons,List.map_nil,List.sum_cons,List.sum_nil,sh,hg,h1];omega
    ·rw [List.filter_cons_of_neg (hc' (by omega)),if_neg (by simpa using h1)]
     simp
  ·have e2:(l.take k++ [l[k]]).take s=(l.take k).take s:=by rw [List.take_append_of_le_length (by omega)]
   rw [e2]
   by_cases h0:0<l[k]∧l[k]<n
   ·rw [List.filter_cons_of_pos (hc h0.1 (.inl h0.2)),if_pos h0]
    simp only [List.filter_nil,List.map_cons,List.map_nil,List.sum_cons,List.sum_nil,sh,hg,Nat.add_zero];omega
   ·rw [if_neg h0,List.filter_cons_of_neg (hc' (by omega))]
    simp
theorem BN {l ys:List Nat} (h:bJ l ys) {i:Nat} (hi:i<ys.length):start l ys i=pos l ys[i]:=by
 have hm:=dh.1 (h.1.mem_iff.1 (List.getElem_mem hi))
 let p:Nat→Bool:=fun t=>decide (l.getD t 0<l.getD ys[i] 0∨(l.getD t 0=l.getD ys[i] 0∧t<ys[i]))
 have hpw:=List.pairwise_iff_getElem.1 h.2
 have e1:ys.filter p=ys.take i:=by
  conv=>lhs;rw [←List.take_append_drop i ys]
  rw [List.filter_append,List.filter_eq_self.2,List.filter_eq_nil_iff.2,List.append_nil]
  ·intro a ha
   obtain ⟨j,hj,rfl⟩:=List.getElem_of_mem ha
   rw [List.length_drop] at hj
   rw [List.getElem_drop]
   show¬p _=true
   by_cases e:j=0
   ·subst e;simp only [p,Nat.add_zero,decide_eq_true_eq];omega
   ·have:=hpw i (i+j) hi (by omega) (by omega)
    simp only [p,decide_eq_true_eq];omega
  ·intro a ha
   obtain ⟨j,hj,rfl⟩:=List.getElem_of_mem ha
   rw [List.length_take] at hj
   rw [List.getElem_take]
   have:=hpw j i (by omega) hi (by omega)
   simp only [p,decide_eq_true_eq];omega
 have e2:((ys.take i).map (sh l)).sum=(((used l).filter p).map (sh l)).sum:=by
  rw [←e1];exact ((h.1.filter p).map (sh l)).sum_nat
 unfold start
 rw [e2]
 have e3:(used l).filter p=(List.range l.length).filter (yP l (l.getD ys[i] 0) ys[i]):=by
  unfold used;rw [List.filter_filter];congr 1;funext t;rw [Bool.and_comm];rfl
 rw [e3]
 have:=ru l (l.getD ys[i] 0) ys[i] hm.2 l.length (Nat.le_refl _)
 rw [List.take_length] at this
 exact this
theorem xx {l ys:List Nat} (hv:aR l≤32768) (h:bJ l ys) {i:Nat} (hi:i<ys.length):cM l ys i=code l ys[i]:=by
 have h1:=j6 h hi
 rw [BN h hi,←nh hv] at h1
 exact Nat.eq_of_mul_eq_mul_right (wZ l ys[i]) h1
theorem AN {l ys:List Nat} (hl:l.length=258) (hv:aR l≤32768) (h:bJ l ys) {s:Nat} (hs:s<258) (h0:0<l.getD s 0):(bO l ys ys.length).getD s 0=code l s:=by
 have hin: ∀s∈ys,s<258:=fun s hs=>by have:=(dh.1 (h.1.mem_iff.1 hs)).1;omega
 have hm:s∈ys:=h.1.mem_iff.2 (dh.2 ⟨by omega,h0⟩)
 obtain ⟨i,hi,rfl⟩:=List.getElem_of_mem hm
 rw [mY h hin _ (Nat.le_refl _) i hi hi,xx hv h hi]
theorem zx {l:List Nat} (hl:l.length=258) (hv:aR l≤32768) {s:Nat} (hs:s<258) (h0:0<l.getD s 0):code l s<2^l.getD s 0:=by
 have h1:=nh hv s
 have h2:=vk (by omega) h0
 have h3:=v7 l (show l.getD s 0+1≤16 by have:=fB hv s;omega)
 rw [E3 hv] at h3
 have h4:=Cn hv s
 unfold sh at h4
 have h5:(code l s+1)*2^(15 - l.getD s 0)≤2^l.getD s 0*2^(15 - l.getD s 0):=by rw [Nat.succ_mul];omega
 exact Nat.le_of_mul_le_mul_right h5 (Nat.two_pow_pos _)
end Go.Srt
