/- Texts packed together by program; spaces struck by program. Conditions: as each theorem states. -/
import Derived.Carry
import Derived.Laws.AppendOwn
import Derived.Laws.BytesArg
import Derived.Laws.CopyRow
import Derived.Laws.IdiomCopy
import Derived.Laws.IdiomStrings
import Derived.Laws.MakeOwn
import Derived.Lib.BytesEntry
import Derived.Lib.MakeNoZero
import Derived.MapKept
import Derived.OpenShut
import Derived.OrdersIn
import Derived.ProofKit
import Derived.RangeFuncRecord
import Derived.ScopeJumps
import Derived.SizedLaws
import Derived.TacticsIn
import Derived.Test.YtgglghjnakclmaaGreatChecked
import Derived.Test.YtgglghjnakclmaaGreatQha
set_option linter.unusedSimpArgs false
set_option linter.unusedVariables false
set_option maxRecDepth 20000
namespace Go.aE
end Go.aE
namespace Go.af
end Go.af
namespace Go.Bw
end Go.Bw
namespace Go.ChangeShapes
end Go.ChangeShapes
namespace Go.Crc
end Go.Crc
namespace Go.Dcd
end Go.Dcd
namespace Go.Hd
end Go.Hd
namespace Go.Hs
end Go.Hs
namespace Go.Inc
end Go.Inc
namespace Go.Pm
end Go.Pm
namespace Go.Pol
end Go.Pol
namespace Go.Prs
end Go.Prs
namespace Go.Rk
end Go.Rk
namespace Go.RowKit
end Go.RowKit
namespace Go.Srt
end Go.Srt
namespace Go.Stm
end Go.Stm
namespace Go.Sym
end Go.Sym
namespace Go.Tab
end Go.Tab
namespace Go.Vc
end Go.Vc
namespace Go.WideShapes
end Go.WideShapes
namespace Go.Vc
open Go
noncomputable section
variable {nn:Nat} {dfs:List Deferred}
def mark (r:Nat):Deferred:={target:= .collected r,args:= #[]}
end
end Go.Vc
namespace Go.Vc
open Go
noncomputable section
variable {nn:Nat} {dfs:List Deferred}
end
end Go.Vc
namespace Go.Proofs.YtgglghjnakclmaaGreat
open Go Go.Vc
abbrev iE:Nat:=10
abbrev lP:Nat:=13
abbrev py:Nat:=14
abbrev fx:Nat:=15
abbrev dI:Nat:=19
abbrev gk:Nat:=20
abbrev nM:Nat:=24
abbrev n7:Nat:=25
abbrev o6:Nat:=26
abbrev jA:Nat:=27
abbrev dS:Nat:=28
abbrev oZ:Nat:=44
abbrev dn:Nat:=45
abbrev eI:Nat:=47
abbrev bV:Nat:=50
abbrev eE:Nat:=51
abbrev pj:Nat:=52
abbrev a8:Nat:=53
abbrev bR:Nat:=54
abbrev ej:Nat:=55
abbrev iJ:Nat:=56
abbrev pv:Nat:=57
abbrev fh:Nat:=59
abbrev gv:Nat:=62
abbrev fK:Nat:=63
abbrev gJ:Nat:=64
abbrev fe:Nat:=65
abbrev ga:Nat:=66
abbrev fM:Nat:=67
abbrev fB:Nat:=68
abbrev fJ:Nat:=69
abbrev fy:Nat:=70
abbrev fU:Nat:=71
abbrev gD:Nat:=72
abbrev ic:Nat:=73
abbrev g0:Nat:=74
abbrev ja:Nat:=75
abbrev gz:Nat:=76
abbrev qT:Nat:=77
abbrev pz:Nat:=78
abbrev mK:Nat:=79
abbrev jG:Nat:=80
abbrev qe:Nat:=81
abbrev gE:Nat:=82
abbrev nT:Nat:=83
abbrev nb:Nat:=84
abbrev iH:Nat:=85
abbrev ju:Nat:=86
abbrev l7:Nat:=89
abbrev iy:Nat:=90
abbrev jm:Nat:=95
abbrev dj:Nat:=97
abbrev gf:Nat:=98
abbrev oa:Nat:=100
abbrev cW:Nat:=101
abbrev cP:Nat:=102
abbrev cX:Nat:=103
abbrev di:Nat:=104
abbrev cZ:Nat:=105
abbrev fW:Nat:=106
abbrev fz:Nat:=107
abbrev m7:Nat:=108
abbrev fH:Nat:=109
abbrev tn:Nat:=110
abbrev qg:Nat:=111
abbrev cT:Nat:=113
abbrev n4:Nat:=114
abbrev bq:Nat:=115
abbrev eO:Nat:=116
abbrev jk:Nat:=117
abbrev lV:Nat:=118
abbrev pP:Nat:=119
abbrev kE:Nat:=120
abbrev nZ:Nat:=121
abbrev fm:Nat:=122
abbrev dM:Nat:=123
abbrev jQ:Nat:=124
abbrev kN:Nat:=125
abbrev lT:Nat:=126
abbrev tw:Nat:=127
abbrev pG:Nat:=128
abbrev iI:Nat:=129
abbrev nS:Nat:=130
abbrev m8:Nat:=131
abbrev o5:Nat:=132
abbrev nY:Nat:=133
abbrev mN:Nat:=134
abbrev kg:Nat:=135
abbrev pk:Nat:=136
abbrev qV:Nat:=138
abbrev cd:Nat:=139
abbrev jj:Nat:=145
abbrev mC:Nat:=154
abbrev fX:Nat:=155
abbrev ig:Nat:=156
abbrev mw:Nat:=157
abbrev ir:Nat:=158
abbrev kx:Nat:=159
abbrev rh:Nat:=160
abbrev pB:Nat:=161
abbrev pL:Nat:=162
abbrev cY:Nat:=163
abbrev mV:Nat:=164
abbrev ib:Nat:=165
abbrev eK:Nat:=166
abbrev eG:Nat:=167
abbrev dZ:Nat:=168
abbrev cA:Nat:=169
abbrev iY:Nat:=170
abbrev iB:Nat:=171
abbrev jl:Nat:=172
abbrev fE:Nat:=173
abbrev vv:Nat:=174
abbrev jN:Nat:=175
abbrev gp:Nat:=176
abbrev jE:Nat:=177
abbrev mL:Nat:=178
abbrev nX:Nat:=179
abbrev tF:Nat:=180
abbrev iN:Nat:=181
abbrev kh:Nat:=182
abbrev p6:Nat:=183
abbrev rr:Nat:=184
abbrev oY:Nat:=185
abbrev pJ:Nat:=186
abbrev fR:Nat:=187
abbrev nC:Nat:=188
abbrev ny:Nat:=189
abbrev nA:Nat:=190
abbrev nL:Nat:=191
abbrev u5:Nat:=193
abbrev bA:Nat:=197
abbrev cK:Nat:=199
abbrev nW:Nat:=204
abbrev mz:Nat:=214
abbrev pT:Nat:=215
abbrev jO:Nat:=216
abbrev lZ:Nat:=217
abbrev mJ:Nat:=218
abbrev p4:Nat:=219
abbrev ky:Nat:=220
abbrev ob:Nat:=221
abbrev nk:Nat:=222
abbrev n5:Nat:=223
abbrev jB:Nat:=224
abbrev my:Nat:=225
abbrev me:Nat:=226
abbrev fA:Nat:=227
abbrev gy:Nat:=228
abbrev nN:Nat:=229
abbrev j8:Nat:=230
abbrev dV:Nat:=231
abbrev bU:Nat:=232
abbrev iw:Nat:=233
abbrev gZ:Nat:=234
abbrev kG:Nat:=235
abbrev mI:Nat:=236
abbrev rp:Nat:=237
abbrev kq:Nat:=238
abbrev lW:Nat:=239
abbrev tu:Nat:=240
abbrev rE:Nat:=241
abbrev kn:Nat:=242
abbrev kr:Nat:=243
abbrev pe:Nat:=244
abbrev ia:Nat:=245
abbrev qY:Nat:=246
abbrev ru:Nat:=247
abbrev qc:Nat:=248
abbrev ri:Nat:=249
abbrev qQ:Nat:=250
abbrev re:Nat:=251
abbrev fV:Nat:=261
abbrev nU:Nat:=279
abbrev jP:Nat:=280
abbrev rm:Nat:=281
abbrev eC:Nat:=282
abbrev dC:Nat:=283
abbrev rl:Nat:=284
abbrev im:Nat:=285
abbrev oc:Nat:=286
abbrev qX:Nat:=287
abbrev kl:Nat:=288
abbrev jI:Nat:=289
abbrev qZ:Nat:=290
abbrev tm:Nat:=291
abbrev mH:Nat:=292
abbrev ko:Nat:=293
abbrev rq:Nat:=294
abbrev n6:Nat:=295
abbrev kb:Nat:=296
abbrev nc:Nat:=297
abbrev iv:Nat:=298
abbrev ew:Nat:=305
abbrev fL:Nat:=316
abbrev mf:Nat:=317
abbrev eJ:Nat:=318
abbrev kd:Nat:=319
abbrev n9:Nat:=320
abbrev l0:Nat:=321
abbrev cM:Nat:=322
abbrev pq:Nat:=328
abbrev rv:Nat:=329
abbrev oe:Nat:=331
abbrev kZ:Nat:=351
abbrev jR:Nat:=352
abbrev j5:Nat:=353
abbrev la:Nat:=354
abbrev jV:Nat:=355
abbrev dW:Nat:=356
abbrev lY:Nat:=357
abbrev kX:Nat:=358
abbrev kO:Nat:=359
abbrev lL:Nat:=360
abbrev lq:Nat:=361
abbrev eh:Nat:=362
noncomputable abbrev Pg:Program:=Tryz.prog
theorem Tryz.mix:Tryz.prog.follows .mixedOrders=true:=by kernel_rfl
theorem co {i:FuncId} {w:World} {F:Prop} {args:List Value} {ks:List Ki} {K:mo ks (World→Prop)} (fn:Func) (L:List (Nat×List (Nat×Ki))) (h:F) (hf:Pg.funcs[i]? =some fn:=by kernel_rfl) (hb:fn.body=some (fn.body.getD .skip):=by kernel_rfl) (hl:Nat.ble args.length fn.ntmps=true:=by kernel_rfl) (he:vc Pg fn.ntmps (fn.body.getD .skip) (yE (fn.body.getD .skip) 0 L).1 (xg Pg fn.results.toList ks K) (qC args fn.ntmps) w=F:=by kernel_rfl):Cl Pg ks i ⟨args⟩ w K:=
 qS Tryz.mix fn args ks K fn.ntmps fn.results.toList hf hb rfl hl rfl (yE (fn.body.getD .skip) 0 L).1 he h
abbrev bc:List Sc:= [.int .u8,.int .i64,.int .i64,.int .i64,.int .u32,.sl,.int .i64]
abbrev a5:List Sc:= [.int .i64,.int .i64,.int .i64,.int .i64,.int .i64,.int .u32,.int .i64]
abbrev cy:List Sc:= [.int .i64,.int .i64,.int .i64,.int .i64]
abbrev Ky:List Sc:= [.int .i64,.int .i64,.int .i64,.int .i64,.int .i64,.int .i64,.int .i64,.int .i64,.int .i64,.int .i64,.int .i64,.int .i64,.int .i64,.int .i64,.int .i64,.int .i64]
end Go.Proofs.YtgglghjnakclmaaGreat
namespace Go.Proofs.YtgglghjnakclmaaGreat
open Go Go.Vc
set_option maxRecDepth 100000
theorem we.ok (a:Int) (b:Int) (c:Sl) (d:Int) (R:Bool→World→Prop) w (h:
 aQ (fun (m:World)=>
 Cl Pg [kS,kI] n7 ⟨[(ni a),(an c)]⟩ m fun (o:Sl) (p:Int) n=>
 Cl Pg [kP,kI] eI ⟨[(ni b)]⟩ n fun r (s:Int) q=>
 aQ (fun (y:World)=>
 bj o 0 (if (o.len:Int)<(if (0:Int)>d then (0:Int) else d) then (o.len:Int) else (if (0:Int)>d then (0:Int) else d)) (o).cap 1 fun z=>
 Nw 26 ⟨[(an z)]⟩ y fun b1 a1=>
 Cl Pg [kB] bV ⟨[(.pointer r),(an (⟨some ⟨b1,0,none⟩,1,1⟩:Sl))]⟩ a1 fun (d1:Bool) c1=>
 Cl Pg [kB] eE ⟨[(.pointer r)]⟩ c1 fun (f1:Bool) e1=>
 bj o 0 (if (o.len:Int)<(if (0:Int)>d then (0:Int) else d) then (o.len:Int) else (if (0:Int)>d then (0:Int) else d)) (o).cap 1 fun g1=>
 Cl Pg [kS,kI,kI] pj ⟨[(an g1)]⟩ e1 fun (i1:Sl) (j1:Int) (k1:Int) h1=>
 aQ (fun (y1:Int) (z1:Int) (a2:World)=>
 Cl Pg [kI] bR ⟨[(.pointer r)]⟩ a2 fun (c2:Int) b2=>
 Cl Pg [kI] ej ⟨[(.pointer r)]⟩ b2 fun (e2:Int) d2=>
 Cl Pg [(ao .u8),(ao .u8),kI] a8 ⟨[(.pointer r)]⟩ d2 fun (g2:Int) (h2:Int) (i2:Int) f2=>
 aa (z1==3)
 (aa (y1==(i64 (e2+1)))
 (aa (decide (e2≤(i1.len:Int)))
 (aa (h2==z1)
 (Cl Pg [kI] bR ⟨[(.pointer r)]⟩ f2 fun (k2:Int) j2=>
 aa (k2==c2)
 (aa (z1 !=3)
 (Cl Pg [kB] dn ⟨[]⟩ j2 fun (m2:Bool) l2=>
 R m2 l2)
 (aa (k1==0)
 (aa (i2==0)
 (aa (e2==(i1.len:Int))
 (Cl Pg [kB] dn ⟨[]⟩ j2 fun (o2:Bool) n2=>
 R o2 n2)
 (R false j2))
 (R false j2))
 (R false j2)))
 (R false j2))
 (R false f2))
 (R false f2))
 (R false f2))
 (aa (z1==4)
 (aa (y1==(i64 (e2+1)))
 (aa (decide (e2≤(i1.len:Int)))
 (aa (h2==z1)
 (Cl Pg [kI] bR ⟨[(.pointer r)]⟩ f2 fun (q2:Int) p2=>
 aa (q2==c2)
 (aa (z1 !=3)
 (Cl Pg [kB] dn ⟨[]⟩ p2 fun (s2:Bool) r2=>
 R s2 r2)
 (aa (k1==0)
 (aa (i2==0)
 (aa (e2==(i1.len:Int))
 (Cl Pg [kB] dn ⟨[]⟩ p2 fun (u2:Bool) t2=>
 R u2 t2)
 (R false p2))
 (R false p2))
 (R false p2)))
 (R false p2))
 (R false f2))
 (R false f2))
 (R false f2))
 (R false f2))) fun l1=>
 cp 0 1 h1 fun m1 n1 (o1:Int) (p1:Int) q1=>
 aQ (fun (s1:World)=>
 Cl Pg [(ao .u8),(ao .u8),kI] a8 ⟨[(.pointer r)]⟩ s1 fun (u1:Int) (v1:Int) (x1:Int) t1=>
 m1 (i64 (o1+1)) v1 t1∧n1 (i64 (o1+1)) v1 t1<n1 o1 p1 q1) fun r1=>
 aa (p1==1)
 (aa (decide (o1≤(i64 ((i1.len:Int)+1))))
 (r1 q1)
 (l1 o1 p1 q1))
 (l1 o1 p1 q1)) fun t=>
 aQ (fun (v:Bool) (x:World)=>
 aa v
 (R false x)
 (t x)) fun u=>
 aa (s !=0)
 (u true q)
 (u (Option.isNone (r:Option Addr)) q)) fun e=>
 aQ (fun (i:Bool) (j:World)=>
 aa i
 (Cl Pg [kB] dn ⟨[]⟩ j fun (l:Bool) k=>
 R l k)
 (e j)) fun f=>
 Cl Pg [kB] nM ⟨[(an c)]⟩ w fun (h:Bool) g=>
 aa h
 (f true g)
 (aa (decide (a<1))
 (f true g)
 (aa (decide (a>65536))
 (f true g)
 (aa (decide (b<1))
 (f true g)
 (f (decide (b>400000)) g))))):Cl Pg [kB] iE ⟨[(ni a),(ni b),(an c),(ni d)]⟩ w R:=co Tryz.f10 [(2,[]),(3,[(43,kB)]),(13,[]),(14,[(66,kB)]),(28,[(16,kI),(17,(ao .u8))]),(29,[(16,kI),(17,(ao .u8))]),(30,[])] h
theorem FP.ok (R:Bool→World→Prop) w (h:
 Nw 5 ⟨[(.int .u8 87),(.int .u8 80),(.int .u8 1),(.int .u8 130),(.int .u8 44),(.int .u8 0),(.int .u8 0),(.int .u8 0),(.int .u8 0),(.int .u8 0)]⟩ w fun b a=>
 Cl Pg [kP,kI] eI ⟨[(ni 300)]⟩ a fun d (e:Int) c=>
 Cl Pg [kP,kI] eI ⟨[(ni 299)]⟩ c fun g (h:Int) f=>
 Cl Pg [kP,kI] eI ⟨[(ni 0)]⟩ f fun j (k:Int) i=>
 aQ (fun (p:World)=>
 Cl Pg [kI] dj ⟨[(.pointer d)]⟩ p fun (r:Int) q=>
 aY q fun b1=>
 bj (⟨some ⟨b,0,none⟩,10,10⟩:Sl) 0 3 ((⟨some ⟨b,0,none⟩,10,10⟩:Sl)).cap 1 fun c1=>
 bj (⟨some ⟨b,0,none⟩,10,10⟩:Sl) 3 ((⟨some ⟨b,0,none⟩,10,10⟩:Sl)).len ((⟨some ⟨b,0,none⟩,10,10⟩:Sl)).cap 1 fun d1=>
 Nw 26 ⟨[(an c1),(an d1)]⟩ b1 fun f1 e1=>
 Cl Pg [kB] bV ⟨[(.pointer d),(an (⟨some ⟨f1,0,none⟩,2,2⟩:Sl))]⟩ e1 fun (h1:Bool) g1=>
 Cl Pg [(ao .u8),(ao .u8),kI] a8 ⟨[(.pointer d)]⟩ g1 fun (j1:Int) (k1:Int) (l1:Int) i1=>
 Cl Pg [kB] eE ⟨[(.pointer d)]⟩ i1 fun (n1:Bool) m1=>
 Nw 26 ⟨[(an (⟨some ⟨b,0,none⟩,10,10⟩:Sl))]⟩ m1 fun p1 o1=>
 Cl Pg [kB] bV ⟨[(.pointer d),(an (⟨some ⟨p1,0,none⟩,1,1⟩:Sl))]⟩ o1 fun (r1:Bool) q1=>
 Cl Pg [(ao .u8),(ao .u8),kI] a8 ⟨[(.pointer d)]⟩ q1 fun (t1:Int) (u1:Int) (v1:Int) s1=>
 Cl Pg [(ao .u8),(ao .u8),kI] a8 ⟨[(.pointer d)]⟩ s1 fun (y1:Int) (z1:Int) (a2:Int) x1=>
 Nw 26 ⟨[(an (⟨some ⟨b,0,none⟩,10,10⟩:Sl))]⟩ x1 fun c2 b2=>
 Cl Pg [kB] bV ⟨[(.pointer g),(an (⟨some ⟨c2,0,none⟩,1,1⟩:Sl))]⟩ b2 fun (e2:Bool) d2=>
 Cl Pg [(ao .u8),(ao .u8),kI] a8 ⟨[(.pointer g)]⟩ d2 fun (g2:Int) (h2:Int) (i2:Int) f2=>
 Cl Pg [(ao .u8),(ao .u8),kI] a8 ⟨[(.pointer g)]⟩ f2 fun (k2:Int) (l2:Int) (m2:Int) j2=>
 Cl Pg [(ao .u8),(ao .u8),kI] a8 ⟨[(.pointer none)]⟩ j2 fun (o2:Int) (p2:Int) (q2:Int) n2=>
 aa (r==0)
 (aa h1
 (aa (k1==2)
 (aa (l1==0)
 (aa n1
 (aa (!r1)
 (aa (u1==3)
 (aa (v1==0)
 (aa (z1==3)
 (aa (a2==0)
 (Cl Pg [kI] dj ⟨[(.pointer d)]⟩ n2 fun (s2:Int) r2=>
 aa (s2==300)
 (Cl Pg [(ao .u8)] gf ⟨[(.pointer d)]⟩ r2 fun (u2:Int) t2=>
 aa (u2==2)
 (Cl Pg [kI] bR ⟨[(.pointer d)]⟩ t2 fun (x2:Int) v2=>
 aa (x2==80)
 (Cl Pg [kI] ej ⟨[(.pointer d)]⟩ v2 fun (z2:Int) y2=>
 aa (z2==0)
 (aa (h2==4)
 (aa (i2==230)
 (aa (l2==4)
 (aa (m2==230)
 (Cl Pg [kI] dj ⟨[(.pointer g)]⟩ y2 fun (b3:Int) a3=>
 aa (b3==0)
 (aa (p2==4)
 (aa (q2==2)
 (Cl Pg [kB] bV ⟨[(.pointer none),(.slice none 0 0)]⟩ a3 fun (d3:Bool) c3=>
 aa (!d3)
 (Cl Pg [kI] bR ⟨[(.pointer none)]⟩ c3 fun (f3:Int) e3=>
 R (f3==0) e3)
 (R false c3))
 (R false a3))
 (R false a3))
 (R false a3))
 (R false y2))
 (R false y2))
 (R false y2))
 (R false y2))
 (R false y2))
 (R false v2))
 (R false t2))
 (R false r2))
 (R false n2))
 (R false n2))
 (R false n2))
 (R false n2))
 (R false n2))
 (R false n2))
 (R false n2))
 (R false n2))
 (R false n2))
 (R false n2)) fun l=>
 aQ (fun (n:Bool) (o:World)=>
 aa n
 (R false o)
 (l o)) fun m=>
 aa (e !=0)
 (m true i)
 (aa (h !=0)
 (m true i)
 (aa (Option.isNone (d:Option Addr))
 (m true i)
 (aa (Option.isNone (g:Option Addr))
 (m true i)
 (m (k !=2) i))))):Cl Pg [kB] dn ⟨[]⟩ w R:=co Tryz.f45 [(10,[]),(11,[(61,kB)])] h
end Go.Proofs.YtgglghjnakclmaaGreat
namespace Go.Proofs.YtgglghjnakclmaaGreat
open Go Go.Vc
set_option maxRecDepth 100000
theorem wL.ok (a:Int) (R:(Option Addr)→Int→World→Prop) w (h:
 Cl Pg [kP,kI] nb ⟨[(ni a)]⟩ w fun c (d:Int) b=>
 aa (d !=0)
 (R none d b)
 (Cl Pg [kP] lP ⟨[]⟩ b fun f e=>
 Cl Pg [kP] py ⟨[]⟩ e fun h g=>
 Nw 156 ⟨[(ni a),(.int .u8 0),(.pointer c),(.pointer f),(.pointer h),(.slice none 0 0),(ni 0),(ni 0),(.int .u32 0),(ni 0),.nilIface,(ni 0),(ni 0),(.int .u32 0),(ni 0)]⟩ g fun j i=>
 R (some ⟨j,0,none⟩) 0 i)):Cl Pg [kP,kI] eI ⟨[(ni a)]⟩ w R:=co Tryz.f47 [] h
theorem lU.ok (a:(Option Addr)) (b:Sl) (R:Bool→World→Prop) w (h:
 aa (!(Option.isNone (a:Option Addr)))
 (ah a fun c=>
 Ld kP (c.add 3) w fun d=>
 Cl Pg [kB] fx ⟨[(.pointer d),(an b)]⟩ w fun (f:Bool) e=>
 R f e)
 (R false w)):Cl Pg [kB] bV ⟨[(.pointer a),(an b)]⟩ w R:=co Tryz.f50 [] h
theorem um.ok (a:(Option Addr)) (R:Bool→World→Prop) w (h:
 aa (!(Option.isNone (a:Option Addr)))
 (ah a fun b=>
 Ld kP (b.add 3) w fun c=>
 Cl Pg [kB] gk ⟨[(.pointer c)]⟩ w fun (e:Bool) d=>
 R e d)
 (R false w)):Cl Pg [kB] eE ⟨[(.pointer a)]⟩ w R:=co Tryz.f51 [] h
theorem iV.ok (a:(Option Addr)) (R:Int→Int→Int→World→Prop) w (h:
 aa (Option.isNone (a:Option Addr))
 (R 0 4 2 w)
 (ar Pg (Instr.makeMap 160 none) kM w fun c b=>
 ar Pg (do Instr.mapUpdate 160 (.map c) (.int .u8 2) (.func (.func 101) ⟨[(.pointer a)]⟩ ⟨[]⟩);pure undef) kV b fun _ d=>
 ar Pg (do Instr.mapUpdate 160 (.map c) (.int .u8 3) (.func (.func 102) ⟨[(.pointer a)]⟩ ⟨[]⟩);pure undef) kV d fun _ e=>
 ar Pg (do Instr.mapUpdate 160 (.map c) (.int .u8 4) (.func (.func 103) ⟨[(.pointer a)]⟩ ⟨[]⟩);pure undef) kV e fun _ f=>
 ar Pg (do Instr.mapUpdate 160 (.map c) (.int .u8 5) (.func (.func 104) ⟨[(.pointer a)]⟩ ⟨[]⟩);pure undef) kV f fun _ g=>
 ar Pg (do Instr.mapUpdate 160 (.map c) (.int .u8 6) (.func (.func 105) ⟨[(.pointer a)]⟩ ⟨[]⟩);pure undef) kV g fun _ h=>
 Vj h fun i j k=>
 ah a fun l=>
 Ld kI (l.add 14) k fun (m:Int)=>
 aa (m==0)
 (Cl Pg [(ao .u8),kB] fW ⟨[(.pointer a)]⟩ k fun (o:Int) (p:Bool) n=>
 aa p
 (R o 1 0 n)
 (aQ (fun (i1:Addr) (j1:World)=>
 Ld (ao .u8) (i1.add 0) j1 fun (k1:Int)=>
 aa (k1==1)
 (R 0 2 0 j1)
 (aa (k1==7)
 (R 0 3 0 j1)
 (aa (k1==8)
 (Ld kI (i1.add 6) j1 fun (l1:Int)=>
 ah a fun m1=>
 St (m1.add 14) (ni l1) j1 fun n1=>
 i n1∧j n1<j k)
 (Ld (ao .u8) (i1.add 0) j1 fun (o1:Int)=>
 ar Pg (Instr.lookup 160 (.map c) (.int .u8 o1) false) kV j1 fun q1 p1=>
 Ld (.st bc) i1 p1 fun r1=>
 gn Pg q1 [kI] [(.agg ⟨[(.int .u8 r1.1),(ni r1.2.1),(ni r1.2.2.1),(ni r1.2.2.2.1),(.int .u32 r1.2.2.2.2.1),(an r1.2.2.2.2.2.1),(ni r1.2.2.2.2.2.2.1)]⟩)] p1 fun (t1:Int) s1=>
 ah a fun u1=>
 St (u1.add 14) (ni t1) s1 fun v1=>
 i v1∧j v1<j k)))) fun q=>
 cB n fun r s=>
 ah a fun t=>
 aw kP (t.add 4) r fun u=>
 ah a fun v=>
 aw kP (v.add 3) r fun x=>
 (Cl Pg [(.st bc)] dI ⟨[(.pointer u),(.pointer x)]⟩ s fun z y=>
 r y∧
 Nw 29 ⟨[(.int .u8 0),(ni 0),(ni 0),(ni 0),(.int .u32 0),(.slice none 0 0),(ni 0)]⟩ y fun b1 a1=>
 r a1∧
 ae ⟨b1,0,none⟩ [(.int .u8 z.1),(ni z.2.1),(ni z.2.2.1),(ni z.2.2.2.1),(.int .u32 z.2.2.2.2.1),(an z.2.2.2.2.2.1),(ni z.2.2.2.2.2.2.1)] 0 a1 fun c1=>
 r c1∧
 q (⟨b1,0,none⟩) c1)∧
 (Nw 29 ⟨[(.int .u8 0),(ni 0),(ni 0),(ni 0),(.int .u32 0),(.slice none 0 0),(ni 0)]⟩ s fun e1 d1=>
 r d1∧
 Cl Pg [(.st bc)] dI ⟨[(.pointer u),(.pointer x)]⟩ d1 fun g1 f1=>
 r f1∧
 ae ⟨e1,0,none⟩ [(.int .u8 g1.1),(ni g1.2.1),(ni g1.2.2.1),(ni g1.2.2.2.1),(.int .u32 g1.2.2.2.2.1),(an g1.2.2.2.2.2.1),(ni g1.2.2.2.2.2.2.1)] 0 f1 fun h1=>
 r h1∧
 q (⟨e1,0,none⟩) h1)))
 (aY k fun b2=>
 ah a fun c2=>
 Ld kI (c2.add 14) b2 fun (d2:Int)=>
 R 0 4 d2 b2))):Cl Pg [(ao .u8),(ao .u8),kI] a8 ⟨[(.pointer a)]⟩ w R:=co Tryz.f53 [(10,[])] h
theorem lp.ok (a:(Option Addr)) (R:Int→World→Prop) w (h:
 aa (Option.isNone (a:Option Addr))
 (R 0 w)
 (cB w fun b c=>
 ah a fun d=>
 aw kI (d.add 11) b fun (e:Int)=>
 ah a fun f=>
 aw kP (f.add 3) b fun g=>
 Cl Pg [kI] fz ⟨[(.pointer g)]⟩ c fun (i:Int) h=>
 b h∧
 ah a fun j=>
 Ld kV (j.add 10) h fun k=>
 iK k fun l=>
 aa (!l)
 (ah a fun m=>
 Ld kV (m.add 10) h fun n=>
 fw Pg n "Steps" [kI] [] h fun (p:Int) o=>
 R (i64 ((i64 (e+i))+p)) o)
 (R (i64 (e+i)) h))):Cl Pg [kI] bR ⟨[(.pointer a)]⟩ w R:=co Tryz.f54 [] h
theorem sx.ok (a:(Option Addr)) (R:Int→World→Prop) w (h:
 aa (Option.isNone (a:Option Addr))
 (R 0 w)
 (ah a fun b=>
 Ld kI (b.add 12) w fun (c:Int)=>
 R c w)):Cl Pg [kI] ej ⟨[(.pointer a)]⟩ w R:=co Tryz.f55 [] h
theorem sU.ok (a:(Option Addr)) (R:Int→World→Prop) w (h:
 aa (Option.isNone (a:Option Addr))
 (R 0 w)
 (ah a fun b=>
 Ld kP (b.add 2) w fun c=>
 Cl Pg [kI] jm ⟨[(.pointer c)]⟩ w fun (e:Int) d=>
 R e d)):Cl Pg [kI] dj ⟨[(.pointer a)]⟩ w R:=co Tryz.f97 [] h
theorem sC.ok (a:(Option Addr)) (R:Int→World→Prop) w (h:
 aa (Option.isNone (a:Option Addr))
 (R 0 w)
 (ah a fun b=>
 Ld (ao .u8) (b.add 1) w fun (c:Int)=>
 R c w)):Cl Pg [(ao .u8)] gf ⟨[(.pointer a)]⟩ w R:=co Tryz.f98 [] h
theorem sn.ok (a:(Option Addr)) (b:(TT bc)) (R:Int→World→Prop) w (h:
 Nw 29 ⟨[(.int .u8 b.1),(ni b.2.1),(ni b.2.2.1),(ni b.2.2.2.1),(.int .u32 b.2.2.2.2.1),(an b.2.2.2.2.2.1),(ni b.2.2.2.2.2.2.1)]⟩ w fun d c=>
 aY c fun m=>
 ah a fun n=>
 Ld kI (n.add 0) m fun (o:Int)=>
 Ld kI (Addr.add ⟨d,0,none⟩ 1) m fun (p:Int)=>
 Cl Pg [(ao .u8),kI] nT ⟨[(ni o),(ni p),(.int .u8 2)]⟩ m fun (r:Int) (s:Int) q=>
 aa (s !=0)
 (R s q)
 (ah a fun t=>
 St (t.add 1) (.int .u8 r) q fun u=>
 Ld kI (Addr.add ⟨d,0,none⟩ 1) u fun (v:Int)=>
 Cl Pg [kS,kI] iH ⟨[(ni v),(.int .u8 2),(.int .u8 r)]⟩ u fun (y:Sl) (z:Int) x=>
 ee 0 x fun a1 b1 (c1:Int) d1=>
 aa (decide (c1<(y.len:Int)))
 (ay y c1 1 fun e1=>
 Ld kI e1 d1 fun (f1:Int)=>
 ah a fun g1=>
 Ld kP (g1.add 2) d1 fun h1=>
 Cl Pg [(.st [.int .i64,.int .i64]),kI] ju ⟨[(.pointer h1),(ni f1)]⟩ d1 fun j1 (k1:Int) i1=>
 Nw 146 ⟨[(ni 0),(ni 0)]⟩ i1 fun m1 l1=>
 ae ⟨m1,0,none⟩ [(ni j1.1),(ni j1.2.1)] 0 l1 fun n1=>
 aQ (fun (h2:World)=>
 a1 (i64 (c1+1)) h2∧b1 (i64 (c1+1)) h2<b1 c1 d1) fun o1=>
 aY n1 fun p1=>
 ah a fun q1=>
 Ld (.st [.int .i64,.int .i64]) ⟨m1,0,none⟩ p1 fun r1=>
 (Ld kS (q1.add 5) p1 fun (s1:Sl)=>
 Nw 146 ⟨[(ni r1.1),(ni r1.2.1)]⟩ p1 fun u1 t1=>
 ar Pg (Builtin.append_ #[137,137] 137 ⟨[(an s1),(an (⟨some ⟨u1,0,none⟩,1,1⟩:Sl))]⟩) kS t1 fun (x1:Sl) v1=>
 ah a fun y1=>
 St (y1.add 5) (an x1) v1 fun z1=>
 o1 z1)∧
 (Nw 146 ⟨[(ni r1.1),(ni r1.2.1)]⟩ p1 fun b2 a2=>
 Ld kS (q1.add 5) a2 fun (c2:Sl)=>
 ar Pg (Builtin.append_ #[137,137] 137 ⟨[(an c2),(an (⟨some ⟨b2,0,none⟩,1,1⟩:Sl))]⟩) kS a2 fun (e2:Sl) d2=>
 ah a fun f2=>
 St (f2.add 5) (an e2) d2 fun g2=>
 o1 g2))
 (R 0 d1))):Cl Pg [kI] cW ⟨[(.pointer a),(.agg ⟨[(.int .u8 b.1),(ni b.2.1),(ni b.2.2.1),(ni b.2.2.2.1),(.int .u32 b.2.2.2.2.1),(an b.2.2.2.2.2.1),(ni b.2.2.2.2.2.2.1)]⟩)]⟩ w R:=co Tryz.f101 [(16,[(39,kI)]),(25,[])] h
theorem rf.ok (a:(Option Addr)) (b:(TT bc)) (R:Int→World→Prop) w (h:
 Nw 29 ⟨[(.int .u8 b.1),(ni b.2.1),(ni b.2.2.1),(ni b.2.2.2.1),(.int .u32 b.2.2.2.2.1),(an b.2.2.2.2.2.1),(ni b.2.2.2.2.2.2.1)]⟩ w fun d c=>
 Ld (.st [.int .i64,.int .i64,.int .u32]) (Addr.add ⟨d,0,none⟩ 2) c fun e=>
 ah a fun f=>
 ae (f.add 6) [(ni e.1),(ni e.2.1),(.int .u32 e.2.2.1)] 0 c fun g=>
 ah a fun h=>
 St (h.add 9) (ni 0) g fun i=>
 R 0 i):Cl Pg [kI] cP ⟨[(.pointer a),(.agg ⟨[(.int .u8 b.1),(ni b.2.1),(ni b.2.2.1),(ni b.2.2.2.1),(.int .u32 b.2.2.2.2.1),(an b.2.2.2.2.2.1),(ni b.2.2.2.2.2.2.1)]⟩)]⟩ w R:=co Tryz.f102 [] h
theorem r7.ok (a:(Option Addr)) (b:(TT bc)) (R:Int→World→Prop) w (h:
 Nw 29 ⟨[(.int .u8 b.1),(ni b.2.1),(ni b.2.2.1),(ni b.2.2.2.1),(.int .u32 b.2.2.2.2.1),(an b.2.2.2.2.2.1),(ni b.2.2.2.2.2.2.1)]⟩ w fun d c=>
 aY c fun e=>
 ah a fun f=>
 Ld kP (f.add 2) e fun g=>
 ah a fun h=>
 Ld kS (h.add 5) e fun (i:Sl)=>
 ay i 0 2 fun j=>
 Ld (.st [.int .i64,.int .i64]) j e fun k=>
 ah a fun l=>
 Ld kI (l.add 9) e fun (m:Int)=>
 Ld kS (Addr.add ⟨d,0,none⟩ 5) e fun (n:Sl)=>
 Cl Pg [kB] iy ⟨[(.pointer g),(.agg ⟨[(ni k.1),(ni k.2.1)]⟩),(ni m),(an n)]⟩ e fun (p:Bool) o=>
 aY o fun q=>
 ah a fun r=>
 Ld kI (r.add 9) q fun (s:Int)=>
 Ld kS (Addr.add ⟨d,0,none⟩ 5) q fun (t:Sl)=>
 ah a fun u=>
 St (u.add 9) (ni (i64 (s+(t.len:Int)))) q fun v=>
 R 0 v):Cl Pg [kI] cX ⟨[(.pointer a),(.agg ⟨[(.int .u8 b.1),(ni b.2.1),(ni b.2.2.1),(ni b.2.2.2.1),(.int .u32 b.2.2.2.2.1),(an b.2.2.2.2.2.1),(ni b.2.2.2.2.2.2.1)]⟩)]⟩ w R:=co Tryz.f103 [] h
theorem sQ.ok (a:(Option Addr)) (b:(TT bc)) (R:Int→World→Prop) w (h:
 Nw 29 ⟨[(.int .u8 b.1),(ni b.2.1),(ni b.2.2.1),(ni b.2.2.2.1),(.int .u32 b.2.2.2.2.1),(an b.2.2.2.2.2.1),(ni b.2.2.2.2.2.2.1)]⟩ w fun d c=>
 Cl Pg [kV,kI] fX ⟨[(.pointer a)]⟩ c fun f (g:Int) e=>
 aa (g !=0)
 (R 170 e)
 (fw Pg f "Valid" [kB] [] e fun (i:Bool) h=>
 aQ (fun (y:Int) (z:World)=>
 aQ (fun (u1:World)=>
 aa (!i)
 (R 170 u1)
 (ah a fun v1=>
 Ld (ao .u32) ((v1.add 6).add 2) u1 fun (x1:Int)=>
 aa (y !=x1)
 (R 250 u1)
 (fw Pg f "Reset" [] [] u1 fun y1=>
 ah a fun z1=>
 St (z1.add 10) f y1 fun a2=>
 R 0 a2))) fun a1=>
 aQ (fun (e1:Bool) (f1:World)=>
 aa e1
 (aQ (fun (t1:World)=>
 a1 t1) fun g1=>
 aY f1 fun h1=>
 ah a fun i1=>
 (Ld kI (i1.add 11) h1 fun (j1:Int)=>
 fw Pg f "Steps" [kI] [] h1 fun (l1:Int) k1=>
 ah a fun m1=>
 St (m1.add 11) (ni (i64 (j1+l1))) k1 fun n1=>
 g1 n1)∧
 (fw Pg f "Steps" [kI] [] h1 fun (p1:Int) o1=>
 Ld kI (i1.add 11) o1 fun (q1:Int)=>
 ah a fun r1=>
 St (r1.add 11) (ni (i64 (q1+p1))) o1 fun s1=>
 g1 s1))
 (a1 f1)) fun b1=>
 aa (!i)
 (b1 true z)
 (ah a fun c1=>
 Ld (ao .u32) ((c1.add 6).add 2) z fun (d1:Int)=>
 b1 (y !=d1) z)) fun j=>
 ee 0 h fun k l (m:Int) n=>
 aa i
 (fw Pg f "Next" [(ao .u8),kB] [] n fun (p:Int) (q:Bool) o=>
 aa (!q)
 (j m o)
 (Nw 5 ⟨[(.int .u8 p)]⟩ o fun s r=>
 Nw 26 ⟨[(an (⟨some ⟨s,0,none⟩,1,1⟩:Sl))]⟩ r fun u t=>
 Cl Pg [(ao .u32)] l7 ⟨[(.int .u32 m),(an (⟨some ⟨u,0,none⟩,1,1⟩:Sl))]⟩ t fun (x:Int) v=>
 k x v∧l x v<l m n))
 (j m n))):Cl Pg [kI] di ⟨[(.pointer a),(.agg ⟨[(.int .u8 b.1),(ni b.2.1),(ni b.2.2.1),(ni b.2.2.2.1),(.int .u32 b.2.2.2.2.1),(an b.2.2.2.2.2.1),(ni b.2.2.2.2.2.2.1)]⟩)]⟩ w R:=co Tryz.f104 [(13,[(8,(ao .u32))]),(14,[(8,(ao .u32))]),(24,[]),(25,[(43,kB)]),(27,[])] h
theorem rK.ok (a:(Option Addr)) (b:(TT bc)) (R:Int→World→Prop) w (h:
 Nw 29 ⟨[(.int .u8 b.1),(ni b.2.1),(ni b.2.2.1),(ni b.2.2.2.1),(.int .u32 b.2.2.2.2.1),(an b.2.2.2.2.2.1),(ni b.2.2.2.2.2.2.1)]⟩ w fun d c=>
 aY c fun e=>
 Ld (ao .u32) ((Addr.add ⟨d,0,none⟩ 2).add 2) e fun (f:Int)=>
 ah a fun g=>
 Ld (ao .u32) (g.add 13) e fun (h:Int)=>
 aa (f !=h)
 (R 260 e)
 (R 0 e)):Cl Pg [kI] cZ ⟨[(.pointer a),(.agg ⟨[(.int .u8 b.1),(ni b.2.1),(ni b.2.2.1),(ni b.2.2.2.1),(.int .u32 b.2.2.2.2.1),(an b.2.2.2.2.2.1),(ni b.2.2.2.2.2.2.1)]⟩)]⟩ w R:=co Tryz.f105 [] h
theorem sI.ok (a:(Option Addr)) (R:Int→Bool→World→Prop) w (h:
 ah a fun b=>
 Ld kV (b.add 10) w fun c=>
 iK c fun d=>
 aa d
 (R 0 false w)
 (ah a fun e=>
 Ld kV (e.add 10) w fun f=>
 fw Pg f "Next" [(ao .u8),kB] [] w fun (h:Int) (i:Bool) g=>
 aQ (fun (z:World)=>
 aQ (fun (h2:World)=>
 R h i h2) fun a1=>
 aQ (fun (m1:Bool) (n1:World)=>
 aa m1
 (aQ (fun (e2:World)=>
 ah a fun f2=>
 St (f2.add 10) .nilIface e2 fun g2=>
 a1 g2) fun o1=>
 aY n1 fun p1=>
 ah a fun q1=>
 ah a fun r1=>
 Ld kV (r1.add 10) p1 fun s1=>
 (Ld kI (q1.add 11) p1 fun (t1:Int)=>
 fw Pg s1 "Steps" [kI] [] p1 fun (v1:Int) u1=>
 ah a fun x1=>
 St (x1.add 11) (ni (i64 (t1+v1))) u1 fun y1=>
 o1 y1)∧
 (fw Pg s1 "Steps" [kI] [] p1 fun (a2:Int) z1=>
 Ld kI (q1.add 11) z1 fun (b2:Int)=>
 ah a fun c2=>
 St (c2.add 11) (ni (i64 (b2+a2))) z1 fun d2=>
 o1 d2))
 (a1 n1)) fun b1=>
 aY z fun c1=>
 ah a fun d1=>
 Ld kV (d1.add 10) c1 fun e1=>
 ah a fun f1=>
 (fw Pg e1 "Told" [kI] [] c1 fun (h1:Int) g1=>
 Ld kI ((f1.add 6).add 0) g1 fun (i1:Int)=>
 b1 (h1==i1) g1)∧
 (Ld kI ((f1.add 6).add 0) c1 fun (j1:Int)=>
 fw Pg e1 "Told" [kI] [] c1 fun (l1:Int) k1=>
 b1 (l1==j1) k1)) fun j=>
 aa i
 (ah a fun k=>
 Ld kI (k.add 12) g fun (l:Int)=>
 ah a fun m=>
 St (m.add 12) (ni (i64 (l+1))) g fun n=>
 ah a fun o=>
 Ld (ao .u32) (o.add 13) n fun (p:Int)=>
 Nw 5 ⟨[(.int .u8 h)]⟩ n fun r q=>
 Nw 26 ⟨[(an (⟨some ⟨r,0,none⟩,1,1⟩:Sl))]⟩ q fun t s=>
 Cl Pg [(ao .u32)] l7 ⟨[(.int .u32 p),(an (⟨some ⟨t,0,none⟩,1,1⟩:Sl))]⟩ s fun (v:Int) u=>
 ah a fun x=>
 St (x.add 13) (.int .u32 v) u fun y=>
 j y)
 (j g))):Cl Pg [(ao .u8),kB] fW ⟨[(.pointer a)]⟩ w R:=co Tryz.f106 [(9,[]),(15,[]),(17,[]),(19,[])] h
theorem s8.ok (a:(Option Addr)) (R:Value→Int→World→Prop) w (h:
 cB w fun b c=>
 ah a fun d=>
 aw kS (d.add 5) b fun (e:Sl)=>
 ay e 0 2 fun f=>
 aw kI (f.add 0) b fun (g:Int)=>
 ah a fun h=>
 aw kI ((h.add 6).add 0) b fun (i:Int)=>
 Nw 146 ⟨[(ni 0),(ni 0)]⟩ c fun k j=>
 b j∧
 ae ⟨k,0,none⟩ [(ni g),(ni i)] 0 j fun l=>
 b l∧
 ah a fun m=>
 Ld (ao .u8) (m.add 1) l fun (n:Int)=>
 Cl Pg [kI,kB] jO ⟨[(.int .u8 n)]⟩ l fun (p:Int) (q:Bool) o=>
 aa (!q)
 (cB o fun r s=>
 ah a fun t=>
 aw kP (t.add 2) r fun u=>
 aw (.st [.int .i64,.int .i64]) ⟨k,0,none⟩ r fun v=>
 ah a fun x=>
 aw kI ((x.add 6).add 1) r fun (y:Int)=>
 ah a fun z=>
 aw kS (z.add 5) r fun (a1:Sl)=>
 ay a1 1 2 fun b1=>
 aw (.st [.int .i64,.int .i64]) b1 r fun c1=>
 Cl Pg [kP,kI] lZ ⟨[(.pointer u),(.agg ⟨[(ni v.1),(ni v.2.1)]⟩),(ni y),(.agg ⟨[(ni c1.1),(ni c1.2.1)]⟩)]⟩ s fun e1 (f1:Int) d1=>
 r d1∧
 R (.iface 294 (.pointer e1)) f1 d1)
 (cB o fun g1 h1=>
 ah a fun i1=>
 aw kP (i1.add 2) g1 fun j1=>
 aw (.st [.int .i64,.int .i64]) ⟨k,0,none⟩ g1 fun k1=>
 ah a fun l1=>
 aw kI ((l1.add 6).add 1) g1 fun (m1:Int)=>
 ah a fun n1=>
 aw kS (n1.add 5) g1 fun (o1:Sl)=>
 ay o1 1 2 fun p1=>
 aw (.st [.int .i64,.int .i64]) p1 g1 fun q1=>
 Cl Pg [kP,kI] mJ ⟨[(.pointer j1),(.agg ⟨[(ni k1.1),(ni k1.2.1)]⟩),(ni m1),(.agg ⟨[(ni q1.1),(ni q1.2.1)]⟩),(ni p)]⟩ h1 fun s1 (t1:Int) r1=>
 g1 r1∧
 R (.iface 297 (.pointer s1)) t1 r1)):Cl Pg [kV,kI] fX ⟨[(.pointer a)]⟩ w R:=co Tryz.f155 [] h
end Go.Proofs.YtgglghjnakclmaaGreat
namespace Go.Proofs.YtgglghjnakclmaaGreat
open Go Go.Vc
set_option maxRecDepth 100000
theorem BT.ok (a:(Option Addr)) (b:(TT [.int .i64,.int .i64])) (c:Int) (d:(TT [.int .i64,.int .i64])) (R:(Option Addr)→Int→World→Prop) w (h:
 Nw 146 ⟨[(ni b.1),(ni b.2.1)]⟩ w fun f e=>
 Nw 146 ⟨[(ni d.1),(ni d.2.1)]⟩ e fun h g=>
 aQ (fun (o:World)=>
 Ld (.st [.int .i64,.int .i64]) ⟨f,0,none⟩ o fun p=>
 Ld (.st [.int .i64,.int .i64]) ⟨h,0,none⟩ o fun q=>
 Nw 350 ⟨[(.pointer a),(ni p.1),(ni p.2.1),(ni q.1),(ni q.2.1),(ni c),(ni 0),(ni 0),(ni 0)]⟩ o fun s r=>
 Ld (.st [.int .i64,.int .i64]) ⟨f,0,none⟩ r fun t=>
 Cl Pg [(.arr 256)] rm ⟨[(.pointer a),(.agg ⟨[(ni t.1),(ni t.2.1)]⟩)]⟩ r fun v u=>
 Nw 351 ⟨List.replicate 256 (ni 0)⟩ u fun y x=>
 ak 256 ⟨y,0,none⟩ v x fun z=>
 Ld kI (Addr.add ⟨f,0,none⟩ 1) z fun (a1:Int)=>
 ee 0 z fun b1 c1 (d1:Int) e1=>
 aa (decide (d1<(i64 (a1+1))))
 (Cl Pg [(ao .u8),kB] eC ⟨[(.pointer (some ⟨s,0,none⟩)),(ni d1)]⟩ e1 fun (g1:Int) (h1:Bool) f1=>
 aa h1
 (au ⟨y,0,none⟩ 256 g1 1 fun i1=>
 Ld kI i1 f1 fun (j1:Int)=>
 au ⟨y,0,none⟩ 256 g1 1 fun k1=>
 St k1 (ni (i64 (j1+1))) f1 fun l1=>
 au ⟨y,0,none⟩ 256 g1 1 fun m1=>
 Ld kI m1 l1 fun (n1:Int)=>
 Ld (.st [.int .i64,.int .i64]) ⟨h,0,none⟩ l1 fun o1=>
 Cl Pg [kB] dC ⟨[(.pointer a),(.agg ⟨[(ni o1.1),(ni o1.2.1)]⟩),(ni d1),(.int .u32 (u32 n1))]⟩ l1 fun (q1:Bool) p1=>
 b1 (i64 (d1+1)) p1∧c1 (i64 (d1+1)) p1<c1 d1 e1)
 (Ld (.st [.int .i64,.int .i64]) ⟨h,0,none⟩ f1 fun r1=>
 Cl Pg [kB] dC ⟨[(.pointer a),(.agg ⟨[(ni r1.1),(ni r1.2.1)]⟩),(ni d1),(.int .u32 (u32 0))]⟩ f1 fun (t1:Bool) s1=>
 b1 (i64 (d1+1)) s1∧c1 (i64 (d1+1)) s1<c1 d1 e1))
 (R (some ⟨s,0,none⟩) 0 e1)) fun i=>
 Ld (.st [.int .i64,.int .i64]) ⟨f,0,none⟩ g fun j=>
 Ld (.st [.int .i64,.int .i64]) ⟨h,0,none⟩ g fun k=>
 Cl Pg [kB] jP ⟨[(.pointer a),(.agg ⟨[(ni j.1),(ni j.2.1)]⟩),(.agg ⟨[(ni k.1),(ni k.2.1)]⟩)]⟩ g fun (m:Bool) l=>
 aa (!m)
 (R none 2 l)
 (aa (decide (c<1))
 (R none 170 l)
 (Ld kI (Addr.add ⟨f,0,none⟩ 1) l fun (n:Int)=>
 aa (decide (c>n))
 (R none 170 l)
 (i l)))):Cl Pg [kP,kI] lZ ⟨[(.pointer a),(.agg ⟨[(ni b.1),(ni b.2.1)]⟩),(ni c),(.agg ⟨[(ni d.1),(ni d.2.1)]⟩)]⟩ w R:=co Tryz.f217 [(2,[]),(18,[(43,kI)])] h
theorem zo.ok (a:(Option Addr)) (b:(TT [.int .i64,.int .i64])) (c:(TT [.int .i64,.int .i64])) (R:Bool→World→Prop) w (h:
 Nw 146 ⟨[(ni b.1),(ni b.2.1)]⟩ w fun e d=>
 Nw 146 ⟨[(ni c.1),(ni c.2.1)]⟩ d fun g f=>
 aQ (fun (s:World)=>
 Ld kI (Addr.add ⟨e,0,none⟩ 0) s fun (t:Int)=>
 Ld kI (Addr.add ⟨e,0,none⟩ 1) s fun (u:Int)=>
 Ld kI (Addr.add ⟨g,0,none⟩ 0) s fun (v:Int)=>
 aa (decide ((i64 (t+u))≤v))
 (R true s)
 (Ld kI (Addr.add ⟨g,0,none⟩ 0) s fun (x:Int)=>
 Ld kI (Addr.add ⟨g,0,none⟩ 1) s fun (y:Int)=>
 Ld kI (Addr.add ⟨e,0,none⟩ 0) s fun (z:Int)=>
 R (decide ((i64 (x+y))≤z)) s)) fun h=>
 Ld (.st [.int .i64,.int .i64]) ⟨e,0,none⟩ f fun i=>
 Cl Pg [kB] cd ⟨[(.pointer a),(.agg ⟨[(ni i.1),(ni i.2.1)]⟩)]⟩ f fun (k:Bool) j=>
 aa (!k)
 (R false j)
 (Ld (.st [.int .i64,.int .i64]) ⟨g,0,none⟩ j fun l=>
 Cl Pg [kB] cd ⟨[(.pointer a),(.agg ⟨[(ni l.1),(ni l.2.1)]⟩)]⟩ j fun (n:Bool) m=>
 aa (!n)
 (R false m)
 (Ld kI (Addr.add ⟨e,0,none⟩ 1) m fun (o:Int)=>
 aa (decide (o<1))
 (R false m)
 (Ld kI (Addr.add ⟨e,0,none⟩ 1) m fun (p:Int)=>
 aa (decide (p>65536))
 (R false m)
 (Ld kI (Addr.add ⟨g,0,none⟩ 1) m fun (q:Int)=>
 Ld kI (Addr.add ⟨e,0,none⟩ 1) m fun (r:Int)=>
 aa (decide (q<(i64 ((4:Int)*(i64 (r+1))))))
 (R false m)
 (h m)))))):Cl Pg [kB] jP ⟨[(.pointer a),(.agg ⟨[(ni b.1),(ni b.2.1)]⟩),(.agg ⟨[(ni c.1),(ni c.2.1)]⟩)]⟩ w R:=co Tryz.f280 [(2,[])] h
theorem uq.ok (a:(Option Addr)) (b:Int) (R:Int→Bool→World→Prop) w (h:
 ah a fun c=>
 Ld kI (c.add 5) w fun (d:Int)=>
 aa (b==d)
 (R 0 false w)
 (ah a fun e=>
 Ld kI (e.add 5) w fun (f:Int)=>
 aa (decide (b>f))
 (aY w fun g=>
 ah a fun h=>
 Ld kP (h.add 0) g fun i=>
 ah a fun j=>
 Ld (.st [.int .i64,.int .i64]) (j.add 1) g fun k=>
 Cl Pg [(ao .u8),kB] bA ⟨[(.pointer i),(.agg ⟨[(ni k.1),(ni k.2.1)]⟩),(ni (i64 (b - 1)))]⟩ g fun (m:Int) (n:Bool) l=>
 R m n l)
 (aY w fun o=>
 ah a fun p=>
 Ld kP (p.add 0) o fun q=>
 ah a fun r=>
 Ld (.st [.int .i64,.int .i64]) (r.add 1) o fun s=>
 Cl Pg [(ao .u8),kB] bA ⟨[(.pointer q),(.agg ⟨[(ni s.1),(ni s.2.1)]⟩),(ni b)]⟩ o fun (u:Int) (v:Bool) t=>
 R u v t))):Cl Pg [(ao .u8),kB] eC ⟨[(.pointer a),(ni b)]⟩ w R:=co Tryz.f282 [] h
theorem uv.ok (a:(Option Addr)) (R:Int→Bool→World→Prop) w (h:
 aY w fun b=>
 aa (Option.isNone (a:Option Addr))
 (R 0 false b)
 (ah a fun c=>
 Ld kI (c.add 7) b fun (d:Int)=>
 ah a fun e=>
 Ld kI ((e.add 1).add 1) b fun (f:Int)=>
 aa (d==f)
 (R 0 false b)
 (ah a fun g=>
 Ld kI (g.add 6) b fun (h:Int)=>
 Cl Pg [kI,(ao .u8),kB] dW ⟨[(.pointer a),(ni h)]⟩ b fun (j:Int) (k:Int) (l:Bool) i=>
 aa (!l)
 (R 0 false i)
 (ah a fun m=>
 St (m.add 6) (ni j) i fun n=>
 ah a fun o=>
 Ld kI (o.add 7) n fun (p:Int)=>
 ah a fun q=>
 St (q.add 7) (ni (i64 (p+1))) n fun r=>
 R k true r)))):Cl Pg [(ao .u8),kB] kZ ⟨[(.pointer a)]⟩ w R:=co Tryz.f351 [] h
theorem td.ok (a:(Option Addr)) (R:World→Prop) w (h:
 aa (!(Option.isNone (a:Option Addr)))
 (ah a fun b=>
 St (b.add 6) (ni 0) w fun c=>
 ah a fun d=>
 St (d.add 7) (ni 0) c fun e=>
 R e)
 (R w)):Cl Pg [] jR ⟨[(.pointer a)]⟩ w R:=co Tryz.f352 [] h
theorem tA.ok (a:(Option Addr)) (R:Int→World→Prop) w (h:
 aa (Option.isNone (a:Option Addr))
 (R 0 w)
 (ah a fun b=>
 Ld kI (b.add 8) w fun (c:Int)=>
 R c w)):Cl Pg [kI] j5 ⟨[(.pointer a)]⟩ w R:=co Tryz.f353 [] h
theorem ui.ok (a:(Option Addr)) (R:Int→World→Prop) w (h:
 aa (Option.isNone (a:Option Addr))
 (R 0 w)
 (ah a fun b=>
 Ld kI (b.add 7) w fun (c:Int)=>
 R c w)):Cl Pg [kI] la ⟨[(.pointer a)]⟩ w R:=co Tryz.f354 [] h
theorem sE.ok (a:(Option Addr)) (R:Bool→World→Prop) w (h:
 aa (Option.isNone (a:Option Addr))
 (R false w)
 (ah a fun b=>
 Ld kI ((b.add 1).add 1) w fun (c:Int)=>
 cp 0 0 w fun d e (f:Int) (g:Int) h=>
 aa (decide (g<c))
 (Cl Pg [kI,(ao .u8),kB] dW ⟨[(.pointer a),(ni f)]⟩ h fun (j:Int) (k:Int) (l:Bool) i=>
 aa (!l)
 (R false i)
 (d j (i64 (g+1)) i∧e j (i64 (g+1)) i<e f g h))
 (ah a fun m=>
 Ld kI (m.add 5) h fun (n:Int)=>
 R (f==n) h))):Cl Pg [kB] jV ⟨[(.pointer a)]⟩ w R:=co Tryz.f355 [(12,[(3,kI),(14,kI)])] h
theorem sa.ok (a:(Option Addr)) (b:Int) (R:Int→Int→Bool→World→Prop) w (h:
 Cl Pg [(ao .u8),kB] eC ⟨[(.pointer a),(ni b)]⟩ w fun (d:Int) (e:Bool) c=>
 aY c fun f=>
 ah a fun g=>
 Ld kP (g.add 0) f fun h=>
 ah a fun i=>
 Ld (.st [.int .i64,.int .i64]) (i.add 3) f fun j=>
 Cl Pg [(ao .u32),kB] ew ⟨[(.pointer h),(.agg ⟨[(ni j.1),(ni j.2.1)]⟩),(ni b)]⟩ f fun (l:Int) (m:Bool) k=>
 aa (!e)
 (R 0 0 false k)
 (aa (!m)
 (R 0 0 false k)
 (ah a fun n=>
 Ld kI (n.add 8) k fun (o:Int)=>
 ah a fun p=>
 St (p.add 8) (ni (i64 (o+1))) k fun q=>
 R (i64 l) d true q))):Cl Pg [kI,(ao .u8),kB] dW ⟨[(.pointer a),(ni b)]⟩ w R:=co Tryz.f356 [] h
end Go.Proofs.YtgglghjnakclmaaGreat
namespace Go.Proofs.YtgglghjnakclmaaGreat
open Go Go.Vc
set_option maxRecDepth 100000
theorem Df.ok (a:(Option Addr)) (b:(TT [.int .i64,.int .i64])) (c:Int) (d:(TT [.int .i64,.int .i64])) (e:Int) (R:(Option Addr)→Int→World→Prop) w (h:
 Nw 146 ⟨[(ni b.1),(ni b.2.1)]⟩ w fun g f=>
 Nw 146 ⟨[(ni d.1),(ni d.2.1)]⟩ f fun i h=>
 Ld (.st [.int .i64,.int .i64]) ⟨g,0,none⟩ h fun j=>
 Ld (.st [.int .i64,.int .i64]) ⟨i,0,none⟩ h fun k=>
 Cl Pg [kI] rl ⟨[(.pointer a),(.agg ⟨[(ni j.1),(ni j.2.1)]⟩),(.agg ⟨[(ni k.1),(ni k.2.1)]⟩),(ni e)]⟩ h fun (m:Int) l=>
 aa (m !=0)
 (R none m l)
 (aQ (fun (p:World)=>
 Ld (.st [.int .i64,.int .i64]) ⟨g,0,none⟩ p fun q=>
 Ld (.st [.int .i64,.int .i64]) ⟨i,0,none⟩ p fun r=>
 bP Pg 357 [(0,(.pointer a)),(1,(.agg ⟨[(ni q.1),(ni q.2.1)]⟩)),(2,(.agg ⟨[(ni r.1),(ni r.2.1)]⟩)),(3,(ni c)),(4,(ni e))] fun s=>
 Nw 357 s p fun u t=>
 cp 0 0 t fun v x (y:Int) (z:Int) a1=>
 aa (decide (z<256))
 (au (Addr.add ⟨u,0,none⟩ 7) 256 z 1 fun b1=>
 St b1 (ni y) a1 fun c1=>
 Ld (.st [.int .i64,.int .i64]) ⟨g,0,none⟩ c1 fun d1=>
 Ld (.st [.int .i64,.int .i64]) ⟨i,0,none⟩ c1 fun e1=>
 Ld kI (Addr.add ⟨g,0,none⟩ 1) c1 fun (f1:Int)=>
 Cl Pg [kI,kI,kB] im ⟨[(.pointer a),(.agg ⟨[(ni d1.1),(ni d1.2.1)]⟩),(.agg ⟨[(ni e1.1),(ni e1.2.1)]⟩),(ni e),(.int .u8 (u8 z)),(ni f1)]⟩ c1 fun (h1:Int) (i1:Int) (j1:Bool) g1=>
 v (i64 (y+h1)) (i64 (z+1)) g1∧x (i64 (y+h1)) (i64 (z+1)) g1<x y z a1)
 (R (some ⟨u,0,none⟩) 0 a1)) fun n=>
 aa (decide (c<1))
 (R none 170 l)
 (Ld kI (Addr.add ⟨g,0,none⟩ 1) l fun (o:Int)=>
 aa (decide (c>o))
 (R none 170 l)
 (n l)))):Cl Pg [kP,kI] mJ ⟨[(.pointer a),(.agg ⟨[(ni b.1),(ni b.2.1)]⟩),(ni c),(.agg ⟨[(ni d.1),(ni d.2.1)]⟩),(ni e)]⟩ w R:=co Tryz.f218 [(9,[]),(21,[(14,kI),(42,kI)])] h
theorem uZ.ok (a:(Option Addr)) (R:Int→Bool→World→Prop) w (h:
 aY w fun b=>
 aa (Option.isNone (a:Option Addr))
 (R 0 false b)
 (ah a fun c=>
 Ld kI (c.add 264) b fun (d:Int)=>
 ah a fun e=>
 Ld kI ((e.add 1).add 1) b fun (f:Int)=>
 aa (d==f)
 (R 0 false b)
 (ah a fun g=>
 Ld kI (g.add 263) b fun (h:Int)=>
 Cl Pg [kI,(ao .u8),kB] eh ⟨[(.pointer a),(ni h)]⟩ b fun (j:Int) (k:Int) (l:Bool) i=>
 aa (!l)
 (R 0 false i)
 (ah a fun m=>
 St (m.add 263) (ni j) i fun n=>
 ah a fun o=>
 Ld kI (o.add 264) n fun (p:Int)=>
 ah a fun q=>
 St (q.add 264) (ni (i64 (p+1))) n fun r=>
 R k true r)))):Cl Pg [(ao .u8),kB] lY ⟨[(.pointer a)]⟩ w R:=co Tryz.f357 [] h
theorem uk.ok (a:(Option Addr)) (R:World→Prop) w (h:
 aa (!(Option.isNone (a:Option Addr)))
 (ah a fun b=>
 St (b.add 263) (ni 0) w fun c=>
 ah a fun d=>
 St (d.add 264) (ni 0) c fun e=>
 R e)
 (R w)):Cl Pg [] kX ⟨[(.pointer a)]⟩ w R:=co Tryz.f358 [] h
theorem uu.ok (a:(Option Addr)) (R:Int→World→Prop) w (h:
 aa (Option.isNone (a:Option Addr))
 (R 0 w)
 (ah a fun b=>
 Ld kI (b.add 265) w fun (c:Int)=>
 R c w)):Cl Pg [kI] kO ⟨[(.pointer a)]⟩ w R:=co Tryz.f359 [] h
theorem vu.ok (a:(Option Addr)) (R:Int→World→Prop) w (h:
 aa (Option.isNone (a:Option Addr))
 (R 0 w)
 (ah a fun b=>
 Ld kI (b.add 264) w fun (c:Int)=>
 R c w)):Cl Pg [kI] lL ⟨[(.pointer a)]⟩ w R:=co Tryz.f360 [] h
theorem uf.ok (a:(Option Addr)) (R:Bool→World→Prop) w (h:
 aa (Option.isNone (a:Option Addr))
 (R false w)
 (ah a fun b=>
 Ld kI ((b.add 1).add 1) w fun (c:Int)=>
 cp 0 0 w fun d e (f:Int) (g:Int) h=>
 aa (decide (g<c))
 (Cl Pg [kI,(ao .u8),kB] eh ⟨[(.pointer a),(ni f)]⟩ h fun (j:Int) (k:Int) (l:Bool) i=>
 aa (!l)
 (R false i)
 (d j (i64 (g+1)) i∧e j (i64 (g+1)) i<e f g h))
 (ah a fun m=>
 Ld kI (m.add 5) h fun (n:Int)=>
 R (f==n) h))):Cl Pg [kB] lq ⟨[(.pointer a)]⟩ w R:=co Tryz.f361 [(12,[(3,kI),(17,kI)])] h
theorem sJ.ok (a:(Option Addr)) (b:Int) (R:Int→Int→Bool→World→Prop) w (h:
 ah a fun c=>
 Ld kI (c.add 5) w fun (d:Int)=>
 aa (b==d)
 (R 0 0 false w)
 (ah a fun e=>
 Ld kI (e.add 5) w fun (f:Int)=>
 aa (decide (b>f))
 (aY w fun g=>
 ah a fun h=>
 Ld kP (h.add 0) g fun i=>
 ah a fun j=>
 Ld (.st [.int .i64,.int .i64]) (j.add 1) g fun k=>
 Cl Pg [(ao .u8),kB] bA ⟨[(.pointer i),(.agg ⟨[(ni k.1),(ni k.2.1)]⟩),(ni (i64 (b - 1)))]⟩ g fun (m:Int) (n:Bool) l=>
 aY l fun o=>
 ah a fun p=>
 Ld kP (p.add 0) o fun q=>
 ah a fun r=>
 Ld (.st [.int .i64,.int .i64]) (r.add 1) o fun s=>
 ah a fun t=>
 Ld (.st [.int .i64,.int .i64]) (t.add 3) o fun u=>
 ah a fun v=>
 Ld kI (v.add 6) o fun (x:Int)=>
 Cl Pg [kI,kI,kB] im ⟨[(.pointer q),(.agg ⟨[(ni s.1),(ni s.2.1)]⟩),(.agg ⟨[(ni u.1),(ni u.2.1)]⟩),(ni x),(.int .u8 m),(ni (i64 (b - 1)))]⟩ o fun (z:Int) (a1:Int) (b1:Bool) y=>
 aa (!n)
 (R 0 0 false y)
 (aa (!b1)
 (R 0 0 false y)
 (ah a fun c1=>
 Ld kI (c1.add 265) y fun (d1:Int)=>
 ah a fun e1=>
 St (e1.add 265) (ni (i64 (d1+(i64 ((1:Int)+a1))))) y fun f1=>
 ah a fun g1=>
 au (g1.add 7) 256 m 1 fun h1=>
 Ld kI h1 f1 fun (i1:Int)=>
 R (i64 ((i64 ((1:Int)+i1))+z)) m true f1)))
 (aY w fun j1=>
 ah a fun k1=>
 Ld kP (k1.add 0) j1 fun l1=>
 ah a fun m1=>
 Ld (.st [.int .i64,.int .i64]) (m1.add 1) j1 fun n1=>
 Cl Pg [(ao .u8),kB] bA ⟨[(.pointer l1),(.agg ⟨[(ni n1.1),(ni n1.2.1)]⟩),(ni b)]⟩ j1 fun (p1:Int) (q1:Bool) o1=>
 aY o1 fun r1=>
 ah a fun s1=>
 Ld kP (s1.add 0) r1 fun t1=>
 ah a fun u1=>
 Ld (.st [.int .i64,.int .i64]) (u1.add 1) r1 fun v1=>
 ah a fun x1=>
 Ld (.st [.int .i64,.int .i64]) (x1.add 3) r1 fun y1=>
 ah a fun z1=>
 Ld kI (z1.add 6) r1 fun (a2:Int)=>
 Cl Pg [kI,kI,kB] im ⟨[(.pointer t1),(.agg ⟨[(ni v1.1),(ni v1.2.1)]⟩),(.agg ⟨[(ni y1.1),(ni y1.2.1)]⟩),(ni a2),(.int .u8 p1),(ni b)]⟩ r1 fun (c2:Int) (d2:Int) (e2:Bool) b2=>
 aa (!q1)
 (R 0 0 false b2)
 (aa (!e2)
 (R 0 0 false b2)
 (ah a fun f2=>
 Ld kI (f2.add 265) b2 fun (g2:Int)=>
 ah a fun h2=>
 St (h2.add 265) (ni (i64 (g2+(i64 ((1:Int)+d2))))) b2 fun i2=>
 ah a fun j2=>
 au (j2.add 7) 256 p1 1 fun k2=>
 Ld kI k2 i2 fun (l2:Int)=>
 R (i64 ((i64 ((1:Int)+l2))+c2)) p1 true i2))))):Cl Pg [kI,(ao .u8),kB] eh ⟨[(.pointer a),(ni b)]⟩ w R:=co Tryz.f362 [] h
end Go.Proofs.YtgglghjnakclmaaGreat
namespace Go.Proofs.YtgglghjnakclmaaGreat
open Go Go.Vc
set_option maxRecDepth 100000
theorem LB.ok (a:(Option Addr)) (b:(TT [.int .i64,.int .i64])) (R:(Array Value)→World→Prop) w (h:
 Nw 146 ⟨[(ni b.1),(ni b.2.1)]⟩ w fun d c=>
 Nw 351 ⟨List.replicate 256 (ni 0)⟩ c fun f e=>
 Nw 351 ⟨List.replicate 256 (ni 0)⟩ e fun h g=>
 Ld (.st [.int .i64,.int .i64]) ⟨d,0,none⟩ g fun i=>
 Cl Pg [kS] jj ⟨[(.pointer a),(.agg ⟨[(ni i.1),(ni i.2.1)]⟩)]⟩ g fun (k:Sl) j=>
 ee 0 j fun l m (n:Int) o=>
 aa (decide (n<(k.len:Int)))
 (ay k n 1 fun p=>
 Ld (ao .u8) p o fun (q:Int)=>
 au ⟨h,0,none⟩ 256 q 1 fun r=>
 Ld kI r o fun (s:Int)=>
 au ⟨h,0,none⟩ 256 q 1 fun t=>
 St t (ni (i64 (s+1))) o fun u=>
 l (i64 (n+1)) u∧m (i64 (n+1)) u<m n o)
 (cp 0 0 o fun v x (y:Int) (z:Int) a1=>
 aa (decide (z<256))
 (au ⟨f,0,none⟩ 256 z 1 fun b1=>
 St b1 (ni y) a1 fun c1=>
 au ⟨h,0,none⟩ 256 z 1 fun d1=>
 Ld kI d1 c1 fun (e1:Int)=>
 v (i64 (y+e1)) (i64 (z+1)) c1∧x (i64 (y+e1)) (i64 (z+1)) c1<x y z a1)
 (Ld (.arr 256) ⟨f,0,none⟩ a1 fun f1=>
 ak 256 ⟨f,0,none⟩ f1 a1 fun g1=>
 Ld (.arr 256) ⟨f,0,none⟩ g1 fun h1=>
 R h1 g1))):Cl Pg [(.arr 256)] rm ⟨[(.pointer a),(.agg ⟨[(ni b.1),(ni b.2.1)]⟩)]⟩ w R:=co Tryz.f281 [(7,[(14,kI)]),(21,[(8,kI),(24,kI)])] h
theorem JH.ok (a:(Option Addr)) (b:(TT [.int .i64,.int .i64])) (c:(TT [.int .i64,.int .i64])) (d:Int) (R:Int→World→Prop) w (h:
 Nw 146 ⟨[(ni b.1),(ni b.2.1)]⟩ w fun f e=>
 Nw 146 ⟨[(ni c.1),(ni c.2.1)]⟩ e fun h g=>
 Ld (.st [.int .i64,.int .i64]) ⟨f,0,none⟩ g fun i=>
 Ld (.st [.int .i64,.int .i64]) ⟨h,0,none⟩ g fun j=>
 Cl Pg [kB] mf ⟨[(.pointer a),(.agg ⟨[(ni i.1),(ni i.2.1)]⟩),(.agg ⟨[(ni j.1),(ni j.2.1)]⟩),(ni d)]⟩ g fun (l:Bool) k=>
 aa (!l)
 (R 2 k)
 (Nw 351 ⟨List.replicate 256 (ni 0)⟩ k fun n m=>
 Ld kI (Addr.add ⟨f,0,none⟩ 1) m fun (o:Int)=>
 d≠0∧
 ee 0 m fun p q (r:Int) s=>
 aa (decide (r<(i64 ((i64 (Int.tdiv o d))*d))))
 (Ld (.st [.int .i64,.int .i64]) ⟨f,0,none⟩ s fun t=>
 Cl Pg [(ao .u8),kB] bA ⟨[(.pointer a),(.agg ⟨[(ni t.1),(ni t.2.1)]⟩),(ni r)]⟩ s fun (v:Int) (x:Bool) u=>
 au ⟨n,0,none⟩ 256 v 1 fun y=>
 Ld kI y u fun (z:Int)=>
 au ⟨n,0,none⟩ 256 v 1 fun a1=>
 St a1 (ni (i64 (z+1))) u fun b1=>
 d≠0∧
 aa (((Int.tmod (i64 (r+1)) d):Int) !=0)
 (p (i64 (r+1)) b1∧q (i64 (r+1)) b1<q r s)
 (d≠0∧
 Ld (.arr 256) ⟨n,0,none⟩ b1 fun c1=>
 ee 0 b1 fun d1 e1 (f1:Int) g1=>
 aa (decide (f1<256))
 (iz (.int .i64) c1 256 f1 fun (h1:Int)=>
 Ld (.st [.int .i64,.int .i64]) ⟨h,0,none⟩ g1 fun i1=>
 Cl Pg [kB] dC ⟨[(.pointer a),(.agg ⟨[(ni i1.1),(ni i1.2.1)]⟩),(ni (i64 ((i64 ((i64 ((i64 (Int.tdiv (i64 (r+1)) d)) - 1))*256))+f1))),(.int .u32 (u32 h1))]⟩ g1 fun (k1:Bool) j1=>
 d1 (i64 (f1+1)) j1∧e1 (i64 (f1+1)) j1<e1 f1 g1)
 (p (i64 (r+1)) g1∧q (i64 (r+1)) g1<q r s)))
 (R 0 s))):Cl Pg [kI] rl ⟨[(.pointer a),(.agg ⟨[(ni b.1),(ni b.2.1)]⟩),(.agg ⟨[(ni c.1),(ni c.2.1)]⟩),(ni d)]⟩ w R:=co Tryz.f284 [(12,[(28,kI)]),(30,[(55,kI)])] h
theorem JE.ok (a:(Option Addr)) (b:(TT [.int .i64,.int .i64])) (c:(TT [.int .i64,.int .i64])) (d:Int) (e:Int) (f:Int) (R:Int→Int→Bool→World→Prop) w (h:
 Nw 146 ⟨[(ni b.1),(ni b.2.1)]⟩ w fun h g=>
 Nw 146 ⟨[(ni c.1),(ni c.2.1)]⟩ g fun j i=>
 aQ (fun (s:Int) (t:Int) (u:World)=>
 d≠0∧
 aa (decide ((i64 (Int.tdiv f d))>0))
 (Ld (.st [.int .i64,.int .i64]) ⟨j,0,none⟩ u fun v=>
 Cl Pg [(ao .u32),kB] ew ⟨[(.pointer a),(.agg ⟨[(ni v.1),(ni v.2.1)]⟩),(ni (i64 ((i64 ((i64 ((i64 (Int.tdiv f d)) - 1))*256))+(i64 e))))]⟩ u fun (y:Int) (z:Bool) x=>
 BE (i64 y) t (i64 ((i64 (Int.tdiv f d))*d)) x fun a1 b1 (c1:Int) (d1:Int) (e1:Int) f1=>
 aa (decide (e1<f))
 (Ld (.st [.int .i64,.int .i64]) ⟨h,0,none⟩ f1 fun g1=>
 Cl Pg [(ao .u8),kB] bA ⟨[(.pointer a),(.agg ⟨[(ni g1.1),(ni g1.2.1)]⟩),(ni e1)]⟩ f1 fun (i1:Int) (j1:Bool) h1=>
 aa (i1==e)
 (a1 (i64 (c1+1)) (i64 (d1+1)) (i64 (e1+1)) h1∧b1 (i64 (c1+1)) (i64 (d1+1)) (i64 (e1+1)) h1<b1 c1 d1 e1 f1)
 (a1 c1 (i64 (d1+1)) (i64 (e1+1)) h1∧b1 c1 (i64 (d1+1)) (i64 (e1+1)) h1<b1 c1 d1 e1 f1))
 (R c1 d1 true f1))
 (BE s t (i64 ((i64 (Int.tdiv f d))*d)) u fun k1 l1 (m1:Int) (n1:Int) (o1:Int) p1=>
 aa (decide (o1<f))
 (Ld (.st [.int .i64,.int .i64]) ⟨h,0,none⟩ p1 fun q1=>
 Cl Pg [(ao .u8),kB] bA ⟨[(.pointer a),(.agg ⟨[(ni q1.1),(ni q1.2.1)]⟩),(ni o1)]⟩ p1 fun (s1:Int) (t1:Bool) r1=>
 aa (s1==e)
 (k1 (i64 (m1+1)) (i64 (n1+1)) (i64 (o1+1)) r1∧l1 (i64 (m1+1)) (i64 (n1+1)) (i64 (o1+1)) r1<l1 m1 n1 o1 p1)
 (k1 m1 (i64 (n1+1)) (i64 (o1+1)) r1∧l1 m1 (i64 (n1+1)) (i64 (o1+1)) r1<l1 m1 n1 o1 p1))
 (R m1 n1 true p1))) fun k=>
 Ld (.st [.int .i64,.int .i64]) ⟨h,0,none⟩ i fun l=>
 Ld (.st [.int .i64,.int .i64]) ⟨j,0,none⟩ i fun m=>
 Cl Pg [kB] mf ⟨[(.pointer a),(.agg ⟨[(ni l.1),(ni l.2.1)]⟩),(.agg ⟨[(ni m.1),(ni m.2.1)]⟩),(ni d)]⟩ i fun (o:Bool) n=>
 aa (!o)
 (R 0 0 false n)
 (Ld kI (Addr.add ⟨h,0,none⟩ 1) n fun (p:Int)=>
 Cl Pg [kB] eJ ⟨[(ni f),(ni 0),(ni p)]⟩ n fun (r:Bool) q=>
 aa (!r)
 (R 0 0 false q)
 (k 0 0 q))):Cl Pg [kI,kI,kB] im ⟨[(.pointer a),(.agg ⟨[(ni b.1),(ni b.2.1)]⟩),(.agg ⟨[(ni c.1),(ni c.2.1)]⟩),(ni d),(.int .u8 e),(ni f)]⟩ w R:=co Tryz.f285 [(2,[(12,kI),(13,kI)]),(18,[(12,kI),(13,kI),(18,kI)])] h
theorem Iv.ok (a:(Option Addr)) (b:(TT [.int .i64,.int .i64])) (c:(TT [.int .i64,.int .i64])) (d:Int) (R:Bool→World→Prop) w (h:
 Nw 146 ⟨[(ni b.1),(ni b.2.1)]⟩ w fun f e=>
 Nw 146 ⟨[(ni c.1),(ni c.2.1)]⟩ e fun h g=>
 Ld (.st [.int .i64,.int .i64]) ⟨f,0,none⟩ g fun i=>
 Cl Pg [kB] cd ⟨[(.pointer a),(.agg ⟨[(ni i.1),(ni i.2.1)]⟩)]⟩ g fun (k:Bool) j=>
 aa (!k)
 (R false j)
 (Ld (.st [.int .i64,.int .i64]) ⟨h,0,none⟩ j fun l=>
 Cl Pg [kB] cd ⟨[(.pointer a),(.agg ⟨[(ni l.1),(ni l.2.1)]⟩)]⟩ j fun (n:Bool) m=>
 aa (!n)
 (R false m)
 (Ld kI (Addr.add ⟨f,0,none⟩ 1) m fun (o:Int)=>
 Cl Pg [kB] eJ ⟨[(ni o),(ni 1),(ni 65536)]⟩ m fun (q:Bool) p=>
 aa (!q)
 (R false p)
 (Cl Pg [kB] eJ ⟨[(ni d),(ni 1),(ni 65536)]⟩ p fun (s:Bool) r=>
 aa (!s)
 (R false r)
 (cB r fun t u=>
 aw (.st [.int .i64,.int .i64]) ⟨f,0,none⟩ t fun v=>
 aw (.st [.int .i64,.int .i64]) ⟨h,0,none⟩ t fun x=>
 Cl Pg [kB] pq ⟨[(.agg ⟨[(ni v.1),(ni v.2.1)]⟩),(.agg ⟨[(ni x.1),(ni x.2.1)]⟩)]⟩ u fun (z:Bool) y=>
 t y∧
 aa z
 (aw kI (Addr.add ⟨h,0,none⟩ 1) t fun (a1:Int)=>
 aw kI (Addr.add ⟨f,0,none⟩ 1) t fun (b1:Int)=>
 Cl Pg [kI] rv ⟨[(ni b1),(ni d)]⟩ y fun (d1:Int) c1=>
 t c1∧
 R (decide (a1≥d1)) c1)
 (R false y)))))):Cl Pg [kB] mf ⟨[(.pointer a),(.agg ⟨[(ni b.1),(ni b.2.1)]⟩),(.agg ⟨[(ni c.1),(ni c.2.1)]⟩),(ni d)]⟩ w R:=co Tryz.f317 [] h
theorem Fy.ok (a:Int) (b:Int) (c:Int) (R:Bool→World→Prop) w (h:
 aa (decide (a≥b))
 (R (decide (a≤c)) w)
 (R false w)):Cl Pg [kB] eJ ⟨[(ni a),(ni b),(ni c)]⟩ w R:=co Tryz.f318 [] h
theorem II.ok (a:(TT [.int .i64,.int .i64])) (b:(TT [.int .i64,.int .i64])) (R:Bool→World→Prop) w (h:
 Nw 146 ⟨[(ni a.1),(ni a.2.1)]⟩ w fun d c=>
 Nw 146 ⟨[(ni b.1),(ni b.2.1)]⟩ c fun f e=>
 Ld kI (Addr.add ⟨d,0,none⟩ 1) e fun (g:Int)=>
 aa (g==0)
 (R true e)
 (Ld kI (Addr.add ⟨f,0,none⟩ 1) e fun (h:Int)=>
 aa (h==0)
 (R true e)
 (Ld kI (Addr.add ⟨d,0,none⟩ 0) e fun (i:Int)=>
 Ld kI (Addr.add ⟨d,0,none⟩ 1) e fun (j:Int)=>
 Ld kI (Addr.add ⟨f,0,none⟩ 0) e fun (k:Int)=>
 aa (decide ((i64 (i+j))≤k))
 (R true e)
 (Ld kI (Addr.add ⟨f,0,none⟩ 0) e fun (l:Int)=>
 Ld kI (Addr.add ⟨f,0,none⟩ 1) e fun (m:Int)=>
 Ld kI (Addr.add ⟨d,0,none⟩ 0) e fun (n:Int)=>
 R (decide ((i64 (l+m))≤n)) e)))):Cl Pg [kB] pq ⟨[(.agg ⟨[(ni a.1),(ni a.2.1)]⟩),(.agg ⟨[(ni b.1),(ni b.2.1)]⟩)]⟩ w R:=co Tryz.f328 [] h
theorem KF.ok (a:Int) (b:Int) (R:Int→World→Prop) w (h:
 Cl Pg [kB] eJ ⟨[(ni a),(ni 0),(ni 65536)]⟩ w fun (d:Bool) c=>
 aa (!d)
 (R 0 c)
 (Cl Pg [kB] eJ ⟨[(ni b),(ni 1),(ni 65536)]⟩ c fun (f:Bool) e=>
 aa (!f)
 (R 0 e)
 (b≠0∧
 R (i64 ((i64 (Int.tdiv a b))*1024)) e))):Cl Pg [kI] rv ⟨[(ni a),(ni b)]⟩ w R:=co Tryz.f329 [] h
end Go.Proofs.YtgglghjnakclmaaGreat
namespace Go.Proofs.YtgglghjnakclmaaGreat
open Go Go.Vc
set_option maxRecDepth 100000
theorem A9.ok (a:Int) (R:(Option Addr)→Int→World→Prop) w (h:
 aa (decide (a<1))
 (R none 2 w)
 (aa (decide (a>1048576))
 (R none 2 w)
 (ar Pg (Instr.makeSlice 26 (ni a) (ni a)) kS w fun (c:Sl) b=>
 Nw 199 ⟨[(an c),(ni 0),(ni 0)]⟩ b fun e d=>
 R (some ⟨e,0,none⟩) 0 d))):Cl Pg [kP,kI] nb ⟨[(ni a)]⟩ w R:=co Tryz.f84 [] h
theorem xY.ok (a:(Option Addr)) (b:Int) (R:(TT [.int .i64,.int .i64])→Int→World→Prop) w (h:
 Nw 146 ⟨[(ni 0),(ni 0)]⟩ w fun d c=>
 aa (Option.isNone (a:Option Addr))
 (ae ⟨d,0,none⟩ [(ni 0),(ni 0)] 0 c fun e=>
 Ld (.st [.int .i64,.int .i64]) ⟨d,0,none⟩ e fun f=>
 R f 2 e)
 (aa (decide (b<0))
 (ae ⟨d,0,none⟩ [(ni 0),(ni 0)] 0 c fun g=>
 Ld (.st [.int .i64,.int .i64]) ⟨d,0,none⟩ g fun h=>
 R h 2 g)
 (aY c fun i=>
 ah a fun j=>
 Ld kS (j.add 0) i fun (k:Sl)=>
 ah a fun l=>
 Ld kI (l.add 1) i fun (m:Int)=>
 aa (decide (b>(i64 ((k.len:Int) - m))))
 (ae ⟨d,0,none⟩ [(ni 0),(ni 0)] 0 i fun n=>
 Ld (.st [.int .i64,.int .i64]) ⟨d,0,none⟩ n fun o=>
 R o 10 n)
 (ah a fun p=>
 Ld kI (p.add 1) i fun (q:Int)=>
 Nw 146 ⟨[(ni 0),(ni 0)]⟩ i fun s r=>
 ae ⟨s,0,none⟩ [(ni q),(ni b)] 0 r fun t=>
 aY t fun u=>
 ah a fun v=>
 Ld kS (v.add 0) u fun (x:Sl)=>
 Ld kI (Addr.add ⟨s,0,none⟩ 0) u fun (y:Int)=>
 Ld kI (Addr.add ⟨s,0,none⟩ 0) u fun (z:Int)=>
 bj x y (i64 (z+b)) (x).cap 1 fun a1=>
 ar Pg (Builtin.clear_ #[26] 0 ⟨[(an a1)]⟩) kV u fun c1 b1=>
 ah a fun d1=>
 Ld kI (d1.add 1) b1 fun (e1:Int)=>
 ah a fun f1=>
 St (f1.add 1) (ni (i64 (e1+b))) b1 fun g1=>
 aY g1 fun h1=>
 ah a fun i1=>
 Ld kI (i1.add 2) h1 fun (j1:Int)=>
 ah a fun k1=>
 Ld kI (k1.add 1) h1 fun (l1:Int)=>
 ah a fun m1=>
 St (m1.add 2) (ni (if l1>j1 then l1 else j1)) h1 fun n1=>
 Ld (.st [.int .i64,.int .i64]) ⟨s,0,none⟩ n1 fun o1=>
 ae ⟨d,0,none⟩ [(ni o1.1),(ni o1.2.1)] 0 n1 fun p1=>
 Ld (.st [.int .i64,.int .i64]) ⟨d,0,none⟩ p1 fun q1=>
 R q1 0 p1)))):Cl Pg [(.st [.int .i64,.int .i64]),kI] ju ⟨[(.pointer a),(ni b)]⟩ w R:=co Tryz.f86 [] h
theorem wi.ok (a:(Option Addr)) (b:(TT [.int .i64,.int .i64])) (c:Int) (d:Sl) (R:Bool→World→Prop) w (h:
 Nw 146 ⟨[(ni b.1),(ni b.2.1)]⟩ w fun f e=>
 Ld (.st [.int .i64,.int .i64]) ⟨f,0,none⟩ e fun g=>
 Cl Pg [kB] cd ⟨[(.pointer a),(.agg ⟨[(ni g.1),(ni g.2.1)]⟩)]⟩ e fun (i:Bool) h=>
 aa (!i)
 (R false h)
 (aa (decide (c<0))
 (R false h)
 (Ld kI (Addr.add ⟨f,0,none⟩ 1) h fun (j:Int)=>
 aa (decide (c>(i64 (j - (d.len:Int)))))
 (R false h)
 (aY h fun k=>
 ah a fun l=>
 Ld kS (l.add 0) k fun (m:Sl)=>
 Ld kI (Addr.add ⟨f,0,none⟩ 0) k fun (n:Int)=>
 bj m (i64 (n+c)) (m).len (m).cap 1 fun o=>
 ar Pg (Builtin.copy_ #[26,26] 3 ⟨[(an o),(an d)]⟩) kI k fun (q:Int) p=>
 R true p)))):Cl Pg [kB] iy ⟨[(.pointer a),(.agg ⟨[(ni b.1),(ni b.2.1)]⟩),(ni c),(an d)]⟩ w R:=co Tryz.f90 [] h
theorem xD.ok (a:(Option Addr)) (R:Int→World→Prop) w (h:
 aa (Option.isNone (a:Option Addr))
 (R 0 w)
 (ah a fun b=>
 Ld kI (b.add 2) w fun (c:Int)=>
 R c w)):Cl Pg [kI] jm ⟨[(.pointer a)]⟩ w R:=co Tryz.f95 [] h
theorem zt.ok (a:(Option Addr)) (b:(TT [.int .i64,.int .i64])) (R:Bool→World→Prop) w (h:
 Nw 146 ⟨[(ni b.1),(ni b.2.1)]⟩ w fun d c=>
 aY c fun e=>
 aa (!(Option.isNone (a:Option Addr)))
 (Ld kI (Addr.add ⟨d,0,none⟩ 0) e fun (f:Int)=>
 aa (decide (f≥0))
 (Ld kI (Addr.add ⟨d,0,none⟩ 1) e fun (g:Int)=>
 aa (decide (g≥0))
 (Ld kI (Addr.add ⟨d,0,none⟩ 0) e fun (h:Int)=>
 ah a fun i=>
 Ld kI (i.add 1) e fun (j:Int)=>
 aa (decide (h≤j))
 (Ld kI (Addr.add ⟨d,0,none⟩ 1) e fun (k:Int)=>
 ah a fun l=>
 Ld kI (l.add 1) e fun (m:Int)=>
 Ld kI (Addr.add ⟨d,0,none⟩ 0) e fun (n:Int)=>
 R (decide (k≤(i64 (m - n)))) e)
 (R false e))
 (R false e))
 (R false e))
 (R false e)):Cl Pg [kB] cd ⟨[(.pointer a),(.agg ⟨[(ni b.1),(ni b.2.1)]⟩)]⟩ w R:=co Tryz.f139 [] h
theorem xZ.ok (a:(Option Addr)) (b:(TT [.int .i64,.int .i64])) (R:Sl→World→Prop) w (h:
 Nw 146 ⟨[(ni b.1),(ni b.2.1)]⟩ w fun d c=>
 Ld (.st [.int .i64,.int .i64]) ⟨d,0,none⟩ c fun e=>
 Cl Pg [kB] cd ⟨[(.pointer a),(.agg ⟨[(ni e.1),(ni e.2.1)]⟩)]⟩ c fun (g:Bool) f=>
 aa (!g)
 (R (⟨none,0,0⟩:Sl) f)
 (aY f fun h=>
 ah a fun i=>
 Ld kS (i.add 0) h fun (j:Sl)=>
 Ld kI (Addr.add ⟨d,0,none⟩ 0) h fun (k:Int)=>
 Ld kI (Addr.add ⟨d,0,none⟩ 0) h fun (l:Int)=>
 Ld kI (Addr.add ⟨d,0,none⟩ 1) h fun (m:Int)=>
 bj j k (i64 (l+m)) (j).cap 1 fun n=>
 Cl Pg [kS] nW ⟨[(an n)]⟩ h fun (p:Sl) o=>
 R p o)):Cl Pg [kS] jj ⟨[(.pointer a),(.agg ⟨[(ni b.1),(ni b.2.1)]⟩)]⟩ w R:=co Tryz.f145 [] h
theorem xv.ok (a:(Option Addr)) (b:(TT [.int .i64,.int .i64])) (c:Int) (R:Int→Bool→World→Prop) w (h:
 Nw 146 ⟨[(ni b.1),(ni b.2.1)]⟩ w fun e d=>
 Ld (.st [.int .i64,.int .i64]) ⟨e,0,none⟩ d fun f=>
 Cl Pg [kS] fV ⟨[(.pointer a),(.agg ⟨[(ni f.1),(ni f.2.1)]⟩),(ni c),(ni 1)]⟩ d fun (h:Sl) g=>
 aa (Option.isNone (h).base)
 (R 0 false g)
 (ay h 0 1 fun i=>
 Ld (ao .u8) i g fun (j:Int)=>
 R j true g)):Cl Pg [(ao .u8),kB] bA ⟨[(.pointer a),(.agg ⟨[(ni b.1),(ni b.2.1)]⟩),(ni c)]⟩ w R:=co Tryz.f197 [] h
theorem xB.ok (a:(Option Addr)) (b:(TT [.int .i64,.int .i64])) (c:Int) (d:Int) (R:Sl→World→Prop) w (h:
 Nw 146 ⟨[(ni b.1),(ni b.2.1)]⟩ w fun f e=>
 Ld (.st [.int .i64,.int .i64]) ⟨f,0,none⟩ e fun g=>
 Cl Pg [kB] cd ⟨[(.pointer a),(.agg ⟨[(ni g.1),(ni g.2.1)]⟩)]⟩ e fun (i:Bool) h=>
 aa (!i)
 (R (⟨none,0,0⟩:Sl) h)
 (aa (decide (c<0))
 (R (⟨none,0,0⟩:Sl) h)
 (Ld kI (Addr.add ⟨f,0,none⟩ 1) h fun (j:Int)=>
 aa (decide (c>(i64 (j - d))))
 (R (⟨none,0,0⟩:Sl) h)
 (Ld kI (Addr.add ⟨f,0,none⟩ 0) h fun (k:Int)=>
 ah a fun l=>
 Ld kS (l.add 0) h fun (m:Sl)=>
 bj m (i64 (c+k)) (i64 ((i64 (c+k))+d)) (i64 ((i64 (c+k))+d)) 1 fun n=>
 R n h)))):Cl Pg [kS] fV ⟨[(.pointer a),(.agg ⟨[(ni b.1),(ni b.2.1)]⟩),(ni c),(ni d)]⟩ w R:=co Tryz.f261 [] h
theorem uw.ok (a:(Option Addr)) (b:(TT [.int .i64,.int .i64])) (c:Int) (d:Int) (R:Bool→World→Prop) w (h:
 Nw 146 ⟨[(ni b.1),(ni b.2.1)]⟩ w fun f e=>
 Ld (.st [.int .i64,.int .i64]) ⟨f,0,none⟩ e fun g=>
 Cl Pg [kS] fL ⟨[(.pointer a),(.agg ⟨[(ni g.1),(ni g.2.1)]⟩),(ni c)]⟩ e fun (i:Sl) h=>
 ee 0 h fun j k (l:Int) m=>
 aa (decide (l<(i.len:Int)))
 (0≤(i64 ((8:Int)*l))∧
 ay i l 1 fun n=>
 St n (.int .u8 (u8 (bT .u32 d (i64 ((8:Int)*l))))) m fun o=>
 j (i64 (l+1)) o∧k (i64 (l+1)) o<k l m)
 (R (!(Option.isNone (i).base)) m)):Cl Pg [kB] dC ⟨[(.pointer a),(.agg ⟨[(ni b.1),(ni b.2.1)]⟩),(ni c),(.int .u32 d)]⟩ w R:=co Tryz.f283 [(7,[(17,kI)])] h
theorem xk.ok (a:(Option Addr)) (b:(TT [.int .i64,.int .i64])) (c:Int) (R:Int→Bool→World→Prop) w (h:
 Nw 146 ⟨[(ni b.1),(ni b.2.1)]⟩ w fun e d=>
 Ld (.st [.int .i64,.int .i64]) ⟨e,0,none⟩ d fun f=>
 Cl Pg [kS] fL ⟨[(.pointer a),(.agg ⟨[(ni f.1),(ni f.2.1)]⟩),(ni c)]⟩ d fun (h:Sl) g=>
 cp 0 0 g fun i j (k:Int) (l:Int) m=>
 aa (decide (l<(h.len:Int)))
 (ay h l 1 fun n=>
 Ld (ao .u8) n m fun (o:Int)=>
 0≤(i64 ((8:Int)*l))∧
 i (kW .u32 k (bh .u32 (u32 o) (i64 ((8:Int)*l)))) (i64 (l+1)) m∧j (kW .u32 k (bh .u32 (u32 o) (i64 ((8:Int)*l)))) (i64 (l+1)) m<j k l m)
 (R k (!(Option.isNone (h).base)) m)):Cl Pg [(ao .u32),kB] ew ⟨[(.pointer a),(.agg ⟨[(ni b.1),(ni b.2.1)]⟩),(ni c)]⟩ w R:=co Tryz.f305 [(7,[(6,(ao .u32)),(17,kI)])] h
theorem yb.ok (a:(Option Addr)) (b:(TT [.int .i64,.int .i64])) (c:Int) (R:Sl→World→Prop) w (h:
 Nw 146 ⟨[(ni b.1),(ni b.2.1)]⟩ w fun e d=>
 aa (decide (c<0))
 (R (⟨none,0,0⟩:Sl) d)
 (aa (decide (c>1048576))
 (R (⟨none,0,0⟩:Sl) d)
 (Ld (.st [.int .i64,.int .i64]) ⟨e,0,none⟩ d fun f=>
 0≤(2:Int)∧
 Cl Pg [kS] fV ⟨[(.pointer a),(.agg ⟨[(ni f.1),(ni f.2.1)]⟩),(ni (bh .i64 c (2:Int))),(ni 4)]⟩ d fun (h:Sl) g=>
 R h g))):Cl Pg [kS] fL ⟨[(.pointer a),(.agg ⟨[(ni b.1),(ni b.2.1)]⟩),(ni c)]⟩ w R:=co Tryz.f316 [] h
end Go.Proofs.YtgglghjnakclmaaGreat
namespace Go.Vc
open Go
abbrev aS:=Nat→Option Obj
abbrev HP:=aS→Prop
def aS.emp:aS:=fun _=>none
def aS.one (b:Nat) (o:Obj):aS:=fun r=>if r=b then some o else none
def aS.add (f g:aS):aS:=fun r=>match f r with|some o=>some o|none=>g r
def kc (f g:aS):Prop:= ∀r,f r=none∨g r=none
def af (b:Nat) (o:Obj):HP:=fun f=>f=aS.one b o
def Sat:List HP→HP
 | [],f=>f=aS.emp
 |A::l,f=> ∃g h,kc g h∧f=g.add h∧A g∧Sat l h
def QZ (f:aS) (w:World):Prop:= ∀r o,f r=some o→w.heap[r]? =some o
structure Hp (E:World) (w:World) (l:List HP):Prop where
 os:w.os=E.os
 output:w.output=E.output
 tape:w.tape=E.tape
 frag: ∃f,QZ f w∧Sat l f
theorem kc.comm {f g:aS} (h:kc f g):kc g f:=fun r=>(h r).symm
theorem aS.add_comm {f g:aS} (h:kc f g):f.add g=g.add f:=by
 funext r
 unfold aS.add
 rcases h r with h|h
 ·rw [h];cases g r<;>rfl
 ·rw [h];cases f r<;>rfl
theorem aS.add_assoc (f g h:aS):(f.add g).add h=f.add (g.add h):=by
 funext r
 unfold aS.add
 cases f r<;>rfl
theorem aS.Qb (f:aS):f.add aS.emp=f:=by
 funext r;unfold aS.add aS.emp;cases f r<;>rfl
theorem aS.z4 (f:aS):aS.emp.add f=f:=by
 funext r;rfl
theorem lu {f g h:aS}:kc f (g.add h)↔kc f g∧kc f h:=by
 constructor
 ·intro H
  refine ⟨fun r=> ?_,fun r=> ?_⟩
  ·rcases H r with h1|h1
   ·exact .inl h1
   ·right;unfold aS.add at h1;cases hg:g r<;>simp_all
  ·rcases H r with h1|h1
   ·exact .inl h1
   ·right;unfold aS.add at h1;cases hg:g r<;>simp_all
 ·rintro ⟨h1,h2⟩ r
  rcases h1 r with h|h
  ·exact .inl h
  ·rcases h2 r with h'|h'
   ·exact .inl h'
   ·right;simp [aS.add,h,h']
theorem Bx {f g h:aS}:kc (f.add g) h↔kc f h∧kc g h:=
 ⟨fun H=>let ⟨a,b⟩:=lu.1 H.comm;⟨a.comm,b.comm⟩,fun ⟨a,b⟩=>(lu.2 ⟨a.comm,b.comm⟩).comm⟩
theorem Sat.swap {A B:HP} {l:List HP} {f:aS} (h:Sat (A::B::l) f):Sat (B::A::l) f:=by
 obtain ⟨g,h1,hd,rfl,hA,g2,h2,hd2,rfl,hB,hl⟩:=h
 obtain ⟨d1,d2⟩:=lu.1 hd
 refine ⟨g2,g.add h2,lu.2 ⟨d1.comm,hd2⟩,?_,hB,g,h2,d2,rfl,hA,hl⟩
 rw [←aS.add_assoc,←aS.add_assoc,aS.add_comm d1]
theorem Sat.tail {A:HP} {l l':List HP} (h: ∀f,Sat l f→Sat l' f) {f:aS} (hs:Sat (A::l) f):Sat (A::l') f:=by
 obtain ⟨g,k,hd,rfl,hA,hl⟩:=hs
 exact ⟨g,k,hd,rfl,hA,h _ hl⟩
theorem Sat.perm {l l':List HP} (hp:l.Perm l'): ∀f,Sat l f→Sat l' f:=by
 induction hp with
 |nil=>exact fun _ h=>h
 |cons A _ ih=>exact fun f h=>h.tail ih
 |swap A B l=>exact fun f h=>h.swap
 |trans _ _ ih1 ih2=>exact fun f h=>ih2 f (ih1 f h)
theorem Sat.append {l l':List HP} {f:aS}:Sat (l++l') f↔∃g h,kc g h∧f=g.add h∧Sat l g∧Sat l' h:=by
 induction l generalizing f with
 |nil=>exact ⟨fun h=>⟨aS.emp,f,fun _=> .inl rfl,(aS.z4 f).symm,rfl,h⟩,fun ⟨g,h,_,e,hg,hh⟩=>by
   have:g=aS.emp:=hg
   rw [e,this,aS.z4];exact hh⟩
 |cons A l ih=>
  constructor
  ·rintro ⟨g,h,hd,rfl,hA,hs⟩
   obtain ⟨g2,h2,hd2,rfl,hs2,hs3⟩:=ih.1 hs
   obtain ⟨d1,d2⟩:=lu.1 hd
   exact ⟨g.add g2,h2,Bx.2 ⟨d2,hd2⟩,(aS.add_assoc _ _ _).symm,⟨g,g2,d1,rfl,hA,hs2⟩,hs3⟩
  ·rintro ⟨g,h,hd,rfl,⟨g2,h2,hd2,rfl,hA,hs2⟩,hs3⟩
   obtain ⟨d1,d2⟩:=Bx.1 hd
   exact ⟨g2,h2.add h,lu.2 ⟨hd2,d1⟩,aS.add_assoc _ _ _,hA,ih.2 ⟨h2,h,d2,rfl,hs2,hs3⟩⟩
section
variable {E w w':World} {A B C D G:HP} {l l' F:List HP}
theorem Hp.perm (h:Hp E w l) (hp:l.Perm l'):Hp E w l':=
 ⟨h.os,h.output,h.tape,let ⟨f,a,b⟩:=h.frag;⟨f,a,Sat.perm hp f b⟩⟩
theorem Hp.p1 (h:Hp E w (A::B::F)):Hp E w (B::A::F):=h.perm (.swap ..)
theorem Hp.p2 (h:Hp E w (A::B::C::F)):Hp E w (C::A::B::F):=h.perm ((List.Perm.cons A (.swap ..)).trans (.swap ..))
theorem Hp.p3 (h:Hp E w (A::B::C::D::F)):Hp E w (D::A::B::C::F):=
 h.perm ((List.Perm.cons A ((List.Perm.cons B (.swap ..)).trans (.swap ..))).trans (.swap ..))
theorem Hp.q2 (h:Hp E w (A::B::C::F)):Hp E w (B::C::A::F):=h.p1.perm (.cons B (.swap ..))
theorem Hp.q3 (h:Hp E w (A::B::C::D::F)):Hp E w (B::C::D::A::F):=h.q2.perm (.cons B (.cons C (.swap ..)))
theorem Hp.q4 (h:Hp E w (A::B::C::D::G::F)):Hp E w (B::C::D::G::A::F):=h.q3.perm (.cons B (.cons C (.cons D (.swap ..))))
theorem Hp.flat (h:Hp E w (Sat l::F)):Hp E w (l++F):=
 ⟨h.os,h.output,h.tape,let ⟨f,a,g,k,hd,e,h1,h2⟩:=h.frag;⟨f,a,Sat.append.2 ⟨g,k,hd,e,h1,h2⟩⟩⟩
theorem Hp.fold (h:Hp E w (l++F)):Hp E w (Sat l::F):=
 ⟨h.os,h.output,h.tape,let ⟨f,a,h1⟩:=h.frag;let ⟨g,k,hd,e,h1,h2⟩:=Sat.append.1 h1;⟨f,a,g,k,hd,e,h1,h2⟩⟩
theorem Hp.IE {α:Sort _} {X:α→Prop} {L:α→List HP} (hA: ∀f,A f→∃x,X x∧Sat (L x) f) (h:Hp E w (A::F)): ∃x,X x∧Hp E w (L x++F):=by
 obtain ⟨f,a,g,k,hd,e,h1,h2⟩:=h.frag
 obtain ⟨x,hx,h3⟩:=hA g h1
 exact ⟨x,hx,h.os,h.output,h.tape,f,a,Sat.append.2 ⟨g,k,hd,e,h3,h2⟩⟩
theorem Hp.H9 (hA: ∀f,Sat l f→A f) (h:Hp E w (l++F)):Hp E w (A::F):=by
 obtain ⟨f,a,h1⟩:=h.frag
 obtain ⟨g,k,hd,e,h1,h2⟩:=Sat.append.1 h1
 exact ⟨h.os,h.output,h.tape,f,a,g,k,hd,e,hA _ h1,h2⟩
theorem Hp.N8 (hA: ∀f,A f→B f) (h:Hp E w (A::F)):Hp E w (B::F):=by
 obtain ⟨f,a,g,k,hd,e,h1,h2⟩:=h.frag
 exact ⟨h.os,h.output,h.tape,f,a,g,k,hd,e,hA _ h1,h2⟩
theorem Hp.drop (h:Hp E w (A::F)):Hp E w F:=by
 obtain ⟨f,a,g,k,hd,rfl,h1,h2⟩:=h.frag
 refine ⟨h.os,h.output,h.tape,k,fun r o hr=>a r o ?_,h2⟩
 rcases hd r with hg|hk
 ·simp [aS.add,hg,hr]
 ·rw [hk] at hr;cases hr
theorem Hp.emp (h:Hp E w F) (hA:A aS.emp):Hp E w (A::F):=by
 obtain ⟨f,a,h1⟩:=h.frag
 exact ⟨h.os,h.output,h.tape,f,a,aS.emp,f,fun _=> .inl rfl,(aS.z4 f).symm,hA,h1⟩
theorem Hp.same (h:Hp E w l) (h1:w'.heap=w.heap) (h2:w'.os=w.os) (h3:w'.output=w.output) (h4:w'.tape=w.tape):Hp E w' l:=
 ⟨h2.trans h.os,h3.trans h.output,h4.trans h.tape,let ⟨f,a,b⟩:=h.frag;⟨f,fun r o hr=>by rw [h1];exact a r o hr,b⟩⟩
theorem Hp.drew {n:Nat} (h:Hp E w l):Hp E {w with drawn:=n} l:=h.same rfl rfl rfl rfl
theorem Hp.az {b:Nat} {o:Obj} (h:Hp E w (af b o::F)):w.heap[b]? =some o:=by
 obtain ⟨f,a,g,k,hd,rfl,rfl,h2⟩:=h.frag
 exact a b o (by simp [aS.add,aS.one])
theorem Hp.cell {b i:Nat} {c:Array Value} {t:TypeId} {fr:Nat×Nat} (h:Hp E w (af b (.cells c t fr)::F)):w.cell? ⟨b,i,none⟩=c[i]? :=by
 simp [World.cell?,h.az]
theorem Hp.alloc (h:Hp E w F) (o:Obj):Hp E (w.alloc o) (af w.heap.size o::F):=by
 obtain ⟨f,a,h1⟩:=h.frag
 have hn:f w.heap.size=none:=by
  cases hf:f w.heap.size with
  |none=>rfl
  |some o=>have:=a _ _ hf;simp at this
 refine ⟨h.os,h.output,h.tape,(aS.one w.heap.size o).add f,fun r o' hr=> ?_,_,_,fun r=> ?_,rfl,rfl,h1⟩
 ·show (w.heap.push o)[r]? =_
  rw [Array.getElem?_push]
  by_cases hr0:r=w.heap.size
  ·subst hr0;simp [aS.add,aS.one] at hr;simp [hr]
  ·simp [aS.add,aS.one,hr0] at hr
   rw [if_neg hr0];exact a r o' hr
 ·by_cases hr0:r=w.heap.size
  ·subst hr0;exact .inr hn
  ·exact .inl (by simp [aS.one,hr0])
theorem Hp.setObj {b:Nat} {o o':Obj} (h:Hp E w (af b o::F)) (h1:w'.heap=w.heap.set! b o') (h2:w'.os=w.os) (h3:w'.output=w.output) (h4:w'.tape=w.tape):Hp E w' (af b o'::F):=by
 have hb:=h.az
 obtain ⟨f,a,g,k,hd,rfl,rfl,h5⟩:=h.frag
 have hk:k b=none:=by
  rcases hd b with hh|hh
  ·simp [aS.one] at hh
  ·exact hh
 refine ⟨h2.trans h.os,h3.trans h.output,h4.trans h.tape,(aS.one b o').add k,fun r x hr=> ?_,_,_,fun r=> ?_,rfl,rfl,h5⟩
 ·rw [h1]
  have hlt:b<w.heap.size:=by
   rcases Nat.lt_or_ge b w.heap.size with hh|hh
   ·exact hh
   ·simp [Array.getElem?_eq_none hh] at hb
  by_cases hr0:r=b
  ·subst hr0
   simp [aS.add,aS.one] at hr
   simp [hr,hlt]
  ·simp [aS.add,aS.one,hr0] at hr
   have:=a r x (by simp [aS.add,aS.one,hr0,hr])
   rw [Array.set!_eq_setIfInBounds,Array.getElem?_setIfInBounds_ne (Ne.symm hr0)]
   exact this
 ·by_cases hr0:r=b
  ·subst hr0;exact .inr hk
  ·exact .inl (by simp [aS.one,hr0])
theorem Hp.setCell {b i:Nat} {c:Array Value} {t:TypeId} {fr:Nat×Nat} (h:Hp E w (af b (.cells c t fr)::F)) (v:Value):
  Hp E (w.setCell ⟨b,i,none⟩ v) (af b (.cells (c.setIfInBounds i v) t fr)::F):=by
 have hb:=h.az
 refine h.setObj (o':= .cells (c.setIfInBounds i v) t fr) ?_ rfl rfl rfl
 apply Array.ext_getElem?
 intro r
 have hlt:b<w.heap.size:=by
  rcases Nat.lt_or_ge b w.heap.size with hh|hh
  ·exact hh
  ·simp [Array.getElem?_eq_none hh] at hb
 simp only [World.setCell,Array.getElem?_modify,Array.set!_eq_setIfInBounds,Array.getElem?_setIfInBounds]
 by_cases hr:b=r
 ·subst hr
  have hv:w.heap[b]= .cells c t fr:=by simpa [hlt] using hb
  simp [hlt,hv]
 ·simp [hr]
def ad (F:List HP) (φ:World→Prop):Prop:= ∀w f,QZ f w→Sat F f→φ w
theorem Hp.aj {φ:World→Prop} (h:Hp E w F) (ht:ad F φ):φ w:=let ⟨f,a,b⟩:=h.frag;ht w f a b
theorem ad.cons {φ:World→Prop} (ht:ad F φ):ad (A::F) φ:=by
 rintro w f a ⟨g,k,hd,rfl,h1,h2⟩
 refine ht w k (fun r o hr=>a r o ?_) h2
 rcases hd r with hg|hk
 ·simp [aS.add,hg,hr]
 ·rw [hk] at hr;cases hr
theorem ad.perm {φ:World→Prop} (ht:ad l φ) (hp:l.Perm l'):ad l' φ:=fun w f a b=>ht w f a (Sat.perm hp.symm f b)
theorem ad.imp {φ ψ:World→Prop} (ht:ad F φ) (h: ∀w,φ w→ψ w):ad F ψ:=fun w f a b=>h w (ht w f a b)
theorem ad.and {φ ψ:World→Prop} (h1:ad F φ) (h2:ad F ψ):ad F (fun w=>φ w∧ψ w):=fun w f a b=>⟨h1 w f a b,h2 w f a b⟩
theorem ad.all {α:Sort _} {φ:α→World→Prop} (h: ∀x,ad F (φ x)):ad F (fun w=> ∀x,φ x w):=fun w f a b x=>h x w f a b
theorem ad.const {p:Prop} (h:p):ad F (fun _=>p):=fun _ _ _ _=>h
def Old (W:World):HP:=fun f=> ∀r,f r=W.heap[r]?
theorem Hp.start (W:World):Hp W W [Old W]:=
 ⟨rfl,rfl,rfl,fun r=>W.heap[r]?,fun _ _ h=>h,fun r=>W.heap[r]?,aS.emp,fun _=> .inr rfl,(aS.Qb _).symm,fun _=>rfl,rfl⟩
theorem ad.Ug {W:World} {φ:World→Prop} (h: ∀w,(∀r,r<W.heap.size→w.heap[r]? =W.heap[r]?)→φ w):ad (Old W::F) φ:=by
 rintro w f a ⟨g,k,hd,rfl,h1,h2⟩
 refine h w fun r hr=> ?_
 have:g r=some W.heap[r]:=by rw [h1 r];simp [hr]
 rw [a r W.heap[r] (by simp [aS.add,this])]
 simp [hr]
theorem Hp.below {W:World} (h:Hp W w (Old W::F)):Go.RowKit.Below W.heap.size W w:=by
 have hk:=h.aj (ad.Ug (φ:=fun w=> ∀r,r<W.heap.size→w.heap[r]? =W.heap[r]?) fun w h=>h)
 refine ⟨h.os,h.tape,h.output,?_,hk⟩
 rcases Nat.lt_or_ge w.heap.size W.heap.size with hlt|hge
 ·have:=hk w.heap.size hlt
  simp [hlt] at this
 ·exact hge
end
section
variable {E w:World} {F:List HP}
theorem aa.mk {b:Bool} {X Y:Prop} (h1:b=true→X) (h2:b=false→Y):aa b X Y:=by
 cases b
 ·exact h2 rfl
 ·exact h1 rfl
theorem aa.t {b:Bool} {X Y:Prop} (hb:b=true) (h:X):aa b X Y:=by subst hb;exact h
theorem aa.f {b:Bool} {X Y:Prop} (hb:b=false) (h:Y):aa b X Y:=by subst hb;exact h
theorem Ld.sc {s:Sc} {p:Addr} {K:s.T→Prop} (x:s.T) (hc:w.cell? p=some (s.enc x)) (h:K x):Ld (.sc s) p w K:=
 ⟨x,fun w' hw=>by subst hw;exact hc,h⟩
theorem St.mk {p:Addr} {v:Value} {K:World→Prop} {b i:Nat} {c:Array Value} {t:TypeId} (hp:p=⟨b,i,none⟩) (hh:Hp E w (af b (.cells c t (0,0))::F)) (hi:i<c.size) (hv:aA v=true)
  (h: ∀w',Hp E w' (af b (.cells (c.setIfInBounds i v) t (0,0))::F)→K w'):St p v w K:=by
 subst hp
 unfold St
 rw [hv]
 refine ⟨?_,?_,h _ (hh.setCell v)⟩
 ·rw [hh.cell];simp [hi]
 ·simp [World.frozen?,hh.az]
theorem Nw.mk {t:TypeId} {cs:Array Value} {K:Nat→World→Prop} (hh:Hp E w F) (h: ∀b w',Hp E w' (af b (.cells cs t (0,0))::F)→K b w'):Nw t cs w K:=h _ _ (hh.alloc _)
theorem aY.mk {K:World→Prop} (hh:Hp E w F) (h: ∀w',Hp E w' F→K w'):aY w K:=h _ hh.drew
theorem Cl.imp {P:Program} {ks:List Ki} {i:FuncId} {args:Array Value} {K K':mo ks (World→Prop)} (h:Cl P ks i args w K) (hk: ∀e w',vZ ks K e w'→vZ ks K' e w'):Cl P ks i args w K':=
 Calls.mono h hk
end
end Go.Vc
namespace Go.Vc
open Go
theorem ab {x:Int} (h: -9223372036854775808≤x∧x≤9223372036854775807):i64 x=x:=IntWalk.i64_in x h
theorem gI {x:Int} (h:0≤x∧x≤18446744073709551615):u64 x=x:=IntWalk.u64_in x h
theorem cN {x:Int} (h:0≤x∧x≤4294967295):u32 x=x:=IntWalk.u32_in x h
theorem yi (x:Int):u8 x=x % 256:=by
 show IntKind.wrap .u8 x=x % 256
 simp [IntKind.wrap,IntKind.bits,IntKind.signed]
theorem eD {x:Int} (h:0≤x∧x≤255):u8 x=x:=by rw [yi];omega
theorem kY (n a:Nat) (h:a<2^n):(BitVec.ofInt n (a:Int)).toNat=a:=by
 rw [BitVec.toNat_ofInt]
 have:((a:Int) % ((2^n:Nat):Int))=((a % 2^n:Nat):Int):=by omega
 rw [this,Int.toNat_natCast,Nat.mod_eq_of_lt h]
theorem th {k:IntKind} {a:Nat} (h:(a:Int)≤k.max):k.wrap (a:Int)=a:=by
 cases k
 ·have:IntKind.max .i8=127:=rfl
  exact IntWalk.i8_in _ (by omega)
 ·have:IntKind.max .i16=32767:=rfl
  exact IntWalk.i16_in _ (by omega)
 ·have:IntKind.max .i32=2147483647:=rfl
  exact IntWalk.i32_in _ (by omega)
 ·have:IntKind.max .i64=9223372036854775807:=rfl
  exact IntWalk.i64_in _ (by omega)
 ·have:IntKind.max .u8=255:=rfl
  exact IntWalk.u8_in _ (by omega)
 ·have:IntKind.max .u16=65535:=rfl
  exact IntWalk.u16_in _ (by omega)
 ·have:IntKind.max .u32=4294967295:=rfl
  exact IntWalk.u32_in _ (by omega)
 ·have:IntKind.max .u64=18446744073709551615:=rfl
  exact IntWalk.u64_in _ (by omega)
theorem max_lt (k:IntKind):(k.max:Int)<2^k.bits:=by cases k<;>decide
theorem oF {k:IntKind} {a:Nat} (ha:(a:Int)≤k.max):a<2^k.bits:=by
 have:=max_lt k
 have h2:(a:Int)<2^k.bits:=Int.lt_of_le_of_lt ha this
 exact_mod_cast h2
theorem r0 {k:IntKind} {a b:Nat} (ha:(a:Int)≤k.max) (hb:(b:Int)≤k.max) (h:((a|||b:Nat):Int)≤k.max):kW k a b=((a|||b:Nat):Int):=by
 unfold kW
 rw [BitVec.toNat_or,kY _ _ (oF ha),kY _ _ (oF hb),th h]
theorem mE {k:IntKind} {a b:Nat} (ha:(a:Int)≤k.max) (hb:(b:Int)≤k.max):dH k a b=((a&&&b:Nat):Int):=by
 unfold dH
 rw [BitVec.toNat_and,kY _ _ (oF ha),kY _ _ (oF hb),th]
 have:=Nat.and_le_left (n:=a) (m:=b)
 omega
theorem iS {k:IntKind} {a b:Nat} (ha:(a:Int)≤k.max) (hb:(b:Int)≤k.max) (h:((a^^^b:Nat):Int)≤k.max):eH k a b=((a^^^b:Nat):Int):=by
 unfold eH
 rw [BitVec.toNat_xor,kY _ _ (oF ha),kY _ _ (oF hb),th h]
theorem dE {k:IntKind} {a b:Nat} (hb:b≤k.bits):bT k a b=((a/2^b:Nat):Int):=by
 unfold bT
 rw [Int.toNat_natCast,Nat.min_eq_left hb,Int.fdiv_eq_ediv_of_nonneg _ (by exact_mod_cast Nat.zero_le _)]
 exact_mod_cast rfl
theorem dL {k:IntKind} {a b:Nat} (hb:b≤k.bits) (h:((a*2^b:Nat):Int)≤k.max):bh k a b=((a*2^b:Nat):Int):=by
 unfold bh
 rw [Int.toNat_natCast,Nat.min_eq_left hb]
 have:(a:Int)*2^b=((a*2^b:Nat):Int):=by push_cast;rfl
 rw [this,th h]
theorem ag (b o n:Nat):(⟨b,o,none⟩:Addr).add n=⟨b,o+n,none⟩:=by
 unfold Addr.add
 split
 ·rename_i h;subst h;rfl
 ·rfl
theorem add_zero (p:Addr):p.add 0=p:=by simp [Addr.add]
def aH (sz:Nat) (s:Sl) (xs:List Value) (w:World):Prop:=
 xs.length=s.len*sz∧∀i (h:i<xs.length),∃p,s.base=some p∧w.cell? (p.add i)=some xs[i]
def av (sz:Nat) (s:Sl) (xs:List Value):HP:=fun f=>
 xs.length=s.len*sz∧((s.base=none∧s.len=0∧s.cap=0∧f=aS.emp)∨
 ∃b off arr t,s.base=some ⟨b,off,none⟩∧s.len≤s.cap∧off+s.cap*sz≤arr.size∧(∀i (h:i<xs.length),arr[off+i]? =some xs[i])∧f=aS.one b (.cells arr t (0,0)))
section
variable {E w w':World} {F:List HP} {sz:Nat} {s:Sl} {xs ys:List Value}
theorem av.nil (sz:Nat):av sz ⟨none,0,0⟩ [] aS.emp:=⟨by simp,.inl ⟨rfl,rfl,rfl,rfl⟩⟩
theorem Hp.aU (h:Hp E w F) (sz:Nat):Hp E w (av sz ⟨none,0,0⟩ []::F):=h.emp (av.nil sz)
theorem Hp.fS {b:Nat} {arr:Array Value} {t:TypeId} {n:Nat} (h:Hp E w (af b (.cells arr t (0,0))::F)) (hn:arr.toList.length=n*sz):
  Hp E w (av sz ⟨some ⟨b,0,none⟩,n,n⟩ arr.toList::F):=by
 refine h.N8 fun f hf=>⟨hn,.inr ⟨b,0,arr,t,rfl,Nat.le_refl _,?_,?_,hf⟩⟩
 ·have:arr.size=n*sz:=by simpa using hn
  simp only [this];omega
 ·intro i hi
  have hi':i<arr.size:=by simpa using hi
  simp [hi']
theorem Hp.bK (h:Hp E w (av sz s xs::F)):xs.length=s.len*sz:=by
 obtain ⟨f,a,g,k,hd,e,h1,h2⟩:=h.frag
 exact h1.1
theorem Hp.ik (h:Hp E w (av sz s xs::F)):s.len≤s.cap:=by
 obtain ⟨f,a,g,k,hd,e,h1,h2⟩:=h.frag
 rcases h1.2 with ⟨h1,h2,h3,_⟩|⟨b,off,arr,t,h1,h2,_⟩
 ·omega
 ·exact h2
theorem Hp.Au (h:Hp E w (av sz s xs::F)):(s=⟨none,0,0⟩∧xs= []∧Hp E w F)∨
  ∃b off arr t,s.base=some ⟨b,off,none⟩∧s.len≤s.cap∧off+s.cap*sz≤arr.size∧(∀i (h:i<xs.length),arr[off+i]? =some xs[i])∧Hp E w (af b (.cells arr t (0,0))::F):=by
 have hl:=h.bK
 obtain ⟨f,a,g,k,hd,rfl,h1,h2⟩:=h.frag
 rcases h1.2 with ⟨h3,h4,h5,h6⟩|⟨b,off,arr,t,h3,h4,h5,h6,h7⟩
 ·refine .inl ⟨by cases s;simp_all,?_,h.drop⟩
  have:xs.length=0:=by rw [hl,h4];simp
  exact List.length_eq_zero_iff.1 this
 ·exact .inr ⟨b,off,arr,t,h3,h4,h5,h6,h.os,h.output,h.tape,_,a,g,k,hd,rfl,h7,h2⟩
theorem Hp.oI {b off:Nat} {arr:Array Value} {t:TypeId} (h:Hp E w (af b (.cells arr t (0,0))::F)) (hl:xs.length=s.len*sz) (h1:s.base=some ⟨b,off,none⟩) (h2:s.len≤s.cap) (h3:off+s.cap*sz≤arr.size)
  (h4: ∀i (h:i<xs.length),arr[off+i]? =some xs[i]):Hp E w (av sz s xs::F):=
 h.N8 fun _ hf=>⟨hl,.inr ⟨b,off,arr,t,h1,h2,h3,h4,hf⟩⟩
theorem ad.own:ad (av sz s xs::F) (aH sz s xs):=by
 rintro w f a ⟨g,k,hd,rfl,⟨hl,h1⟩,h2⟩
 refine ⟨hl,fun i hi=> ?_⟩
 rcases h1 with ⟨h3,h4,h5,_⟩|⟨b,off,arr,t,h3,h4,h5,h6,rfl⟩
 ·rw [hl,h4] at hi;simp at hi
 ·refine ⟨_,h3,?_⟩
  have:w.heap[b]? =some (.cells arr t (0,0)):=a b _ (by simp [aS.add,aS.one])
  rw [ag]
  simp only [World.cell?,this]
  exact h6 i hi
theorem ad.cell {W:World} {p:Addr} {v:Value} (h:W.cell? p=some v):ad (Old W::F) (fun w=>w.cell? p=some v):=by
 refine ad.Ug fun w hw=> ?_
 have hlt:p.block<W.heap.size:=by
  unfold World.cell? at h
  rcases Nat.lt_or_ge p.block W.heap.size with hh|hh
  ·exact hh
  ·simp [Array.getElem?_eq_none hh] at h
 rw [←h]
 unfold World.cell?
 rw [hw _ hlt]
theorem ad.Uu {W:World} (h:aH sz s xs W):ad (Old W::F) (aH sz s xs):=by
 intro w f a b
 refine ⟨h.1,fun i hi=> ?_⟩
 obtain ⟨p,hp,hc⟩:=h.2 i hi
 exact ⟨p,hp,(ad.cell hc) w f a b⟩
theorem ay.mk {i:Int} {K:Addr→Prop} {p:Addr} (hp:s.base=some p) (h0:0≤i) (h1:i<(s.len:Int)) (h:K (p.add (i.toNat*sz))):ay s i sz K:=⟨p,hp,h0,h1,h⟩
theorem ay.rd {i:Int} {K:Addr→Prop} (hs:aH 1 s xs w) (h0:0≤i) (h1:i<(s.len:Int)) (h: ∀p (hi:i.toNat<xs.length),w.cell? p=some xs[i.toNat]→K p):ay s i 1 K:=by
 have hl:i.toNat<xs.length:=by rw [hs.1];omega
 obtain ⟨p,hp,hc⟩:=hs.2 _ hl
 exact ⟨p,hp,h0,h1,h _ hl (by simpa using hc)⟩
theorem ay.Q6 {i:Int} {K:Addr→Prop} (hs:aH sz s xs w) (hz:0<sz) (h0:0≤i) (h1:i<(s.len:Int)) (h: ∀p,(∀j (hj:i.toNat*sz+j<xs.length),j<sz→w.cell? (p.add j)=some xs[i.toNat*sz+j])→K p):ay s i sz K:=by
 have hlt:i.toNat<s.len:=by omega
 have hmul:i.toNat*sz+sz≤s.len*sz:=by
  have:(i.toNat+1)*sz≤s.len*sz:=Nat.mul_le_mul_right _ hlt
  rw [Nat.succ_mul] at this;exact this
 obtain ⟨p,hp,_⟩:=hs.2 (i.toNat*sz) (by rw [hs.1];omega)
 refine ⟨p,hp,h0,h1,h _ fun j hj hjs=> ?_⟩
 obtain ⟨q,hq,hc⟩:=hs.2 (i.toNat*sz+j) hj
 have:q=p:=Option.some.inj (hq.symm.trans hp)
 subst this
 rw [←hc]
 congr 1
 unfold Addr.add
 by_cases e1:i.toNat*sz=0<;>by_cases e2:j=0<;>simp [e1,e2,Nat.add_assoc]
theorem Hp.setRow {b off:Nat} {t:TypeId}: ∀(vs:List Value) (i:Nat) (w:World) (arr:Array Value),Hp E w (af b (.cells arr t (0,0))::F)→off+i+vs.length≤arr.size→
  ∃arr':Array Value,arr'.size=arr.size∧(∀j (h:j<vs.length),arr'[off+i+j]? =some vs[j])∧(∀j,j<off+i→arr'[j]? =arr[j]?)∧
   Hp E (ak.setRow w ⟨b,off,none⟩ vs i) (af b (.cells arr' t (0,0))::F)
 | [],i,w,arr,h,_=>⟨arr,rfl,fun j h=>by simp at h,fun _ _=>rfl,h⟩
 |v::vs,i,w,arr,h,hl=>by
  simp only [List.length_cons] at hl
  have h1:=h.setCell (i:=off+i) v
  have hsz:off+(i+1)+vs.length≤(arr.setIfInBounds (off+i) v).size:=by rw [Array.size_setIfInBounds];omega
  obtain ⟨arr',e1,e2,e3,h2⟩:=Hp.setRow (b:=b) (off:=off) (t:=t) vs (i+1) _ (arr.setIfInBounds (off+i) v) h1 hsz
  refine ⟨arr',by simpa using e1,fun j hj=> ?_,fun j hj=> ?_,?_⟩
  ·cases j with
   |zero=>
    rw [Nat.add_zero,e3 _ (by omega)]
    simp [show off+i<arr.size by omega]
   |succ j=>
    have:=e2 j (by simp at hj;omega)
    rw [show off+i+(j+1)=off+(i+1)+j by omega]
    simpa using this
  ·rw [e3 _ (by omega),Array.getElem?_setIfInBounds_ne (by omega)]
  ·rw [ak.setRow,ag];exact h2
theorem OW {P:Program} {b off:Nat} {arr:Array Value} {t:TypeId} (h:Hp E w (af b (.cells arr t (0,0))::F)) (vs:List Value) (i:Nat) (hl:off+i+vs.length≤arr.size) (hv: ∀v∈vs,aA v=true):
  (storeCells ⟨b,off,none⟩ vs i).run P w= .ok () (ak.setRow w ⟨b,off,none⟩ vs i):=by
 refine oB vs i w fun j hj=>⟨hv _ (List.getElem_mem hj),?_,?_⟩
 ·rw [ag,h.cell];simp;omega
 ·rw [ag];simp [World.frozen?,h.az]
theorem gw: ∀(r c n:Nat),c≤2*n+1024→Builtin.growBy n r c≤2*n+1024
 |0,c,n,h=>h
 |r+1,c,n,h=>by
  unfold Builtin.growBy
  split
  ·exact h
  ·exact gw r _ n (by omega)
theorem PR {n c:Nat} (h:c<n):Builtin.nextslicecap n c≤2*n+1024:=by
 unfold Builtin.nextslicecap
 split
 ·omega
 ·split
  ·omega
  ·exact gw 4 c n (by omega)
structure cE (P:Program) (t e:TypeId) (sz bytes:Nat):Prop where
 und:P.underlying t=some (.slice e)
 info: ∃it z,P.info? e=some it∧it.size=sz∧it.bytes=bytes∧it.zero=some z∧z.cells.size=sz
def OG (P:Program) (e:TypeId) (sz bytes:Nat):Bool:=
 match P.info? e with
 |some it=>it.size==sz&&it.bytes==bytes&&(match it.zero with|some z=>z.cells.size==sz|none=>false)
 |none=>false
theorem cE.of {P:Program} {t e:TypeId} {sz bytes:Nat} (h1:P.underlying t=some (.slice e)) (h2:OG P e sz bytes=true):cE P t e sz bytes:=by
 refine ⟨h1,?_⟩
 unfold OG at h2
 split at h2
 ·rename_i it hi
  simp only [Bool.and_eq_true,beq_iff_eq] at h2
  obtain ⟨⟨h2,h3⟩,h4⟩:=h2
  split at h4
  ·rename_i z hz
   exact ⟨it,z,hi,h2,h3,hz,by simpa using h4⟩
  ·simp at h4
 ·simp at h2
theorem Jo {P:Program} {vs:List Value} {p:Addr} (h: ∀i (hi:i<vs.length),w.cell? (p.add i)=some vs[i]):(loadCells p vs.length).run P w= .ok vs.toArray w:=by
 have:=jL (P:=P) (w:=w) (a:=p) vs 0 #[] (fun j hj=>by simpa using h j hj)
 simpa [loadCells] using this
def Src (sz n:Nat) (x:Value) (ys:List Value) (w:World):Prop:=
 (∃b l c,x= .slice b l c∧n=l∧aH sz ⟨b,l,c⟩ ys w)∨(∃s:ByteArray,x= .string s∧n=s.size∧ys=s.data.toList.map fun b=> .int .u8 b.toNat)
theorem Src.run {P:Program} {n:Nat} {x:Value} (h:Src sz n x ys w):(Builtin.firstCells sz n x).run P w= .ok ys.toArray w∧(Builtin.lenOf x).run P w= .ok n w:=by
 rcases h with ⟨b,l,c,rfl,rfl,hl,hc⟩|⟨s,rfl,rfl,rfl⟩
 ·refine ⟨?_,rfl⟩
  simp only at hl
  cases b with
  |none=>
   cases ys with
   |nil=>rfl
   |cons y ys=>obtain ⟨p,hp,_⟩:=hc 0 (by simp);cases hp
  |some p=>
   show (loadCells p (n*sz)).run P w=_
   rw [←hl]
   exact Jo fun i hi=>by obtain ⟨q,hq,hc⟩:=hc i hi;cases hq;exact hc
 ·refine ⟨?_,rfl⟩
  show Result.ok ((s.extract 0 s.size).data.map fun b=>Value.int .u8 b.toNat) w=_
  congr 1
  have:s.extract 0 s.size=s:=by simp
  rw [this]
  apply Array.ext'
  simp
theorem Src.len {n:Nat} {x:Value} (h:Src 1 n x ys w):ys.length=n:=by
 rcases h with ⟨b,l,c,rfl,rfl,hl,hc⟩|⟨s,rfl,rfl,rfl⟩
 ·simpa using hl
 ·simp
theorem zK (z:Array Value) (n:Nat):(Builtin.zeroCells z n).size=n*z.size:=by simp [Builtin.zeroCells]
theorem Fj {P:Program} {t tx ty e:TypeId} {bytes n:Nat} {x:Value} {K:Sl→World→Prop} (he:cE P t e sz bytes) (_:0<sz) (hx:(∃e2,P.underlying tx=some (.slice e2))∨P.underlying tx=some .string)
  (hh:Hp E w (av sz s xs::F)) (hs:Src sz n x ys w) (hyl:ys.length=n*sz) (hys: ∀y∈ys,aA y=true) (hb:(2*(s.len+n)+1024)*bytes≤2^48) (hb2:s.len+n<2^62)
  (h: ∀s' w',Hp E w' (av sz s' (xs++ys)::F)→s'.len=s.len+n→aH sz s xs w'→K s' w'):ar P (Builtin.append_ #[t,tx] ty ⟨[.slice s.base s.len s.cap,x]⟩) kS w K:=by
 obtain ⟨it,z,hi,hsz,hby,hze,hzs⟩:=he.info
 obtain ⟨hs1,hs2⟩:=hs.run (P:=P)
 have hlen:=hh.bK
 have hcap:=hh.ik
 have hso:(sizeOf e).run P w= .ok sz w:=by rw [c8 hi,hsz]
 have step: ∀v w',(Builtin.append_ #[t,tx] ty ⟨[.slice s.base s.len s.cap,x]⟩).run P w= .ok v w'→(∃s':Sl,v= .slice s'.base s'.len s'.cap∧Hp E w' (av sz s' (xs++ys)::F)∧s'.len=s.len+n∧aH sz s xs w')→
   ar P (Builtin.append_ #[t,tx] ty ⟨[.slice s.base s.len s.cap,x]⟩) kS w K:=by
  rintro v w' h1 ⟨s',rfl,h2,h3,h4⟩
  unfold ar
  rw [h1]
  exact h s' w' h2 h3 h4
 have hlen2:(xs++ys).length=(s.len+n)*sz:=by rw [List.length_append,hlen,hyl,Nat.add_mul]
 by_cases hfit:s.len+n≤s.cap
 ·rcases hh.Au with ⟨rfl,rfl,hF⟩|⟨b,off,arr,tt,h1,h2,h3,h4,hB⟩
  ·have hn0:n=0:=by simp at hfit;exact hfit
   subst hn0
   have hy0:ys= []:=by simpa using hyl
   subst hy0
   refine step (.slice none 0 0) w ?_ ⟨⟨none,0,0⟩,rfl,hh,rfl,hh.aj ad.own⟩
   rcases hx with ⟨e2,hd⟩|hd<;>simp [Builtin.append_,run_underlying he.und,hso,run_underlying hd,hs1,hs2]
  ·have hmul:(s.len+n)*sz≤s.cap*sz:=Nat.mul_le_mul_right _ hfit
   rw [Nat.add_mul] at hmul
   have hlr:off+s.len*sz+ys.length≤arr.size:=by omega
   obtain ⟨arr',e1,e2,e3,hB'⟩:=Hp.setRow (off:=off) ys (s.len*sz) w arr hB (by omega)
   have hrow:=OW (P:=P) (off:=off+s.len*sz) hB ys 0 (by omega) hys
   have hro2:ak.setRow w ⟨b,off+s.len*sz,none⟩ ys 0=ak.setRow w ⟨b,off,none⟩ ys (s.len*sz):=by
    have key: ∀(vs:List Value) (w:World) (i:Nat),ak.setRow w ⟨b,off+s.len*sz,none⟩ vs i=ak.setRow w ⟨b,off,none⟩ vs (s.len*sz+i):=by
     intro vs
     induction vs with
     |nil=>intro w i;rfl
     |cons v vs ih=>intro w i;simp only [ak.setRow,ih,ag,Nat.add_assoc]
    simpa using key ys w 0
   refine step (.slice s.base (s.len+n) s.cap) (ak.setRow w ⟨b,off,none⟩ ys (s.len*sz)) ?_ ⟨⟨s.base,s.len+n,s.cap⟩,rfl,?_,rfl,⟨hlen,fun i hi=>⟨_,h1,by rw [ag,hB'.cell,e3 _ (by omega)];exact h4 i hi⟩⟩⟩
   ·rw [hro2] at hrow
    rcases hx with ⟨e2,hd⟩|hd<;>simp [Builtin.append_,run_underlying he.und,hso,run_underlying hd,hs1,hs2,hfit,h1,ag,hrow]
   ·refine Hp.oI hB' hlen2 h1 hfit (by simp only;omega) fun i hi=> ?_
    by_cases hi2:i<xs.length
    ·rw [e3 _ (by omega),List.getElem_append_left hi2];exact h4 i hi2
    ·rw [List.getElem_append_right (by omega)]
     have:=e2 (i - xs.length) (by simp at hi;omega)
     rw [←this]
     congr 1
     omega
 ·have hnext: ¬Builtin.nextslicecap (s.len+n) s.cap*it.bytes>2^48:=by
   have:=PR (n:=s.len+n) (c:=s.cap) (by omega)
   have h2:Builtin.nextslicecap (s.len+n) s.cap*it.bytes≤(2*(s.len+n)+1024)*bytes:=by rw [hby];exact Nat.mul_le_mul_right _ this
   omega
  have hmax: ¬((s.len+n:Nat):Int)>IntKind.i64.max:=by
   have:IntKind.i64.max=9223372036854775807:=rfl
   rw [this];omega
  have hold:(Builtin.firstCells sz s.len (.slice s.base s.len s.cap)).run P w= .ok xs.toArray w:=by
   have:Src sz s.len (.slice s.base s.len s.cap) xs w:= .inl ⟨s.base,s.len,s.cap,rfl,rfl,hh.aj ad.own⟩
   exact (this.run (P:=P)).1
  generalize hq:Question.cut (.appendCap (s.len+n) s.cap e) (w.tape w.drawn (.appendCap (s.len+n) s.cap e))=newCap
  have hnc:s.len+n≤newCap:=by rw [←hq];exact Nat.le_add_right _ _
  have hF:Hp E w F:=hh.drop
  have hD:Hp E w.drew F:=hF.drew (n:=w.drawn+1)
  have hold':(Builtin.firstCells sz s.len (.slice s.base s.len s.cap)).run P w.drew= .ok xs.toArray w.drew:=by
   have:Src sz s.len (.slice s.base s.len s.cap) xs w.drew:= .inl ⟨s.base,s.len,s.cap,rfl,rfl,(hh.drew (n:=w.drawn+1)).aj ad.own⟩
   exact (this.run (P:=P)).1
  have hs1':(Builtin.firstCells sz n x).run P w.drew= .ok ys.toArray w.drew:=(Src.run (P:=P) (w:=w.drew) hs).1
  have hA:=hD.alloc (.cells (xs.toArray++ys.toArray++Builtin.zeroCells z.cells (newCap - (s.len+n))) e)
  refine step (.slice (some ⟨w.heap.size,0,none⟩) (s.len+n) newCap) _ ?_ ⟨⟨some ⟨w.heap.size,0,none⟩,s.len+n,newCap⟩,rfl,Hp.oI hA hlen2 rfl hnc ?_ ?_,rfl,((hh.drew (n:=w.drawn+1)).alloc (.cells (xs.toArray++ys.toArray++Builtin.zeroCells z.cells (newCap - (s.len+n))) e)).aj (ad.cons ad.own)⟩
  ·have hz': ∀w:World,(zeroValue e).run P w= .ok z w:=by intro w;simp [zeroValue,typeInfo,hi,hze]
   have hti: ∀w:World,(typeInfo e).run P w= .ok it w:=by intro w;simp [typeInfo,hi]
   have hmax': ¬(9223372036854775807<(s.len:Int)+(n:Int)∧it.bytes=0):=by omega
   have hfo:Question.forced (.appendCap (s.len+n) s.cap e)=false:=rfl
   rcases hx with ⟨e2,hd⟩|hd<;>simp [Builtin.append_,run_underlying he.und,hso,run_underlying hd,hs2,hfit,hmax',hti,hnext,hfo,hq,hold',hs1',hz',newRow]
   all_goals rw [←Array.append_assoc,show xs.toArray++ys.toArray=(xs++ys).toArray by simp]
  ·simp only [Array.size_append,List.size_toArray,zK,hzs,hlen,hyl]
   have:newCap*sz=(s.len+n)*sz+(newCap - (s.len+n))*sz:=by rw [←Nat.add_mul];congr 1;omega
   rw [this,Nat.add_mul];omega
  ·intro i hi
   have h1:i<(xs.toArray++ys.toArray).size:=by simpa using hi
   rw [Nat.zero_add,Array.getElem?_append_left h1]
   have:(xs.toArray++ys.toArray)=(xs++ys).toArray:=by simp
   rw [this]
   simp only [List.getElem?_toArray]
   exact List.getElem?_eq_getElem hi
theorem bf {P:Program} {t tx ty e:TypeId} {bytes n:Nat} {x:Value} {K:Sl→World→Prop} (he:cE P t e sz bytes) (hz:0<sz) (hx:(∃e2,P.underlying tx=some (.slice e2))∨P.underlying tx=some .string)
  (hh:Hp E w (av sz s xs::F)) (hs:Src sz n x ys w) (hyl:ys.length=n*sz) (hys: ∀y∈ys,aA y=true) (hb:(2*(s.len+n)+1024)*bytes≤2^48) (hb2:s.len+n<2^62)
  (h: ∀s' w',Hp E w' (av sz s' (xs++ys)::F)→s'.len=s.len+n→K s' w'):ar P (Builtin.append_ #[t,tx] ty ⟨[.slice s.base s.len s.cap,x]⟩) kS w K:=
 Fj he hz hx hh hs hyl hys hb hb2 fun s' w' h1 h2 _=>h s' w' h1 h2
end
theorem gn.mk {P:Program} {i:FuncId} {first captured:Array Value} {ks:List Ki} {args:List Value} {w:World} {K:mo ks (World→Prop)} (ok:sk P i=true) (h:Cl P ks i ⟨first.toList++args++captured.toList⟩ w K):
  gn P (.func (.func i) first captured) ks args w K:=by
 unfold gn
 simp only [ok]
 exact h
theorem sB {X Y:Prop}:aa true X Y=X:=rfl
theorem gu {X Y:Prop}:aa false X Y=Y:=rfl
theorem aB {p:Addr} {K:Addr→Prop}:ah (some p) K=K p:=rfl
theorem aO {α:Type} (r:α) (k:α→Prop):aQ r k=k r:=rfl
section
variable {E w:World} {F:List HP}
theorem Ld.az {s:Sc} {b i:Nat} {c:Array Value} {t:TypeId} {fr:Nat×Nat} {K:s.T→Prop} (h:Hp E w (af b (.cells c t fr)::F)) (x:s.T) (hx:c[i]? =some (s.enc x)) (hk:K x):Ld (.sc s) ⟨b,i,none⟩ w K:=
 Ld.sc x (by rw [h.cell];exact hx) hk
theorem St.az {v:Value} {K:World→Prop} {b i:Nat} {c:Array Value} {t:TypeId} (hh:Hp E w (af b (.cells c t (0,0))::F)) (hi:i<c.size) (hv:aA v=true)
  (h: ∀w',Hp E w' (af b (.cells (c.setIfInBounds i v) t (0,0))::F)→K w'):St ⟨b,i,none⟩ v w K:=St.mk rfl hh hi hv h
end
def du:Nat:=1099511627776
theorem aX:du=1099511627776:=rfl
def vB (x:Nat):Value:= .int .u8 (x:Int)
def vI (x:Int):Value:= .int .i64 x
theorem jg {xs:List Nat}: ∀y∈xs.map vB,aA y=true:=by
 intro y hy
 obtain ⟨x,_,rfl⟩:=List.mem_map.1 hy
 rfl
theorem qy {xs:List Int}: ∀y∈xs.map vI,aA y=true:=by
 intro y hy
 obtain ⟨x,_,rfl⟩:=List.mem_map.1 hy
 rfl
theorem St.Re {E w:World} {F:List HP} {sz j:Nat} {s:Sl} {xs:List Value} {i:Int} {v:Value} {K:World→Prop} (hh:Hp E w (av sz s xs::F)) (hj:j<sz) (h0:0≤i) (h1:i<(s.len:Int)) (hv:aA v=true)
  (h: ∀w',Hp E w' (av sz s (xs.set (i.toNat*sz+j) v)::F)→K w'):ay s i sz (fun q=>St (q.add j) v w K):=by
 have hl:=hh.bK
 have hlt:i.toNat<s.len:=by omega
 have hmul:i.toNat*sz+sz≤s.len*sz:=by
  have:(i.toNat+1)*sz≤s.len*sz:=Nat.mul_le_mul_right _ hlt
  rw [Nat.succ_mul] at this;exact this
 rcases hh.Au with ⟨rfl,rfl,hF⟩|⟨b,off,arr,t,e1,e2,e3,e4,hB⟩
 ·simp at hlt
 ·have hcm:s.len*sz≤s.cap*sz:=Nat.mul_le_mul_right _ e2
  refine ⟨_,e1,h0,h1,?_⟩
  rw [ag]
  show St (Addr.add _ j) v w K
  rw [ag]
  refine St.mk rfl hB (by omega) hv fun w' h'=>h _ ?_
  refine h'.oI (by simpa using hl) e1 e2 (by simpa using e3) fun r hr=> ?_
  rw [List.length_set] at hr
  rw [Array.getElem?_setIfInBounds,List.getElem_set]
  by_cases hq:i.toNat*sz+j=r
  ·rw [if_pos (by omega),if_pos (by omega),if_pos hq]
  ·rw [if_neg (by omega),if_neg hq];exact e4 r hr
theorem St.own {E w:World} {F:List HP} {s:Sl} {xs:List Value} {i:Int} {v:Value} {K:World→Prop} (hh:Hp E w (av 1 s xs::F)) (h0:0≤i) (h1:i<(s.len:Int)) (hv:aA v=true)
  (h: ∀w',Hp E w' (av 1 s (xs.set i.toNat v)::F)→K w'):ay s i 1 (fun q=>St q v w K):=by
 have:=St.Re (sz:=1) (j:=0) (K:=K) hh (by decide) h0 h1 hv (by simpa using h)
 simpa only [add_zero] using this
theorem ad.az {F:List HP} {b n m sz:Nat} {arr:Array Value} {xs:List Value} {t:TypeId} {fr:Nat×Nat} (hx:arr.toList=xs) (hl:xs.length=n*sz):ad (af b (.cells arr t fr)::F) (aH sz ⟨some ⟨b,0,none⟩,n,m⟩ xs):=by
 subst hx
 rintro w f a ⟨g,k,hd,rfl,rfl,h2⟩
 refine ⟨hl,fun i hi=>⟨_,rfl,?_⟩⟩
 have:w.heap[b]? =some (.cells arr t fr):=a b _ (by simp [aS.add,aS.one])
 rw [ag]
 simp only [World.cell?,this,Nat.zero_add]
 have hi':i<arr.size:=by simpa using hi
 simp [hi']
theorem ad.nil {F:List HP} {sz:Nat}:ad F (aH sz ⟨none,0,0⟩ []):=fun _ _ _ _=>⟨by simp,fun i hi=>by simp at hi⟩
theorem ay.Ox {E w:World} {F:List HP} {sz:Nat} {s:Sl} {xs:List Value} {i:Int} {K:Addr→Prop} (hh:Hp E w F) (hs:ad F (aH sz s xs)) (hz:0<sz) (h0:0≤i) (h1:i<(s.len:Int))
  (h: ∀p,(∀j,j<sz→ad F (fun w=>w.cell? (p.add j)=xs[i.toNat*sz+j]?))→K p):ay s i sz K:=by
 have hs1:=hh.aj hs
 have hlt:i.toNat<s.len:=by omega
 have hmul:i.toNat*sz+sz≤s.len*sz:=by
  have:(i.toNat+1)*sz≤s.len*sz:=Nat.mul_le_mul_right _ hlt
  rw [Nat.succ_mul] at this;exact this
 have hx:xs.length=s.len*sz:=hs1.1
 obtain ⟨p,hp,_⟩:=hs1.2 (i.toNat*sz) (by omega)
 refine ⟨p,hp,h0,h1,h _ fun j hj=>hs.imp fun w' hs'=> ?_⟩
 obtain ⟨q,hq,hc⟩:=hs'.2 (i.toNat*sz+j) (by omega)
 have:q=p:=Option.some.inj (hq.symm.trans hp)
 subst this
 rw [List.getElem?_eq_getElem (by omega),←hc]
 congr 1
 unfold Addr.add
 by_cases e1:i.toNat*sz=0<;>by_cases e2:j=0<;>simp [e1,e2,Nat.add_assoc]
theorem bj.own {E w:World} {F:List HP} {s:Sl} {xs:List Value} {lo hi:Int} {K:Sl→Prop} (hh:Hp E w (av 1 s xs::F)) (h0:0≤lo) (h1:lo≤hi) (h2:hi≤(s.len:Int))
  (h: ∀s':Sl,Hp E w (av 1 s' ((xs.drop lo.toNat).take (hi.toNat - lo.toNat))::F)→s'.len=hi.toNat - lo.toNat→K s'):bj s lo hi s.cap 1 K:=by
 have hl:=hh.bK
 have hc:=hh.ik
 refine ⟨h0,h1,by omega,by omega,h _ ?_ rfl⟩
 rcases hh.Au with ⟨rfl,rfl,hF⟩|⟨b,off,arr,t,e1,e2,e3,e4,hB⟩
 ·simp only at h2
  have e1:lo.toNat=0:=by omega
  have e2:hi.toNat=0:=by omega
  simpa [e1,e2] using hh
 ·have key:(if (s.cap:Int).toNat=lo.toNat then s.base else s.base.map (·.add (lo.toNat*1)))=if s.cap=lo.toNat then s.base else some ⟨b,off+lo.toNat,none⟩:=by
   rw [Int.toNat_natCast,e1]
   simp only [Option.map_some,ag,Nat.mul_one]
  rw [key,Int.toNat_natCast]
  have hlen:((xs.drop lo.toNat).take (hi.toNat - lo.toNat)).length=(hi.toNat - lo.toNat)*1:=by simp [hl];omega
  by_cases hcl:s.cap=lo.toNat
  ·rw [if_pos hcl]
   refine hB.oI hlen e1 (by simp only;omega) (by simp only;omega) fun i hi'=> ?_
   rw [hlen] at hi';omega
  ·rw [if_neg hcl]
   refine hB.oI hlen rfl (by simp only;omega) (by simp only;omega) fun i hi'=> ?_
   have hi2:lo.toNat+i<xs.length:=by rw [hlen] at hi';omega
   rw [Nat.add_assoc,e4 _ hi2]
   simp
theorem bj.rd {w:World} {s:Sl} {xs:List Value} {lo hi mx:Int} {K:Sl→Prop} (hs:aH 1 s xs w) (h0:0≤lo) (h1:lo≤hi) (h2:hi≤(s.len:Int)) (h3:hi≤mx) (h4:mx≤(s.cap:Int))
  (h: ∀s':Sl,(∀w',aH 1 s xs w'→aH 1 s' ((xs.drop lo.toNat).take (hi.toNat - lo.toNat)) w')→s'.len=hi.toNat - lo.toNat→K s'):bj s lo hi mx 1 K:=by
 have hl:=hs.1
 refine ⟨h0,h1,h3,h4,h _ (fun w' hs'=> ?_) rfl⟩
 have hlen:((xs.drop lo.toNat).take (hi.toNat - lo.toNat)).length=(hi.toNat - lo.toNat)*1:=by simp [hl];omega
 refine ⟨hlen,fun i hi'=> ?_⟩
 have hi2:lo.toNat+i<xs.length:=by rw [hlen] at hi';omega
 obtain ⟨p,hp,hcell⟩:=hs'.2 _ hi2
 have hne:mx.toNat≠lo.toNat:=by rw [hlen] at hi';omega
 refine ⟨p.add lo.toNat,by simp [hne,hp],?_⟩
 have:(p.add lo.toNat).add i=p.add (lo.toNat+i):=by
  unfold Addr.add
  by_cases e1:lo.toNat=0<;>by_cases e2:i=0<;>simp [e1,e2,Nat.add_assoc]
 rw [this,hcell]
 simp
end Go.Vc
namespace Go.Vc
open Go
section
variable {E w:World} {F:List HP}
theorem Ld.arr {b n:Nat} {cs:Array Value} {t:TypeId} {fr:Nat×Nat} {K:Array Value→Prop} (h:Hp E w (af b (.cells cs t fr)::F)) (hn:cs.size=n) (hK:K cs):Ld (.arr n) ⟨b,0,none⟩ w K:=by
 refine ⟨cs,hn,fun w' hw i hi=> ?_,hK⟩
 subst hw
 rw [ag,h.cell,Nat.zero_add]
 simp [hn,hi]
theorem ak.az {b n:Nat} {c0 cs:Array Value} {t:TypeId} {K:World→Prop} (h:Hp E w (af b (.cells c0 t (0,0))::F)) (h0:c0.size=n) (hn:cs.size=n) (hs: ∀v∈cs.toList,aA v=true)
  (hK: ∀w',Hp E w' (af b (.cells cs t (0,0))::F)→K w'):ak n ⟨b,0,none⟩ cs w K:=by
 refine ⟨hn,fun i hi=>⟨?_,?_,?_⟩,?_⟩
 ·have:cs.getD i undef∈cs.toList:=by simp [hn,hi]
  exact hs _ this
 ·rw [ag,h.cell];simp [h0,hi]
 ·rw [ag];simp [World.frozen?,h.az]
 ·obtain ⟨arr',e1,e2,e3,h'⟩:=Hp.setRow (b:=b) (off:=0) cs.toList 0 w c0 h (by simp;omega)
  have:arr'=cs:=by
   apply Array.ext
   ·omega
   ·intro i hi1 hi2
    have:=e2 i (by simpa using hi2)
    rw [show 0+0+i=i by omega,Array.getElem?_eq_getElem hi1] at this
    simpa using this
  subst this
  exact hK _ h'
theorem au.rd {b n:Nat} {cs:Array Value} {t:TypeId} {fr:Nat×Nat} {i:Int} {s:Sc} {K:s.T→Prop} (h:Hp E w (af b (.cells cs t fr)::F)) (h0:0≤i) (h1:i<(n:Int)) (x:s.T) (hx:cs[i.toNat]? =some (s.enc x)) (hK:K x):
  au ⟨b,0,none⟩ n i 1 fun q=>Ld (.sc s) q w K:=by
 refine ⟨h0,h1,?_⟩
 rw [ag]
 exact Ld.az h x (by simpa using hx) hK
theorem au.wr {b n:Nat} {cs:Array Value} {t:TypeId} {i:Int} {v:Value} {K:World→Prop} (h:Hp E w (af b (.cells cs t (0,0))::F)) (h0:0≤i) (h1:i<(n:Int)) (hn:cs.size=n) (hv:aA v=true)
  (hK: ∀w',Hp E w' (af b (.cells (cs.setIfInBounds i.toNat v) t (0,0))::F)→K w'):au ⟨b,0,none⟩ n i 1 fun q=>St q v w K:=by
 refine ⟨h0,h1,?_⟩
 rw [ag]
 exact St.az h (by omega) hv (by simpa using hK)
theorem iz.rd {s:Sc} {cs:Array Value} {n:Nat} {i:Int} {K:s.T→Prop} (h0:0≤i) (h1:i<(n:Int)) (x:s.T) (hx:cs[i.toNat]? =some (s.enc x)) (hK:K x):iz s cs n i K:=⟨h0,h1,x,hx,hK⟩
end
def ai (k:IntKind) (l:List Nat):Array Value:=⟨l.map fun (n:Nat)=> .int k (n:Int)⟩
theorem aK {k:IntKind} {l:List Nat}:(ai k l).size=l.length:=by simp [ai]
theorem jS {k:IntKind} {l:List Nat} {i:Nat} (h:i<l.length):(ai k l)[i]? =some (Sc.enc (.int k) (l[i]:Int)):=by simp [ai,h]
theorem da {k:IntKind} {l:List Nat}: ∀v∈(ai k l).toList,aA v=true:=by
 intro v hv
 simp only [ai,List.mem_map] at hv
 obtain ⟨x,_,rfl⟩:=hv
 rfl
theorem zE {k:IntKind} {l:List Nat} {i x:Nat}:(ai k l).setIfInBounds i (.int k (x:Int))=ai k (l.set i x):=by
 unfold ai
 apply Array.ext'
 simp [List.map_set]
theorem rH {k:IntKind} {n:Nat}:(⟨List.replicate n (.int k 0)⟩:Array Value)=ai k (List.replicate n 0):=by
 unfold ai;simp
theorem zb.mk {k:IntKind} {n:Nat} {a b:List Nat} {K:Bool→Prop} (ha:a.length=n) (hb:b.length=n) (h:K (a==b)):zb k n (ai k a) (ai k b) K:=by
 refine ⟨a.map fun (x:Nat)=>(x:Int),b.map fun (x:Nat)=>(x:Int),by simp [ai],by simp [ai],by simpa using ha,by simpa using hb,?_⟩
 have:((a.map fun (x:Nat)=>(x:Int))==(b.map fun (x:Nat)=>(x:Int)))=(a==b):=by
  rw [Bool.eq_iff_iff,beq_iff_eq,beq_iff_eq]
  constructor
  ·intro h
   exact (List.map_inj_right (fun x y h=>by have h:(x:Int)=(y:Int):=h;omega)).1 h
  ·rintro rfl;rfl
 rw [this];exact h
end Go.Vc
namespace Go.Vc
open Go
section
variable {E w w':World} {F G:List HP} {sz:Nat} {s:Sl} {xs ys:List Value}
theorem Hp.zc {l:List HP} (h:Hp E w (l++F)):Hp E w F:=by
 induction l with
 |nil=>exact h
 |cons A l ih=>exact ih h.drop
theorem ad.app {φ:World→Prop} (l:List HP) (ht:ad F φ):ad (l++F) φ:=by
 induction l with
 |nil=>exact ht
 |cons A l ih=>exact ih.cons
theorem ad.H3 {φ:World→Prop} (ht:ad G φ):ad (G++F) φ:=(ht.app F).perm List.perm_append_comm
def dQ (E:World) (F:List HP) (w:World):Prop:= ∃l,Hp E w (l++F)
theorem dQ.mk (h:Hp E w F):dQ E F w:=⟨[],h⟩
theorem dQ.Kf {A:HP} (h:Hp E w (A::F)):dQ E F w:=⟨[A],h⟩
theorem dQ.Us {A B:HP} (h:Hp E w (A::B::F)):dQ E F w:=⟨[A,B],h⟩
theorem dQ.aj {φ:World→Prop} (h:dQ E F w) (ht:ad F φ):φ w:=by
 obtain ⟨l,h⟩:=h
 exact h.aj (ht.app l)
theorem bj.Q6 {lo hi mx:Int} {K:Sl→Prop} (hl:xs.length=s.len*sz) (h0:0≤lo) (h1:lo≤hi) (h2:hi≤(s.len:Int)) (h3:hi≤mx) (h4:mx≤(s.cap:Int))
  (h: ∀s':Sl,(∀w',aH sz s xs w'→aH sz s' ((xs.drop (lo.toNat*sz)).take ((hi.toNat - lo.toNat)*sz)) w')→s'.len=hi.toNat - lo.toNat→s'.len≤s'.cap→K s'):bj s lo hi mx sz K:=by
 refine ⟨h0,h1,h3,h4,h _ (fun w' hs'=> ?_) rfl (by simp only;omega)⟩
 have hm:hi.toNat*sz≤s.len*sz:=Nat.mul_le_mul_right _ (by omega)
 have hsub:(hi.toNat - lo.toNat)*sz=hi.toNat*sz - lo.toNat*sz:=Nat.sub_mul ..
 have hmono:lo.toNat*sz≤hi.toNat*sz:=Nat.mul_le_mul_right _ (by omega)
 have hlen:((xs.drop (lo.toNat*sz)).take ((hi.toNat - lo.toNat)*sz)).length=(hi.toNat - lo.toNat)*sz:=by
  rw [List.length_take,List.length_drop];omega
 refine ⟨hlen,fun i hi'=> ?_⟩
 rw [hlen] at hi'
 obtain ⟨p,hp,hcell⟩:=hs'.2 (lo.toNat*sz+i) (by omega)
 have hne:mx.toNat≠lo.toNat:=by
  intro e
  have:hi.toNat - lo.toNat=0:=by omega
  rw [this] at hi';omega
 refine ⟨p.add (lo.toNat*sz),by simp [hne,hp],?_⟩
 have:(p.add (lo.toNat*sz)).add i=p.add (lo.toNat*sz+i):=by
  unfold Addr.add
  by_cases e1:lo.toNat*sz=0<;>by_cases e2:i=0<;>simp [e1,e2,Nat.add_assoc]
 rw [this,hcell]
 simp
theorem aw.sc {S:World→Prop} {s:Sc} {p:Addr} {K:s.T→Prop} (x:s.T) (hc: ∀w,S w→w.cell? p=some (s.enc x)) (h:K x):aw (.sc s) p S K:=⟨x,hc,h⟩
theorem bj.whole {b n:Nat} {hi mx:Int} {K:Sl→Prop} (hn:0<n) (h1:hi=(n:Int)) (h2:mx=(n:Int)) (h:K ⟨some ⟨b,0,none⟩,n,n⟩):bj ⟨some ⟨b,0,none⟩,n,n⟩ 0 hi mx 1 K:=by
 subst h1;subst h2
 refine ⟨by omega,by omega,by omega,by simp,?_⟩
 have e:(if ((n:Int)).toNat=(0:Int).toNat then (some ⟨b,0,none⟩:Option Addr) else (some ⟨b,0,none⟩:Option Addr).map (·.add ((0:Int).toNat*1)))=some ⟨b,0,none⟩:=by
  rw [if_neg (by simp;omega)];simp [Addr.add]
 rw [e]
 simpa using h
end
section
variable {α:Type} {g:α→List Value} {sz:Nat} {l:List α}
theorem dF (hg: ∀x,(g x).length=sz) (l:List α):(l.flatMap g).length=l.length*sz:=by
 induction l with
 |nil=>simp
 |cons x l ih=>rw [List.flatMap_cons,List.length_append,ih,hg,List.length_cons,Nat.succ_mul];omega
theorem G6 (hg: ∀x,(g x).length=sz): ∀(l:List α) (n:Nat),(l.flatMap g).drop (n*sz)=(l.drop n).flatMap g
 |l,0=>by simp
 | [],n+1=>by simp
 |x::l,n+1=>by
  rw [List.drop_succ_cons,List.flatMap_cons,Nat.succ_mul,Nat.add_comm,←List.drop_drop,←hg x,List.drop_left,hg x]
  exact G6 hg l n
theorem GY (hg: ∀x,(g x).length=sz): ∀(l:List α) (n:Nat),(l.flatMap g).take (n*sz)=(l.take n).flatMap g
 |l,0=>by simp
 | [],n+1=>by simp
 |x::l,n+1=>by
  rw [List.take_succ_cons,List.flatMap_cons,List.flatMap_cons,Nat.succ_mul,Nat.add_comm,List.take_append,hg x,List.take_of_length_le (by rw [hg x];omega),show sz+n*sz - sz=n*sz by omega,GY hg l n]
theorem ns (hg: ∀x,(g x).length=sz): ∀(l:List α) (i j:Nat) (hi:i<l.length),j<sz→(l.flatMap g)[i*sz+j]? =(g l[i])[j]?
 |x::l,0,j,_,hj=>by rw [List.flatMap_cons,List.getElem?_append_left (by rw [hg];omega),Nat.zero_mul,Nat.zero_add];rfl
 |x::l,i+1,j,hi,hj=>by
  rw [List.flatMap_cons,List.getElem?_append_right (by rw [hg,Nat.succ_mul];omega),hg,show (i+1)*sz+j - sz=i*sz+j by rw [Nat.succ_mul];omega,ns hg l i j (by simpa using hi) hj]
  rfl
end
section
variable {E w w':World} {F G:List HP} {sz:Nat} {s:Sl} {α:Type} {g:α→List Value} {l:List α}
theorem ay.el {i:Int} {n:Nat} {K:Addr→Prop} (hg: ∀x,(g x).length=sz) (hz:0<sz) (hs:aH sz s (l.flatMap g) w) (hn:i=(n:Int)) (hi:n<l.length) (h: ∀p,(∀j,j<sz→w.cell? (p.add j)=(g l[n])[j]?)→K p):ay s i sz K:=by
 subst hn
 have hl:=hs.1
 rw [dF hg] at hl
 have hle:l.length=s.len:=Nat.eq_of_mul_eq_mul_right hz hl
 refine ay.Q6 hs hz (by omega) (by omega) fun p hp=>h p fun j hj=> ?_
 have e:=ns hg l n j hi hj
 have hlt:n*sz+j<(l.flatMap g).length:=by
  rw [dF hg]
  have:(n+1)*sz≤l.length*sz:=Nat.mul_le_mul_right _ hi
  rw [Nat.succ_mul] at this;omega
 rw [hp j (by rw [Int.toNat_natCast];exact hlt) hj]
 simp only [Int.toNat_natCast]
 rw [←e,List.getElem?_eq_getElem hlt]
theorem ay.Vi {i:Int} {n:Nat} {K:Addr→Prop} (hg: ∀x,(g x).length=sz) (hz:0<sz) (hh:Hp E w F) (hs:ad F (aH sz s (l.flatMap g))) (hn:i=(n:Int)) (hi:n<l.length) (h: ∀p,(∀j,j<sz→ad F (fun w=>w.cell? (p.add j)=(g l[n])[j]?))→K p):ay s i sz K:=by
 subst hn
 have hl:=(hh.aj hs).1
 rw [dF hg] at hl
 have hle:l.length=s.len:=Nat.eq_of_mul_eq_mul_right hz hl
 refine ay.Ox hh hs hz (by omega) (by omega) fun p hp=>h p fun j hj=>(hp j hj).imp fun w hw=> ?_
 rw [hw,Int.toNat_natCast,ns hg l n j hi hj]
theorem aH.len (hg: ∀x,(g x).length=sz) (hz:0<sz) (hs:aH sz s (l.flatMap g) w):s.len=l.length:=by
 have hl:=hs.1
 rw [dF hg] at hl
 exact (Nat.eq_of_mul_eq_mul_right hz hl).symm
theorem bj.el {lo hi mx:Int} {a b:Nat} {K:Sl→Prop} (hg: ∀x,(g x).length=sz) (hl:s.len=l.length) (ha:lo=(a:Int)) (hb:hi=(b:Int)) (h1:a≤b) (h2:b≤l.length) (h3:hi≤mx) (h4:mx≤(s.cap:Int))
  (h: ∀s':Sl,(∀w',aH sz s (l.flatMap g) w'→aH sz s' (((l.drop a).take (b - a)).flatMap g) w')→s'.len=b - a→s'.len≤s'.cap→K s'):bj s lo hi mx sz K:=by
 subst ha;subst hb
 refine bj.Q6 (xs:=l.flatMap g) (by rw [dF hg,hl]) (by omega) (by omega) (by omega) h3 h4 fun s' hs' hl' hc'=>h s' (fun w' hw'=> ?_) (by simpa using hl') hc'
 have:=hs' w' hw'
 simp only [Int.toNat_natCast] at this
 rw [G6 hg,GY hg] at this
 exact this
theorem yP {S:World→Prop} {p:Addr}: ∀{ks:List Sc} {i:Nat} {K:TT ks→Prop} (x:TT ks) (_: ∀w,S w→∀j (hj:j<(gA ks x).length),w.cell? (p.add (i+j))=some (gA ks x)[j]) (_:K x),Gq S p ks i K
 | [],_,_,_,_,h=>h
 |k::ks,i,K,(x,y),hc,h=>⟨x,fun w hw=>by have:=hc w hw 0 (by simp);simpa using this,yP (ks:=ks) (i:=i+1) y (fun w hw j hj=>by
   have:=hc w hw (j+1) (by simp;omega)
   simpa [Nat.add_assoc,Nat.add_comm 1 j] using this) h⟩
theorem Ld.st {ks:List Sc} {p:Addr} {K:TT ks→Prop} (x:TT ks) (hc: ∀j,j<(gA ks x).length→w.cell? (p.add j)=(gA ks x)[j]?) (h:K x):Ld (.st ks) p w K:=
 yP x (fun w' hw' j hj=>by
  have hw':w'=w:=hw'
  subst hw'
  rw [Nat.zero_add,hc j hj,List.getElem?_eq_getElem hj]) h
theorem Ld.Cf {ks:List Sc} {b:Nat} {cs:Array Value} {t:TypeId} {fr:Nat×Nat} {K:TT ks→Prop} (hh:Hp E w (af b (.cells cs t fr)::F)) (x:TT ks) (hc:cs=⟨gA ks x⟩) (h:K x):Ld (.st ks) ⟨b,0,none⟩ w K:=by
 subst hc
 refine Ld.st x (fun j hj=> ?_) h
 rw [ag,hh.cell];simp
theorem ae.go {b:Nat} {t:TypeId} {K:World→Prop}: ∀(vs:List Value) (i:Nat) (w:World) (c:Array Value),Hp E w (af b (.cells c t (0,0))::F)→i+vs.length=c.size→(∀v∈vs,aA v=true)→
  (∀c' w',c'.toList=c.toList.take i++vs→Hp E w' (af b (.cells c' t (0,0))::F)→K w')→ae ⟨b,0,none⟩ vs i w K
 | [],i,w,c,hh,hi,_,hK=>hK c w (by rw [List.append_nil,List.take_of_length_le (by simp;simp at hi;omega)]) hh
 |v::vs,i,w,c,hh,hi,hv,hK=>by
  have h1:=hv v (by simp)
  simp only [List.length_cons] at hi
  unfold ae
  rw [h1]
  have h2:=hh.setCell (i:=i) v
  refine ⟨?_,?_,?_⟩
  ·rw [ag,hh.cell];simp;omega
  ·rw [ag];simp [World.frozen?,hh.az]
  ·rw [ag,Nat.zero_add]
   refine ae.go vs (i+1) _ _ h2 (by simp;omega) (fun x hx=>hv x (List.mem_cons_of_mem _ hx)) fun c' w' e h3=>hK c' w' ?_ h3
   rw [e,Array.toList_setIfInBounds,List.take_add_one,List.take_set_of_le (by omega)]
   rw [List.getElem?_set_self (by simp;omega)]
   simp
theorem ae.az {b:Nat} {c:Array Value} {t:TypeId} {vs:List Value} {K:World→Prop} (hh:Hp E w (af b (.cells c t (0,0))::F)) (hi:vs.length=c.size) (hv: ∀v∈vs,aA v=true)
  (hK: ∀w',Hp E w' (af b (.cells ⟨vs⟩ t (0,0))::F)→K w'):ae ⟨b,0,none⟩ vs 0 w K:=
 ae.go vs 0 w c hh (by omega) hv fun c' w' e h=>by
  have:c'=⟨vs⟩:=by apply Array.ext';simpa using e
  subst this
  exact hK w' h
theorem HR {P:Program} {t ty e e2:TypeId} {bytes:Nat} {x:α} {cs:Array Value} {K:Sl→World→Prop} (he:cE P t e sz bytes) (hg: ∀x,(g x).length=sz) (hz:0<sz) (hcs:cs=⟨g x⟩) (hsc: ∀y∈g x,aA y=true)
  (hh:Hp E w (av sz s (l.flatMap g)::F)) (hb:(2*(l.length+1)+1024)*bytes≤2^48) (hb2:l.length+1<2^62)
  (h: ∀s' w',Hp E w' (av sz s' ((l++ [x]).flatMap g)::F)→s'.len=l.length+1→K s' w'):
  Nw e2 cs w fun b w1=>ar P (Builtin.append_ #[t,t] ty ⟨[.slice s.base s.len s.cap,.slice (some ⟨b,0,none⟩) 1 1]⟩) kS w1 K:=by
 have hlen:=aH.len hg hz (hh.aj ad.own)
 refine Nw.mk hh fun b w1 h1=> ?_
 refine bf (ys:=g x) (n:=1) he hz (.inl ⟨e,he.und⟩) h1.p1 (.inl ⟨_,_,_,rfl,rfl,h1.aj (ad.az (xs:=g x) (by rw [hcs]) (by rw [hg];simp))⟩) (by rw [hg];simp) hsc (by rw [hlen];exact hb) (by rw [hlen];exact hb2) fun s' w2 h2 hs'=>h s' w2 ?_ (by rw [hs',hlen])
 rw [List.flatMap_append,show [x].flatMap g=g x by simp]
 exact h2.p1.drop
theorem wQ {P:Program} {t ty e:TypeId} {bytes:Nat} {s2:Sl} {ys:List α} {K:Sl→World→Prop} (he:cE P t e sz bytes) (hg: ∀x,(g x).length=sz) (hz:0<sz) (hsc: ∀x,∀y∈g x,aA y=true)
  (hh:Hp E w (av sz s (l.flatMap g)::F)) (hs:aH sz s2 (ys.flatMap g) w) (hb:(2*(l.length+ys.length)+1024)*bytes≤2^48) (hb2:l.length+ys.length<2^62)
  (h: ∀s' w',Hp E w' (av sz s' ((l++ys).flatMap g)::F)→s'.len=l.length+ys.length→K s' w'):
  ar P (Builtin.append_ #[t,t] ty ⟨[.slice s.base s.len s.cap,.slice s2.base s2.len s2.cap]⟩) kS w K:=by
 have hlen:=aH.len hg hz (hh.aj ad.own)
 have hlen2:=aH.len hg hz hs
 refine bf (ys:=ys.flatMap g) (n:=ys.length) he hz (.inl ⟨e,he.und⟩) hh (.inl ⟨_,_,_,rfl,hlen2.symm,hs⟩) (dF hg ys) (fun y hy=> ?_) (by rw [hlen];exact hb) (by rw [hlen];exact hb2) fun s' w2 h2 hs'=>h s' w2 ?_ (by rw [hs',hlen])
 ·obtain ⟨x,_,hx⟩:=List.mem_flatMap.1 hy
  exact hsc x y hx
 ·rw [List.flatMap_append];exact h2
end
end Go.Vc
namespace Go.Vc
open Go
section
variable {E w:World} {F:List HP} {A:HP}
theorem dQ.mem (h:dQ E F w) (hm:A∈F): ∃G,Hp E w (A::G):=by
 obtain ⟨l,h⟩:=h
 obtain ⟨s,t,rfl⟩:=List.append_of_mem hm
 refine ⟨(l++s)++t,?_⟩
 rw [←List.append_assoc] at h
 exact h.perm List.perm_middle
theorem dQ.front (h:dQ E (A::F) w): ∃G,Hp E w (A::G):=h.mem (by simp)
theorem dQ.DE {B:HP} (h:dQ E (A::B::F) w): ∃G,Hp E w (B::G):=h.mem (by simp)
theorem aw.SC {S:World→Prop} {b n:Nat} {cs:Array Value} {t:TypeId} {fr:Nat×Nat} {K:Array Value→Prop} (hS: ∀w,S w→∃G,Hp E w (af b (.cells cs t fr)::G)) (hn:cs.size=n) (hK:K cs):aw (.arr n) ⟨b,0,none⟩ S K:=by
 refine ⟨cs,hn,fun w' hw i hi=> ?_,hK⟩
 obtain ⟨G,h⟩:=hS w' hw
 rw [ag,h.cell,Nat.zero_add]
 simp [hn,hi]
theorem aw.az {S:World→Prop} {s:Sc} {b i:Nat} {c:Array Value} {t:TypeId} {fr:Nat×Nat} {K:s.T→Prop} (hS: ∀w,S w→∃G,Hp E w (af b (.cells c t fr)::G)) (x:s.T) (hx:c[i]? =some (s.enc x)) (hk:K x):aw (.sc s) ⟨b,i,none⟩ S K:=by
 refine aw.sc x (fun w' hw=> ?_) hk
 obtain ⟨G,h⟩:=hS w' hw
 rw [h.cell];exact hx
theorem aw.sub {S:World→Prop} {b n off:Nat} {pre bD post:List Value} {t:TypeId} {fr:Nat×Nat} {K:Array Value→Prop} (hS: ∀w,S w→∃G,Hp E w (af b (.cells ⟨pre++bD++post⟩ t fr)::G)) (ho:pre.length=off) (hn:bD.length=n) (hK:K ⟨bD⟩):aw (.arr n) ⟨b,off,none⟩ S K:=by
 refine ⟨⟨bD⟩,hn,fun w' hw i hi=> ?_,hK⟩
 obtain ⟨G,h⟩:=hS w' hw
 rw [ag,h.cell]
 subst ho
 rw [List.getElem?_toArray,List.append_assoc,List.getElem?_append_right (by omega),List.getElem?_append_left (by omega),show pre.length+i - pre.length=i by omega]
 rw [List.getElem?_eq_getElem (by omega)]
 simp [show i<bD.length by omega]
theorem Ld.sub {b n off:Nat} {pre bD post:List Value} {t:TypeId} {fr:Nat×Nat} {K:Array Value→Prop} (h:Hp E w (af b (.cells ⟨pre++bD++post⟩ t fr)::F)) (ho:pre.length=off) (hn:bD.length=n) (hK:K ⟨bD⟩):Ld (.arr n) ⟨b,off,none⟩ w K:=
 aw.sub (E:=E) (fun w' hw=>⟨F,by rw [hw];exact h⟩) ho hn hK
end
def eo (n:Nat) (f:Nat→Int):Array Value:=⟨(List.range n).map fun j=> .int .i64 (f j)⟩
theorem ey {n:Nat} {f:Nat→Int}:(eo n f).size=n:=by simp [eo]
theorem xd {n:Nat} {f:Nat→Int} {i:Nat} (h:i<n):(eo n f)[i]? =some (Sc.enc (.int .i64) (f i)):=by
 unfold eo
 rw [List.getElem?_toArray,List.getElem?_map,List.getElem?_range h];rfl
theorem tC {n:Nat} {f:Nat→Int} {i:Nat} {v:Int}:(eo n f).setIfInBounds i (.int .i64 v)=eo n fun j=>if j=i then v else f j:=by
 apply Array.ext_getElem?
 intro j
 rw [Array.getElem?_setIfInBounds]
 unfold eo
 simp only [List.getElem?_toArray,List.getElem?_map,List.size_toArray,List.length_map,List.length_range]
 by_cases hj:j<n
 ·rw [List.getElem?_range hj]
  by_cases e:i=j
  ·subst e;simp [hj]
  ·rw [if_neg e];simp [Ne.symm e]
 ·rw [List.getElem?_eq_none (by simpa using hj)]
  by_cases e:i=j
  ·subst e;simp [hj]
  ·simp [e]
theorem gX {n:Nat} {f g:Nat→Int} (h: ∀i,i<n→f i=g i):eo n f=eo n g:=by
 unfold eo
 congr 1
 exact List.map_congr_left fun j hj=>by rw [h j (by simpa using hj)]
theorem Dy {off:Nat}: ∀(vs:List Value) (k:Nat) (pre bD post:List Value),bD.length=vs.length→pre.length=off+k→
  (vs.zipIdx k).foldl (fun (cs:Array Value) (x:Value×Nat)=>cs.setIfInBounds (off+x.2) x.1) ⟨pre++bD++post⟩=⟨pre++vs++post⟩
 | [],k,pre,bD,post,hm,_=>by
  have:bD= []:=List.length_eq_zero_iff.1 hm
  subst this;rfl
 |v::vs,k,pre,bD,post,hm,hp=>by
  obtain ⟨m,bD,rfl⟩: ∃m mid',bD=m::mid':=by
   cases bD with
   |nil=>simp at hm
   |cons m bD=>exact ⟨m,bD,rfl⟩
  rw [List.zipIdx_cons,List.foldl_cons]
  have e:(⟨pre++m::bD++post⟩:Array Value).setIfInBounds (off+k) v=⟨(pre++ [v])++bD++post⟩:=by
   rw [←hp]
   apply Array.ext'
   simp
  show ((vs.zipIdx (k+1)).foldl _ ((⟨pre++m::bD++post⟩:Array Value).setIfInBounds (off+k) v))=_
  rw [e,Dy vs (k+1) (pre++ [v]) bD post (by simpa using hm) (by simp;omega)]
  simp
theorem iQ {place:Nat→Option (Nat×Nat)} {i off size:Nat} {v:Value} {rest:List (Nat×Value)} {pre bD post:List Value} (hpl:place i=some (off,size)) (ho:pre.length=off) (hm:bD.length=size) (hv:v.cells.size=size):
  Instr.fill place ⟨pre++bD++post⟩ ((i,v)::rest)=Instr.fill place ⟨pre++v.cells.toList++post⟩ rest:=by
 rw [Instr.fill,hpl]
 simp only
 rw [if_neg (by simp [hv];omega)]
 congr 1
 rw [←Array.foldl_toList,Array.toList_zipIdx]
 exact Dy (off:=off) v.cells.toList 0 pre bD post (by simp [hm,hv]) (by omega)
end Go.Vc
namespace Go.Vc
open Go
class bC (b:Nat) (l:List HP) (c:outParam (Array Value)) (t:outParam TypeId) (fr:outParam (Nat×Nat)) (put:outParam (Obj→List HP)):Prop where
 perm: ∃r,l.Perm (af b (.cells c t fr)::r)∧∀o,(af b o::r).Perm (put o)
instance bC.head {b:Nat} {l:List HP} {c:Array Value} {t:TypeId} {fr:Nat×Nat}:bC b (af b (.cells c t fr)::l) c t fr (fun o=>af b o::l):=
 ⟨l,.refl _,fun _=> .refl _⟩
instance bC.tail {b:Nat} {A:HP} {l:List HP} {c:Array Value} {t:TypeId} {fr:Nat×Nat} {put:Obj→List HP} [h:bC b l c t fr put]:bC b (A::l) c t fr (fun o=>A::put o):=
 ⟨by
  obtain ⟨r,h1,h2⟩:=h.perm
  exact ⟨A::r,(h1.cons A).trans (.swap ..),fun o=>(List.Perm.swap ..).trans ((h2 o).cons A)⟩⟩
class BJ (n:Nat) (l:List HP) (A:outParam HP) (r:outParam (List HP)):Prop where
 perm:l.Perm (A::r)
instance BJ.zero {A:HP} {l:List HP}:BJ 0 (A::l) A l:=⟨.refl _⟩
instance BJ.succ {n:Nat} {A B:HP} {l r:List HP} [h:BJ n l A r]:BJ (n+1) (B::l) A (B::r):=⟨(h.perm.cons B).trans (.swap ..)⟩
section
variable {E w:World} {l:List HP} {b i:Nat} {c:Array Value} {t:TypeId} {fr:Nat×Nat} {put:Obj→List HP}
theorem Hp.at {A:HP} {r:List HP} (h:Hp E w l) (n:Nat) [hn:BJ n l A r]:Hp E w (A::r):=h.perm hn.perm
theorem Hp.no {A:HP} {r:List HP} (h:Hp E w l) (n:Nat) [hn:BJ n l A r]:Hp E w r:=(h.perm hn.perm).drop
theorem ad.at {A:HP} {r:List HP} {φ:World→Prop} (n:Nat) [hn:BJ n l A r] (ht:ad (A::r) φ):ad l φ:=ht.perm hn.perm.symm
theorem Hp.fb [hf:bC b l c t fr put] (h:Hp E w l):w.heap[b]? =some (.cells c t fr):=by
 obtain ⟨r,h1,_⟩:=hf.perm
 exact (h.perm h1).az
theorem Hp.fc [bC b l c t fr put] (h:Hp E w l):w.cell? ⟨b,i,none⟩=c[i]? :=by
 simp [World.cell?,h.fb]
def br (b:Nat) (c:Array Value) (t:TypeId) (fr:Nat×Nat) (w:World):Prop:=w.heap[b]? =some (.cells c t fr)
theorem Hp.hb [bC b l c t fr put] (h:Hp E w l):br b c t fr w:=h.fb
theorem br.cell (h:br b c t fr w):w.cell? ⟨b,i,none⟩=c[i]? :=by simp [World.cell?,show w.heap[b]? =_ from h]
def Sc.NW:(s:Sc)→Value→Option s.T
 | .int k,.int k' n=>match k==k' with|true=>some n|false=>none
 | .bool,.bool b=>some b
 | .ptr,.pointer p=>some p
 | .sl,.slice b l c=>some ⟨b,l,c⟩
 | .str,.string s=>some s
 | .mp,.map m=>some m
 | .any,v=>some v
 | .addr,.pointer (some p)=>some p
 |_,_=>none
def yH:(l:List Sc)→List Value→Option (TT l)
 | [],_=>some ()
 |s::l,v::vs=>match s.NW v,yH l vs with
  |some x,some y=>some (x,y)
  |_,_=>none
 |_::_,[]=>none
theorem Sc.Na {s:Sc} {v:Value} {x:s.T} (h:s.NW v=some x):v=s.enc x:=by
 cases s<;>cases v<;>simp only [Sc.NW] at h<;>first|cases h;rfl|cases h|skip
 ·rename_i k k' n
  by_cases e:k=k'
  ·subst e;simp at h;subst h;rfl
  ·have:(k==k')=false:=by simpa using e
   rw [this] at h;cases h
 ·rename_i p
  cases p with
  |none=>cases h
  |some p=>simp only [Option.some.injEq] at h;subst h;rfl
theorem BC: ∀{l:List Sc} {vs:List Value} {x:TT l},yH l vs=some x→∃r,vs=gA l x++r
 | [],vs,(),_=>⟨vs,rfl⟩
 |s::l,v::vs,(x,y),h=>by
  simp only [yH] at h
  split at h
  ·rename_i x' y' hx hy
   simp only [Option.some.injEq,Prod.mk.injEq] at h
   obtain ⟨rfl,rfl⟩:=h
   obtain ⟨r,e⟩:=BC hy
   exact ⟨r,by rw [e,Sc.Na hx];rfl⟩
  ·cases h
 |_::_,[],_,h=>by cases h
class j0 (l F:List HP):Prop where
 sub: ∃p,l=p++F
instance j0.refl {F:List HP}:j0 F F:=⟨[],rfl⟩
instance j0.cons {A:HP} {l F:List HP} [h:j0 l F]:j0 (A::l) F:=⟨by obtain ⟨p,e⟩:=h.sub;exact ⟨A::p,by rw [e];rfl⟩⟩
theorem Hp.tl {F:List HP} [h2:j0 l F] (h:Hp E w l):Hp E w F:=by
 obtain ⟨p,e⟩:=h2.sub
 subst e;exact h.zc
theorem ek {α β:Type} {K:α→β→Prop} {a a':α} {w:β} (e:a=a') (h:K a' w):K a w:=e▸h
theorem aa.yes {b:Bool} {X Y:Prop} (k:X) (h:b=true:=by with_reducible first|rfl|exact decide_eq_true (by omega)|exact beq_iff_eq.2 (by omega)|exact bne_iff_ne.2 (by omega)|exact Bool.not_false|exact Bool.not_eq_true' _▸decide_eq_false (by omega)):aa b X Y:=aa.t h k
theorem aa.no {b:Bool} {X Y:Prop} (k:Y) (h:b=false:=by with_reducible first|rfl|exact decide_eq_false (by omega)|exact beq_eq_false_iff_ne.2 (by omega)|exact bne_eq_false_iff_eq.2 (by omega)|exact Bool.not_true|exact Bool.not_eq_false' _▸decide_eq_true (by omega)):aa b X Y:=aa.f h k
theorem aa.dt {p:Prop} [Decidable p] {X Y:Prop} (hp:p) (h:X):aa (decide p) X Y:=aa.t (decide_eq_true hp) h
theorem aa.df {p:Prop} [Decidable p] {X Y:Prop} (hp: ¬p) (h:Y):aa (decide p) X Y:=aa.f (decide_eq_false hp) h
theorem aa.Oz {p:Prop} [Decidable p] {X Y:Prop} (hp:p) (h:Y):aa (!decide p) X Y:=aa.f (by rw [decide_eq_true hp];rfl) h
theorem aa.yD {X Y:Prop} (h:Y):aa (!true) X Y:=h
theorem aa.So {X Y:Prop} (h:X):aa (!false) X Y:=h
theorem aa.et {a b:Int} {X Y:Prop} (hp:a=b) (h:X):aa (a==b) X Y:=aa.t (beq_iff_eq.2 hp) h
theorem aa.ef {a b:Int} {X Y:Prop} (hp: ¬a=b) (h:Y):aa (a==b) X Y:=aa.f (beq_eq_false_iff_ne.2 hp) h
theorem aa.nt {a b:Int} {X Y:Prop} (hp: ¬a=b) (h:X):aa (a !=b) X Y:=aa.t (bne_iff_ne.2 hp) h
theorem aa.nf {a b:Int} {X Y:Prop} (hp:a=b) (h:Y):aa (a !=b) X Y:=aa.f (bne_eq_false_iff_eq.2 hp) h
theorem aa.dm {p:Prop} [Decidable p] {X Y:Prop} (h1:p→X) (h2: ¬p→Y):aa (decide p) X Y:=aa.mk (fun h=>h1 (of_decide_eq_true h)) (fun h=>h2 (of_decide_eq_false h))
theorem aa.em {a b:Int} {X Y:Prop} (h1:a=b→X) (h2: ¬a=b→Y):aa (a==b) X Y:=aa.mk (fun h=>h1 (beq_iff_eq.1 h)) (fun h=>h2 (beq_eq_false_iff_ne.1 h))
theorem aa.nm {a b:Int} {X Y:Prop} (h1: ¬a=b→X) (h2:a=b→Y):aa (a !=b) X Y:=aa.mk (fun h=>h1 (bne_iff_ne.1 h)) (fun h=>h2 (bne_eq_false_iff_eq.1 h))
theorem aw.xb {S:World→Prop} {s:Sc} {K:s.T→Prop} {x:s.T} (hS: ∀w,S w→br b c t fr w) (hx:c.toList[i]? =some (s.enc x)) (hK:K x):aw (.sc s) ⟨b,i,none⟩ S K:=
 ⟨x,fun w hw=>by rw [(hS w hw).cell];rw [←hx];simp,hK⟩
theorem aw.xt {S:World→Prop} {ks:List Sc} {K:TT ks→Prop} {x:TT ks} (hS: ∀w,S w→br b c t fr w) (hx:yH ks (c.toList.drop i)=some x) (hK:K x):aw (.st ks) ⟨b,i,none⟩ S K:=by
 obtain ⟨r,e⟩:=BC hx
 refine yP x (fun w hw j hj=> ?_) hK
 rw [Nat.zero_add,ag,(hS w hw).cell]
 have h1:(c.toList.drop i)[j]? =(gA ks x)[j]? :=by rw [e,List.getElem?_append_left hj]
 rw [List.getElem?_drop,List.getElem?_eq_getElem hj] at h1
 rw [←h1];simp
theorem aw.xa {S:World→Prop} {n:Nat} {bD post:List Value} {K:Array Value→Prop} (hS: ∀w,S w→br b c t fr w) (hx:c.toList.drop i=bD++post) (hn:bD.length=n) (hK:K ⟨bD⟩):aw (.arr n) ⟨b,i,none⟩ S K:=by
 refine ⟨⟨bD⟩,hn,fun w hw j hj=> ?_,hK⟩
 rw [ag,(hS w hw).cell]
 have h1:(c.toList.drop i)[j]? =bD[j]? :=by rw [hx,List.getElem?_append_left (by omega)]
 rw [List.getElem?_drop] at h1
 rw [show c[i+j]? =c.toList[i+j]? by simp,h1]
 simp [show j<bD.length by omega]
theorem Ld.xb {s:Sc} {K:s.T→Prop} {x:s.T} [bC b l c t fr put] (h:Hp E w l) (hx:c.toList[i]? =some (s.enc x)) (hK:K x):Ld (.sc s) ⟨b,i,none⟩ w K:=aw.xb (fun w' hw=>by rw [hw];exact h.fb) hx hK
theorem Ld.xt {ks:List Sc} {K:TT ks→Prop} {x:TT ks} [bC b l c t fr put] (h:Hp E w l) (hx:yH ks (c.toList.drop i)=some x) (hK:K x):Ld (.st ks) ⟨b,i,none⟩ w K:=aw.xt (fun w' hw=>by rw [hw];exact h.fb) hx hK
theorem Ld.xa {n:Nat} {bD post:List Value} {K:Array Value→Prop} [bC b l c t fr put] (h:Hp E w l) (hx:c.toList.drop i=bD++post) (hn:bD.length=n) (hK:K ⟨bD⟩):Ld (.arr n) ⟨b,i,none⟩ w K:=aw.xa (fun w' hw=>by rw [hw];exact h.fb) hx hn hK
theorem Ld.xw {n:Nat} {K:Array Value→Prop} [bC b l c t fr put] (h:Hp E w l) (hn:c.size=n) (hK:K c):Ld (.arr n) ⟨b,0,none⟩ w K:=
 Ld.xa (bD:=c.toList) (post:= []) h (by simp) (by simpa using hn) (by simpa using hK)
theorem aw.xw {S:World→Prop} {n:Nat} {K:Array Value→Prop} (hS: ∀w,S w→br b c t fr w) (hn:c.size=n) (hK:K c):aw (.arr n) ⟨b,0,none⟩ S K:=
 aw.xa (bD:=c.toList) (post:= []) hS (by simp) (by simpa using hn) (by simpa using hK)
theorem ae.Ut {b:Nat} {t:TypeId} {F:List HP} {K:World→Prop}: ∀(vs:List Value) (i o:Nat) (w:World) (c:Array Value),Hp E w (af b (.cells c t (0,0))::F)→o+i+vs.length≤c.size→(∀v∈vs,aA v=true)→
  (∀c' w',c'.toList=c.toList.take (o+i)++vs++c.toList.drop (o+i+vs.length)→Hp E w' (af b (.cells c' t (0,0))::F)→K w')→ae ⟨b,o,none⟩ vs i w K
 | [],i,o,w,c,hh,hi,_,hK=>hK c w (by simp) hh
 |v::vs,i,o,w,c,hh,hi,hv,hK=>by
  have h1:=hv v (by simp)
  simp only [List.length_cons] at hi
  unfold ae
  rw [h1]
  have h2:=hh.setCell (i:=o+i) v
  refine ⟨?_,?_,?_⟩
  ·rw [ag,hh.cell];simp;omega
  ·rw [ag];simp [World.frozen?,hh.az]
  ·rw [ag]
   refine ae.Ut vs (i+1) o _ _ h2 (by simp;omega) (fun x hx=>hv x (List.mem_cons_of_mem _ hx)) fun c' w' e h3=>hK c' w' ?_ h3
   rw [e,Array.toList_setIfInBounds,show o+(i+1)=o+i+1 by omega,List.take_add_one,List.take_set_of_le (by omega)]
   rw [List.getElem?_set_self (by simp;omega)]
   rw [List.drop_set_of_lt (by omega),List.length_cons]
   simp only [Option.toList_some,List.append_assoc,List.cons_append,List.nil_append]
   rw [show o+i+1+vs.length=o+i+(vs.length+1) by omega]
theorem ae.xm {o:Nat} {vs pre bD post:List Value} {K:World→Prop} [hf:bC b l c t (0,0) put] (h:Hp E w l) (hc:c.toList=pre++(bD++post)) (ho:pre.length=o) (hn:bD.length=vs.length) (hv:vs.all aA=true)
  (hK: ∀w',Hp E w' (put (.cells ⟨pre++(vs++post)⟩ t (0,0)))→K w'):ae ⟨b,o,none⟩ vs 0 w K:=by
 obtain ⟨r,h1,h2⟩:=hf.perm
 have hs:c.size=pre.length+(bD.length+post.length):=by rw [←Array.length_toList,hc];simp
 refine ae.Ut vs 0 o w c (h.perm h1) (by omega) (List.all_eq_true.1 hv) fun c' w' e h'=>hK w' ?_
 have:c'=⟨pre++(vs++post)⟩:=by
  apply Array.ext'
  rw [e,hc,Nat.add_zero,←ho,List.take_left,←hn,←List.length_append,←List.append_assoc,List.drop_left,List.append_assoc]
 rw [this] at h'
 exact h'.perm (h2 _)
theorem ae.xw {vs:List Value} {K:World→Prop} [hf:bC b l c t (0,0) put] (h:Hp E w l) (hn:vs.length=c.size) (hv:vs.all aA=true)
  (hK: ∀w',Hp E w' (put (.cells ⟨vs⟩ t (0,0)))→K w'):ae ⟨b,0,none⟩ vs 0 w K:=
 ae.xm (pre:= []) (bD:=c.toList) (post:= []) h (by simp) rfl (by simpa using hn.symm) hv (by simpa using hK)
theorem St.xb {o:Nat} {v:Value} {K:World→Prop} [hf:bC b l c t (0,0) put] (h:Hp E w l) (hi:o<c.size) (hv:aA v=true)
  (hK: ∀w',Hp E w' (put (.cells (c.setIfInBounds o v) t (0,0)))→K w'):St ⟨b,o,none⟩ v w K:=by
 obtain ⟨r,h1,h2⟩:=hf.perm
 exact St.mk rfl (h.perm h1) hi hv fun w' h'=>hK w' (h'.perm (h2 _))
theorem St.xm {o:Nat} {v u:Value} {pre post:List Value} {K:World→Prop} [hf:bC b l c t (0,0) put] (h:Hp E w l) (hc:c.toList=pre++(u::post)) (ho:pre.length=o) (hv:aA v=true)
  (hK: ∀w',Hp E w' (put (.cells ⟨pre++(v::post)⟩ t (0,0)))→K w'):St ⟨b,o,none⟩ v w K:=by
 refine St.xb h ?_ hv fun w' h'=>hK w' ?_
 ·rw [←Array.length_toList,hc];simp;omega
 ·have:c.setIfInBounds o v=⟨pre++(v::post)⟩:=by
   apply Array.ext'
   rw [Array.toList_setIfInBounds,hc,←ho]
   simp
  rwa [this] at h'
def aq:List Value→List Value→List Value
 | [],l=>l
 |_::_,[]=> []
 |v::vs,_::l=>v::aq vs l
def aP:List Value→Nat→List Value→List Value
 |l,0,vs=>aq vs l
 |a::l,o+1,vs=>a::aP l o vs
 | [],_+1,_=> []
theorem GF: ∀{l vs:List Value},vs.length≤l.length→aq vs l=vs++l.drop vs.length
 |_,[],_=>rfl
 | [],_::_,h=>by simp at h
 |a::l,v::vs,h=>by
  rw [aq,GF (by simpa using h)];rfl
theorem Ds: ∀{l:List Value} {o:Nat} {vs:List Value},o+vs.length≤l.length→aP l o vs=l.take o++(vs++l.drop (o+vs.length))
 |l,0,vs,h=>by
  have:aP l 0 vs=aq vs l:=by cases l<;>rfl
  rw [this,GF (by omega)];simp
 |a::l,o+1,vs,h=>by
  rw [aP,Ds (by simp at h;omega),show o+1+vs.length=o+vs.length+1 by omega];rfl
 | [],o+1,vs,h=>by simp at h
theorem ae.xs {o:Nat} {vs:List Value} {K:World→Prop} [hf:bC b l c t (0,0) put] (h:Hp E w l) (hb:Nat.ble (o+vs.length) c.toList.length=true) (hv:vs.all aA=true)
  (hK: ∀w',Hp E w' (put (.cells ⟨aP c.toList o vs⟩ t (0,0)))→K w'):ae ⟨b,o,none⟩ vs 0 w K:=by
 have hb:=Nat.le_of_ble_eq_true hb
 rw [Ds hb] at hK
 refine ae.xm (bD:=(c.toList.drop o).take vs.length) h ?_ (by simp;simp at hb;omega) (by simp;simp at hb;omega) hv hK
 rw [←List.drop_drop,List.take_append_drop,List.take_append_drop]
theorem St.xs {o:Nat} {v:Value} {K:World→Prop} [hf:bC b l c t (0,0) put] (h:Hp E w l) (hb:Nat.ble (o+1) c.toList.length=true) (hv:aA v=true)
  (hK: ∀w',Hp E w' (put (.cells ⟨aP c.toList o [v]⟩ t (0,0)))→K w'):St ⟨b,o,none⟩ v w K:=by
 have hb:=Nat.le_of_ble_eq_true hb
 have hb2:o<c.toList.length:=by omega
 rw [Ds (by simpa using hb)] at hK
 refine St.xm (u:=c.toList[o]'hb2) (pre:=c.toList.take o) (post:=c.toList.drop (o+1)) h ?_ (by simp;simp at hb;omega) hv (by simpa using hK)
 rw [List.getElem_cons_drop,List.take_append_drop]
theorem ak.xm {n o:Nat} {cs:Array Value} {pre bD post:List Value} {K:World→Prop} [hf:bC b l c t (0,0) put] (h:Hp E w l) (hc:c.toList=pre++(bD++post)) (ho:pre.length=o) (hn:bD.length=n) (hcs:cs.size=n) (hv: ∀v∈cs.toList,aA v=true)
  (hK: ∀w',Hp E w' (put (.cells ⟨pre++(cs.toList++post)⟩ t (0,0)))→K w'):ak n ⟨b,o,none⟩ cs w K:=by
 obtain ⟨r,h1,h2⟩:=hf.perm
 have hh:=h.perm h1
 have hs:c.size=pre.length+(bD.length+post.length):=by rw [←Array.length_toList,hc];simp
 refine ⟨hcs,fun i hi=>⟨?_,?_,?_⟩,?_⟩
 ·have:cs.getD i undef∈cs.toList:=by simp [Array.getD,hcs,hi]
  exact hv _ this
 ·rw [ag,hh.cell];simp;omega
 ·rw [ag];simp [World.frozen?,hh.az]
 ·have key: ∀(vs:List Value) (i:Nat) (w:World) (c:Array Value),Hp E w (af b (.cells c t (0,0))::r)→o+i+vs.length≤c.size→
    Hp E (ak.setRow w ⟨b,o,none⟩ vs i) (af b (.cells ⟨c.toList.take (o+i)++vs++c.toList.drop (o+i+vs.length)⟩ t (0,0))::r):=by
   intro vs
   induction vs with
   |nil=>intro i w c hh hi;simpa [ak.setRow] using hh
   |cons v vs ih=>
    intro i w c hh hi
    simp only [List.length_cons] at hi
    have h2:=hh.setCell (i:=o+i) v
    have:=ih (i+1) _ _ h2 (by simp;omega)
    unfold ak.setRow
    rw [ag]
    rw [Array.toList_setIfInBounds,show o+(i+1)=o+i+1 by omega,List.take_add_one,List.take_set_of_le (by omega),List.getElem?_set_self (by simp;omega),List.drop_set_of_lt (by omega)] at this
    rw [List.length_cons,show o+i+(vs.length+1)=o+i+1+vs.length by omega]
    simpa using this
  have:=key cs.toList 0 w c hh (by rw [Array.length_toList];omega)
  refine hK _ ((this.perm (h2 _)).perm (by
   rw [hc,Nat.add_zero,←ho,List.take_left,show cs.toList.length=bD.length by simp;omega,←List.length_append,←List.append_assoc,List.drop_left,List.append_assoc]))
theorem ak.xw {n:Nat} {cs:Array Value} {K:World→Prop} [hf:bC b l c t (0,0) put] (h:Hp E w l) (hn:c.size=n) (hcs:cs.size=n) (hv: ∀v∈cs.toList,aA v=true)
  (hK: ∀w',Hp E w' (put (.cells cs t (0,0)))→K w'):ak n ⟨b,0,none⟩ cs w K:=
 ak.xm (pre:= []) (bD:=c.toList) (post:= []) h (by simp) rfl (by simpa using hn) hcs hv (by simpa using hK)
end
end Go.Vc
namespace Go.Vc
open Go
section
variable {E w:World} {l:List HP} {b n k o:Nat} {L r:List Value} {t:TypeId} {fr:Nat×Nat} {put:Obj→List HP}
theorem lD (hL:L.length=n):(L++r)[k+n]? =r[k]? :=by
 rw [List.getElem?_append_right (by omega)]
 congr 1;omega
theorem GA: ∀{L r:List Value} {n k:Nat} {vs:List Value},L.length=n→aP (L++r) (k+n) vs=L++aP r k vs
 | [],r,n,k,vs,h=>by
  have:n=0:=by simpa using h.symm
  subst this;rfl
 |a::L,r,n,k,vs,h=>by
  obtain ⟨m,rfl⟩: ∃m,n=m+1:=⟨L.length,by simpa using h.symm⟩
  rw [show k+(m+1)=(k+m)+1 by omega,List.cons_append,aP,GA (by simpa using h)]
  rfl
theorem aw.q {S:World→Prop} {s:Sc} {K:s.T→Prop} {x:s.T} (hS: ∀w,S w→br b ⟨L++r⟩ t fr w) (hL:L.length=n) (ho:o=k+n) (hx:r[k]? =some (s.enc x)) (hK:K x):aw (.sc s) ⟨b,o,none⟩ S K:=by
 subst ho
 exact aw.xb hS ((lD hL).trans hx) hK
theorem Ld.q {s:Sc} {K:s.T→Prop} {x:s.T} [bC b l ⟨L++r⟩ t fr put] (h:Hp E w l) (hL:L.length=n) (ho:o=k+n) (hx:r[k]? =some (s.enc x)) (hK:K x):Ld (.sc s) ⟨b,o,none⟩ w K:=
 aw.q (fun w' hw=>by rw [hw];exact h.fb) hL ho hx hK
theorem aw.p {S:World→Prop} {K:Array Value→Prop} (hS: ∀w,S w→br b ⟨L++r⟩ t fr w) (hL:L.length=n) (hK:K ⟨L⟩):aw (.arr n) ⟨b,0,none⟩ S K:=
 aw.xa (bD:=L) (post:=r) hS rfl hL hK
theorem Ld.p {K:Array Value→Prop} [bC b l ⟨L++r⟩ t fr put] (h:Hp E w l) (hL:L.length=n) (hK:K ⟨L⟩):Ld (.arr n) ⟨b,0,none⟩ w K:=
 aw.p (fun w' hw=>by rw [hw];exact h.fb) hL hK
theorem Ld.qw {m:Nat} {K:Array Value→Prop} [bC b l ⟨L++r⟩ t fr put] (h:Hp E w l) (hL:L.length=n) (hm:n+r.length=m) (hK:K ⟨L++r⟩):Ld (.arr m) ⟨b,0,none⟩ w K:=
 Ld.xw h (by simp [hL,hm]) hK
theorem aw.qw {S:World→Prop} {m:Nat} {K:Array Value→Prop} (hS: ∀w,S w→br b ⟨L++r⟩ t fr w) (hL:L.length=n) (hm:n+r.length=m) (hK:K ⟨L++r⟩):aw (.arr m) ⟨b,0,none⟩ S K:=
 aw.xw hS (by simp [hL,hm]) hK
theorem St.q {v:Value} {K:World→Prop} [bC b l ⟨L++r⟩ t (0,0) put] (h:Hp E w l) (hL:L.length=n) (ho:o=k+n) (hb:Nat.ble (k+1) r.length=true) (hv:aA v=true)
  (hK: ∀w',Hp E w' (put (.cells ⟨L++aP r k [v]⟩ t (0,0)))→K w'):St ⟨b,o,none⟩ v w K:=by
 subst ho
 have hb':=Nat.le_of_ble_eq_true hb
 refine St.xs h (Nat.ble_eq_true_of_le (by simp;omega)) hv fun w' h'=>hK w' ?_
 rw [show (⟨L++r⟩:Array Value).toList=L++r from rfl,GA hL] at h'
 exact h'
theorem ak.q {m:Nat} {cs:Array Value} {c:Array Value} {K:World→Prop} [bC b l c t (0,0) put] (h:Hp E w l) (hc:c.size=m) (hcs:cs.size=m) (hv:cs.toList.all aA=true)
  (hK: ∀w',Hp E w' (put (.cells cs t (0,0)))→K w'):ak m ⟨b,0,none⟩ cs w K:=ak.xw h hc hcs (List.all_eq_true.1 hv) hK
theorem St.g {v:Value} {K:World→Prop} [bC b l ⟨L++r⟩ t (0,0) put] (h:Hp E w l) (ho:o<L.length) (hv:aA v=true)
  (hK: ∀w',Hp E w' (put (.cells ⟨L.set o v++r⟩ t (0,0)))→K w'):St ⟨b,o,none⟩ v w K:=by
 refine St.xb h (by simp;omega) hv fun w' h'=>hK w' ?_
 have:(⟨L++r⟩:Array Value).setIfInBounds o v=⟨L.set o v++r⟩:=by
  apply Array.ext'
  rw [Array.toList_setIfInBounds,List.set_append_left _ _ ho]
 rwa [this] at h'
theorem Ld.g {s:Sc} {K:s.T→Prop} {x:s.T} [bC b l ⟨L++r⟩ t fr put] (h:Hp E w l) (hx:L[o]? =some (s.enc x)) (hK:K x):Ld (.sc s) ⟨b,o,none⟩ w K:=by
 refine Ld.xb h ?_ hK
 have:o<L.length:=by
  rcases Nat.lt_or_ge o L.length with h|h
  ·exact h
  ·rw [List.getElem?_eq_none h] at hx;cases hx
 rw [show (⟨L++r⟩:Array Value).toList=L++r from rfl,List.getElem?_append_left this,hx]
end
end Go.Vc
namespace Go.Vc
open Go
section
variable {P:Program} {E w:World} {l:List HP} {b o:Nat} {c:Array Value} {t:TypeId} {fr:Nat×Nat} {put:Obj→List HP}
theorem Hp.OS {F:List HP} {cs:Array Value} {fr:Nat×Nat} (h:Hp E w (af b (.cells c t fr)::F)):Hp E (w.setRow b cs) (af b (.cells cs t fr)::F):=by
 have hb:=h.az
 refine h.setObj (o':= .cells cs t fr) ?_ rfl rfl rfl
 apply Array.ext_getElem?
 intro r
 have hlt:b<w.heap.size:=by
  rcases Nat.lt_or_ge b w.heap.size with hh|hh
  ·exact hh
  ·simp [Array.getElem?_eq_none hh] at hb
 simp only [World.setRow,Array.getElem?_modify,Array.set!_eq_setIfInBounds,Array.getElem?_setIfInBounds]
 by_cases hr:b=r
 ·subst hr
  have hv:w.heap[b]= .cells c t fr:=by simpa [hlt] using hb
  simp [hlt,hv]
 ·simp [hr]
theorem nw {dT sT ty e:TypeId} {dLen dCap:Nat} {s:Sl} {ys:List Value} {K:Int→World→Prop} [hf:bC b l c t (0,0) put] (hu:P.underlying dT=some (.slice e)) (hs:(P.info? e).map (·.size)=some 1)
  (h:Hp E w l) (hsrc:aH 1 s ys w) (hsc: ∀v∈ys,aA v=true) (hfit:o+dLen≤c.size)
  (hK: ∀w',Hp E w' (put (.cells ⟨c.toList.take o++(ys.take dLen++c.toList.drop (o+min ys.length dLen))⟩ t (0,0)))→K ((min ys.length dLen:Nat):Int) w'):
  ar P (Builtin.copy_ #[dT,sT] ty ⟨[.slice (some ⟨b,o,none⟩) dLen dCap,.slice s.base s.len s.cap]⟩) kI w K:=by
 have hl:=hsrc.1
 rw [Nat.mul_one] at hl
 obtain ⟨r,h1,h2⟩:=hf.perm
 have hh:=h.perm h1
 unfold ar
 by_cases h0:min ys.length dLen=0
 ·rw [show (⟨[.slice (some ⟨b,o,none⟩) dLen dCap,.slice s.base s.len s.cap]⟩:Array Value)= #[.slice (some ⟨b,o,none⟩) dLen dCap,.slice s.base s.len s.cap] from rfl,run_copy_none (P:=P) w dT sT ty e _ _ _ _ _ _ hu hs (by rw [←hl];exact h0)]
  have hk:=hK w
  rw [h0] at hk
  have e1:ys.take dLen= []:=by
   rcases Nat.eq_zero_or_pos dLen with hd|hd
   ·rw [hd];rfl
   ·have:ys= []:=List.length_eq_zero_iff.1 (by omega)
    rw [this];simp
  rw [e1,List.nil_append,Nat.add_zero,List.take_append_drop] at hk
  exact hk (hh.perm (by have:=h2 (.cells c t (0,0));simpa using this))
 ·have hpos:0<ys.length:=by omega
  obtain ⟨p,hp,_⟩:=hsrc.2 0 hpos
  rw [hp]
  have hmin:(ys.take dLen).length=Nat.min s.len dLen:=by
   rw [List.length_take,←hl,Nat.min_comm]
  have:=run_copy_row (P:=P) w dT sT ty e b o dLen dCap p s.len s.cap c t (ys.take dLen) hu hs hh.az hmin (fun j v hv=> ?_) (by
   rw [List.length_take];omega) (fun v hv=>oq (hsc v (List.mem_of_mem_take hv)))
  ·rw [show (⟨[.slice (some ⟨b,o,none⟩) dLen dCap,.slice (some p) s.len s.cap]⟩:Array Value)= #[.slice (some ⟨b,o,none⟩) dLen dCap,.slice (some p) s.len s.cap] from rfl,this]
   have hlen:(ys.take dLen).length=min ys.length dLen:=by rw [List.length_take,Nat.min_comm]
   rw [hlen,List.append_assoc]
   exact hK _ ((hh.OS).perm (h2 _))
  ·have hj:j<(ys.take dLen).length:=by
    rcases Nat.lt_or_ge j (ys.take dLen).length with h|h
    ·exact h
    ·rw [List.getElem?_eq_none h] at hv;cases hv
   rw [List.length_take] at hj
   obtain ⟨p',hp',hc⟩:=hsrc.2 j (by omega)
   rw [hp] at hp'
   cases hp'
   rw [hc]
   rw [List.getElem?_take_of_lt (by omega),List.getElem?_eq_getElem (by omega)] at hv
   exact hv
end
end Go.Vc
namespace Go.Proofs.YtgglghjnakclmaaGreat
open Go Go.Vc
set_option maxRecDepth 100000
theorem FH.ok (a:Sl) (R:Sl→World→Prop) w (h:
 aa (Option.isNone (a).base)
 (R (⟨none,0,0⟩:Sl) w)
 (Nw 5 ⟨[]⟩ w fun c b=>
 ar Pg (Builtin.append_ #[26,26] 26 ⟨[(an (⟨some ⟨c,0,none⟩,0,0⟩:Sl)),(an a)]⟩) kS b fun (e:Sl) d=>
 R e d)):Cl Pg [kS] nW ⟨[(an a)]⟩ w R:=co Tryz.f204 [] h
theorem EB.ok (a:Sl) (b:Int) (R:Sl→World→Prop) w (h:
 aa (b==0)
 (Nw 5 ⟨[]⟩ w fun d c=>
 R (⟨some ⟨d,0,none⟩,0,0⟩:Sl) c)
 (aQ (fun (g:World)=>
 Cl Pg [(ao .u64),(ao .u64)] l0 ⟨[(.int .u64 (u64 (a.len:Int))),(.int .u64 (u64 b))]⟩ g fun (i:Int) (j:Int) h=>
 aQ (fun (n:World)=>
 aa ((a.len:Int)==0)
 (Nw 5 ⟨[]⟩ n fun p o=>
 R (⟨some ⟨p,0,none⟩,0,0⟩:Sl) o)
 (aQ (fun (r:Int) (s:World)=>
 Ext Pg cM ⟨[(ni (i64 j))]⟩ [kS] s fun (u:Sl) t=>
 bj u 0 (i64 j) (i64 j) 1 fun v=>
 ar Pg (Builtin.copy_ #[26,26] 3 ⟨[(an v),(an a)]⟩) kI t fun (y:Int) x=>
 ee y x fun z a1 (b1:Int) c1=>
 aa (decide (b1<(i64 j)))
 (aY c1 fun d1=>
 bj v b1 (v).len (v).cap 1 fun e1=>
 bj v 0 (if r<b1 then r else b1) (v).cap 1 fun f1=>
 ar Pg (Builtin.copy_ #[26,26] 3 ⟨[(an e1),(an f1)]⟩) kI d1 fun (h1:Int) g1=>
 z (i64 (b1+h1)) g1∧a1 (i64 (b1+h1)) g1<a1 b1 c1)
 (R v c1)) fun q=>
 aa (decide ((i64 j)>8192))
 ((a.len:Int)≠0∧
 aa ((i64 ((i64 (Int.tdiv (8192:Int) (a.len:Int)))*(a.len:Int)))==0)
 (q (a.len:Int) n)
 (q (i64 ((i64 (Int.tdiv (8192:Int) (a.len:Int)))*(a.len:Int))) n))
 (q (i64 j) n))) fun k=>
 aa (decide (i>0))
 (False)
 (aa (decide (j>9223372036854775807))
 (False)
 (k h))) fun e=>
 aa (decide (b<0))
 (False)
 (e w))):Cl Pg [kS] mH ⟨[(an a),(ni b)]⟩ w R:=co Tryz.f292 [(7,[]),(13,[]),(26,[(8,kI)]),(39,[(10,kI)])] h
end Go.Proofs.YtgglghjnakclmaaGreat
namespace Go.Vc
open Go
section
variable {E w:World} {F:List HP}
end
end Go.Vc
namespace Go.Proofs.YtgglghjnakclmaaGreat
open Go Go.Vc
section
variable {E w:World} {F:List HP}
theorem Jb:cE Tryz.prog 26 5 1 1:=cE.of (by kernel_rfl) (by kernel_rfl)
theorem Qa {s:Sl} {bs:List Nat} {K:Sl→World→Prop} (h:Hp E w F) (hs:ad F (aH 1 s (bs.map vB))) (hb:bs.length≤2*du) (hK: ∀s' w',Hp E w' (av 1 s' (bs.map vB)::F)→K s' w'):
  Cl Tryz.prog [kS] nW ⟨[.slice s.base s.len s.cap]⟩ w K:=by
 refine FH.ok _ _ _ ?_
 have hl:bs.length=s.len:=by have:=(h.aj hs).1;simpa using this
 rw [aX] at hb
 cases hsb:s.base with
 |none=>
  have:bs= []:=by
   cases bs with
   |nil=>rfl
   |cons x bs=>
    obtain ⟨p,hp,_⟩:=(h.aj hs).2 0 (by simp)
    rw [hsb] at hp;cases hp
  subst this
  exact aa.t rfl (hK _ _ (h.aU 1))
 |some p=>
  refine aa.f rfl (Nw.mk h fun b w h=> ?_)
  have h2:=Hp.fS (n:=0) (sz:=1) h (by simp)
  have hsrc:Src 1 s.len (.slice s.base s.len s.cap) (bs.map vB) w:= .inl ⟨s.base,s.len,s.cap,rfl,rfl,h2.drop.aj hs⟩
  refine bf (s:=⟨some ⟨b,0,none⟩,0,0⟩) Jb (by decide) (.inl ⟨5,by kernel_rfl⟩) h2 hsrc (by simp [hl]) jg (by simp only;omega) (by simp only;omega) fun s' w' h3 _=>hK s' w' ?_
  simpa using h3
end
end Go.Proofs.YtgglghjnakclmaaGreat
namespace Go.Vc
open Go
section
variable {E w:World} {F A:List HP}
theorem Hp.put {b:Nat} {o:Obj} (h:Hp E w (af b o::F)) (o':Obj):Hp E (w.putObj b o') (af b o'::F):=h.setObj rfl rfl rfl rfl
end
end Go.Vc
namespace Go.Vc
open Go
section
variable {E w:World} {F A:List HP}
def OR {α:Type} (X:α→Prop) (L:α→List HP):HP:=fun f=> ∃x,X x∧Sat (L x) f
theorem Hp.ex {α:Type} {X:α→Prop} {L:α→List HP} (h:Hp E w (OR X L::F)): ∃x,X x∧Hp E w (L x++F):=h.IE fun _ hf=>hf
theorem Hp.Sz {α:Type} {X:α→Prop} {L:α→List HP} (x:α) (hx:X x) (h:Hp E w (L x++F)):Hp E w (OR X L::F):=h.H9 fun _ hf=>⟨x,hx,hf⟩
end
end Go.Vc
namespace Go.Vc
open Go
def gQ (f:Nat→Nat) (N:Nat):Array Value:=⟨(List.range N).map fun i=>vB (f i)⟩
theorem tG (f:Nat→Nat) (N:Nat):(gQ f N).size=N:=by simp [gQ]
theorem As {f:Nat→Nat} {N i:Nat} (h:i<N):(gQ f N).toList[i]? =some (Sc.enc (.int .u8) (f i:Int)):=by simp [gQ,h,vB,Sc.enc]
def jx (f:Nat→Nat) (p v:Nat):Nat→Nat:=fun j=>if j=p then v else f j
theorem Qi {f:Nat→Nat} {N p v:Nat}:(gQ f N).setIfInBounds p (.int .u8 (v:Int))=gQ (jx f p v) N:=by
 apply Array.ext'
 apply List.ext_getElem?
 intro i
 simp only [gQ,Array.toList_setIfInBounds,List.getElem?_set,List.getElem?_map,List.getElem?_range,List.length_map,List.length_range]
 by_cases e:p=i
 ·subst e
  by_cases hp:p<N
  ·simp [hp,jx,vB]
  ·simp [hp,List.getElem?_eq_none]
 ·by_cases hi:i<N
  ·simp [e,hi,jx,Ne.symm e]
  ·simp [e,List.getElem?_eq_none,hi]
def eR (f:Nat→Nat) (p:Nat) (b:List Nat):Nat→Nat:=fun j=>if p≤j∧j<p+b.length then b.getD (j - p) 0 else f j
theorem OT {f:Nat→Nat} {N p:Nat} {b:List Nat} (h:p+b.length≤N):(⟨(gQ f N).toList.take p++(b.map vB++(gQ f N).toList.drop (p+b.length))⟩:Array Value)=gQ (eR f p b) N:=by
 apply Array.ext'
 apply List.ext_getElem?
 intro i
 have hl:(gQ f N).toList.length=N:=by simp [gQ]
 have e1: ∀g:Nat→Nat,(gQ g N).toList[i]? =if i<N then some (vB (g i)) else none:=fun g=>by
  by_cases hi:i<N
  ·simp [gQ,hi]
  ·simp [gQ,hi,List.getElem?_eq_none]
 rw [e1]
 show ((gQ f N).toList.take p++(b.map vB++(gQ f N).toList.drop (p+b.length)))[i]? =_
 by_cases h1:i<p
 ·rw [List.getElem?_append_left (by rw [List.length_take];omega),List.getElem?_take,if_pos h1,e1]
  simp only [eR]
  rw [if_pos (show i<N by omega),if_pos (show i<N by omega),if_neg (by omega)]
 ·rw [List.getElem?_append_right (by rw [List.length_take];omega)]
  rw [List.length_take,hl,Nat.min_eq_left (by omega)]
  by_cases h2:i - p<b.length
  ·rw [List.getElem?_append_left (by rw [List.length_map];exact h2),List.getElem?_map,List.getElem?_eq_getElem h2,if_pos (show i<N by omega)]
   simp only [eR,Option.map_some]
   rw [if_pos (by omega)]
   simp [List.getD,h2]
  ·rw [List.getElem?_append_right (by rw [List.length_map];omega),List.length_map,List.getElem?_drop,show p+b.length+(i - p - b.length)=i by omega,e1]
   simp only [eR]
   rw [if_neg (show¬(p≤i∧i<p+b.length) by omega)]
def eL (f:Nat→Nat) (p q:Nat):List Nat:=(List.range q).map fun i=>f (p+i)
theorem dy (f:Nat→Nat) (p q:Nat):(eL f p q).length=q:=by simp [eL]
theorem s9 {f:Nat→Nat} {p q i:Nat} (h:i<q):(eL f p q)[i]'(by rw [dy];exact h)=f (p+i):=by simp [eL]
theorem CK {f g:Nat→Nat} {p q:Nat} (h: ∀i,i<q→f (p+i)=g (p+i)):eL f p q=eL g p q:=List.map_congr_left fun i hi=>h i (List.mem_range.1 hi)
theorem Px {f:Nat→Nat} {N p q cap m:Nat} {t:TypeId} {fr:Nat×Nat} {w:World} (h:p+q≤N) (hw:w.heap[m]? =some (.cells (gQ f N) t fr)):aH 1 ⟨some ⟨m,p,none⟩,q,cap⟩ ((eL f p q).map vB) w:=by
 refine ⟨by simp [dy],fun i hi=>⟨_,rfl,?_⟩⟩
 rw [List.length_map,dy] at hi
 rw [ag,List.getElem_map,s9 hi]
 have:=As (f:=f) (N:=N) (i:=p+i) (by omega)
 simp only [World.cell?,hw]
 simpa [Sc.enc,vB] using this
def nd (f:Nat→Nat) (p:Nat):Nat:=f p+256*f (p+1)+65536*f (p+2)+16777216*f (p+3)
def dY (v:Nat):List Nat:= [v % 256,v/256 % 256,v/65536 % 256,v/16777216 % 256]
theorem lr {f:Nat→Nat} {p i:Nat} {b:List Nat} (h:i<b.length):eR f p b (p+i)=b.getD i 0:=by
 unfold eR;rw [if_pos (by omega),Nat.add_sub_cancel_left]
theorem fl {f:Nat→Nat} {p j:Nat} {b:List Nat} (h: ¬(p≤j∧j<p+b.length)):eR f p b j=f j:=if_neg h
theorem l8 (v:Nat):(dY v).length=4:=rfl
theorem jo {f:Nat→Nat} {p q v:Nat} (hv:v<4294967296) (hd:q=p∨q+4≤p∨p+4≤q):nd (eR f p (dY v)) q=if q=p then v else nd f q:=by
 have hl:=l8 v
 rcases hd with rfl|hd
 ·have h0:=lr (f:=f) (p:=q) (i:=0) (b:=dY v) (by omega)
  rw [Nat.add_zero] at h0
  rw [if_pos rfl,nd,h0,lr (by omega),lr (by omega),lr (by omega)]
  simp only [dY,List.getD_cons_zero,List.getD_cons_succ]
  omega
 ·rw [if_neg (by omega),nd,fl (by omega),fl (by omega),fl (by omega),fl (by omega)]
  rfl
theorem QB {P:Program} {t e:TypeId} {z:Value} {n bytes:Nat} {E w:World} {F:List HP} {K:Sl→World→Prop} (ht:P.underlying t=some (.slice e)) (hi: ∃i,P.info? e=some i∧i.zero=some z∧i.size=1∧i.bytes=bytes) (hz:z.cells= #[z])
  (hn:n≤1000000) (hb:bytes≤8) (h:Hp E w F) (hK: ∀b w',Hp E w' (af b (.cells ⟨List.replicate n z⟩ e (0,0))::F)→K ⟨some ⟨b,0,none⟩,n,n⟩ w'):ar P (Instr.makeSlice t (.int .i64 (n:Int)) (.int .i64 (n:Int))) kS w K:=by
 obtain ⟨i,h1,h2,h3,h4⟩:=hi
 have hbn:bytes*n≤8*n:=Nat.mul_le_mul_right _ hb
 have hbb:((bytes:Int)*(n:Int))≤281474976710656:=by
  have:((bytes:Int)*(n:Int))=((bytes*n:Nat):Int):=by simp
  omega
 have hm:=run_makeSlice (w:=w) t e i z ht h1 h2 .i64 .i64 (n:Int) (n:Int) (by omega) (by omega) (by rw [h3,Int.toNat_natCast];omega) (by rw [h4];exact hbb) (by omega)
 unfold ar
 rw [hm]
 have hc:madeCells z.cells (n*1)=⟨List.replicate n z⟩:=by
  unfold madeCells
  rw [hz,Nat.mul_one]
  apply Array.ext
  ·simp
  ·intro j h1 h2
   simp [Nat.mod_one]
 rw [h3,Int.toNat_natCast,hc]
 exact hK w.heap.size _ (h.alloc (.cells ⟨List.replicate n z⟩ e))
theorem DK (N:Nat):(⟨List.replicate N (.int .u8 0)⟩:Array Value)=gQ (fun _=>0) N:=by
 apply Array.ext'
 show List.replicate N (Value.int .u8 0)=(List.range N).map fun _=>vB 0
 rw [List.map_const']
 simp [vB]
end Go.Vc
namespace Go.Proofs.YtgglghjnakclmaaGreat
open Go Go.Vc
section
variable {E w:World} {F:List HP}
structure AS where
 a:Nat
 m:Nat
 N:Nat
 live:Nat
 peak:Nat
structure zL (A:AS) (f:Nat→Nat):Prop where
 le:A.live≤A.N
 du:A.N≤1000000
 byt: ∀i,f i<256
def Ar (A:AS) (f:Nat→Nat):HP:=OR (fun _:Unit=>zL A f) fun _=> [af A.a (.cells ⟨[.slice (some ⟨A.m,0,none⟩) A.N A.N,.int .i64 (A.live:Int),.int .i64 (A.peak:Int)]⟩ 199 (0,0)),af A.m (.cells (gQ f A.N) 5 (0,0))]
variable {A:AS} {f:Nat→Nat}
theorem Ar.dw (h:Hp E w (Ar A f::F)):zL A f∧Hp E w (af A.a (.cells ⟨[.slice (some ⟨A.m,0,none⟩) A.N A.N,.int .i64 (A.live:Int),.int .i64 (A.peak:Int)]⟩ 199 (0,0))::af A.m (.cells (gQ f A.N) 5 (0,0))::F):=by
 obtain ⟨_,hx,h⟩:=h.ex
 exact ⟨hx,h⟩
theorem Ar.shut (ok:zL A f) (h:Hp E w (af A.a (.cells ⟨[.slice (some ⟨A.m,0,none⟩) A.N A.N,.int .i64 (A.live:Int),.int .i64 (A.peak:Int)]⟩ 199 (0,0))::af A.m (.cells (gQ f A.N) 5 (0,0))::F)):Hp E w (Ar A f::F):=Hp.Sz () ok h
theorem zL.aL {g:Nat→Nat} (h:zL A f) (hg: ∀i,g i<256):zL A g:=⟨h.le,h.du,hg⟩
theorem Ni {p v:Nat} (h: ∀i,f i<256) (hv:v<256): ∀i,jx f p v i<256:=fun i=>by unfold jx;split<;>first|exact hv|exact h i
theorem Nn {p:Nat} {b:List Nat} (h: ∀i,f i<256) (hb: ∀x∈b,x<256): ∀i,eR f p b i<256:=fun i=>by
 unfold eR
 split
 ·rename_i hi
  rw [List.getD_eq_getElem?_getD,List.getElem?_eq_getElem (by omega)]
  exact hb _ (List.getElem_mem _)
 ·exact h i
abbrev sA (A:AS):Sl:=⟨some ⟨A.m,0,none⟩,A.N,A.N⟩
abbrev pA (A:AS):Value:= .pointer (some ⟨A.a,0,none⟩)
abbrev iT (p q:Nat):Value:= .agg ⟨[.int .i64 (p:Int),.int .i64 (q:Int)]⟩
theorem mQ {p q:Nat} {K:Bool→World→Prop} (h:Hp E w (Ar A f::F)) (hin:p+q≤A.live) (hK: ∀w',Hp E w' (Ar A f::F)→K true w'):Cl Tryz.prog [kB] cd ⟨[pA A,iT p q]⟩ w K:=by
 refine zt.ok _ ((p:Int),(q:Int),()) _ _ ?_
 dsimp only
 obtain ⟨ok,h⟩:=Ar.dw h
 have h1:=ok.le;have h2:=ok.du
 (try simp only [aB,ag,Nat.zero_add,Nat.add_zero,Bool.not_false,sB,Option.isNone])
 (with_reducible repeat first|refine Nw.mk h fun b w h=> ?_|refine aY.mk h fun w h=> ?_|refine Ld.xb h rfl ?_|refine aa.yes ?_)
 exact ek (decide_eq_true (by rw [ab (by omega)];omega)) (hK _ (Ar.shut ok (h.no 0)))
theorem C4 {p q:Nat} {i:Int} {n:Nat} {K:Sl→World→Prop} (h:Hp E w (Ar A f::F)) (hin:p+q≤A.live) (hn:0<n) (hn2:n≤1000000)
  (hyes: ∀j:Nat,i=(j:Int)→j+n≤q→∀w',Hp E w' (Ar A f::F)→K ⟨some ⟨A.m,p+j,none⟩,n,n⟩ w') (hno: ¬(0≤i∧i+n≤q)→∀w',Hp E w' (Ar A f::F)→K ⟨none,0,0⟩ w'):
  Cl Tryz.prog [kS] fV ⟨[pA A,iT p q,.int .i64 i,.int .i64 (n:Int)]⟩ w K:=by
 refine xB.ok _ ((p:Int),(q:Int),()) _ _ _ _ ?_
 dsimp only
 refine Nw.mk h fun b w h=>Ld.xt h rfl ?_
 refine mQ (h.at 1) hin fun w h=> ?_
 obtain ⟨ok,h⟩:=Ar.dw h
 have h1:=ok.le;have h2:=ok.du
 have hend: ∀w,Hp E w (af A.a (.cells ⟨[.slice (some ⟨A.m,0,none⟩) A.N A.N,.int .i64 (A.live:Int),.int .i64 (A.peak:Int)]⟩ 199 (0,0))::af A.m (.cells (gQ f A.N) 5 (0,0))::af b (.cells ⟨[.int .i64 (p:Int),.int .i64 (q:Int)]⟩ 146 (0,0))::F)→Hp E w (Ar A f::F):=fun w h=>Ar.shut ok (h.no 2)
 refine aa.f rfl (aa.dm (fun hlt=>hno (by omega) _ (hend _ h)) fun hge=> ?_)
 (try simp only [aB,ag,Nat.zero_add,Nat.add_zero])
 refine Ld.xb h rfl (aa.dm (fun hgt=>hno (fun hh=>by rw [ab (by omega)] at hgt;omega) _ (hend _ h)) fun hle=> ?_)
 obtain ⟨j,rfl⟩: ∃j:Nat,i=(j:Int):=⟨i.toNat,by omega⟩
 rw [ab (by omega)] at hle
 refine Ld.xb h rfl (Ld.xb (x:=sA A) h rfl ?_)
 simp (disch:=omega) only [ab]
 refine ⟨by omega,by omega,by omega,by dsimp only;omega,?_⟩
 dsimp only
 rw [if_neg (by omega)]
 simp only [Option.map_some,Nat.mul_one,ag,Nat.zero_add]
 rw [show ((j:Int)+(p:Int)).toNat=p+j by omega,show ((j:Int)+(p:Int)+(n:Int)).toNat - (p+j)=n by omega]
 exact hyes j rfl (by omega) _ (hend _ h)
theorem pf {p q:Nat} {i:Int} {K:Int→Bool→World→Prop} (h:Hp E w (Ar A f::F)) (hin:p+q≤A.live)
  (hyes: ∀j:Nat,i=(j:Int)→j<q→∀w',Hp E w' (Ar A f::F)→K (f (p+j):Int) true w') (hno: ¬(0≤i∧i<q)→∀w',Hp E w' (Ar A f::F)→K 0 false w'):
  Cl Tryz.prog [ao .u8,kB] bA ⟨[pA A,iT p q,.int .i64 i]⟩ w K:=by
 refine xv.ok _ ((p:Int),(q:Int),()) _ _ _ ?_
 dsimp only
 refine Nw.mk h fun b w h=>Ld.xt h rfl ?_
 refine C4 (n:=1) (h.at 1) hin (by omega) (by omega) (fun j hj hjq w h=> ?_) (fun hn w h=>aa.t rfl (hno (by omega) _ (h.no 1)))
 refine aa.f rfl (ay.mk rfl (by omega) (by dsimp only;omega) ?_)
 obtain ⟨ok,h⟩:=Ar.dw h
 have h1:=ok.le
 rw [show (0:Int).toNat*1=0 by decide,ag,Nat.add_zero]
 exact Ld.xb h (As (by omega)) (hyes j hj (by omega) _ (Ar.shut ok (h.no 2)))
end
end Go.Proofs.YtgglghjnakclmaaGreat
namespace Go.Vc
open Go
theorem Lb {P:Program} {t e ty:TypeId} {z:Value} {E w:World} {l:List HP} {b o n cap:Nat} {c:Array Value} {t':TypeId} {put:Obj→List HP} {K:Value→World→Prop} [hf:bC b l c t' (0,0) put]
  (hu:P.underlying t=some (.slice e)) (hz: ∀w,(zeroValue e).run P w= .ok z w) (hc:z.cells= #[z]) (hs:aA z=true) (h:Hp E w l) (hfit:o+n≤c.size)
  (hK: ∀w',Hp E w' (put (.cells ⟨c.toList.take o++(List.replicate n z++c.toList.drop (o+n))⟩ t' (0,0)))→K (.tuple #[]) w'):
  ar P (Builtin.clear_ #[t] ty ⟨[.slice (some ⟨b,o,none⟩) n cap]⟩) kV w K:=by
 have hsz:c.toList.length=c.size:=by simp
 obtain ⟨_,hcond,hk⟩:=ak.xm (b:=b) (n:=n) (o:=o) (cs:=⟨List.replicate n z⟩) (pre:=c.toList.take o) (bD:=(c.toList.drop o).take n) (post:=c.toList.drop (o+n)) (K:=fun w'=>K (.tuple #[]) w') h
  (by rw [←List.drop_drop,List.take_append_drop,List.take_append_drop]) (by rw [List.length_take];omega) (by rw [List.length_take,List.length_drop];omega) (by simp) (fun v hv=>by rw [List.eq_of_mem_replicate hv];exact hs) hK
 unfold ar
 cases n with
 |zero=>
  have e1:(Builtin.clear_ #[t] ty ⟨[.slice (some ⟨b,o,none⟩) 0 cap]⟩).run P w= .ok (.tuple #[]) w:=by
   simp [Builtin.clear_,run_underlying hu]
  rw [e1]
  exact hk
 |succ m=>
  have hzc:(Builtin.zeroCells z.cells (m+1)).toList=List.replicate (m+1) z:=by
   rw [hc]
   simp [Builtin.zeroCells]
   apply List.ext_getElem
   ·simp
   ·intro i h1 h2
    simp [Nat.mod_one]
  have hst:=oB (P:=P) (p:=⟨b,o,none⟩) (List.replicate (m+1) z) 0 w (fun j hj=>by
   rw [List.length_replicate] at hj
   have:=hcond j hj
   rw [Nat.zero_add]
   refine ⟨?_,this.2⟩
   rw [List.getElem_replicate];exact hs)
  have e1:(Builtin.clear_ #[t] ty ⟨[.slice (some ⟨b,o,none⟩) (m+1) cap]⟩).run P w= .ok (.tuple #[]) (ak.setRow w ⟨b,o,none⟩ (List.replicate (m+1) z) 0):=by
   simp [Builtin.clear_,run_underlying hu,hz,hzc,hst]
  rw [e1]
  exact hk
end Go.Vc
namespace Go.Proofs.YtgglghjnakclmaaGreat
open Go Go.Vc
section
variable {E w:World} {F:List HP} {A:AS} {f:Nat→Nat}
theorem Ch:Tryz.prog.underlying 26=some (.slice 5):=by kernel_rfl
theorem Pb {n:Nat} {K:Option Addr→Int→World→Prop} (h:Hp E w F) (hn:1≤n) (hn2:n≤1000000) (hK: ∀a m w',Hp E w' (Ar ⟨a,m,n,0,0⟩ (fun _=>0)::F)→K (some ⟨a,0,none⟩) 0 w'):Cl Tryz.prog [kP,kI] nb ⟨[.int .i64 (n:Int)]⟩ w K:=by
 refine A9.ok _ _ _ (aa.df (by omega) (aa.df (by omega) ?_))
 refine QB (z:= .int .u8 0) (bytes:=1) Ch ⟨_,rfl,by kernel_rfl,by kernel_rfl,by kernel_rfl⟩ rfl (by omega) (by omega) h fun m w h=>Nw.mk h fun a w h=>hK a m w ?_
 rw [DK] at h
 exact Ar.shut ⟨by dsimp only;omega,by dsimp only;omega,fun _=>by decide⟩ h
theorem H5 {n:Int} {K:Option Addr→Int→World→Prop} (hn: ¬(1≤n∧n≤1048576)) (hK:K none 2 w):Cl Tryz.prog [kP,kI] nb ⟨[.int .i64 n]⟩ w K:=by
 refine A9.ok _ _ _ (aa.dm (fun _=>hK) fun h1=>aa.dt (by omega) hK)
theorem Nh {K:Int→World→Prop} (h:Hp E w (Ar A f::F)) (hK:Hp E w (Ar A f::F)→K (A.peak:Int) w):Cl Tryz.prog [kI] jm ⟨[pA A]⟩ w K:=by
 refine xD.ok _ _ _ ?_
 obtain ⟨ok,h⟩:=Ar.dw h
 (try simp only [aB,ag,Nat.zero_add,gu,Option.isNone])
 exact Ld.xb h rfl (hK (Ar.shut ok h))
theorem ad.hb {b:Nat} {o:Obj} {φ:World→Prop} (hf: ∀w:World,w.heap[b]? =some o→φ w):ad (af b o::F) φ:=by
 rintro w f a ⟨g,k,hd,rfl,rfl,h2⟩
 exact hf w (a b _ (by simp [aS.add,aS.one]))
theorem Nd {p q:Nat} {K:Sl→World→Prop} (h:Hp E w (Ar A f::F)) (hin:p+q≤A.live) (hK: ∀s w',Hp E w' (av 1 s ((eL f p q).map vB)::Ar A f::F)→K s w'):Cl Tryz.prog [kS] jj ⟨[pA A,iT p q]⟩ w K:=by
 refine xZ.ok _ ((p:Int),(q:Int),()) _ _ ?_
 dsimp only
 refine Nw.mk h fun b w h=>Ld.xt h rfl ?_
 refine mQ (h.at 1) hin fun w h=>aa.f rfl ?_
 obtain ⟨ok,h⟩:=Ar.dw h
 have h1:=ok.le;have h2:=ok.du
 refine aY.mk h fun w h=> ?_
 (try simp only [aB,ag,Nat.zero_add,Nat.add_zero])
 refine Ld.xb (x:=sA A) h rfl (Ld.xb h rfl (Ld.xb h rfl (Ld.xb h rfl ?_)))
 simp (disch:=omega) only [ab]
 refine ⟨by omega,by omega,by omega,by dsimp only;omega,?_⟩
 dsimp only
 have hsl:(⟨if (A.N:Int).toNat=(p:Int).toNat then some ⟨A.m,0,none⟩ else (some ⟨A.m,0,none⟩:Option Addr).map (·.add ((p:Int).toNat*1)),((p:Int)+(q:Int)).toNat - (p:Int).toNat,(A.N:Int).toNat - (p:Int).toNat⟩:Sl)=⟨if A.N=p then some ⟨A.m,0,none⟩ else some ⟨A.m,p,none⟩,q,A.N - p⟩:=by
  simp only [Option.map_some,Int.toNat_natCast,Nat.mul_one,ag,Nat.zero_add]
  rw [show ((p:Int)+(q:Int)).toNat - p=q by omega]
 rw [hsl]
 refine Qa (bs:=eL f p q) h (ad.at 1 (ad.hb fun w hw=> ?_)) (by rw [dy,aX];omega) fun s w h=>hK s w ?_
 ·split
  ·have:q=0:=by omega
   subst this
   exact ⟨rfl,fun i hi=>by simp [eL] at hi⟩
  ·exact Px (by omega) hw
 ·have h:=((h.no 3).at 1).at 2
  exact (Ar.shut ok (h.at 1)).at 1
theorem K1 {p q j:Nat} {s:Sl} {b:List Nat} {K:Bool→World→Prop} (h:Hp E w (Ar A f::F)) (hin:p+q≤A.live) (hj:j+b.length≤q) (hs:ad F (aH 1 s (b.map vB))) (hb: ∀x∈b,x<256)
  (hK: ∀w',Hp E w' (Ar A (eR f (p+j) b)::F)→K true w'):Cl Tryz.prog [kB] iy ⟨[pA A,iT p q,.int .i64 (j:Int),.slice s.base s.len s.cap]⟩ w K:=by
 refine wi.ok _ ((p:Int),(q:Int),()) _ _ _ _ ?_
 dsimp only
 have hlen:b.length=s.len:=by have:=(h.aj hs.cons).1;simpa using this
 refine Nw.mk h fun b4 w h=>Ld.xt h rfl ?_
 refine mQ (h.at 1) hin fun w h=>aa.f rfl (aa.df (by omega) ?_)
 obtain ⟨ok,h⟩:=Ar.dw h
 have h1:=ok.le;have h2:=ok.du
 (try simp only [aB,ag,Nat.zero_add,Nat.add_zero])
 refine Ld.xb h rfl (aa.df (by rw [ab (by omega)];omega) (aY.mk h fun w h=> ?_))
 (skip)
 refine Ld.xb (x:=sA A) h rfl (Ld.xb h rfl ?_)
 simp (disch:=omega) only [ab]
 refine ⟨by omega,by omega,by omega,by dsimp only;omega,?_⟩
 dsimp only
 have hsl:(⟨if (A.N:Int).toNat=((p:Int)+(j:Int)).toNat then some ⟨A.m,0,none⟩ else (some ⟨A.m,0,none⟩:Option Addr).map (·.add (((p:Int)+(j:Int)).toNat*1)),(A.N:Int).toNat - ((p:Int)+(j:Int)).toNat,(A.N:Int).toNat - ((p:Int)+(j:Int)).toNat⟩:Sl)=⟨if A.N=p+j then some ⟨A.m,0,none⟩ else some ⟨A.m,p+j,none⟩,A.N - (p+j),A.N - (p+j)⟩:=by
  simp only [Option.map_some,Int.toNat_natCast,Nat.mul_one,ag,Nat.zero_add]
  rw [show ((p:Int)+(j:Int)).toNat=p+j by omega]
 rw [hsl]
 have hs3:aH 1 s (b.map vB) w:=h.aj hs.cons.cons.cons
 by_cases hz:A.N=p+j
 ·have hb0:b= []:=List.length_eq_zero_iff.1 (by omega)
  subst hb0
  rw [if_pos hz]
  refine nw (o:=0) (dLen:=A.N - (p+j)) (ys:= []) Ch (by kernel_rfl) h (by simpa using hs3) (by simp) (by rw [tG];omega) fun w h=>hK w ?_
  have e:eR f (p+j) []=f:=by funext i;unfold eR;rw [if_neg (by simp)]
  rw [e]
  simp only [List.take_nil,List.nil_append,List.length_nil,Nat.zero_min,Nat.add_zero,List.take_append_drop,Array.toArray_toList] at h
  exact Ar.shut ok (h.no 2)
 ·rw [if_neg hz]
  refine nw (o:=p+j) (dLen:=A.N - (p+j)) (ys:=b.map vB) Ch (by kernel_rfl) h hs3 jg (by rw [tG];omega) fun w h=>hK w ?_
  have e1:(b.map vB).take (A.N - (p+j))=b.map vB:=List.take_of_length_le (by rw [List.length_map];omega)
  have e2:min (b.map vB).length (A.N - (p+j))=b.length:=by rw [List.length_map];omega
  rw [e1,e2,OT (by omega)] at h
  exact Ar.shut (ok.aL (Nn ok.byt hb)) (h.no 2)
theorem Nr {n:Nat} {K:(Int×Int×Unit)→Int→World→Prop} (h:Hp E w (Ar A (fun _=>0)::F)) (hn:n+A.live≤A.N)
  (hK: ∀w',Hp E w' (Ar ⟨A.a,A.m,A.N,A.live+n,max A.peak (A.live+n)⟩ (fun _=>0)::F)→K ((A.live:Int),(n:Int),()) 0 w'):Cl Tryz.prog [.st [.int .i64,.int .i64],kI] ju ⟨[pA A,.int .i64 (n:Int)]⟩ w K:=by
 refine xY.ok _ _ _ _ ?_
 obtain ⟨ok,h⟩:=Ar.dw h
 have h1:=ok.le;have h2:=ok.du
 refine Nw.mk h fun b4 w h=> ?_
 (try simp only [aB,ag,Nat.zero_add,Nat.add_zero,gu,Option.isNone])
 refine aa.df (by omega) (aY.mk h fun w h=>Ld.xb (x:=sA A) h rfl (Ld.xb h rfl (aa.df (by dsimp only;rw [ab (by omega)];omega) ?_)))
 refine Ld.xb (x:=(A.live:Int)) h rfl (Nw.mk h fun b19 w h=> ?_)
 (with_reducible refine ae.xw h rfl rfl (fun w h=> ?_))
 refine aY.mk h fun w h=> ?_
 (skip)
 refine Ld.xb (x:=sA A) h rfl (Ld.xb h rfl (Ld.xb h rfl ?_))
 simp (disch:=omega) only [ab]
 refine ⟨by omega,by omega,by omega,by dsimp only;omega,?_⟩
 dsimp only
 have hsl:(⟨if (A.N:Int).toNat=(A.live:Int).toNat then some ⟨A.m,0,none⟩ else (some ⟨A.m,0,none⟩:Option Addr).map (·.add ((A.live:Int).toNat*1)),((A.live:Int)+(n:Int)).toNat - (A.live:Int).toNat,(A.N:Int).toNat - (A.live:Int).toNat⟩:Sl)=⟨if A.N=A.live then some ⟨A.m,0,none⟩ else some ⟨A.m,A.live,none⟩,n,A.N - A.live⟩:=by
  simp only [Option.map_some,Int.toNat_natCast,Nat.mul_one,ag,Nat.zero_add]
  rw [show ((A.live:Int)+(n:Int)).toNat - A.live=n by omega]
 rw [hsl]
 obtain ⟨o,ho,hon⟩: ∃o,(if A.N=A.live then (some ⟨A.m,0,none⟩:Option Addr) else some ⟨A.m,A.live,none⟩)=some ⟨A.m,o,none⟩∧o+n≤A.N:=by
  by_cases hz:A.N=A.live
  ·exact ⟨0,by rw [if_pos hz],by omega⟩
  ·exact ⟨A.live,by rw [if_neg hz],by omega⟩
 rw [ho]
 refine Lb (z:= .int .u8 0) Ch (fun w=>by kernel_rfl) rfl rfl h (by rw [tG];omega) fun w h=> ?_
 have hz:(⟨(gQ (fun _=>0) A.N).toList.take o++(List.replicate n (.int .u8 0)++(gQ (fun _=>0) A.N).toList.drop (o+n))⟩:Array Value)=gQ (fun _=>0) A.N:=by
  rw [←DK]
  apply Array.ext'
  show (List.replicate A.N _).take o++(List.replicate n _++(List.replicate A.N _).drop (o+n))=List.replicate A.N _
  rw [List.take_replicate,List.drop_replicate,List.replicate_append_replicate,List.replicate_append_replicate]
  congr 1
  omega
 rw [hz] at h
 refine Ld.xb h rfl (St.xs h rfl rfl fun w h=> ?_)
 dsimp only [aP,aq] at h
 refine aY.mk h fun w h=>Ld.xb h rfl (Ld.xb h rfl (St.xs h rfl rfl fun w h=> ?_))
 dsimp only [aP,aq] at h
 refine Ld.xt h rfl ?_
 (with_reducible refine ae.xw h rfl rfl (fun w h=> ?_))
 refine Ld.xt h rfl (hK w ?_)
 simp (disch:=omega) only [ab] at h
 have e:(if ((A.live:Int)+(n:Int))>(A.peak:Int) then ((A.live:Int)+(n:Int)) else (A.peak:Int))=((max A.peak (A.live+n):Nat):Int):=by split<;>omega
 rw [e,show (A.live:Int)+(n:Int)=((A.live+n:Nat):Int) by omega] at h
 exact Ar.shut (A:=⟨A.a,A.m,A.N,A.live+n,max A.peak (A.live+n)⟩) ⟨by dsimp only;omega,ok.du,ok.byt⟩ ((h.no 0).no 0)
end
end Go.Proofs.YtgglghjnakclmaaGreat
namespace Go.Vc
open Go
def wp (f:Nat→Nat) (P:Nat):Nat→Nat
 |0=>0
 |k+1=>wp f P k+f (P+k)*256^k
theorem Oy {f:Nat→Nat} (h: ∀i,f i<256) (P:Nat): ∀k,wp f P k<256^k
 |0=>by simp [wp]
 |k+1=>by
  have h1:=Oy h P k
  have h2:f (P+k)*256^k≤255*256^k:=Nat.mul_le_mul_right _ (by have:=h (P+k);omega)
  rw [wp,Nat.pow_succ];omega
theorem OU (f:Nat→Nat) (P:Nat):wp f P 4=nd f P:=by
 simp only [wp,nd,Nat.add_zero,Nat.pow_zero,Nat.mul_one,Nat.zero_add,Nat.pow_one]
 rw [show (256^2:Nat)=65536 from rfl,show (256^3:Nat)=16777216 from rfl]
 omega
theorem QN {v x k:Nat} (hv:v<256^k) (hx:x<256) (hk:k<4):kW .u32 (v:Int) (bh .u32 (u32 (x:Int)) (i64 ((8:Int)*(k:Int))))=((v+x*256^k:Nat):Int):=by
 have hm:IntKind.max .u32=4294967295:=rfl
 have hp:(256:Nat)^k=2^(8*k):=by rw [Nat.pow_mul]
 have hb:x*256^k≤255*16777216:=Nat.mul_le_mul (by omega) (by
  have:256^k≤256^3:=Nat.pow_le_pow_right (by decide) (by omega)
  exact this)
 have hvb:v<16777216:=Nat.lt_of_lt_of_le hv (by
  have:256^k≤256^3:=Nat.pow_le_pow_right (by decide) (by omega)
  exact this)
 rw [cN (by omega),ab (by omega),show (8:Int)*(k:Int)=((8*k:Nat):Int) by omega,dL (by show 8*k≤32;omega) (by rw [hm,←hp];omega),←hp]
 have e:v|||x*256^k=v+x*256^k:=by
  rw [hp] at hv⊢
  rw [Nat.or_comm,Nat.mul_comm x,←Nat.two_pow_add_eq_or_of_lt hv,Nat.add_comm]
 rw [r0 (by rw [hm];omega) (by rw [hm];omega) (by rw [hm,e];omega),e]
theorem NB {v k:Nat} (_hv:v<4294967296) (hk:k<4):u8 (bT .u32 (v:Int) (i64 ((8:Int)*(k:Int))))=(((dY v).getD k 0:Nat):Int):=by
 rw [ab (by omega),show (8:Int)*(k:Int)=((8*k:Nat):Int) by omega,dE (by show 8*k≤32;omega),yi]
 match k,hk with
 |0,_=>simp [dY]
 |1,_=>simp [dY]
 |2,_=>simp [dY]
 |3,_=>simp [dY]
theorem LV {f:Nat→Nat} {p x:Nat} {b:List Nat}:jx (eR f p b) (p+b.length) x=eR f p (b++ [x]):=by
 funext j
 by_cases h1:j=p+b.length
 ·subst h1
  rw [lr (b:=b++ [x]) (by simp)]
  simp [jx,List.getD]
 ·unfold jx
  rw [if_neg h1]
  by_cases h2:p≤j∧j<p+b.length
  ·obtain ⟨i,rfl⟩: ∃i,j=p+i:=⟨j - p,by omega⟩
   rw [lr (by omega),lr (by simp;omega)]
   simp [List.getD,List.getElem?_append_left (show i<b.length by omega)]
  ·rw [fl h2,fl (by simp;omega)]
theorem MW (f:Nat→Nat) (p:Nat):eR f p []=f:=by funext j;rw [fl (by simp)]
theorem I1 (v:Nat): ∀x∈dY v,x<256:=by
 intro x hx
 simp only [dY,List.mem_cons,List.not_mem_nil,or_false] at hx
 omega
end Go.Vc
namespace Go.Proofs.YtgglghjnakclmaaGreat
open Go Go.Vc
section
variable {E w:World} {F:List HP} {A:AS} {f:Nat→Nat}
theorem Bs {p q i:Nat} {K:Sl→World→Prop} (h:Hp E w (Ar A f::F)) (hin:p+q≤A.live) (hi:4*i+4≤q) (hK: ∀w',Hp E w' (Ar A f::F)→K ⟨some ⟨A.m,p+4*i,none⟩,4,4⟩ w'):
  Cl Tryz.prog [kS] fL ⟨[pA A,iT p q,.int .i64 (i:Int)]⟩ w K:=by
 refine yb.ok _ ((p:Int),(q:Int),()) _ _ _ ?_
 dsimp only
 obtain ⟨ok,_⟩:=Ar.dw h
 have h1:=ok.le;have h2:=ok.du
 refine Nw.mk h fun b w h=>aa.df (by omega) (aa.df (by omega) (Ld.xt h rfl ⟨by decide,?_⟩))
 have hm:IntKind.max .i64=9223372036854775807:=rfl
 have e:bh .i64 (i:Int) (2:Int)=((4*i:Nat):Int):=by
  have:=dL (k:= .i64) (a:=i) (b:=2) (by decide) (by rw [hm];omega)
  rw [show (2:Int)=((2:Nat):Int) from rfl,this]
  omega
 rw [e]
 refine C4 (n:=4) (h.at 1) hin (by omega) (by omega) (fun j hj hjq w h=> ?_) (fun hn w h=>absurd ⟨by omega,by omega⟩ hn)
 obtain rfl:4*i=j:=by omega
 exact hK w (h.no 1)
theorem CX {p q i:Nat} {K:Int→Bool→World→Prop} (h:Hp E w (Ar A f::F)) (hin:p+q≤A.live) (hi:4*i+4≤q) (hK: ∀w',Hp E w' (Ar A f::F)→K (nd f (p+4*i):Int) true w'):
  Cl Tryz.prog [ao .u32,kB] ew ⟨[pA A,iT p q,.int .i64 (i:Int)]⟩ w K:=by
 refine xk.ok _ ((p:Int),(q:Int),()) _ _ _ ?_
 dsimp only
 refine Nw.mk h fun b w h=>Ld.xt h rfl ?_
 refine Bs (h.at 1) hin hi fun w h=> ?_
 have h:=h.no 1
 refine ⟨fun v t w=> ∃k:Nat,t=(k:Int)∧k≤4∧v=(wp f (p+4*i) k:Int)∧Hp E w (Ar A f::F),fun _ t _=>4 - t.toNat,⟨0,rfl,by omega,rfl,h⟩,?_⟩
 rintro v t w ⟨k,rfl,hk,rfl,h⟩
 refine aa.dm (fun hlt=> ?_) (fun hge=> ?_)
 ·dsimp only at hlt
  have hlt:k<4:=by omega
  refine ay.mk rfl (by omega) (by dsimp only;omega) ?_
  obtain ⟨ok,h⟩:=Ar.dw h
  have h1:=ok.le
  rw [Int.toNat_natCast,Nat.mul_one,ag]
  refine Ld.xb h (As (by omega)) ⟨by rw [ab (by omega)];omega,?_⟩
  rw [QN (Oy ok.byt _ _) (ok.byt _) hlt]
  refine ⟨⟨k+1,by rw [ab (by omega)];omega,by omega,rfl,Ar.shut ok h⟩,by rw [ab (by omega)];first|omega|(dsimp only;omega)⟩
 ·dsimp only at hge
  obtain rfl:k=4:=by omega
  rw [OU]
  exact hK w h
theorem rj {p q i v:Nat} {K:Bool→World→Prop} (h:Hp E w (Ar A f::F)) (hin:p+q≤A.live) (hi:4*i+4≤q) (hv:v<4294967296) (hK: ∀w',Hp E w' (Ar A (eR f (p+4*i) (dY v))::F)→K true w'):
  Cl Tryz.prog [kB] dC ⟨[pA A,iT p q,.int .i64 (i:Int),.int .u32 (v:Int)]⟩ w K:=by
 refine uw.ok _ ((p:Int),(q:Int),()) _ _ _ _ ?_
 dsimp only
 refine Nw.mk h fun b w h=>Ld.xt h rfl ?_
 refine Bs (h.at 1) hin hi fun w h=> ?_
 have h:=h.no 1
 have hl4:=l8 v
 refine ⟨fun t w=> ∃k:Nat,t=(k:Int)∧k≤4∧Hp E w (Ar A (eR f (p+4*i) ((dY v).take k))::F),fun t _=>4 - t.toNat,⟨0,rfl,by omega,by rw [List.take_zero,MW];exact h⟩,?_⟩
 rintro t w ⟨k,rfl,hk,h⟩
 refine aa.dm (fun hlt=> ?_) (fun hge=> ?_)
 ·dsimp only at hlt
  have hlt:k<4:=by omega
  refine ⟨by rw [ab (by omega)];omega,ay.mk rfl (by omega) (by dsimp only;omega) ?_⟩
  obtain ⟨ok,h⟩:=Ar.dw h
  have h1:=ok.le
  rw [Int.toNat_natCast,Nat.mul_one,ag,NB hv hlt]
  refine St.xb h (by rw [tG];omega) rfl fun w h=> ?_
  rw [Qi] at h
  have e:jx (eR f (p+4*i) ((dY v).take k)) (p+4*i+k) ((dY v).getD k 0)=eR f (p+4*i) ((dY v).take (k+1)):=by
   have:=LV (f:=f) (p:=p+4*i) (x:=(dY v).getD k 0) (b:=(dY v).take k)
   rw [List.length_take,Nat.min_eq_left (by omega)] at this
   rw [this,List.take_add_one,List.getElem?_eq_getElem (by omega),List.getD_eq_getElem?_getD,List.getElem?_eq_getElem (by omega)]
   rfl
  rw [e] at h
  refine ⟨⟨k+1,by rw [ab (by omega)];omega,by omega,Ar.shut (ok.aL ?_) h⟩,by rw [ab (by omega)];first|omega|(dsimp only;omega)⟩
  rw [←e]
  exact Ni ok.byt (by rw [List.getD_eq_getElem?_getD,List.getElem?_eq_getElem (by omega)];exact I1 v _ (List.getElem_mem _))
 ·dsimp only at hge
  obtain rfl:k=4:=by omega
  rw [List.take_of_length_le (by omega)] at h
  exact hK w h
end
end Go.Proofs.YtgglghjnakclmaaGreat
namespace Go.Rk
section
variable {α:Type} {lt:α→α→Bool}
structure SO (lt:α→α→Bool):Prop where
 irr: ∀a,lt a a=false
 trans: ∀a b c,lt a b=true→lt b c=true→lt a c=true
 ntrans: ∀a b c,lt a b=false→lt b c=false→lt a c=false
theorem SO.Np (h:SO lt) {a b:α} (hab:lt a b=true):lt b a=false:=by
 cases hb:lt b a with
 |false=>rfl
 |true=>have:=h.trans _ _ _ hab hb;rw [h.irr] at this;cases this
theorem Bu {p q:α→Bool}: ∀{l:List α},(∀z∈l,p z=true→q z=true)→(∃x,x∈l∧q x=true∧p x=false)→l.countP p<l.countP q
 | [],_,⟨x,hx,_⟩=>by cases hx
 |a::l,h,⟨x,hx,hq,hp⟩=>by
  have hle:l.countP p≤l.countP q:=List.countP_mono_left fun z hz=>h z (List.mem_cons_of_mem _ hz)
  rw [List.countP_cons,List.countP_cons]
  rcases List.mem_cons.1 hx with rfl|hx
  ·rw [hq,hp];simp;omega
  ·have ih:=Bu (fun z hz=>h z (List.mem_cons_of_mem _ hz)) ⟨x,hx,hq,hp⟩
   cases hpa:p a with
   |false=>simp;split<;>omega
   |true=>rw [h a (by simp) hpa];simp;omega
theorem mM (h:SO lt): ∀{S:List α},S.Pairwise (fun a b=>lt a b=true)→∀(j:Nat) (hj:j<S.length),S.countP (fun x=>lt x S[j])=j
 | [],_,j,hj=>by simp at hj
 |a::S,hp,0,_=>by
  rw [List.pairwise_cons] at hp
  rw [List.countP_cons,List.getElem_cons_zero,h.irr,List.countP_eq_zero.2 fun x hx=>by rw [h.Np (hp.1 x hx)];decide]
  rfl
 |a::S,hp,j+1,hj=>by
  rw [List.pairwise_cons] at hp
  have hj':j<S.length:=by simpa using hj
  rw [List.countP_cons,List.getElem_cons_succ,mM h hp.2 j hj',hp.1 _ (List.getElem_mem hj')]
  rfl
theorem zW (h:SO lt) {S:List α} (hp:S.Pairwise (fun a b=>lt a b=true)) {x:α} (hx:x∈S): ∃hj:S.countP (fun y=>lt y x)<S.length,S[S.countP (fun y=>lt y x)]=x:=by
 obtain ⟨j,hj,rfl⟩:=List.getElem_of_mem hx
 have:=mM h hp j hj
 exact ⟨by omega,by simp only [this]⟩
theorem AR (h:SO lt) {S T:List α} (hpm:S.Perm T) (hS:S.Pairwise (fun a b=>lt a b=true)) (hT:T.Pairwise (fun a b=>lt a b=true)):S=T:=by
 apply List.ext_getElem hpm.length_eq
 intro r h1 h3
 have hr:=mM h hS r h1
 rw [hpm.countP_eq] at hr
 obtain ⟨h4,h5⟩:=zW h hT (hpm.mem_iff.1 (List.getElem_mem h1))
 rw [←h5]
 simp only [hr]
def rk (lt:α→α→Bool) (dom:List α) (x:α):Nat:=dom.countP fun y=>lt y x
theorem OC (h:SO lt) {dom:List α} {x y:α} (hx:x∈dom) (hl:lt x y=true):rk lt dom x<rk lt dom y:=
 Bu (fun _ _ hz=>h.trans _ _ _ hz hl) ⟨x,hx,hl,h.irr x⟩
def EO (lt:α→α→Bool) (dom:List α):Prop:= ∀x∈dom,∀y∈dom,x≠y→lt x y=true∨lt y x=true
theorem Rr (h:SO lt) {dom:List α} (ht:EO lt dom) {x y:α} (hx:x∈dom) (hy:y∈dom) (he:rk lt dom x=rk lt dom y):x=y:=by
 by_cases e:x=y
 ·exact e
 ·rcases ht x hx y hy e with h1|h1
  ·have:=OC h hx h1;omega
  ·have:=OC h hy h1;omega
def wD (lt:α→α→Bool) (dom:List α):List α:=dom.mergeSort fun a b=> !lt b a
theorem gh (dom:List α):(wD lt dom).Perm dom:=List.mergeSort_perm ..
theorem Gy (dom:List α):(wD lt dom).length=dom.length:=(gh dom).length_eq
theorem tE (h:SO lt) {dom:List α} (hn:dom.Nodup) (ht:EO lt dom):(wD lt dom).Pairwise fun a b=>lt a b=true:=by
 have h1:=List.pairwise_mergeSort (le:=fun a b=> !lt b a) (fun a b c h1 h2=>by
   simp only [Bool.not_eq_true'] at*;exact h.ntrans _ _ _ h2 h1) (fun a b=>by
   cases hab:lt a b with
   |true=>simp [h.Np hab]
   |false=>simp) dom
 have h2:(wD lt dom).Nodup:=(gh dom).nodup_iff.2 hn
 have h3:(wD lt dom).Pairwise fun a b=>a∈dom∧b∈dom:=List.Pairwise.imp_of_mem (fun {a b} ha hb _=>⟨(gh dom).mem_iff.1 ha,(gh dom).mem_iff.1 hb⟩) h2
 exact ((h1.and h2).and h3).imp fun {a b} hh=>by
  rcases ht a hh.2.1 b hh.2.2 hh.1.2 with h4|h4
  ·exact h4
  ·have:=hh.1.1;simp [h4] at this
theorem KP (h:SO lt) {dom:List α} (hn:dom.Nodup) (ht:EO lt dom) {x:α} (hx:x∈dom): ∃hj:rk lt dom x<(wD lt dom).length,(wD lt dom)[rk lt dom x]=x:=by
 have:=zW h (tE h hn ht) ((gh dom).mem_iff.2 hx)
 rw [(gh dom).countP_eq] at this
 exact this
theorem Tm (h:SO lt) {dom:List α} (hn:dom.Nodup) (ht:EO lt dom) {r:Nat} (hr:r<(wD lt dom).length):rk lt dom (wD lt dom)[r]=r:=by
 have:=mM h (tE h hn ht) r hr
 rwa [(gh dom).countP_eq] at this
theorem BI (h:SO lt) {dom:List α} (hn:dom.Nodup) (ht:EO lt dom) {x:α} (hx:x∈dom):rk lt dom x<dom.length:=by
 obtain ⟨hj,_⟩:=KP h hn ht hx
 rwa [Gy] at hj
end
end Go.Rk
namespace Go.Vc
open Go
def Uo:List Nat→List Nat→Bool
 |_,[]=>false
 | [],_::_=>true
 |a::x,b::y=>decide (a<b)||(a==b&&Uo x y)
def strOf (b:List Nat):ByteArray:=strOfNums (b.map fun (x:Nat)=>(x:Int))
theorem IC (b:List Nat):(strOf b).toList=b.map UInt8.ofNat:=by
 unfold strOf strOfNums
 rw [ByteArray.toList_mk,List.map_map]
 refine List.map_congr_left fun x _=> ?_
 simp
theorem sH (b:List Nat):(strOf b).data.toList=b.map UInt8.ofNat:=by rw [←ByteArray.toList_eq,IC]
section
variable {E w:World} {F:List HP}
end
end Go.Vc
namespace Go.Bw
open Go.Rk
abbrev lx:List Nat→List Nat→Bool:=Go.Vc.Uo
theorem zx (x:List Nat):lx x []=false:=by cases x<;>rfl
theorem mR (a b:Nat) (x y:List Nat):lx (a::x) (b::y)=(decide (a<b)||(a==b&&lx x y)):=rfl
theorem uK: ∀x,lx x x=false
 | []=>rfl
 |a::x=>by rw [mR,uK x];simp
theorem xU: ∀x y z,lx x y=true→lx y z=true→lx x z=true
 |_,[],_,h,_=>by rw [zx] at h;cases h
 |_,_::_,[],_,h=>by rw [zx] at h;cases h
 | [],_::_,_::_,_,_=>rfl
 |a::x,b::y,c::z,h1,h2=>by
  rw [mR] at*
  simp only [Bool.or_eq_true,Bool.and_eq_true,decide_eq_true_eq,beq_iff_eq] at*
  rcases h1 with h1|⟨h1,h3⟩<;>rcases h2 with h2|⟨h2,h4⟩
  ·left;omega
  ·left;omega
  ·left;omega
  ·exact .inr ⟨by omega,xU x y z h3 h4⟩
theorem xO: ∀x y,lx x y=false→lx y x=false→x=y
 | [],[],_,_=>rfl
 | [],_::_,h,_=>by cases h
 |_::_,[],_,h=>by cases h
 |a::x,b::y,h1,h2=>by
  rw [mR] at*
  simp only [Bool.or_eq_false_iff,Bool.and_eq_false_iff,decide_eq_false_iff_not,beq_eq_false_iff_ne] at*
  have hab:a=b:=by omega
  subst hab
  rw [xO x y (by rcases h1.2 with h|h;exact absurd rfl h;exact h) (by rcases h2.2 with h|h;exact absurd rfl h;exact h)]
theorem LS (x y z:List Nat) (h1:lx x y=false) (h2:lx y z=false):lx x z=false:=by
 cases h:lx x z with
 |false=>rfl
 |true=>
  by_cases e:x=y
  ·subst e;rw [h] at h2;cases h2
  ·have hyx:lx y x=true:=by
    cases hh:lx y x with
    |true=>rfl
    |false=>exact absurd (xO x y h1 hh) e
   have:=xU _ _ _ hyx h
   rw [h2] at this;cases this
theorem Kt: ∀(k c d:List Nat),lx (k++c) (k++d)=lx c d
 | [],_,_=>rfl
 |a::k,c,d=>by rw [List.cons_append,List.cons_append,mR,Kt k];simp
theorem Et: ∀(a b c d:List Nat),a≠b→(a.length<b.length→c= [])→(b.length<a.length→d= [])→lx (a++c) (b++d)=lx a b
 | [],[],_,_,h,_,_=>absurd rfl h
 | [],y::b,c,d,_,h1,_=>by rw [h1 (by simp)];rfl
 |x::a,[],c,d,_,_,h2=>by rw [h2 (by simp)];rfl
 |x::a,y::b,c,d,h,h1,h2=>by
  rw [List.cons_append,List.cons_append,mR,mR]
  by_cases e:x=y
  ·subst e
   rw [Et a b c d (fun e=>h (by rw [e])) (fun hl=>h1 (by simpa using hl)) (fun hl=>h2 (by simpa using hl))]
  ·rw [beq_eq_false_iff_ne.2 e,Bool.false_and,Bool.false_and]
def sl (t:List Nat) (i k:Nat):Bool:=lx (t.drop i) (t.drop k)
theorem lH (t:List Nat):SO (sl t):=⟨fun _=>uK _,fun _ _ _=>xU _ _ _,fun _ _ _=>LS _ _ _⟩
theorem ML {t:List Nat} {i k:Nat} (hi:i≤t.length) (hk:k≤t.length) (h:t.drop i=t.drop k):i=k:=by
 have:=congrArg List.length h
 simp only [List.length_drop] at this
 omega
def rows (t:List Nat):List Nat:=List.range (t.length+1)
theorem jv {t:List Nat} {i:Nat}:i∈rows t↔i≤t.length:=by unfold rows;rw [List.mem_range];omega
theorem oy (t:List Nat):(rows t).Nodup:=List.nodup_range
theorem CG (t:List Nat):(rows t).length=t.length+1:=List.length_range
theorem sj (t:List Nat):EO (sl t) (rows t):=fun x hx y hy e=>by
 rw [jv] at hx hy
 cases h1:sl t x y with
 |true=>exact .inl rfl
 |false=>
  right
  cases h2:sl t y x with
  |true=>rfl
  |false=>exact absurd (ML hx hy (xO _ _ h1 h2)) e
def ep (t:List Nat):List Nat:=wD (sl t) (rows t)
def lj (t:List Nat) (i:Nat):Nat:=rk (sl t) (rows t) i
theorem xH (t:List Nat):(ep t).length=t.length+1:=by unfold ep;rw [Gy,CG]
theorem L9 {t:List Nat} {i:Nat}:i∈ep t↔i≤t.length:=by unfold ep;rw [(gh _).mem_iff,jv]
theorem Ra {t:List Nat} {i:Nat} (hi:i≤t.length):lj t i<t.length+1:=by
 have:=BI (lH t) (oy t) (sj t) (jv.2 hi)
 rwa [CG] at this
theorem Ao {t:List Nat} {i:Nat} (hi:i≤t.length): ∃h:lj t i<(ep t).length,(ep t)[lj t i]=i:=KP (lH t) (oy t) (sj t) (jv.2 hi)
theorem Qh {t:List Nat} {r:Nat} (hr:r<(ep t).length):lj t (ep t)[r]=r:=Tm (lH t) (oy t) (sj t) hr
theorem vV {t:List Nat} {i k:Nat} (hi:i≤t.length) (hk:k≤t.length) (h:lj t i=lj t k):i=k:=Rr (lH t) (sj t) (jv.2 hi) (jv.2 hk) h
theorem wj (t:List Nat):(ep t).Pairwise fun a b=>sl t a b=true:=tE (lH t) (oy t) (sj t)
theorem sN {t:List Nat} {j:Nat} (hj:j<t.length):t.drop j=t.getD j 0::t.drop (j+1):=by
 rw [List.drop_eq_getElem_cons hj];simp [List.getD,hj]
theorem zZ {t:List Nat} {i k:Nat} (hi:i<t.length) (hk:k<t.length):sl t i k=(decide (t.getD i 0<t.getD k 0)||(t.getD i 0==t.getD k 0&&sl t (i+1) (k+1))):=by
 unfold sl
 rw [sN hi,sN hk,mR]
theorem GK (t:List Nat):lj t t.length=0:=by
 unfold lj rk
 rw [List.countP_eq_zero]
 intro x _
 unfold sl
 rw [List.drop_length,zx];decide
def cU (t:List Nat):Nat:=lj t 0
def gd (t:List Nat):List Nat:=(ep t).filter fun i=>i !=0
def a7 (t:List Nat):List Nat:=(gd t).map fun i=>t.getD (i - 1) 0
def bx (index row:Nat):Nat:=if row>index then row - 1 else row
theorem zR (t:List Nat):cU t≤t.length:=by have:=Ra (t:=t) (i:=0) (by omega);unfold cU;omega
theorem EX (t:List Nat) {r:Nat} (hr:r<(ep t).length):(ep t)[r]=0↔r=cU t:=by
 constructor
 ·intro h
  have:=Qh hr
  rw [h] at this;exact this.symm
 ·rintro rfl
  exact (Ao (t:=t) (i:=0) (by omega)).2
theorem AV: ∀(l:List Nat) (ix:Nat),(∀r (hr:r<l.length),l[r]=0↔r=ix)→∀r (hr:r<l.length),r≠ix→(l.filter fun i=>i !=0)[bx ix r]? =some l[r]
 | [],_,_,r,hr,_=>by simp at hr
 |a::l,0,h,r,hr,hne=>by
  have ha:a=0:=(h 0 (by simp)).2 rfl
  subst ha
  have hall: ∀x∈l,x≠0:=fun x hx e=>by
   obtain ⟨i,hi,rfl⟩:=List.getElem_of_mem hx
   have:=(h (i+1) (by simpa using hi)).1 (by simpa using e)
   omega
  obtain ⟨r,rfl⟩: ∃r',r=r'+1:=⟨r - 1,by omega⟩
  have hr':r<l.length:=by simpa using hr
  rw [List.filter_cons,if_neg (by simp),List.filter_eq_self.2 fun x hx=>by simpa using hall x hx]
  unfold bx
  rw [if_pos (by omega)]
  simp [hr']
 |a::l,ix+1,h,r,hr,hne=>by
  have ha:a≠0:=fun e=>by have:=(h 0 (by simp)).1 e;omega
  have ih:=AV l ix fun r hr=>by
   have:=h (r+1) (by simpa using hr)
   simp only [List.getElem_cons_succ] at this
   omega
  rw [List.filter_cons,if_pos (by simpa using ha)]
  cases r with
  |zero=>
   have:bx (ix+1) 0=0:=by unfold bx;rw [if_neg (by omega)]
   rw [this];rfl
  |succ r=>
   have hr':r<l.length:=by simpa using hr
   have h2:=ih r hr' (by omega)
   have:bx (ix+1) (r+1)=bx ix r+1:=by unfold bx;split<;>split<;>omega
   rw [this,List.getElem?_cons_succ,h2];simp
theorem Hz {t:List Nat} {r:Nat} (hr:r<(ep t).length) (hne:r≠cU t):(gd t)[bx (cU t) r]? =some (ep t)[r]:=AV _ _ (fun _ hr=>EX t hr) r hr hne
theorem qK (t:List Nat):(gd t).Perm ((List.range t.length).map (·+1)):=by
 have h:=(gh (lt:=sl t) (rows t)).filter fun i=>i !=0
 have e:(rows t).filter (fun i=>i !=0)=(List.range t.length).map (·+1):=by
  unfold rows
  rw [List.range_succ_eq_map,List.filter_cons,if_neg (by simp),List.filter_eq_self.2 fun x hx=>by obtain ⟨y,_,rfl⟩:=List.mem_map.1 hx;simp]
 rw [e] at h
 exact h
theorem CV (t:List Nat):(gd t).length=t.length:=by rw [(qK t).length_eq];simp
theorem dO (t:List Nat):(a7 t).length=t.length:=by unfold a7;rw [List.length_map,CV]
theorem Jc (t:List Nat):(a7 t).Perm t:=by
 have h:=(qK t).map fun i=>t.getD (i - 1) 0
 have e:((List.range t.length).map (·+1)).map (fun i=>t.getD (i - 1) 0)=t:=by
  apply List.ext_getElem
  ·simp
  ·intro i h1 h2
   simp [List.getD,h2]
 rw [e] at h
 exact h
theorem vR {t:List Nat} (hb: ∀x∈t,x<256): ∀x∈a7 t,x<256:=fun x hx=>hb x ((Jc t).mem_iff.1 hx)
theorem wB (t:List Nat):(gd t).Pairwise fun a b=>sl t a b=true:=(wj t).filter _
theorem NS {t:List Nat} {j:Nat} (h0:0<j) (hj:j≤t.length):(a7 t).getD (bx (cU t) (lj t j)) 0=t.getD (j - 1) 0:=by
 obtain ⟨h1,h2⟩:=Ao hj
 have hne:lj t j≠cU t:=fun e=>by have:=vV hj (by omega) e;omega
 have:=Hz h1 hne
 rw [h2] at this
 unfold a7
 simp [List.getD,this]
def pl (last:List Nat) (a b:Nat):Bool:=decide (last.getD a 0<last.getD b 0)||(last.getD a 0==last.getD b 0&&decide (a<b))
theorem yW {last:List Nat} {a b:Nat}:pl last a b=true↔last.getD a 0<last.getD b 0∨(last.getD a 0=last.getD b 0∧a<b):=by simp [pl]
theorem SZ {last:List Nat} {a b:Nat}:pl last a b=false↔¬(last.getD a 0<last.getD b 0∨(last.getD a 0=last.getD b 0∧a<b)):=by rw [←yW,Bool.not_eq_true]
theorem T8 (last:List Nat):SO (pl last):=⟨fun a=>by rw [SZ];omega,fun a b c h1 h2=>by rw [yW] at*;omega,fun a b c h1 h2=>by rw [SZ] at*;omega⟩
theorem Rw (last dom:List Nat):EO (pl last) dom:=fun x _ y _ e=>by rw [yW,yW];omega
def nx (last:List Nat) (a:Nat):Nat:=1+rk (pl last) (List.range last.length) a
theorem Cn {last:List Nat} {a:Nat} (ha:a<last.length):nx last a≤last.length:=by
 have:=BI (T8 last) List.nodup_range (Rw last _) (List.mem_range.2 ha)
 rw [List.length_range] at this
 unfold nx;omega
theorem TQ {t:List Nat} {j:Nat} (h0:0<j) (hj:j≤t.length):nx (a7 t) (bx (cU t) (lj t j))=lj t (j - 1):=by
 obtain ⟨h1,h2⟩:=Ao hj
 have hne:lj t j≠cU t:=fun e=>by have:=vV hj (by omega) e;omega
 have hat:=Hz h1 hne
 rw [h2] at hat
 obtain ⟨k,hk⟩: ∃k,bx (cU t) (lj t j)=k:=⟨_,rfl⟩
 rw [hk] at hat⊢
 obtain ⟨hkl,hke⟩:=List.getElem?_eq_some_iff.1 hat
 have hcl:=CV t
 have hlast: ∀i (hi:i<(gd t).length),(a7 t).getD i 0=t.getD ((gd t)[i] - 1) 0:=fun i hi=>by
  unfold a7
  simp [List.getD,hi]
 have hin: ∀i (hi:i<(gd t).length),0<(gd t)[i]∧(gd t)[i]≤t.length:=fun i hi=>by
  have:=(qK t).mem_iff.1 (List.getElem_mem hi)
  obtain ⟨x,hx,e⟩:=List.mem_map.1 this
  rw [List.mem_range] at hx
  omega
 have e1:rk (pl (a7 t)) (List.range (a7 t).length) k=(gd t).countP fun x=>sl t (x - 1) (j - 1):=by
  have:(gd t)=(List.range (a7 t).length).map fun i=>(gd t).getD i 0:=by
   apply List.ext_getElem
   ·rw [List.length_map,List.length_range,dO,hcl]
   ·intro i h1 h2
    simp [List.getD,h1]
  unfold rk
  conv=>rhs;rw [this,List.countP_map]
  apply List.countP_congr
  intro i hi
  have hi:i<(gd t).length:=by rw [List.mem_range,dO] at hi;omega
  obtain ⟨a1,a2⟩:=hin i hi
  have b1:=hin k hkl
  have hci:(gd t).getD i 0=(gd t)[i]:=by simp [List.getD,hi]
  have hs:=zZ (t:=t) (i:=(gd t)[i] - 1) (k:=j - 1) (by omega) (by omega)
  rw [show (gd t)[i] - 1+1=(gd t)[i] by omega,show j - 1+1=j by omega] at hs
  simp only [Function.comp]
  rw [hci,hs]
  unfold pl
  rw [hlast i hi,hlast k hkl,hke]
  have hord:decide (i<k)=true↔sl t (gd t)[i] j=true:=by
   rw [decide_eq_true_iff,←hke]
   constructor
   ·intro hik
    exact List.pairwise_iff_getElem.1 (wB t) i k hi hkl hik
   ·intro hsl
    rcases Nat.lt_trichotomy i k with h|h|h
    ·exact h
    ·subst h;rw [(lH t).irr] at hsl;cases hsl
    ·have:=List.pairwise_iff_getElem.1 (wB t) k i hkl hi h
     rw [(lH t).Np hsl] at this;cases this
  simp only [Bool.or_eq_true,Bool.and_eq_true,hord]
 have e2:(gd t).countP (fun x=>sl t (x - 1) (j - 1))=(List.range t.length).countP fun x=>sl t x (j - 1):=by
  rw [(qK t).countP_eq,List.countP_map]
  rfl
 have e3:lj t (j - 1)=1+(List.range t.length).countP fun x=>sl t x (j - 1):=by
  unfold lj rk rows
  rw [List.range_succ,List.countP_append,List.countP_cons,List.countP_nil]
  have:sl t t.length (j - 1)=true:=by
   unfold sl
   rw [List.drop_length,sN (by omega)];rfl
  rw [this];simp;omega
 unfold nx
 rw [e1,e2,e3]
def wk (last:List Nat) (index:Nat):Nat→Nat
 |0=>0
 |k+1=>nx last (bx index (wk last index k))
def okB (last:List Nat) (index:Nat):Prop:=index≤last.length∧(∀k,k<last.length→wk last index k≠index)∧wk last index last.length=index
instance (last:List Nat) (index:Nat):Decidable (okB last index):=by unfold okB;infer_instance
def bY (last:List Nat) (index:Nat):List Nat:=((List.range last.length).map fun k=>last.getD (bx index (wk last index k)) 0).reverse
theorem nE (last:List Nat) (index:Nat):(bY last index).length=last.length:=by simp [bY]
theorem KE {last:List Nat} {index k:Nat} (hk:k<last.length):(bY last index).getD (last.length - 1 - k) 0=last.getD (bx index (wk last index k)) 0:=by
 unfold bY
 rw [List.getD,List.getElem?_reverse (by simp;omega)]
 simp only [List.length_map,List.length_range]
 rw [show last.length - 1 - (last.length - 1 - k)=k by omega]
 simp [hk]
theorem KW (t:List Nat):okB (a7 t) (cU t)∧bY (a7 t) (cU t)=t:=by
 have hw: ∀k,k≤t.length→wk (a7 t) (cU t) k=lj t (t.length - k):=by
  intro k
  induction k with
  |zero=>intro _;rw [wk,Nat.sub_zero,GK]
  |succ k ih=>
   intro hk
   rw [wk,ih (by omega),TQ (by omega) (by omega)]
   congr 1
 have hl:=dO t
 refine ⟨⟨by rw [hl];exact zR t,fun k hk e=> ?_,?_⟩,?_⟩
 ·rw [hl] at hk
  rw [hw k (by omega)] at e
  have:=vV (by omega) (by omega) e
  omega
 ·rw [hl,hw _ (Nat.le_refl _),Nat.sub_self];rfl
 ·apply List.ext_getElem (by rw [nE,hl])
  intro i h1 h2
  have e:=KE (last:=a7 t) (index:=cU t) (k:=t.length - 1 - i) (by rw [hl];omega)
  rw [hl,show t.length - 1 - (t.length - 1 - i)=i by omega,hw _ (by omega),show t.length - (t.length - 1 - i)=i+1 by omega,NS (by omega) (by omega)] at e
  rw [show i+1 - 1=i by omega] at e
  simpa [List.getD,h1,h2] using e
theorem vw {last:List Nat} {index row:Nat} (hi:index≤last.length) (hr:row≤last.length) (hne:row≠index):bx index row<last.length:=by unfold bx;split<;>omega
theorem Ca {last:List Nat} {index:Nat} (hi:index≤last.length): ∀k,(∀j,j<k→wk last index j≠index)→wk last index k≤last.length
 |0,_=>by rw [wk];omega
 |k+1,h=>by
  rw [wk]
  exact Cn (vw hi (Ca hi k fun j hj=>h j (by omega)) (h k (by omega)))
end Go.Bw
namespace Go.Vc
open Go
def aT (t:List Int):Array Value:=⟨t.map vI⟩
def zl (l:List Nat):List Int:=l.map fun (x:Nat)=>(x:Int)
theorem jT (l:List Nat):(zl l).length=l.length:=List.length_map ..
theorem KO (a b:List Nat):zl (a++b)=zl a++zl b:=List.map_append
theorem eZ {t:List Int}:(aT t).size=t.length:=by simp [aT]
theorem uF {t:List Int} {i:Nat} (h:i<t.length):(aT t)[i]? =some (Sc.enc (.int .i64) (t.getD i 0)):=by simp [aT,h,vI,List.getD]
theorem js {t:List Int}: ∀v∈(aT t).toList,aA v=true:=by
 intro v hv
 simp only [aT,List.mem_map] at hv
 obtain ⟨x,_,rfl⟩:=hv
 rfl
theorem Te {t:List Int} {i:Nat} {x:Int}:(aT t).setIfInBounds i (.int .i64 x)=aT (t.set i x):=by
 unfold aT
 apply Array.ext'
 simp [List.map_set,vI]
theorem Ax {n:Nat}:(⟨List.replicate n (.int .i64 0)⟩:Array Value)=aT (List.replicate n 0):=by unfold aT;simp [vI]
theorem zb.aT {n:Nat} {a b:List Int} {K:Bool→Prop} (ha:a.length=n) (hb:b.length=n) (h:K (a==b)):zb .i64 n (aT a) (aT b) K:=⟨a,b,rfl,rfl,ha,hb,h⟩
theorem xM {l:List Int} {i j:Nat} {x:Int} (hi:i<l.length):(l.set i x).getD j 0=if j=i then x else l.getD j 0:=by
 simp only [List.getD,List.getElem?_set]
 by_cases h:i=j
 ·subst h;simp [hi]
 ·rw [if_neg h,if_neg (fun e=>h e.symm)]
section
variable {E w:World} {F:List HP}
theorem au.aT {b n:Nat} {t:List Int} {ty:TypeId} {fr:Nat×Nat} {i:Int} {j:Nat} {K:Int→Prop} (h:Hp E w (af b (.cells (Vc.aT t) ty fr)::F)) (hi:i=(j:Int)) (hn:t.length=n) (hj:j<n) (hK:K (t.getD j 0)):au ⟨b,0,none⟩ n i 1 fun q=>Ld kI q w K:=by
 subst hi
 exact au.rd (s:= .int .i64) h (by omega) (by omega) _ (by rw [Int.toNat_natCast];exact uF (by omega)) hK
theorem au.Uq {S:World→Prop} {b n:Nat} {t:List Int} {ty:TypeId} {fr:Nat×Nat} {i:Int} {j:Nat} {K:Int→Prop} (hS: ∀w,S w→∃G,Hp E w (af b (.cells (Vc.aT t) ty fr)::G)) (hi:i=(j:Int)) (hn:t.length=n) (hj:j<n) (hK:K (t.getD j 0)):au ⟨b,0,none⟩ n i 1 fun q=>aw kI q S K:=by
 subst hi
 refine ⟨by omega,by omega,?_⟩
 rw [ag]
 exact aw.az (s:= .int .i64) hS _ (by rw [Int.toNat_natCast,Nat.mul_one,Nat.zero_add];exact uF (by omega)) hK
theorem au.IH {b n:Nat} {t:List Int} {ty:TypeId} {i:Int} {j:Nat} {v:Int} {K:World→Prop} (h:Hp E w (af b (.cells (Vc.aT t) ty (0,0))::F)) (hi:i=(j:Int)) (hn:t.length=n) (hj:j<n)
  (hK: ∀w',Hp E w' (af b (.cells (Vc.aT (t.set j v)) ty (0,0))::F)→K w'):au ⟨b,0,none⟩ n i 1 fun q=>St q (.int .i64 v) w K:=by
 subst hi
 exact au.wr h (by omega) (by omega) (by rw [eZ,hn]) rfl (by rw [Int.toNat_natCast,Te];exact hK)
theorem iz.aT {n:Nat} {t:List Int} {i:Int} {j:Nat} {K:Int→Prop} (hi:i=(j:Int)) (hn:t.length=n) (hj:j<n) (hK:K (t.getD j 0)):iz (.int .i64) (Vc.aT t) n i K:=by
 subst hi
 exact iz.rd (s:= .int .i64) (by omega) (by omega) _ (by rw [Int.toNat_natCast];exact uF (by omega)) hK
theorem ay.nI {s:Sl} {zs:List Int} {i:Int} {j:Nat} {K:Int→Prop} (hs:aH 1 s (zs.map vI) w) (hi:i=(j:Int)) (hj:j<zs.length) (hK:K (zs.getD j 0)):ay s i 1 fun q=>Ld kI q w K:=by
 subst hi
 have hl:=hs.1
 simp only [List.length_map,Nat.mul_one] at hl
 refine ay.rd hs (by omega) (by omega) fun p hp hc=>Ld.sc (s:= .int .i64) _ ?_ hK
 rw [hc]
 simp [vI,List.getD,hj]
theorem ay.nB {s:Sl} {bs:List Nat} {i:Int} {j:Nat} {K:Int→Prop} (hs:aH 1 s (bs.map vB) w) (hi:i=(j:Int)) (hj:j<bs.length) (hK:K (bs.getD j 0:Int)):ay s i 1 fun q=>Ld (ao .u8) q w K:=by
 subst hi
 have hl:=hs.1
 simp only [List.length_map,Nat.mul_one] at hl
 refine ay.rd hs (by omega) (by omega) fun p hp hc=>Ld.sc (s:= .int .u8) (bs.getD j 0:Int) ?_ hK
 rw [hc]
 simp [vB,List.getD,hj]
theorem T7 {P:Program} {t ty e e2:TypeId} {s:Sl} {zs:List Int} {x:Int} {cs:Array Value} {K:Sl→World→Prop} (he:cE P t e 1 8) (hcs:cs=⟨[vI x]⟩) (hh:Hp E w (av 1 s (zs.map vI)::F)) (hb:zs.length≤du)
  (h: ∀s' w',Hp E w' (av 1 s' ((zs++ [x]).map vI)::F)→s'.len=zs.length+1→K s' w'):
  Nw e2 cs w fun b w1=>ar P (Builtin.append_ #[t,t] ty ⟨[.slice s.base s.len s.cap,.slice (some ⟨b,0,none⟩) 1 1]⟩) kS w1 K:=by
 have hl:=hh.bK
 rw [List.length_map,Nat.mul_one] at hl
 rw [aX] at hb
 refine Nw.mk hh fun b w1 h1=>bf (ys:= [vI x]) (n:=1) he (by decide) (.inl ⟨e,he.und⟩) h1.p1 (.inl ⟨some ⟨b,0,none⟩,1,1,rfl,rfl,h1.aj (ad.az (by rw [hcs]) rfl)⟩) rfl (fun y hy=>by
  rw [List.mem_singleton] at hy;subst hy;rfl) (by omega) (by omega) fun s' w2 h2 hs'=>h s' w2 ?_ (by omega)
 rw [List.map_append]
 exact h2.p1.drop
end
end Go.Vc
namespace Go.Hs
open Go Go.Vc
def bM (t:List Int):Bool:=t.all fun x=>decide (0≤x)&&decide (x≤2147483647)
theorem tk {t:List Int}:bM t=true↔∀i,i<t.length→0≤t.getD i 0∧t.getD i 0≤2147483647:=by
 unfold bM
 rw [List.all_eq_true]
 constructor
 ·intro h i hi
  have:=h t[i] (List.getElem_mem hi)
  simpa [List.getD,hi] using this
 ·intro h x hx
  obtain ⟨i,hi,rfl⟩:=List.getElem_of_mem hx
  simpa [List.getD,hi] using h i hi
theorem MX {t:List Int} {i:Nat} (hi:i<t.length) (h: ¬(0≤t.getD i 0∧t.getD i 0≤2147483647)):bM t=false:=by
 cases hv:bM t with
 |false=>rfl
 |true=>exact absurd (tk.1 hv i hi) h
def uc (z:Int):Bool:=decide (0≤z)&&decide (z<258)
theorem oP {z:Int}:uc z=true↔0≤z∧z<258:=by simp [uc]
def inc (t:List Int) (z:Int):List Int:=t.set z.toNat (t.getD z.toNat 0+1)
def je (t:List Int) (zs:List Int):List Int:=zs.foldl inc t
theorem Gx (t:List Int) (z:Int):(inc t z).length=t.length:=List.length_set ..
theorem vX: ∀(zs t:List Int),(je t zs).length=t.length
 | [],_=>rfl
 |z::zs,t=>by
  show (je (inc t z) zs).length=_
  rw [vX zs,Gx]
theorem Nt (t zs:List Int) (z:Int):je t (zs++ [z])=inc (je t zs) z:=by simp [je]
theorem Po {t:List Int} {z:Int} (hz:uc z=true) (ht:t.length=258) (i:Nat):(inc t z).getD i 0=t.getD i 0+if z=(i:Int) then 1 else 0:=by
 rw [oP] at hz
 unfold inc
 rw [xM (by omega)]
 by_cases h:z=(i:Int)
 ·have:i=z.toNat:=by omega
  rw [if_pos this,if_pos h,this]
 ·rw [if_neg (by omega),if_neg h];omega
theorem Ak: ∀{zs t:List Int},zs.all uc=true→t.length=258→∀i:Nat,(je t zs).getD i 0=t.getD i 0+(zs.count (i:Int):Int)
 | [],t,_,_,i=>by simp [je]
 |z::zs,t,h,ht,i=>by
  rw [List.all_cons,Bool.and_eq_true] at h
  show (je (inc t z) zs).getD i 0=_
  rw [Ak h.2 (by rw [Gx,ht]),Po h.1 ht,List.count_cons]
  by_cases e:z=(i:Int)
  ·rw [if_pos e,if_pos (by simp [e])];omega
  ·rw [if_neg e,if_neg (by simp [e])];omega
def g9 (t zs:List Int):Option (List Int):=if bM t&&zs.all uc&&bM (je t zs) then some (je t zs) else none
def Uy (o:Option (List Int)):Int:=if o.isSome then 0 else 2
theorem EM {t zs:List Int} (h:bM t=false):g9 t zs=none:=by simp [g9,h]
theorem Du {t zs:List Int} {k:Nat} (hk:k<zs.length) (h:uc (zs.getD k 0)=false):g9 t zs=none:=by
 unfold g9
 rw [if_neg]
 intro hh
 simp only [Bool.and_eq_true] at hh
 have:=List.all_eq_true.1 hh.1.2 zs[k] (List.getElem_mem hk)
 simp [List.getD,hk,this] at h
theorem nV (zs:List Int) (z:Int) (k:Nat):(zs.take k).count z≤zs.count z:=by
 have:zs.count z=(zs.take k).count z+(zs.drop k).count z:=by rw [←List.count_append,List.take_append_drop]
 omega
theorem zG {zs:List Int} {k:Nat} (hk:k<zs.length):zs.take (k+1)=zs.take k++ [zs.getD k 0]:=by
 rw [List.take_add_one,List.getElem?_eq_getElem hk]
 simp [List.getD,hk]
theorem E1 {t zs:List Int} (h1:bM t=true) (h2:zs.all uc=true) (h3:bM (je t zs)=true):g9 t zs=some (je t zs):=by simp [g9,h1,h2,h3]
theorem MN {t zs:List Int} (h3:bM (je t zs)=false):g9 t zs=none:=by simp [g9,h3]
theorem K2 {t zs u:List Int} (h:g9 t zs=some u):bM t=true∧zs.all uc=true∧u=je t zs∧bM u=true:=by
 unfold g9 at h
 split at h
 ·rename_i hh
  simp only [Bool.and_eq_true] at hh
  obtain rfl:=Option.some.inj h
  exact ⟨hh.1.1,hh.1.2,rfl,hh.2⟩
 ·cases h
end Go.Hs
namespace Go.Vc
open Go
set_option linter.unusedSectionVars false
def jw (x y:Int×Int):Bool:=decide (x.1<y.1)||(decide (x.1=y.1)&&decide (x.2<y.2))
theorem gG {x y:Int×Int}:jw x y=true↔x.1<y.1∨(x.1=y.1∧x.2<y.2):=by simp [jw]
def lO (xs:List (Int×Int)):List (Int×Int):=xs.mergeSort fun x y=> !jw y x
section
variable {E w:World} {F:List HP}
theorem Kd (xs:List (Int×Int)):(lO xs).length=xs.length:=List.length_mergeSort ..
end
end Go.Vc
namespace Go.Hs
open Go Go.Vc
theorem jH (xs:List (Int×Int)):(lO xs).Perm xs:=List.mergeSort_perm ..
theorem u9 (xs:List (Int×Int)):(lO xs).Pairwise fun a b=>jw b a=false:=by
 have h:=List.pairwise_mergeSort (le:=fun x y:Int×Int=> !jw y x) (fun a b c h1 h2=>by
   simp only [Bool.not_eq_true',Bool.eq_false_iff,ne_eq,gG] at*;omega) (fun a b=>by
   simp only [Bool.or_eq_true,Bool.not_eq_true',Bool.eq_false_iff,ne_eq,gG];omega) xs
 exact h.imp fun {a b} h=>by simpa using h
theorem Bp {a b:Int×Int} (h:a≠b) (h2:jw b a=false):jw a b=true:=by
 rw [gG]
 rw [Bool.eq_false_iff,ne_eq,gG] at h2
 have: ¬(a.1=b.1∧a.2=b.2):=fun e=>h (Prod.ext e.1 e.2)
 omega
theorem Dr {xs:List (Int×Int)} (hn:xs.Nodup):(lO xs).Pairwise fun a b=>jw a b=true:=by
 have h1:=u9 xs
 have h2:(lO xs).Nodup:=(jH xs).nodup_iff.2 hn
 exact (h1.and h2).imp fun {a b} h=>Bp h.2 h.1
theorem vG (a:Int×Int):jw a a=false:=by rw [Bool.eq_false_iff,ne_eq,gG];omega
theorem M5 {a b:Int×Int} (h:jw a b=true):jw b a=false:=by rw [Bool.eq_false_iff,ne_eq,gG];rw [gG] at h;omega
theorem mM: ∀{S:List (Int×Int)},S.Pairwise (fun a b=>jw a b=true)→∀(j:Nat) (hj:j<S.length),S.countP (fun x=>jw x S[j])=j
 | [],_,j,hj=>by simp at hj
 |a::S,h,0,_=>by
  rw [List.pairwise_cons] at h
  rw [List.countP_cons,List.getElem_cons_zero,vG,List.countP_eq_zero.2 fun x hx=>by rw [M5 (h.1 x hx)];decide]
  rfl
 |a::S,h,j+1,hj=>by
  rw [List.pairwise_cons] at h
  have hj':j<S.length:=by simpa using hj
  rw [List.countP_cons,List.getElem_cons_succ,mM h.2 j hj',h.1 _ (List.getElem_mem hj')]
  rfl
theorem zW {S:List (Int×Int)} (h:S.Pairwise (fun a b=>jw a b=true)) {x:Int×Int} (hx:x∈S): ∃hj:S.countP (fun y=>jw y x)<S.length,S[S.countP (fun y=>jw y x)]=x:=by
 obtain ⟨j,hj,rfl⟩:=List.getElem_of_mem hx
 have:=mM h j hj
 exact ⟨by omega,by simp only [this]⟩
def fi {α:Type} [DecidableEq α] (acc:List α) (t:α):List α:=if t∈acc then acc else acc++ [t]
def ij {α:Type} [DecidableEq α] (l:List α):List α:=l.foldl fi []
theorem Rg {α:Type} [DecidableEq α] {acc:List α} {t x:α}:x∈fi acc t↔x∈acc∨x=t:=by
 unfold fi
 split
 ·rename_i h
  constructor
  ·exact .inl
  ·rintro (h1|rfl)
   ·exact h1
   ·exact h
 ·simp
theorem FN {α:Type} [DecidableEq α] (l:List α) (t:α):ij (l++ [t])=fi (ij l) t:=by simp [ij]
theorem vq {α:Type} [DecidableEq α]: ∀(l acc:List α) (x:α),x∈l.foldl fi acc↔x∈acc∨x∈l
 | [],acc,x=>by simp
 |t::l,acc,x=>by
  rw [List.foldl_cons,vq l,Rg,List.mem_cons,or_assoc]
theorem tz {α:Type} [DecidableEq α] {l:List α} {x:α}:x∈ij l↔x∈l:=by
 rw [ij,vq];simp
end Go.Hs
namespace Go.Bw
open Go Go.Vc Go.Rk Go.Hs
theorem Sk:SO jw:=⟨vG,fun a b c h1 h2=>by rw [gG] at*;omega,fun a b c h1 h2=>by
 rw [Bool.eq_false_iff] at*;simp only [ne_eq,gG] at*;omega⟩
def dd (l:List (Int×Int)):List (Int×Int):=ij (lO l)
theorem wq {S:List (Int×Int)} {k:Nat} (hk:k<S.length):ij (S.take (k+1))=fi (ij (S.take k)) S[k]:=by
 rw [List.take_add_one,List.getElem?_eq_getElem hk]
 exact FN _ _
theorem tV {S:List (Int×Int)} (hS:S.Pairwise fun a b=>jw b a=false): ∀k,k≤S.length→(ij (S.take k)).Pairwise fun a b=>jw a b=true
 |0,_=>List.Pairwise.nil
 |k+1,hk=>by
  have ih:=tV hS k (by omega)
  rw [wq (by omega)]
  unfold fi
  split
  ·exact ih
  ·rename_i hn
   refine List.pairwise_append.2 ⟨ih,by simp,fun a ha b hb=> ?_⟩
   rw [List.mem_singleton] at hb
   subst hb
   have ha2:=tz.1 ha
   obtain ⟨i,hi,e⟩:=List.getElem_of_mem ha2
   rw [List.length_take] at hi
   rw [List.getElem_take] at e
   have h1:=List.pairwise_iff_getElem.1 hS i k (by omega) (by omega) (by omega)
   rw [e] at h1
   exact Bp (fun e=>hn (by rw [←e];exact ha)) h1
theorem Ba (l:List (Int×Int)):(dd l).Pairwise fun a b=>jw a b=true:=by
 have:=tV (u9 l) (lO l).length (Nat.le_refl _)
 rwa [List.take_length] at this
theorem SK {l:List (Int×Int)} {p:Int×Int}:p∈dd l↔p∈l:=by unfold dd;rw [tz,(jH l).mem_iff]
def Q0 (l:List (Int×Int)) (p:Int×Int):Nat:=rk jw (dd l) p
theorem wI {S:List (Int×Int)}: ∀k,k≤S.length→(ij (S.take k)).length≤k∧(k≤(ij (S.take k)).length→(S.take k).Nodup)
 |0,_=>⟨by simp [ij],fun _=>by simp⟩
 |k+1,hk=>by
  have ih:=wI k (by omega:k≤S.length)
  rw [wq (by omega)]
  unfold fi
  split
  ·exact ⟨by omega,fun h=>by omega⟩
  ·rename_i hn
   rw [List.length_append,List.length_singleton]
   refine ⟨by omega,fun h=> ?_⟩
   rw [List.take_add_one,List.getElem?_eq_getElem (by omega)]
   refine List.nodup_append.2 ⟨ih.2 (by omega),by simp,fun a ha b hb=> ?_⟩
   simp only [Option.toList_some,List.mem_singleton] at hb
   subst hb
   exact fun e=>hn (by rw [tz,←e];exact ha)
theorem Ql {l:List (Int×Int)} (h:l.length≤(dd l).length):l.Nodup:=by
 have:=(wI (S:=lO l) (lO l).length (Nat.le_refl _)).2
 rw [List.take_length,Kd] at this
 exact (jH l).nodup_iff.1 (this h)
theorem MI {l:List (Int×Int)} (h:l.Nodup):dd l=lO l:=by
 have h2:(dd l).Perm (lO l):=by
  have hdn:(dd l).Nodup:=(Ba l).imp fun {a b} hab e=>by subst e;rw [vG] at hab;cases hab
  refine (List.perm_ext_iff_of_nodup hdn ((jH l).nodup_iff.2 h)).2 fun a=> ?_
  rw [SK,(jH l).mem_iff]
 exact AR Sk h2 (Ba l) (Dr h)
theorem KT {l:List (Int×Int)} (h:l.Nodup) (p:Int×Int):Q0 l p=rk jw l p:=by
 unfold Q0 rk
 rw [MI h,(jH l).countP_eq]
def key (t:List Nat) (h i:Nat):List Nat:=(t.drop i).take h
def JM (t:List Nat) (h:Nat) (f:Nat→Int×Int):Prop:= ∀i j,i≤t.length→j≤t.length→(jw (f i) (f j)=true↔lx (key t h i) (key t h j)=true)∧(f i=f j↔key t h i=key t h j)
def Qr (t:List Nat) (h:Nat) (r:Nat→Int):Prop:= ∀i j,i≤t.length→j≤t.length→(r i<r j↔lx (key t h i) (key t h j)=true)∧(r i=r j↔key t h i=key t h j)
def bB (t:List Nat) (f:Nat→Int×Int):List (Int×Int):=(List.range (t.length+1)).map f
theorem gO (t:List Nat) (f:Nat→Int×Int):(bB t f).length=t.length+1:=by simp [bB]
def qC (t:List Nat) (i:Nat):Int×Int:=if i<t.length then (1+(t.getD i 0:Int),0) else (0,0)
theorem k8 {t:List Nat} {h i:Nat}:(key t h i).length=min h (t.length - i):=by unfold key;rw [List.length_take,List.length_drop]
def HE (t:List Nat) (h:Nat) (r:Nat→Int) (i:Nat):Int×Int:=(r i,if i+h≤t.length then r (i+h) else -1)
theorem vL (t:List Nat) (h i:Nat):key t (h+h) i=key t h i++key t h (i+h):=by
 unfold key
 rw [List.take_add,List.drop_drop]
theorem Kg {t:List Nat} {h i j:Nat} (hi:i≤t.length) (hj:j≤t.length) (he:key t h i=key t h j) (hne:i≠j):i+h≤t.length∧j+h≤t.length:=by
 have:=congrArg List.length he
 rw [k8,k8] at this
 omega
theorem QM {t:List Nat} {h i:Nat} (hh:t.length≤i+h):key t h (i+h)= []:=by
 unfold key
 rw [List.drop_eq_nil_of_le hh];simp
theorem GU {t:List Nat} {h:Nat} {r:Nat→Int} (hr:Qr t h r):JM t (h+h) (HE t h r):=by
 intro i j hi hj
 obtain ⟨h1,h2⟩:=hr i j hi hj
 rw [vL,vL]
 by_cases hij:i=j
 ·subst hij
  simp [vG,uK]
 by_cases he:key t h i=key t h j
 ·obtain ⟨g1,g2⟩:=Kg hi hj he hij
  obtain ⟨h3,h4⟩:=hr (i+h) (j+h) g1 g2
  have hre:=h2.2 he
  rw [←he,Kt]
  unfold HE
  rw [if_pos g1,if_pos g2,gG]
  simp only [Prod.mk.injEq,List.append_cancel_left_eq]
  rw [←h3,←h4]
  omega
 ·have hre:r i≠r j:=fun e=>he (h2.1 e)
  have hl: ∀{a b:Nat},a≤t.length→(key t h a).length<(key t h b).length→key t h (a+h)= []:=fun {a b} ha hlt=>by
   rw [k8,k8] at hlt
   exact QM (by omega)
  rw [Et _ _ _ _ he (hl hi) (hl hj),←h1]
  unfold HE
  rw [gG]
  simp only [Prod.mk.injEq]
  refine ⟨by omega,⟨fun e=>absurd e.1 hre,fun e=> ?_⟩⟩
  exfalso
  have hlen:=congrArg List.length e
  apply he
  have e1:(key t h i++key t h (i+h)).take h=key t h i∧(key t h j++key t h (j+h)).take h=key t h j:=by
   rw [←vL,←vL]
   unfold key
   rw [List.take_take,List.take_take,Nat.min_eq_left (by omega)]
   exact ⟨rfl,rfl⟩
  rw [←e1.1,←e1.2,e]
theorem done {t:List Nat} {h:Nat} {f:Nat→Int×Int} (hf:JM t h f) (hd:t.length+1≤(dd (bB t f)).length) {i:Nat} (hi:i≤t.length):Q0 (bB t f) (f i)=lj t i:=by
 have hn:(bB t f).Nodup:=Ql (by rw [gO];exact hd)
 have hinj: ∀a b,a≤t.length→b≤t.length→key t h a=key t h b→a=b:=fun a b ha hb e=>by
  have hfe:=((hf a b ha hb).2).2 e
  have hp:=List.pairwise_map.1 hn
  rcases Nat.lt_trichotomy a b with h1|h1|h1
  ·have:=List.pairwise_iff_getElem.1 hp a b (by simp;omega) (by simp;omega) h1
   simp only [List.getElem_range] at this
   exact absurd hfe this
  ·exact h1
  ·have:=List.pairwise_iff_getElem.1 hp b a (by simp;omega) (by simp;omega) h1
   simp only [List.getElem_range] at this
   exact absurd hfe.symm this
 rw [KT hn]
 unfold rk lj rk bB rows
 rw [List.countP_map]
 refine List.countP_congr fun j hj=> ?_
 rw [List.mem_range] at hj
 simp only [Function.comp]
 rw [(hf j i (by omega) hi).1]
 unfold sl
 by_cases hij:j=i
 ·subst hij;rw [uK,uK]
 ·have hne:key t h j≠key t h i:=fun e=>hij (hinj j i (by omega) hi e)
  have hs: ∀a,t.drop a=key t h a++t.drop (a+h):=fun a=>by
   unfold key
   rw [←List.drop_drop,List.take_append_drop]
  rw [hs j,hs i,Et _ _ _ _ hne]
  ·intro hlt
   rw [k8,k8] at hlt
   exact List.drop_eq_nil_of_le (by omega)
  ·intro hlt
   rw [k8,k8] at hlt
   exact List.drop_eq_nil_of_le (by omega)
end Go.Bw
namespace Go.Bw
open Go.Rk
def bE (last:List Nat) (c:Nat):Nat:=last.countP fun x=>decide (x<c)
theorem BO (last:List Nat):bE last 0=0:=by unfold bE;rw [List.countP_eq_zero];intro x _;simp
theorem vb (c:Nat): ∀last:List Nat,bE last (c+1)=bE last c+last.count c
 | []=>rfl
 |x::last=>by
  have ih:=vb c last
  unfold bE at ih⊢
  rw [List.countP_cons,List.countP_cons,List.count_cons,ih]
  by_cases h1:x<c
  ·rw [if_pos (by simp;omega),if_pos (by simp [h1]),if_neg (by simp;omega)];omega
  ·by_cases h2:x=c
   ·rw [if_pos (by simp;omega),if_neg (by simp [h1]),if_pos (by simp [h2])];omega
   ·rw [if_neg (by simp;omega),if_neg (by simp [h1]),if_neg (by simp [h2])];omega
theorem HO (l:List Nat):l=(List.range l.length).map fun i=>l.getD i 0:=by
 apply List.ext_getElem (by simp)
 intro i h1 h2
 simp [List.getD,h1]
theorem yG (l:List Nat) (p:Nat→Bool):(List.range l.length).countP (fun i=>p (l.getD i 0))=l.countP p:=by
 conv=>rhs;rw [HO l,List.countP_map]
 rfl
theorem FY (q:Nat→Bool) (a:Nat): ∀n,a≤n→(List.range n).countP (fun i=>q i&&decide (i<a))=(List.range a).countP q
 |n,h=>by
  induction n with
  |zero=>obtain rfl:a=0:=by omega
         rfl
  |succ n ih=>
   rw [List.range_succ,List.countP_append,List.countP_cons,List.countP_nil]
   by_cases e:a=n+1
   ·subst e
    rw [List.range_succ,List.countP_append,List.countP_cons,List.countP_nil]
    congr 1
    ·refine List.countP_congr fun i hi=> ?_
     rw [List.mem_range] at hi
     simp;omega
    ·congr 1;simp
   ·rw [ih (by omega)];simp;omega
theorem H8 (l:List Nat) (c a:Nat) (h:a≤l.length):(l.take a).count c=(List.range a).countP fun i=>l.getD i 0==c:=by
 have:=yG (l.take a) (fun x=>x==c)
 rw [List.length_take,Nat.min_eq_left h] at this
 show (l.take a).countP (·==c)=_
 rw [←this]
 refine List.countP_congr fun i hi=> ?_
 rw [List.mem_range] at hi
 simp only [List.getD,List.getElem?_take_of_lt hi]
def Sa (last:List Nat) (a k:Nat):Nat:=(List.range k).countP fun i=>pl last i a
theorem Ty (last:List Nat) (a:Nat):nx last a=1+Sa last a last.length:=rfl
theorem By {α:Type} (p q:α→Bool) (h: ∀x,p x=true→q x=false): ∀l:List α,l.countP (fun x=>p x||q x)=l.countP p+l.countP q
 | []=>rfl
 |x::l=>by
  rw [List.countP_cons,List.countP_cons,List.countP_cons,By p q h l]
  cases hp:p x with
  |true=>rw [h x hp];simp;omega
  |false=>simp;omega
theorem Ep {last:List Nat} {a:Nat} (ha:a<last.length):nx last a=bE last (last.getD a 0)+(last.take a).count (last.getD a 0)+1:=by
 have e1:Sa last a last.length=bE last (last.getD a 0)+(last.take a).count (last.getD a 0):=by
  unfold Sa
  have:(List.range last.length).countP (fun i=>pl last i a)=(List.range last.length).countP fun i=>(decide (last.getD i 0<last.getD a 0)||(last.getD i 0==last.getD a 0&&decide (i<a))):=rfl
  rw [this,By (fun i=>decide (last.getD i 0<last.getD a 0)) (fun i=>(last.getD i 0==last.getD a 0&&decide (i<a))) fun i h=>by
   have:=of_decide_eq_true h
   rw [show (last.getD i 0==last.getD a 0)=false from beq_eq_false_iff_ne.2 (by omega)];rfl]
  rw [FY (fun i=>last.getD i 0==last.getD a 0) a _ (by omega),←H8 _ _ _ (by omega)]
  congr 1
  exact yG last fun x=>decide (x<last.getD a 0)
 rw [Ty,e1];omega
theorem Mo {index row:Nat} (hne:row≠index):bx index (row+1)=bx index row+1:=by unfold bx;split<;>split<;>omega
theorem N7 (index:Nat):bx index (index+1)=bx index index:=by unfold bx;rw [if_pos (by omega),if_neg (by omega)];omega
theorem MJ {last:List Nat} (h:0<last.length): ¬okB last 0:=fun ⟨_,h2,_⟩=>h2 0 h rfl
end Go.Bw
namespace Go.Vc
open Go Go.Bw
def eU (f:Nat→Nat) (N:Nat):Array Value:=⟨(List.range N).map fun i=> .int .i64 (f i:Int)⟩
theorem eF (f:Nat→Nat) (N:Nat):(eU f N).size=N:=by simp [eU]
theorem mv {f:Nat→Nat} {N i:Nat} (h:i<N):(eU f N)[i]? =some (Sc.enc (.int .i64) (f i:Int)):=by simp [eU,h,Sc.enc]
theorem zz {f:Nat→Nat} {N:Nat}:(eU f N).toList.all aA=true:=by
 rw [List.all_eq_true]
 intro v hv
 obtain ⟨i,_,rfl⟩:=List.mem_map.1 hv
 rfl
theorem rP {f:Nat→Nat} {N p v:Nat}:(eU f N).setIfInBounds p (.int .i64 (v:Int))=eU (jx f p v) N:=by
 apply Array.ext'
 apply List.ext_getElem?
 intro i
 simp only [eU,Array.toList_setIfInBounds,List.getElem?_set,List.getElem?_map,List.getElem?_range,List.length_map,List.length_range]
 by_cases e:p=i
 ·subst e
  by_cases hp:p<N
  ·simp [hp,jx]
  ·simp [hp,List.getElem?_eq_none]
 ·by_cases hi:i<N
  ·simp [e,hi,jx,Ne.symm e]
  ·simp [e,List.getElem?_eq_none,hi]
theorem xr {N:Nat}:(⟨List.replicate N (.int .i64 0)⟩:Array Value)=eU (fun _=>0) N:=by
 apply Array.ext'
 show List.replicate N (Value.int .i64 0)=(List.range N).map fun _=> .int .i64 ((0:Nat):Int)
 rw [List.map_const',List.length_range];rfl
theorem ll {f g:Nat→Nat} {N:Nat} (h: ∀i,i<N→f i=g i):eU f N=eU g N:=by
 unfold eU
 congr 1
 exact List.map_congr_left fun i hi=>by rw [h i (List.mem_range.1 hi)]
def uI (g:Nat→Nat) (pm d:Nat) (col:List Nat) (k:Nat):Prop:= ∀i,i<k→∀b,b<256→nd g (pm+4*(i*256+b))=(col.take ((i+1)*d)).count b
theorem tK {col:List Nat} {k:Nat} (hk:k<col.length) (c:Nat):(col.take (k+1)).count c=(col.take k).count c+if c=col.getD k 0 then 1 else 0:=by
 rw [List.take_add_one,List.count_append,List.getElem?_eq_getElem hk,List.getD_eq_getElem?_getD,List.getElem?_eq_getElem hk]
 congr 1
 simp only [Option.toList_some,Option.getD_some,List.count_cons,List.count_nil,Nat.zero_add]
 by_cases e:c=col[k]
 ·rw [if_pos e,if_pos (beq_iff_eq.2 e.symm)]
 ·rw [if_neg e,if_neg fun h=>e (beq_iff_eq.1 h).symm]
theorem sG {col:List Nat} {k:Nat} (hk:k<col.length):jx (fun c=>(col.take k).count c) (col.getD k 0) ((col.take k).count (col.getD k 0)+1)=fun c=>(col.take (k+1)).count c:=by
 funext c
 rw [tK hk]
 unfold jx
 by_cases e:c=col.getD k 0
 ·rw [if_pos e,if_pos e,e]
 ·rw [if_neg e,if_neg e,Nat.add_zero]
theorem lh (col:List Nat) (k c:Nat):(col.take k).count c≤col.length:=Nat.le_trans List.count_le_length (by rw [List.length_take];omega)
theorem vl {f:Nat→Nat} {p q i:Nat} {col:List Nat} (hc:eL f p q=col) (hi:i<q):col.getD i 0=f (p+i):=by
 subst hc
 rw [List.getD_eq_getElem?_getD,List.getElem?_eq_getElem (by rw [dy];exact hi),s9 hi];rfl
end Go.Vc
namespace Go.Proofs.YtgglghjnakclmaaGreat
open Go Go.Vc Go.Bw
section
variable {E w:World} {F:List HP} {A:AS} {f:Nat→Nat} {pc m pm qm d:Nat} {col:List Nat}
theorem mg {a b c:Int} {K:Bool→World→Prop} (h1:b≤a) (h2:a≤c) (hK:K true w):Cl Tryz.prog [kB] eJ ⟨[.int .i64 a,.int .i64 b,.int .i64 c]⟩ w K:=
 Fy.ok _ _ _ _ _ (aa.dt h1 (ek (decide_eq_true h2) hK))
theorem MQ {K:Int→World→Prop} (hm:m≤65536) (hd:1≤d) (hd2:d≤65536) (hK:K ((m/d*1024:Nat):Int) w):Cl Tryz.prog [kI] rv ⟨[.int .i64 (m:Int),.int .i64 (d:Int)]⟩ w K:=by
 refine KF.ok _ _ _ _ (mg (by omega) (by omega) (aa.f rfl (mg (by omega) (by omega) (aa.f rfl ⟨by omega,?_⟩))))
 have hq:m/d≤m:=Nat.div_le_self _ _
 rw [show Int.tdiv (m:Int) (d:Int)=((m/d:Nat):Int) from rfl]
 generalize m/d=Q at hq hK⊢
 rw [ab (x:=(Q:Int)) (by omega),ab (by omega)]
 exact hK
structure GX (A:AS) (pc m pm qm d:Nat):Prop where
 c1:1≤m
 c2:m≤65536
 d1:1≤d
 d2:d≤65536
 ca:pc+m≤pm
 ma:pm+qm≤A.live
 mq:m/d*1024≤qm
theorem LU {K:Bool→World→Prop} (h:Hp E w F) (r:GX A pc m pm qm d) (hb:A.live≤1000000) (hK: ∀w',Hp E w' F→K true w'):Cl Tryz.prog [kB] pq ⟨[iT pc m,iT pm qm]⟩ w K:=by
 obtain ⟨c1,c2,d1,d2,ca,ma,mq⟩:=r
 refine II.ok ((pc:Int),(m:Int),()) ((pm:Int),(qm:Int),()) _ _ ?_
 dsimp only
 refine Nw.mk h fun b1 w h=>Nw.mk h fun b2 w h=> ?_
 (try simp only [ag,Nat.zero_add,Nat.add_zero])
 refine Ld.xb (b:=b1) h rfl (aa.em (fun _=>hK w ((h.no 0).no 0)) fun _=>Ld.xb (b:=b2) h rfl (aa.em (fun _=>hK w ((h.no 0).no 0)) fun _=> ?_))
 refine Ld.xb (b:=b1) h rfl (Ld.xb (b:=b1) h rfl (Ld.xb (b:=b2) h rfl ?_))
 exact aa.dt (by rw [ab (by omega)];omega) (hK w ((h.no 0).no 0))
theorem AT {K:Bool→World→Prop} (h:Hp E w (Ar A f::F)) (r:GX A pc m pm qm d) (hK: ∀w',Hp E w' (Ar A f::F)→K true w'):Cl Tryz.prog [kB] mf ⟨[pA A,iT pc m,iT pm qm,.int .i64 (d:Int)]⟩ w K:=by
 obtain ⟨aok,_⟩:=Ar.dw h
 have hbig:=aok.du;have hle:=aok.le
 have r':=r
 obtain ⟨c1,c2,d1,d2,ca,ma,mq⟩:=r'
 refine Iv.ok _ ((pc:Int),(m:Int),()) ((pm:Int),(qm:Int),()) _ _ _ ?_
 dsimp only
 refine Nw.mk h fun b1 w h=>Nw.mk h fun b2 w h=>Ld.xt (b:=b1) h rfl ?_
 refine mQ (p:=pc) (q:=m) (h.at 2) (by omega) fun w h=>aa.f rfl (Ld.xt (b:=b2) h rfl ?_)
 refine mQ (p:=pm) (q:=qm) h (by omega) fun w h=>aa.f rfl ?_
 (try simp only [ag,Nat.zero_add])
 refine Ld.xb (b:=b1) h rfl (mg (by omega) (by omega) (aa.f rfl (mg (by omega) (by omega) (aa.f rfl ?_))))
 have h:=h.drew (n:=w.drawn+1)
 refine ⟨fun w=>br b1 _ _ (0,0) w∧br b2 _ _ (0,0) w,⟨h.hb,h.hb⟩,aw.xt (fun _ h=>h.1) rfl (aw.xt (fun _ h=>h.2) rfl ?_)⟩
 refine LU h r (by omega) fun w h=>⟨⟨h.hb,h.hb⟩,aa.t rfl ?_⟩
 refine aw.xb (b:=b2) (fun _ h=>h.2) rfl (aw.xb (b:=b1) (fun _ h=>h.1) rfl ?_)
 refine MQ c2 d1 d2 ⟨⟨h.hb,h.hb⟩,ek (decide_eq_true (by omega)) (hK w ((h.no 1).no 1))⟩
theorem NR {K:Int→World→Prop} (h:Hp E w (Ar A f::F)) (r:GX A pc m pm qm d) (hcol:eL f pc m=col)
  (hK: ∀g w',uI g pm d col (m/d)→(∀j,¬(pm≤j∧j<pm+qm)→g j=f j)→Hp E w' (Ar A g::F)→K 0 w'):
  Cl Tryz.prog [kI] rl ⟨[pA A,iT pc m,iT pm qm,.int .i64 (d:Int)]⟩ w K:=by
 obtain ⟨aok0,_⟩:=Ar.dw h
 have hbig:=aok0.du;have hle:=aok0.le
 have r':=r
 obtain ⟨c1,c2,d1,d2,ca,ma,mq⟩:=r'
 have hlen:col.length=m:=by rw [←hcol,dy]
 have hq:m/d≤m:=Nat.div_le_self _ _
 have hqd:m/d*d≤m:=Nat.div_mul_le_self _ _
 refine JH.ok _ ((pc:Int),(m:Int),()) ((pm:Int),(qm:Int),()) _ _ _ ?_
 dsimp only
 refine Nw.mk h fun b1 w h=>Nw.mk h fun b2 w h=>Ld.xt (b:=b1) h rfl (Ld.xt (b:=b2) h rfl ?_)
 refine AT (h.at 2) r fun w h=>aa.f rfl (Nw.mk h fun b3 w h=> ?_)
 have h:=h
 rw [show (⟨List.replicate 256 (ni 0)⟩:Array Value)=eU (fun c=>(col.take 0).count c) 256 from xr] at h
 (try simp only [ag,Nat.zero_add])
 refine Ld.xb (b:=b1) h rfl ⟨by omega,?_⟩
 have e0:i64 ((i64 (Int.tdiv (m:Int) (d:Int)))*(d:Int))=((m/d*d:Nat):Int):=by
  rw [show Int.tdiv (m:Int) (d:Int)=((m/d:Nat):Int) from rfl]
  clear hK
  generalize m/d=Q at hq hqd mq⊢
  rw [ab (x:=(Q:Int)) (by omega),show (Q:Int)*(d:Int)=((Q*d:Nat):Int) by simp]
  generalize Q*d=X at hqd⊢
  exact ab (by omega)
 rw [e0]
 generalize hQ:m/d=Q at*
 refine ⟨fun r w=> ∃(k:Nat) (g:Nat→Nat),r=(k:Int)∧k≤Q*d∧uI g pm d col (k/d)∧(∀j,¬(pm≤j∧j<pm+qm)→g j=f j)∧
  Hp E w (af b3 (.cells (eU (fun c=>(col.take k).count c) 256) 351 (0,0))::Ar A g::af b2 (.cells ⟨[.int .i64 (pm:Int),.int .i64 (qm:Int)]⟩ 146 (0,0))::af b1 (.cells ⟨[.int .i64 (pc:Int),.int .i64 (m:Int)]⟩ 146 (0,0))::F),
  fun r _=>Q*d - r.toNat,⟨0,f,rfl,Nat.zero_le _,(fun i hi=>by rw [Nat.zero_div] at hi;omega),fun _ _=>rfl,h⟩,?_⟩
 rintro r w ⟨k,g,rfl,hk,hmk,hfr,h⟩
 refine aa.dm (fun hlt=> ?_) (fun hge=> ?_)
 ·have hlt:k<Q*d:=by omega
  have hkm:k<m:=by omega
  have hgc:col.getD k 0=g (pc+k):=by rw [vl hcol hkm,hfr _ (by omega)]
  obtain ⟨aok,_⟩:=Ar.dw (h.at 1)
  refine Ld.xt (b:=b1) h rfl ?_
  refine pf (p:=pc) (q:=m) (h.at 1) (by omega) (fun j hj hjn w h=> ?_) (fun hno=>absurd ⟨by omega,by omega⟩ hno)
  obtain rfl:k=j:=by omega
  rw [←hgc]
  have hc256:col.getD k 0<256:=by rw [hgc];exact aok.byt _
  have hcl:=lh col k (col.getD k 0)
  have h:=h.at 1
  refine au.rd h (by omega) (by omega) ((col.take k).count (col.getD k 0):Int) (by rw [Int.toNat_natCast];exact mv hc256) ?_
  rw [ab (x:=(((col.take k).count (col.getD k 0):Nat):Int)+1) (by omega),show (((col.take k).count (col.getD k 0):Nat):Int)+1=(((col.take k).count (col.getD k 0)+1:Nat):Int) by omega]
  refine au.wr h (by omega) (by omega) (eF ..) rfl fun w h=> ?_
  rw [Int.toNat_natCast,rP,sG (by omega)] at h
  rw [ab (x:=(k:Int)+1) (by omega),show Int.tmod ((k:Int)+1) (d:Int)=(((k+1) % d:Nat):Int) from rfl]
  refine ⟨by omega,aa.nm (fun hnz=> ?_) (fun hz=> ?_)⟩
  ·have hdv:(k+1)/d=k/d:=by
    have h1:=Nat.div_add_mod k d
    have h2:=Nat.div_add_mod (k+1) d
    have h3:=Nat.mod_lt k (show d>0 by omega)
    have h4:=Nat.mod_lt (k+1) (show d>0 by omega)
    have h5:(k+1) % d≠0:=fun e=>hnz (by rw [e];rfl)
    have h6:(k+1) % d=k % d+1:=by
     rcases Nat.lt_or_ge (k % d+1) d with h|h
     ·have:=Nat.add_mod k 1 d
      rw [Nat.mod_eq_of_lt (a:=1) (by omega)] at this
      rw [this,Nat.mod_eq_of_lt h]
     ·exfalso
      have e:k % d+1=d:=by omega
      have:(k+1) % d=0:=by
       have:=Nat.div_add_mod k d
       rw [show k+1=d*(k/d)+d by omega,←Nat.mul_succ]
       exact Nat.mul_mod_right ..
      exact h5 this
    have h7:d*((k+1)/d)=d*(k/d):=by omega
    exact Nat.eq_of_mul_eq_mul_left (by omega) h7
   exact ⟨⟨k+1,g,by omega,by omega,by rw [hdv];exact hmk,hfr,h⟩,by first|omega|(dsimp only;omega)⟩
  ·obtain ⟨q,hq1⟩: ∃q,k+1=(q+1)*d:=by
    have h1:=Nat.div_add_mod (k+1) d
    have h2:(k+1) % d=0:=by exact_mod_cast hz
    refine ⟨(k+1)/d - 1,?_⟩
    have h3:(k+1)/d≠0:=fun e=>by rw [e] at h1;omega
    rw [Nat.sub_add_cancel (Nat.pos_of_ne_zero h3),Nat.mul_comm]
    rw [h2] at h1
    exact h1.symm
   have hkd:k/d=q:=by
    rw [Nat.succ_mul] at hq1
    have:k=d*q+(d - 1):=by rw [Nat.mul_comm];omega
    rw [this,Nat.mul_add_div (by omega),Nat.div_eq_of_lt (by omega)];omega
   have hkd1:(k+1)/d=q+1:=by rw [hq1];exact Nat.mul_div_cancel _ (by omega)
   have hqm:q<Q:=by
    have h3:(q+1)*d≤Q*d:=by omega
    have:=Nat.le_of_mul_le_mul_right h3 (by omega)
    omega
   rw [hkd] at hmk
   refine ⟨by omega,Ld.xw (b:=b3) h (eF ..) ?_⟩
   have e1:i64 ((i64 ((i64 (Int.tdiv ((k:Int)+1) (d:Int))) - 1))*256)=((q*256:Nat):Int):=by
    rw [show Int.tdiv ((k:Int)+1) (d:Int)=(((k+1)/d:Nat):Int) from rfl,hkd1,ab (x:=((q+1:Nat):Int)) (by omega),ab (x:=((q+1:Nat):Int) - 1) (by omega),ab (by omega)]
    omega
   rw [e1]
   refine ⟨fun t w=> ∃(j:Nat) (g':Nat→Nat),t=(j:Int)∧j≤256∧uI g' pm d col q∧(∀b,b<j→nd g' (pm+4*(q*256+b))=(col.take ((q+1)*d)).count b)∧(∀j,¬(pm≤j∧j<pm+qm)→g' j=f j)∧
    Hp E w (af b3 (.cells (eU (fun c=>(col.take (k+1)).count c) 256) 351 (0,0))::Ar A g'::af b2 (.cells ⟨[.int .i64 (pm:Int),.int .i64 (qm:Int)]⟩ 146 (0,0))::af b1 (.cells ⟨[.int .i64 (pc:Int),.int .i64 (m:Int)]⟩ 146 (0,0))::F),
    fun t _=>256 - t.toNat,⟨0,g,rfl,by omega,hmk,fun b hb=>by omega,hfr,h⟩,?_⟩
   rintro t w ⟨j,g',rfl,hj,hm',hb',hfr',h⟩
   refine aa.dm (fun hlt2=> ?_) (fun hge2=> ?_)
   ·have hj2:j<256:=by omega
    have hcl2:=lh col (k+1) j
    refine iz.rd (by omega) (by omega) ((col.take (k+1)).count j:Int) (by rw [Int.toNat_natCast];exact mv hj2) ?_
    refine Ld.xt (b:=b2) h rfl ?_
    rw [ab (x:=((q*256:Nat):Int)+(j:Int)) (by omega),show ((q*256:Nat):Int)+(j:Int)=((q*256+j:Nat):Int) by omega,cN (x:=(((col.take (k+1)).count j:Nat):Int)) (by omega)]
    have hfit:4*(q*256+j)+4≤qm:=by
     have:(q+1)*1024≤Q*1024:=Nat.mul_le_mul_right _ hqm
     omega
    refine rj (p:=pm) (q:=qm) (h.at 1) (by omega) hfit (by omega) fun w h=> ?_
    rw [ab (x:=(j:Int)+1) (by omega)]
    have l4:=l8 ((col.take (k+1)).count j)
    refine ⟨⟨j+1,_,by omega,by omega,fun i hi b hb=> ?_,fun b hb=> ?_,fun p hp=> ?_,h.at 1⟩,by first|omega|(dsimp only;omega)⟩
    ·have hlt3:i*256+b<q*256:=by
      have:(i+1)*256≤q*256:=Nat.mul_le_mul_right _ hi
      omega
     rw [jo (by omega) (.inr (.inl (by omega))),if_neg (by omega)]
     exact hm' i hi b hb
    ·by_cases e:b=j
     ·subst e
      rw [jo (by omega) (.inl rfl),if_pos rfl,hq1]
     ·rw [jo (by omega) (.inr (.inl (by omega))),if_neg (by omega)]
      exact hb' b (by omega)
    ·rw [fl (by rw [l4];omega)]
     exact hfr' p hp
   ·obtain rfl:j=256:=by omega
    refine ⟨⟨k+1,g',by omega,by omega,fun i hi b hb=> ?_,hfr',h⟩,by first|omega|(dsimp only;omega)⟩
    rw [hkd1] at hi
    by_cases e:i=q
    ·subst e;exact hb' b hb
    ·exact hm' i (by omega) b hb
 ·obtain rfl:k=Q*d:=by omega
  refine hK g w ?_ hfr ((h.no 0).no 1|>.no 1)
  rw [Nat.mul_div_cancel _ (by omega)] at hmk
  exact hmk
end
end Go.Proofs.YtgglghjnakclmaaGreat
namespace Go.Proofs.YtgglghjnakclmaaGreat
open Go Go.Vc
set_option maxRecDepth 100000
theorem PH.ok (R:(Array Value)→World→Prop) w (h:
 Nw 110 ⟨List.replicate 256 (.int .u8 0)⟩ w fun b a=>
 ee 0 a fun c d (e:Int) f=>
 aa (decide (e<256))
 (au ⟨b,0,none⟩ 256 e 1 fun g=>
 St g (.int .u8 (u8 e)) f fun h=>
 c (i64 (e+1)) h∧d (i64 (e+1)) h<d e f)
 (Ld (.arr 256) ⟨b,0,none⟩ f fun i=>
 ak 256 ⟨b,0,none⟩ i f fun j=>
 Ld (.arr 256) ⟨b,0,none⟩ j fun k=>
 R k j)):Cl Pg [(.arr 256)] vv ⟨[]⟩ w R:=co Tryz.f174 [(5,[(2,kI)])] h
theorem JA.ok (a:(Array Value)) (R:Bool→World→Prop) w (h:
 Nw 110 a w fun c b=>
 Nw 351 ⟨List.replicate 256 (ni 0)⟩ b fun e d=>
 Ld (.arr 256) ⟨c,0,none⟩ d fun f=>
 ee 0 d fun g h (i:Int) j=>
 aa (decide (i<256))
 (iz (.int .u8) f 256 i fun (k:Int)=>
 au ⟨e,0,none⟩ 256 k 1 fun l=>
 St l (ni 1) j fun m=>
 g (i64 (i+1)) m∧h (i64 (i+1)) m<h i j)
 (cB j fun n o=>
 aw (.arr 256) ⟨e,0,none⟩ n fun p=>
 Cl Pg [(.arr 256)] tm ⟨[]⟩ o fun r q=>
 n q∧
 zb .i64 256 p r fun s=>
 R s q)):Cl Pg [kB] rp ⟨[(.agg a)]⟩ w R:=co Tryz.f237 [(7,[(7,kI)])] h
theorem NK.ok (a:(Array Value)) (b:Int) (R:(Array Value)→Int→Bool→World→Prop) w (h:
 Nw 110 a w fun d c=>
 Nw 110 ⟨List.replicate 256 (.int .u8 0)⟩ c fun f e=>
 aa (decide (b<0))
 (Ld (.arr 256) ⟨d,0,none⟩ e fun g=>
 ak 256 ⟨f,0,none⟩ g e fun h=>
 Ld (.arr 256) ⟨f,0,none⟩ h fun i=>
 R i 0 false h)
 (aa (decide (b≥256))
 (Ld (.arr 256) ⟨d,0,none⟩ e fun j=>
 ak 256 ⟨f,0,none⟩ j e fun k=>
 Ld (.arr 256) ⟨f,0,none⟩ k fun l=>
 R l 0 false k)
 (aY e fun m=>
 Ld (.arr 256) ⟨d,0,none⟩ m fun n=>
 au ⟨d,0,none⟩ 256 b 1 fun o=>
 Ld (ao .u8) o m fun (p:Int)=>
 ak 256 ⟨f,0,none⟩ n m fun q=>
 aY q fun r=>
 bj (⟨some ⟨f,0,none⟩,256,256⟩:Sl) 1 (i64 (b+1)) 256 1 fun s=>
 bj (⟨some ⟨d,0,none⟩,256,256⟩:Sl) 0 b 256 1 fun t=>
 ar Pg (Builtin.copy_ #[26,26] 3 ⟨[(an s),(an t)]⟩) kI r fun (v:Int) u=>
 au ⟨f,0,none⟩ 256 0 1 fun x=>
 St x (.int .u8 p) u fun y=>
 Ld (.arr 256) ⟨f,0,none⟩ y fun z=>
 ak 256 ⟨f,0,none⟩ z y fun a1=>
 Ld (.arr 256) ⟨f,0,none⟩ a1 fun b1=>
 R b1 p true a1))):Cl Pg [(.arr 256),(ao .u8),kB] tu ⟨[(.agg a),(ni b)]⟩ w R:=co Tryz.f240 [] h
theorem M8.ok (R:(Array Value)→World→Prop) w (h:
 Nw 351 ⟨List.replicate 256 (ni 0)⟩ w fun b a=>
 ee 0 a fun c d (e:Int) f=>
 aa (decide (e<256))
 (au ⟨b,0,none⟩ 256 e 1 fun g=>
 St g (ni 1) f fun h=>
 c (i64 (e+1)) h∧d (i64 (e+1)) h<d e f)
 (Ld (.arr 256) ⟨b,0,none⟩ f fun i=>
 ak 256 ⟨b,0,none⟩ i f fun j=>
 Ld (.arr 256) ⟨b,0,none⟩ j fun k=>
 R k j)):Cl Pg [(.arr 256)] tm ⟨[]⟩ w R:=co Tryz.f291 [(5,[(2,kI)])] h
end Go.Proofs.YtgglghjnakclmaaGreat
namespace Go.Proofs.YtgglghjnakclmaaGreat
open Go Go.Vc
set_option maxRecDepth 100000
theorem Fb.ok (a:Int) (b:Int) (c:Int) (R:Int→Int→World→Prop) w (h:
 aQ (fun (e:World)=>
 0≤b∧
 aa (decide ((i64 (a+(bh .i64 (i64 ((1:Int)+c)) b)))>2147483647))
 (R 0 2 e)
 (R (i64 (a+(bh .i64 (i64 ((1:Int)+c)) b))) 0 e)) fun d=>
 aa (decide (a<0))
 (R 0 2 w)
 (aa (decide (a>2147483647))
 (R 0 2 w)
 (aa (decide (b<0))
 (R 0 2 w)
 (aa (decide (b>30))
 (R 0 2 w)
 (aa (c !=0)
 (aa (c !=1)
 (R 0 2 w)
 (d w))
 (d w)))))):Cl Pg [kI,kI] kq ⟨[(ni a),(ni b),(ni c)]⟩ w R:=co Tryz.f238 [(2,[])] h
end Go.Proofs.YtgglghjnakclmaaGreat
namespace Go.Inc
inductive tX (σ β ε:Type) where
 |more (s:σ)|fin (b:β)|bad (e:ε)
inductive Rm (α σ β ε:Type) where
 |short (s:σ)|fin (b:β) (rest:List α)|bad (e:ε)
def run {α σ β ε:Type} (f:σ→α→tX σ β ε):σ→List α→Rm α σ β ε
 |s,[]=> .short s
 |s,c::l=>match f s c with
  | .more s'=>run f s' l
  | .fin b=> .fin b l
  | .bad e=> .bad e
section
variable {α σ β ε:Type} {f:σ→α→tX σ β ε}
theorem vE (s:σ):run f s []= .short s:=rfl
theorem cj (s:σ) (c:α) (l:List α):run f s (c::l)=match f s c with
  | .more s'=>run f s' l
  | .fin b=> .fin b l
  | .bad e=> .bad e:=rfl
theorem cw {s s':σ} {c:α} {l:List α} (h:f s c= .more s'):run f s (c::l)=run f s' l:=by rw [cj,h]
theorem oH {s:σ} {b:β} {c:α} {l:List α} (h:f s c= .fin b):run f s (c::l)= .fin b l:=by rw [cj,h]
theorem Gt {s:σ} {e:ε} {c:α} {l:List α} (h:f s c= .bad e):run f s (c::l)= .bad e:=by rw [cj,h]
theorem vA: ∀(a:List α) (s:σ) (l:List α),run f s (a++l)=match run f s a with
  | .short s'=>run f s' l
  | .fin b r=> .fin b (r++l)
  | .bad e=> .bad e
 | [],s,l=>rfl
 |c::a,s,l=>by
  rw [List.cons_append,cj,cj]
  cases f s c with
  |more s'=>exact vA a s' l
  |fin b=>rfl
  |bad e=>rfl
theorem eV {s s':σ} {a:List α} (h:run f s a= .short s') (l:List α):run f s (a++l)=run f s' l:=by rw [vA,h]
theorem rU {s:σ} {e:ε} {a:List α} (h:run f s a= .bad e) (l:List α):run f s (a++l)= .bad e:=by rw [vA,h]
theorem qo: ∀{l:List α} {s:σ} {b:β} {r:List α},run f s l= .fin b r→∃a c s',l=a++c::r∧run f s a= .short s'∧f s' c= .fin b
 | [],s,b,r,h=>by cases h
 |c::l,s,b,r,h=>by
  rw [cj] at h
  cases hc:f s c with
  |more s'=>
   rw [hc] at h
   obtain ⟨a,c',s'',rfl,h1,h2⟩:=qo h
   exact ⟨c::a,c',s'',rfl,by rw [cw hc,h1],h2⟩
  |fin b'=>
   rw [hc] at h
   cases h
   exact ⟨[],c,s,rfl,rfl,hc⟩
  |bad e=>rw [hc] at h;cases h
theorem Qs {a l:List α} {s s':σ} (h:run f s (a++l)= .short s'): ∃s'',run f s a= .short s'':=by
 rw [vA] at h
 cases ha:run f s a with
 |short s''=>exact ⟨s'',rfl⟩
 |fin b r=>rw [ha] at h;cases h
 |bad e=>rw [ha] at h;cases h
theorem r6 {l r:List α} {s:σ} {b:β} (h:run f s (l++r)= .fin b r) {k:Nat} (hk:k<l.length): ∃s',run f s (l.take k)= .short s':=by
 obtain ⟨a,c,s',e,h1,h2⟩:=qo h
 have e:l=a++ [c]:=List.append_cancel_right (bs:=r) (by rw [e];simp)
 subst e
 rw [List.length_append] at hk
 have:((a++ [c]).take k)=a.take k:=by rw [List.take_append_of_le_length (by simp at hk;omega)]
 rw [this]
 refine Qs (l:=a.drop k) (s':=s') ?_
 rw [List.take_append_drop];exact h1
end
end Go.Inc
namespace Go.Sym
open Go.Inc
def bO (L:List Nat) (p:Nat):List Nat:=L.getD p 0::L.eraseIdx p
theorem sF {L:List Nat} {p:Nat} (hp:p<L.length):(bO L p).Perm L:=by
 unfold bO
 have e:L.getD p 0=L[p]:=by simp [List.getD,hp]
 rw [e]
 rw [List.eraseIdx_eq_take_drop_succ]
 have h2:L.take p++L[p]::L.drop (p+1)=L:=by rw [List.getElem_cons_drop,List.take_append_drop]
 exact List.perm_middle.symm.trans (List.Perm.of_eq h2)
theorem Lu {L:List Nat} {p:Nat} (hp:p<L.length):(bO L p).length=L.length:=(sF hp).length_eq
def bu (L:List Nat):Prop:=L.Perm (List.range 256)
theorem bu.len {L:List Nat} (h:bu L):L.length=256:=by rw [h.length_eq,List.length_range]
theorem bu.mem {L:List Nat} (h:bu L) {c:Nat}:c∈L↔c<256:=by rw [h.mem_iff,List.mem_range]
theorem bu.nodup {L:List Nat} (h:bu L):L.Nodup:=h.nodup_iff.2 List.nodup_range
theorem bu.take {L:List Nat} (h:bu L) {p:Nat} (hp:p<256):bu (bO L p):=(sF (by rw [h.len];exact hp)).trans h
theorem bu.range:bu (List.range 256):=List.Perm.refl _
theorem bu.get {L:List Nat} (h:bu L) {p:Nat} (hp:p<256):L.getD p 0<256:=by
 have hl:=h.len
 have:L.getD p 0=L[p]:=by simp [List.getD,hl,hp]
 rw [this]
 exact h.mem.1 (List.getElem_mem _)
theorem bu.idx {L:List Nat} (h:bu L) {c:Nat} (hc:c<256):L.idxOf c<256∧L.getD (L.idxOf c) 0=c:=by
 have hm:=h.mem.2 hc
 have hl:=h.len
 have h1:=List.idxOf_lt_length_of_mem hm
 refine ⟨by omega,?_⟩
 rw [List.getD,List.getElem?_eq_getElem h1,List.getElem_idxOf h1];rfl
theorem bu.pM {L:List Nat} (h:bu L) {p:Nat} (hp:p<256):L.idxOf (L.getD p 0)=p:=by
 have hl:=h.len
 have e:L.getD p 0=L[p]:=by simp [List.getD,hl,hp]
 have h1:=h.idx (h.get hp)
 have e2:L[L.idxOf (L.getD p 0)]'(by omega)=L[p]:=by
  have:=h1.2
  rw [List.getD,List.getElem?_eq_getElem (by omega)] at this
  exact this.trans e
 exact (List.getElem_inj h.nodup).1 e2
def dX (n:Nat):List Nat:=if _h:n=0 then [] else (n - 1) % 2::dX ((n - 1)/2)
termination_by n
decreasing_by omega
theorem iU:dX 0= []:=by rw [dX];simp
theorem jC {n:Nat} (h:0<n):dX n=(n - 1) % 2::dX ((n - 1)/2):=by rw [dX,dif_neg (by omega)]
theorem AH (n:Nat): ∀d∈dX n,d<2:=by
 induction n using Nat.strongRecOn with
 |ind n ih=>
  rcases Nat.eq_zero_or_pos n with e|e
  ·rw [e,iU];simp
  ·rw [jC e]
   intro d hd
   rcases List.mem_cons.1 hd with h|h
   ·omega
   ·exact ih _ (by omega) d h
def cS:List Nat→Nat→List Nat→List Nat×List Nat×Nat
 |L,r,[]=>([],L,r)
 |L,r,c::b=>
  if L.idxOf c=0 then cS (bO L 0) (r+1) b
  else
   let x:=cS (bO L (L.idxOf c)) 0 b
   (dX r++(L.idxOf c+1)::x.1,x.2)
def c6 (L:List Nat) (r:Nat) (b:List Nat):List Nat:=(cS L r b).1++dX (cS L r b).2.2++ [257]
def syms (b:List Nat):List Nat:=c6 (List.range 256) 0 b
theorem mh (L:List Nat) (r:Nat):c6 L r []=dX r++ [257]:=by simp [c6,cS]
theorem ka {L:List Nat} {r c:Nat} {b:List Nat} (h:L.idxOf c=0):c6 L r (c::b)=c6 (bO L 0) (r+1) b:=by
 unfold c6;rw [cS,if_pos h]
theorem lz {L:List Nat} {r c:Nat} {b:List Nat} (h:L.idxOf c≠0):c6 L r (c::b)=dX r++(L.idxOf c+1)::c6 (bO L (L.idxOf c)) 0 b:=by
 unfold c6;rw [cS,if_neg h];simp
structure DS where
 L:List Nat
 left:Nat
 run:Nat
 digits:Nat
def bz (d:DS) (s:Nat):Option (DS×List Nat×Bool):=
 if s<2 then
  if d.run+(1+s)*2^d.digits≤d.left then some (⟨d.L,d.left,d.run+(1+s)*2^d.digits,d.digits+1⟩,[],false) else none
 else if s=257 then
  if d.run=d.left then some (⟨d.L,0,0,0⟩,List.replicate d.run (d.L.getD 0 0),true) else none
 else if d.run=d.left then none
 else some (⟨bO d.L (s - 1),d.left - (d.run+1),0,0⟩,List.replicate d.run (d.L.getD 0 0)++ [d.L.getD (s - 1) 0],false)
def kf (d:DS×List Nat) (s:Nat):tX (DS×List Nat) (List Nat) Nat:=match bz d.1 s with
 |none=> .bad 160
 |some (_,t,true)=> .fin (d.2++t)
 |some (d',t,false)=> .more (d',d.2++t)
theorem xz {d d':DS} {acc t:List Nat} {s:Nat} (h:bz d s=some (d',t,false)):kf (d,acc) s= .more (d',acc++t):=by unfold kf;rw [h]
theorem GZ {d d':DS} {acc t:List Nat} {s:Nat} (h:bz d s=some (d',t,true)):kf (d,acc) s= .fin (acc++t):=by unfold kf;rw [h]
theorem Pa {d:DS} {acc:List Nat} {s:Nat} (h:bz d s=none):kf (d,acc) s= .bad 160:=by unfold kf;rw [h]
theorem Ez (L:List Nat) (left:Nat) (acc rest:List Nat): ∀(n q k:Nat),q+n*2^k≤left→∃k',run kf (⟨L,left,q,k⟩,acc) (dX n++rest)=run kf (⟨L,left,q+n*2^k,k'⟩,acc) rest:=by
 intro n
 induction n using Nat.strongRecOn with
 |ind n ih=>
  intro q k hle
  rcases Nat.eq_zero_or_pos n with e|e
  ·subst e
   exact ⟨k,by rw [iU];simp⟩
  ·rw [jC e]
   have hs:(1+(n - 1) % 2)*2^k+(n - 1)/2*2^(k+1)=n*2^k:=by
    rw [Nat.pow_succ,Nat.mul_comm (2^k) 2,←Nat.mul_assoc,←Nat.add_mul]
    congr 1;omega
   obtain ⟨k',h⟩:=ih ((n - 1)/2) (by omega) (q+(1+(n - 1) % 2)*2^k) (k+1) (by omega)
   refine ⟨k',?_⟩
   have h1:bz ⟨L,left,q,k⟩ ((n - 1) % 2)=some (⟨L,left,q+(1+(n - 1) % 2)*2^k,k+1⟩,[],false):=by
    unfold bz
    simp only
    rw [if_pos (by omega),if_pos (by omega)]
   rw [List.cons_append,cw (xz h1),List.append_nil,h]
   congr 3
   omega
theorem tO {L:List Nat} (hL:bu L) {c:Nat} (hc:c<256) (h:L.idxOf c=0):L.getD 0 0=c∧bO L 0=L:=by
 have:=(hL.idx hc).2
 rw [h] at this
 refine ⟨this,?_⟩
 unfold bO
 cases L with
 |nil=>have:=hL.len;simp at this
 |cons x L=>rfl
theorem uC: ∀(b L:List Nat) (r left:Nat) (acc rest:List Nat),bu L→(∀x∈b,x<256)→left=r+b.length→
  run kf (⟨L,left,0,0⟩,acc) (c6 L r b++rest)= .fin (acc++List.replicate r (L.getD 0 0)++b) rest
 | [],L,r,left,acc,rest,hL,_,hl=>by
  rw [mh,List.append_assoc]
  obtain ⟨k',h⟩:=Ez L left acc ([257]++rest) r 0 0 (by simp at hl;omega)
  rw [h]
  have h1:bz ⟨L,left,0+r*2^0,k'⟩ 257=some (⟨L,0,0,0⟩,List.replicate r (L.getD 0 0),true):=by
   unfold bz
   simp only [Nat.zero_add,Nat.pow_zero,Nat.mul_one]
   rw [if_neg (by decide),if_pos trivial,if_pos (by simp at hl;omega)]
  show run kf _ (257::rest)=_
  rw [oH (GZ h1)]
  simp
 |c::b,L,r,left,acc,rest,hL,hb,hl=>by
  have hc:=hb c List.mem_cons_self
  have hb': ∀x∈b,x<256:=fun x hx=>hb x (List.mem_cons_of_mem _ hx)
  simp only [List.length_cons] at hl
  by_cases h0:L.idxOf c=0
  ·obtain ⟨e1,e2⟩:=tO hL hc h0
   rw [ka h0,e2,uC b L (r+1) left acc rest hL hb' (by omega),e1,List.replicate_succ']
   simp
  ·obtain ⟨i1,i2⟩:=hL.idx hc
   rw [lz h0,List.append_assoc]
   obtain ⟨k',h⟩:=Ez L left acc ((L.idxOf c+1)::c6 (bO L (L.idxOf c)) 0 b++rest) r 0 0 (by omega)
   rw [h]
   have h1:bz ⟨L,left,0+r*2^0,k'⟩ (L.idxOf c+1)=some (⟨bO L (L.idxOf c),left - (r+1),0,0⟩,List.replicate r (L.getD 0 0)++ [c],false):=by
    unfold bz
    simp only [Nat.zero_add,Nat.pow_zero,Nat.mul_one,Nat.add_sub_cancel,i2]
    rw [if_neg (by omega),if_neg (by omega),if_neg (by omega)]
   rw [List.cons_append,cw (xz h1)]
   rw [uC b (bO L (L.idxOf c)) 0 (left - (r+1)) _ rest (hL.take i1) hb' (by omega)]
   simp
theorem JS {b:List Nat} (hb: ∀x∈b,x<256) (rest:List Nat):run kf (⟨List.range 256,b.length,0,0⟩,[]) (syms b++rest)= .fin b rest:=by
 unfold syms
 rw [uC b _ 0 b.length [] rest bu.range hb (by omega)]
 simp
theorem q8: ∀(b L:List Nat) (r:Nat),bu L→(∀x∈b,x<256)→∀s∈c6 L r b,s≤257
 | [],L,r,_,_=>fun s hs=>by
  rw [mh] at hs
  rcases List.mem_append.1 hs with h|h
  ·have:=AH _ s h;omega
  ·rw [List.mem_singleton] at h;omega
 |c::b,L,r,hL,hb=>fun s hs=>by
  have hc:=hb c List.mem_cons_self
  have hb': ∀x∈b,x<256:=fun x hx=>hb x (List.mem_cons_of_mem _ hx)
  obtain ⟨i1,_⟩:=hL.idx hc
  by_cases h0:L.idxOf c=0
  ·rw [ka h0] at hs
   exact q8 b _ (r+1) (hL.take (by decide)) hb' s hs
  ·rw [lz h0] at hs
   rcases List.mem_append.1 hs with h|h
   ·have:=AH _ s h;omega
   ·rcases List.mem_cons.1 h with h|h
    ·omega
    ·exact q8 b _ 0 (hL.take i1) hb' s h
theorem wa {b:List Nat} (hb: ∀x∈b,x<256): ∀s∈syms b,s≤257:=q8 b _ 0 bu.range hb
end Go.Sym
namespace Go.Vc
theorem Fa {n:Nat} {f:Nat→Int}:(eo n f).toList.all aA=true:=by
 unfold eo
 rw [List.all_map]
 exact List.all_eq_true.2 fun _ _=>rfl
theorem AU {n:Nat}:eo n (fun _=>0)=⟨List.replicate n (.int .i64 0)⟩:=by
 unfold eo
 rw [List.map_const',List.length_range]
theorem zb.row {n:Nat} {f g:Nat→Int} {K:Bool→Prop} (hK:K (((List.range n).map f)==((List.range n).map g))):zb .i64 n (eo n f) (eo n g) K:=
 ⟨(List.range n).map f,(List.range n).map g,by simp [eo],by simp [eo],by simp,by simp,hK⟩
end Go.Vc
namespace Go.Proofs.YtgglghjnakclmaaGreat
open Go Go.Vc Go.Inc Go.Sym
abbrev bg (l:List Nat):List Value:=l.map fun (n:Nat)=>Value.int .u8 (n:Int)
theorem fI {L:List Nat} (h:L.length=256):(bg L).length=256:=by simp [h]
theorem cv {l:List Nat}:(bg l).all aA=true:=by
 unfold bg
 rw [List.all_map]
 exact List.all_eq_true.2 fun _ _=>rfl
section
variable {E w:World} {F:List HP}
theorem O3:Tryz.prog.underlying 26=some (.slice 5):=by kernel_rfl
theorem SN:(Tryz.prog.info? 5).map (·.size)=some 1:=by kernel_rfl
theorem SG {K:Array Value→World→Prop} (h:Hp E w F) (hK: ∀w',Hp E w' F→K ⟨bg (List.range 256)⟩ w'):Cl Tryz.prog [.arr 256] vv ⟨[]⟩ w K:=by
 refine PH.ok _ _ ?_
 (skip)
 refine Nw.mk h fun b2 w h=> ?_
 have hlen: ∀k,k≤256→(bg (List.range k++List.replicate (256 - k) 0)).length=256:=fun k hk=>by simp;omega
 refine ⟨fun i w'=> ∃k:Nat,i=(k:Int)∧k≤256∧Hp E w' (af b2 (.cells ⟨bg (List.range k++List.replicate (256 - k) 0)⟩ 110 (0,0))::F),fun i _=>256 - i.toNat,⟨0,rfl,by omega,by
  have:(⟨bg (List.range 0++List.replicate (256 - 0) 0)⟩:Array Value)=⟨List.replicate 256 (.int .u8 0)⟩:=by simp
  rw [this];exact h⟩,?_⟩
 rintro i w ⟨k,rfl,hk,h⟩
 (first|refine aa.dm (fun hb=> ?_) (fun hb=> ?_)|refine aa.em (fun hb=> ?_) (fun hb=> ?_)|refine aa.nm (fun hb=> ?_) (fun hb=> ?_)|refine aa.mk (fun hb=> ?_) (fun hb=> ?_))
 ·refine ⟨by omega,by omega,?_⟩
  rw [show ((k:Int)).toNat*1=k by omega]
  (try simp only [ag,Nat.zero_add])
  have hk:=hlen k (by omega)
  refine St.xb h (by simp;omega) rfl fun w h=> ?_
  rw [ab (by omega)]
  refine ⟨⟨k+1,rfl,by omega,?_⟩,by omega⟩
  have e:(⟨bg (List.range k++List.replicate (256 - k) 0)⟩:Array Value).setIfInBounds k (.int .u8 (u8 (k:Int)))=⟨bg (List.range (k+1)++List.replicate (256 - (k+1)) 0)⟩:=by
   rw [eD (by omega)]
   apply Array.ext'
   rw [Array.toList_setIfInBounds]
   have:(bg (List.range k++List.replicate (256 - k) 0)).set k (.int .u8 (k:Int))=bg ((List.range k++List.replicate (256 - k) 0).set k k):=by rw [bg,bg,List.map_set]
   rw [this,List.set_append_right _ _ (by simp),List.length_range,Nat.sub_self]
   obtain ⟨m,hm⟩: ∃m,256 - k=m+1:=⟨255 - k,by omega⟩
   rw [hm,List.replicate_succ,List.set_cons_zero,List.range_succ,show 256 - (k+1)=m by omega]
   simp
  rw [e] at h
  exact h
 ·have hk2:k=256:=by omega
  subst hk2
  have e:(⟨bg (List.range 256++List.replicate (256 - 256) 0)⟩:Array Value)=⟨bg (List.range 256)⟩:=by simp
  rw [e] at h
  have hn:(⟨bg (List.range 256)⟩:Array Value).size=256:=by simp
  refine Ld.xw h hn ?_
  refine ak.q h hn hn cv fun w h=> ?_
  exact Ld.xw h hn (hK _ h.tl)
theorem RC {K:Array Value→World→Prop} (h:Hp E w F) (hK: ∀w',Hp E w' F→K (eo 256 fun _=>1) w'):Cl Tryz.prog [.arr 256] tm ⟨[]⟩ w K:=by
 refine M8.ok _ _ ?_
 (skip)
 refine Nw.mk h fun b2 w h=> ?_
 refine ⟨fun i w'=> ∃k:Nat,i=(k:Int)∧k≤256∧Hp E w' (af b2 (.cells (eo 256 fun j=>if j<k then 1 else 0) 351 (0,0))::F),fun i _=>256 - i.toNat,⟨0,rfl,by omega,by
  rw [gX (g:=fun _=>0) (fun i _=>by simp),AU];exact h⟩,?_⟩
 rintro i w ⟨k,rfl,hk,h⟩
 (first|refine aa.dm (fun hb=> ?_) (fun hb=> ?_)|refine aa.em (fun hb=> ?_) (fun hb=> ?_)|refine aa.nm (fun hb=> ?_) (fun hb=> ?_)|refine aa.mk (fun hb=> ?_) (fun hb=> ?_))
 ·refine ⟨by omega,by omega,?_⟩
  rw [show ((k:Int)).toNat*1=k by omega]
  (try simp only [ag,Nat.zero_add])
  refine St.xb h (by rw [ey];omega) rfl fun w h=> ?_
  rw [ab (by omega)]
  refine ⟨⟨k+1,rfl,by omega,?_⟩,by omega⟩
  rw [tC] at h
  rw [gX (g:=fun j=>if j<k+1 then 1 else 0) (fun i _=>by
   by_cases h1:i=k
   ·subst h1;simp
   ·by_cases h2:i<k
    ·simp [h1,h2];omega
    ·simp [h1,h2];omega)] at h
  exact h
 ·have hk2:k=256:=by omega
  subst hk2
  rw [gX (g:=fun _=>1) (fun i hi=>by simp [hi])] at h
  refine Ld.xw h ey ?_
  refine ak.q h ey ey Fa fun w h=> ?_
  exact Ld.xw h ey (hK _ h.tl)
theorem Ka {L:List Nat} {K:Bool→World→Prop} (h:Hp E w F) (hL:bu L) (hK: ∀w',Hp E w' F→K true w'):Cl Tryz.prog [kB] rp ⟨[.agg ⟨bg L⟩]⟩ w K:=by
 have hl:=hL.len
 have hlt: ∀x∈L,x<256:=fun x hx=>by simpa using hL.mem_iff.1 hx
 refine JA.ok _ _ _ ?_
 (skip)
 have hn:(⟨bg L⟩:Array Value).size=256:=by simp [hl]
 refine Nw.mk h fun b3 w h=>Nw.mk h fun b5 w h=>Ld.xw h hn ?_
 refine ⟨fun i w'=> ∃k:Nat,i=(k:Int)∧k≤256∧Hp E w' (af b5 (.cells (eo 256 fun j=>if j∈L.take k then 1 else 0) 351 (0,0))::af b3 (.cells ⟨bg L⟩ 110 (0,0))::F),fun i _=>256 - i.toNat,⟨0,rfl,by omega,by
  rw [gX (g:=fun _=>0) (fun i _=>by simp),AU];exact h⟩,?_⟩
 rintro i w ⟨k,rfl,hk,h⟩
 (first|refine aa.dm (fun hb=> ?_) (fun hb=> ?_)|refine aa.em (fun hb=> ?_) (fun hb=> ?_)|refine aa.nm (fun hb=> ?_) (fun hb=> ?_)|refine aa.mk (fun hb=> ?_) (fun hb=> ?_))
 ·have hkl:k<L.length:=by omega
  refine iz.rd (s:= .int .u8) (by omega) (by omega) (L[k]:Int) ?_ ?_
  ·simp [hkl]
  have hx:=hlt _ (List.getElem_mem hkl)
  refine ⟨by omega,by omega,?_⟩
  rw [show ((L[k]:Int)).toNat*1=L[k] by omega]
  (try simp only [ag,Nat.zero_add])
  refine St.xb h (by rw [ey];omega) rfl fun w h=> ?_
  rw [ab (by omega)]
  refine ⟨⟨k+1,rfl,by omega,?_⟩,by omega⟩
  rw [tC] at h
  rw [gX (g:=fun j=>if j∈L.take (k+1) then 1 else 0) (fun i _=>by
   have hmem:i∈L.take (k+1)↔i∈L.take k∨i=L[k]:=by
    rw [List.take_add_one,List.getElem?_eq_getElem hkl,List.mem_append]
    exact or_congr Iff.rfl List.mem_singleton
   by_cases h1:i=L[k]
   ·rw [if_pos h1,if_pos (hmem.2 (.inr h1))]
   ·rw [if_neg h1]
    by_cases h2:i∈L.take k
    ·rw [if_pos h2,if_pos (hmem.2 (.inl h2))]
    ·rw [if_neg h2,if_neg (fun hh=>(hmem.1 hh).elim h2 h1)])] at h
  exact h
 ·have hk2:k=256:=by omega
  subst hk2
  rw [gX (g:=fun _=>1) (fun i hi=>by
   rw [List.take_of_length_le (by omega),if_pos]
   exact hL.mem_iff.2 (by simpa using hi))] at h
  have h:=h.drew (n:=w.drawn+1)
  refine ⟨br b5 _ _ _,h.hb,?_⟩
  dsimp only
  refine aw.xw (fun _ h=>h) ey ?_
  refine RC h fun w h=>⟨h.hb,?_⟩
  refine zb.row ?_
  rw [beq_self_eq_true]
  exact hK _ h.tl
theorem MA {L:List Nat} {p:Nat} (hl:L.length=256) (hp:p<256):((bg L).take 1++((bg (L.take p)).take p++(bg L).drop (1+min (bg (L.take p)).length p))).set 0 (.int .u8 (L.getD p 0:Int))=bg (bO L p):=by
 have e1:(bg (L.take p)).length=p:=by simp;omega
 rw [e1,Nat.min_self,List.take_of_length_le (l:=bg (L.take p)) (by omega),Nat.add_comm 1 p]
 unfold bO
 rw [List.eraseIdx_eq_take_drop_succ]
 cases L with
 |nil=>simp at hl
 |cons a L=>simp [bg,List.map_take,List.map_drop]
theorem O5 {L:List Nat} {p:Nat} {K:Array Value→Int→Bool→World→Prop} (h:Hp E w F) (hl:L.length=256) (hp:p<256) (hK: ∀w',Hp E w' F→K ⟨bg (bO L p)⟩ (L.getD p 0:Int) true w'):
  Cl Tryz.prog [.arr 256,ao .u8,kB] tu ⟨[.agg ⟨bg L⟩,.int .i64 (p:Int)]⟩ w K:=by
 refine NK.ok _ _ _ _ ?_
 (skip)
 have hn:(⟨bg L⟩:Array Value).size=256:=by simp [hl]
 have hz:(⟨List.replicate 256 (.int .u8 0)⟩:Array Value).size=256:=by simp
 have hpl:p<L.length:=by omega
 refine Nw.mk h fun b4 w h=>Nw.mk h fun b6 w h=> ?_
 (with_reducible repeat first|refine aY.mk h fun w h=> ?_|refine aa.no ?_)
 refine Ld.xw h hn ?_
 refine ⟨by omega,by omega,?_⟩
 rw [show ((p:Int)).toNat*1=p by omega]
 (try simp only [ag,Nat.zero_add])
 refine Ld.xb (x:=(L.getD p 0:Int)) h ?_ ?_
 ·simp [List.getD_eq_getElem?_getD,hpl]
 refine ak.q h hz hn cv fun w h=>aY.mk h fun w h=> ?_
 rw [ab (by omega)]
 refine ⟨by omega,by omega,by omega,by simp,?_⟩
 rw [if_neg (by simp),show (1:Int).toNat*1=1 by decide,show ((p:Int)+1).toNat - (1:Int).toNat=p by omega,show (256:Int).toNat - (1:Int).toNat=255 by decide]
 refine ⟨by omega,by omega,by omega,by simp,?_⟩
 rw [if_neg (by decide),show (0:Int).toNat*1=0 by decide,show ((p:Int)).toNat - (0:Int).toNat=p by omega,show (256:Int).toNat - (0:Int).toNat=256 by decide]
 simp only [Option.map_some,ag,Nat.zero_add]
 have hsrc:aH 1 ⟨some ⟨b4,0,none⟩,p,256⟩ (bg (L.take p)) w:=by
  refine ⟨by simp;omega,fun i hi=>⟨⟨b4,0,none⟩,rfl,?_⟩⟩
  rw [ag,h.fc]
  simp at hi⊢
  simp [show i<L.length by omega]
 refine nw (ys:=bg (L.take p)) O3 SN h hsrc (List.all_eq_true.1 cv) (by rw [hn];dsimp only;omega) fun w h=> ?_
 refine ⟨by omega,by omega,?_⟩
 rw [show ((0:Int)).toNat*1=0 by decide]
 (try simp only [ag,Nat.add_zero])
 refine St.xb h (by simp;omega) rfl fun w h=> ?_
 have e:(⟨(⟨bg L⟩:Array Value).toList.take 1++((bg (L.take p)).take p++(⟨bg L⟩:Array Value).toList.drop (1+min (bg (L.take p)).length p))⟩:Array Value).setIfInBounds 0 (.int .u8 (L.getD p 0:Int))=⟨bg (bO L p)⟩:=by
  apply Array.ext'
  rw [Array.toList_setIfInBounds]
  exact MA hl hp
 rw [e] at h
 have hm:(⟨bg (bO L p)⟩:Array Value).size=256:=by
  have:(bO L p).length=256:=by unfold bO;simp [List.length_eraseIdx,hpl];omega
  simp [this]
 refine Ld.xw h hm ?_
 refine ak.q h hm hm cv fun w h=> ?_
 exact Ld.xw h hm (hK _ h.tl)
theorem S5 {n many d:Nat} {K:Int→Int→World→Prop} (hn:n≤65536) (hm:many≤16) (hd:d≤1) (hK:K ((n+(1+d)*2^many:Nat):Int) 0 w):
  Cl Tryz.prog [kI,kI] kq ⟨[.int .i64 (n:Int),.int .i64 (many:Int),.int .i64 (d:Int)]⟩ w K:=by
 have hp:2^many≤65536:=Nat.pow_le_pow_right (n:=2) (by decide) hm
 have hpp:=Nat.two_pow_pos many
 have hb:(1+d)*2^many≤131072:=by
  have:=Nat.mul_le_mul (show 1+d≤2 by omega) hp
  omega
 refine Fb.ok _ _ _ _ _ ?_
 have fin:0≤(many:Int)∧aa (decide (i64 ((n:Int)+bh .i64 (i64 (1+(d:Int))) (many:Int))>2147483647)) (K 0 2 w) (K (i64 ((n:Int)+bh .i64 (i64 (1+(d:Int))) (many:Int))) 0 w):=by
  refine ⟨by omega,?_⟩
  have hmx:IntKind.max .i64=9223372036854775807:=rfl
  rw [ab (x:=1+(d:Int)) (by omega),show 1+(d:Int)=((1+d:Nat):Int) by omega,dL (k:= .i64) (by have:IntKind.bits .i64=64:=rfl;omega) (by rw [hmx];omega),ab (by omega)]
  exact aa.df (by omega) (by rw [←Int.natCast_add];exact hK)
 (try simp only [aO])
 refine aa.df (by omega) (aa.df (by omega) (aa.df (by omega) (aa.df (by omega) ?_)))
 by_cases h0:d=0
 ·exact aa.nf (by omega) fin
 ·exact aa.nt (by omega) (aa.nf (by omega) fin)
end
end Go.Proofs.YtgglghjnakclmaaGreat
namespace Go.Proofs.YtgglghjnakclmaaGreat
open Go Go.Vc Go.Bw
section
variable {E w:World} {F:List HP} {A:AS} {f:Nat→Nat} {pc m pm qm d:Nat} {col:List Nat}
theorem CR {b1 place c n0 k0:Nat} {R:Int→Int→Bool→World→Prop} {t:TypeId} (h:Hp E w (Ar A f::af b1 (.cells ⟨[.int .i64 (pc:Int),.int .i64 (m:Int)]⟩ t (0,0))::F)) (hle:pc+m≤A.live) (hm:m≤65536) (hcol:eL f pc m=col) (hk:k0≤place) (hp:place≤m)
  (hn:n0=(col.take k0).count c) (hK: ∀w',Hp E w' (Ar A f::F)→R (((col.take place).count c:Nat):Int) ((place - k0:Nat):Int) true w'):
  BE (n0:Int) (0:Int) (k0:Int) w fun I ms (x:Int) (y:Int) (z:Int) w1=>aa (decide (z<(place:Int))) (Ld (.st [.int .i64,.int .i64]) ⟨b1,0,none⟩ w1 fun g=>Cl Tryz.prog [ao .u8,kB] bA ⟨[pA A,.agg ⟨[.int .i64 g.1,.int .i64 g.2.1]⟩,.int .i64 z]⟩ w1 fun (i:Int) (_:Bool) w2=>
   aa (i==(c:Int)) (I (i64 (x+1)) (i64 (y+1)) (i64 (z+1)) w2∧ms (i64 (x+1)) (i64 (y+1)) (i64 (z+1)) w2<ms x y z w1) (I x (i64 (y+1)) (i64 (z+1)) w2∧ms x (i64 (y+1)) (i64 (z+1)) w2<ms x y z w1)) (R x y true w1):=by
 have hlen:col.length=m:=by rw [←hcol,dy]
 refine ⟨fun x y z w=> ∃k:Nat,z=(k:Int)∧k0≤k∧k≤place∧y=((k - k0:Nat):Int)∧x=(((col.take k).count c:Nat):Int)∧Hp E w (Ar A f::af b1 (.cells ⟨[.int .i64 (pc:Int),.int .i64 (m:Int)]⟩ t (0,0))::F),fun _ _ z _=>place - z.toNat,⟨k0,rfl,Nat.le_refl _,hk,by rw [Nat.sub_self];rfl,by rw [hn],h⟩,?_⟩
 rintro x y z w ⟨k,rfl,h1,h2,rfl,rfl,h⟩
 refine aa.dm (fun hlt=> ?_) (fun hge=> ?_)
 ·have hlt:k<place:=by omega
  have hcl:=lh col k c
  have hsn:=tK (col:=col) (k:=k) (by omega) c
  refine Ld.xt (b:=b1) h rfl ?_
  refine pf (p:=pc) (q:=m) h hle (fun j hj hjn w h=> ?_) (fun hno=>absurd ⟨by omega,by omega⟩ hno)
  obtain rfl:k=j:=by omega
  rw [←vl hcol (by omega),ab (x:=((k - k0:Nat):Int)+1) (by omega),ab (x:=(k:Int)+1) (by omega)]
  refine aa.em (fun he=> ?_) (fun hne=> ?_)
  ·rw [if_pos (by omega)] at hsn
   rw [ab (by omega)]
   exact ⟨⟨k+1,by omega,by omega,by omega,by omega,by omega,h⟩,by first|omega|(dsimp only;omega)⟩
  ·rw [if_neg (by omega)] at hsn
   exact ⟨⟨k+1,by omega,by omega,by omega,by omega,by omega,h⟩,by first|omega|(dsimp only;omega)⟩
 ·obtain rfl:k=place:=by omega
  exact hK w (h.no 1)
theorem C7 {place c:Nat} {K:Int→Int→Bool→World→Prop} (h:Hp E w (Ar A f::F)) (r:GX A pc m pm qm d) (hcol:eL f pc m=col) (hm:uI f pm d col (m/d)) (hp:place≤m) (hc:c<256)
  (hK: ∀w',Hp E w' (Ar A f::F)→K (((col.take place).count c:Nat):Int) ((place % d:Nat):Int) true w'):
  Cl Tryz.prog [kI,kI,kB] im ⟨[pA A,iT pc m,iT pm qm,.int .i64 (d:Int),.int .u8 (c:Int),.int .i64 (place:Int)]⟩ w K:=by
 obtain ⟨aok0,_⟩:=Ar.dw h
 have hbig:=aok0.du;have hle:=aok0.le
 have r':=r
 obtain ⟨c1,c2,d1,d2,ca,ma,mq⟩:=r'
 have hlen:col.length=m:=by rw [←hcol,dy]
 have hq:place/d≤place:=Nat.div_le_self _ _
 have hqd:place/d*d≤place:=Nat.div_mul_le_self _ _
 have hsub:place - place/d*d=place % d:=by have:=Nat.div_add_mod place d;rw [Nat.mul_comm] at this;omega
 refine JE.ok _ ((pc:Int),(m:Int),()) ((pm:Int),(qm:Int),()) _ _ _ _ _ ?_
 dsimp only
 refine Nw.mk h fun b1 w h=>Nw.mk h fun b2 w h=> ?_
 rw [aO];dsimp only
 refine Ld.xt (b:=b1) h rfl (Ld.xt (b:=b2) h rfl ?_)
 refine AT (h.at 2) r fun w h=>aa.f rfl ?_
 (try simp only [ag,Nat.zero_add])
 refine Ld.xb (b:=b1) h rfl (mg (by omega) (by omega) (aa.f rfl ⟨by omega,?_⟩))
 have e1:i64 (Int.tdiv (place:Int) (d:Int))=((place/d:Nat):Int):=by
  rw [show Int.tdiv (place:Int) (d:Int)=((place/d:Nat):Int) from rfl]
  clear hsub hK
  generalize place/d=T at hq hqd⊢
  exact ab (by omega)
 have e2:i64 ((i64 (Int.tdiv (place:Int) (d:Int)))*(d:Int))=((place/d*d:Nat):Int):=by
  rw [e1,show ((place/d:Nat):Int)*(d:Int)=((place/d*d:Nat):Int) by simp]
  clear hsub hK e1
  generalize place/d*d=T at hqd⊢
  exact ab (by omega)
 rw [e2,e1]
 clear e1 e2
 have hdd:=Nat.div_le_div_right (c:=d) hp
 generalize hT:place/d=T at*
 refine aa.dm (fun hpos=> ?_) (fun hz=> ?_)
 ·obtain ⟨q,hq1⟩: ∃q,T=q+1:=⟨T - 1,by omega⟩
  have hqm:q<m/d:=by
   rw [hq1] at hdd
   exact hdd
  have hmul:(q+1)*1024≤m/d*1024:=Nat.mul_le_mul_right _ hqm
  refine Ld.xt (b:=b2) h rfl ?_
  have e3:i64 ((i64 ((i64 ((T:Int) - 1))*256))+(i64 (c:Int)))=((q*256+c:Nat):Int):=by
   rw [hq1,ab (x:=((q+1:Nat):Int) - 1) (by omega),ab (x:=(((q+1:Nat):Int) - 1)*256) (by omega),ab (x:=(c:Int)) (by omega),ab (by omega)]
   omega
  rw [e3]
  refine CX (p:=pm) (q:=qm) h (by omega) (by omega) fun w h=> ?_
  rw [hm q hqm c hc]
  have hcl:=lh col ((q+1)*d) c
  rw [ab (x:=(((col.take ((q+1)*d)).count c:Nat):Int)) (by omega)]
  refine CR (h.no 1) (by omega) c2 hcol hqd hp (by rw [hq1]) fun w h=> ?_
  rw [hsub];exact hK w h
 ·have hz2:T*d=0:=by
   have:T=0:=by omega
   rw [this,Nat.zero_mul]
  refine CR (n0:=0) (h.no 1) (by omega) c2 hcol hqd hp (by rw [hz2,List.take_zero];rfl) fun w h=> ?_
  rw [hsub];exact hK w h
theorem Ob {K:Array Value→World→Prop} (h:Hp E w (Ar A f::F)) (hin:pc+m≤A.live) (hm2:m≤65536) (hcol:eL f pc m=col) (hK: ∀w',Hp E w' (Ar A f::F)→K (eU (bE col) 256) w'):
  Cl Tryz.prog [.arr 256] rm ⟨[pA A,iT pc m]⟩ w K:=by
 obtain ⟨aok,_⟩:=Ar.dw h
 have hlen:col.length=m:=by rw [←hcol,dy]
 have hb: ∀x∈col,x<256:=fun x hx=>by rw [←hcol] at hx;obtain ⟨i,_,rfl⟩:=List.mem_map.1 hx;exact aok.byt _
 refine LB.ok _ ((pc:Int),(m:Int),()) _ _ ?_
 dsimp only
 refine Nw.mk h fun b1 w h=>Nw.mk h fun b2 w h=>Nw.mk h fun b3 w h=>Ld.xt (b:=b1) h rfl ?_
 refine Nd (p:=pc) (q:=m) (h.at 3) hin fun s w h=> ?_
 rw [hcol] at h
 have hsl:s.len=m:=by have:=h.bK;simpa [hlen] using this.symm
 have h:=h.at 2
 rw [show (⟨List.replicate 256 (ni 0)⟩:Array Value)=eU (fun c=>(col.take 0).count c) 256 from xr] at h
 refine ⟨fun n w=> ∃k:Nat,n=(k:Int)∧k≤m∧Hp E w (af b3 (.cells (eU (fun c=>(col.take k).count c) 256) 351 (0,0))::av 1 s (col.map vB)::Ar A f::af b2 (.cells (eU (fun _=>0) 256) 351 (0,0))::F),fun n _=>m - n.toNat,⟨0,rfl,Nat.zero_le _,?_⟩,?_⟩
 ·have h:=h.no 4
  rw [show (eU (fun c=>(col.take 0).count c) 256)=eU (fun _=>0) 256 from rfl] at h⊢
  exact h
 rintro n w ⟨k,rfl,hk,h⟩
 refine aa.dm (fun hlt=> ?_) (fun hge=> ?_)
 ·have hlt:k<m:=by omega
  refine ay.rd (h.aj (ad.at 1 ad.own)) (by omega) (by omega) fun q _ hq=> ?_
  refine Ld.sc (s:= .int .u8) (col.getD k 0:Int) (by rw [hq];simp [Sc.enc,vB,List.getD_eq_getElem?_getD,hlen,hlt]) ?_
  have hc256:col.getD k 0<256:=by rw [List.getD_eq_getElem?_getD,List.getElem?_eq_getElem (by omega)];exact hb _ (List.getElem_mem _)
  have hcl:=lh col k (col.getD k 0)
  refine au.rd h (by omega) (by omega) ((col.take k).count (col.getD k 0):Int) (by rw [Int.toNat_natCast];exact mv hc256) ?_
  rw [ab (x:=(((col.take k).count (col.getD k 0):Nat):Int)+1) (by omega),show (((col.take k).count (col.getD k 0):Nat):Int)+1=(((col.take k).count (col.getD k 0)+1:Nat):Int) by omega]
  refine au.wr h (by omega) (by omega) (eF ..) rfl fun w h=> ?_
  rw [Int.toNat_natCast,rP,sG (by omega)] at h
  rw [ab (x:=(k:Int)+1) (by omega)]
  exact ⟨⟨k+1,by omega,by omega,h⟩,by first|omega|(dsimp only;omega)⟩
 ·have hfull:(fun c=>(col.take k).count c)=fun c=>col.count c:=by rw [List.take_of_length_le (by omega)]
  rw [hfull] at h
  refine ⟨fun y z w=> ∃j:Nat,z=(j:Int)∧j≤256∧y=(bE col j:Int)∧Hp E w (af b2 (.cells (eU (fun c=>if c<j then bE col c else 0) 256) 351 (0,0))::af b3 (.cells (eU (fun c=>col.count c) 256) 351 (0,0))::Ar A f::F),fun _ z _=>256 - z.toNat,⟨0,rfl,by omega,by rw [BO];rfl,?_⟩,?_⟩
  ·have h:=(h.no 1).at 2
   rw [ll (g:=fun c=>if c<0 then bE col c else 0) fun i _=>by rw [if_neg (by omega)]] at h
   exact h
  rintro y z w ⟨j,rfl,hj,rfl,h⟩
  have hcl:bE col j≤col.length:=List.countP_le_length
  refine aa.dm (fun hlt=> ?_) (fun hge=> ?_)
  ·have hlt:j<256:=by omega
   refine au.wr h (by omega) (by omega) (eF ..) rfl fun w h=> ?_
   rw [Int.toNat_natCast,rP] at h
   have hs:=vb j col
   have hcl2:bE col (j+1)≤col.length:=List.countP_le_length
   have h:=h.at 1
   refine au.rd h (by omega) (by omega) (col.count j:Int) (by rw [Int.toNat_natCast];exact mv (f:=fun c=>col.count c) hlt) ?_
   rw [ab (x:=(bE col j:Int)+(col.count j:Int)) (by omega),ab (x:=(j:Int)+1) (by omega)]
   refine ⟨⟨j+1,by omega,by omega,by omega,?_⟩,by first|omega|(dsimp only;omega)⟩
   have h:=h.at 1
   rw [ll (g:=fun c=>if c<j+1 then bE col c else 0) fun i _=>by
    unfold jx
    dsimp only
    by_cases e:i=j
    ·rw [if_pos e,if_pos (by omega),e]
    ·rw [if_neg e]
     by_cases hi:i<j
     ·rw [if_pos hi,if_pos (by omega)]
     ·rw [if_neg hi,if_neg (by omega)]] at h
   exact h
  ·obtain rfl:j=256:=by omega
   rw [ll (g:=bE col) fun i hi=>by rw [if_pos hi]] at h
   refine Ld.xw (b:=b2) h (eF ..) (ak.q (b:=b2) h (eF ..) (eF ..) zz fun w h=>Ld.xw (b:=b2) h (eF ..) (hK w ((h.no 0).no 0)))
end
end Go.Proofs.YtgglghjnakclmaaGreat
namespace Go.Vc
open Go Go.Bw
def Q5 (g:Nat→Nat) (pr:Nat) (col:List Nat) (P k:Nat):Prop:= ∀row,row<k→nd g (pr+4*row)=if row=P then 0 else nx col (bx P row)
structure WS where
 tab:Bool
 b:Nat
 m:Nat
 p2:Nat
 q2:Nat
 P:Nat
 d:Nat
def tf (col:List Nat):List Value:=(eU (bE col) 256).toList
theorem jd (col:List Nat):(tf col).length=256:=eF ..
theorem Js {col:List Nat} {c:Nat} (h:c<256):(tf col)[c]? =some (Sc.enc (.int .i64) (bE col c:Int)):=by
 have:=mv (f:=bE col) (N:=256) h
 unfold tf
 rw [←this]
 simp
end Go.Vc
namespace Go.Proofs.YtgglghjnakclmaaGreat
open Go Go.Vc Go.Bw
abbrev Uw (W:WS) (A:AS) (row told st:Nat):Obj:= .cells ⟨[pA A,.int .i64 ((0:Nat):Int),.int .i64 (W.m:Int),.int .i64 (W.p2:Int),.int .i64 (W.q2:Int),.int .i64 (W.P:Int),.int .i64 (row:Int),.int .i64 (told:Int),.int .i64 (st:Int)]⟩ 350 (0,0)
abbrev Vh (W:WS) (A:AS) (L:List Value) (row told st:Nat):Array Value:=⟨pA A:: .int .i64 ((0:Nat):Int):: .int .i64 (W.m:Int):: .int .i64 (W.p2:Int):: .int .i64 (W.q2:Int):: .int .i64 (W.P:Int):: .int .i64 (W.d:Int)::(L++ [.int .i64 (row:Int),.int .i64 (told:Int),.int .i64 (st:Int)])⟩
abbrev RY (W:WS) (A:AS) (L:List Value) (row told st:Nat):Obj:= .cells (Vh W A L row told st) 357 (0,0)
def WB (W:WS) (A:AS) (col:List Nat) (row told st:Nat):HP:=af W.b (bif W.tab then Uw W A row told st else RY W A (tf col) row told st)
structure Hv (W:WS) (A:AS) (f:Nat→Nat) (col:List Nat):Prop where
 row:eL f 0 W.m=col
 m1:1≤W.m
 m2:W.m≤65536
 P1:1≤W.P
 P2:W.P≤W.m
 d1:1≤W.d
 ml:W.m≤A.live
structure wJ (W:WS) (A:AS) (f:Nat→Nat) (col:List Nat):Prop extends Hv W A f col where
 tb:W.tab=true→Q5 f W.p2 col W.P (W.m+1)∧W.p2+W.q2≤A.live∧4*(W.m+1)≤W.q2
 rk:W.tab=false→GX A 0 W.m W.p2 W.q2 W.d∧uI f W.p2 W.d col (W.m/W.d)
abbrev pW (W:WS):Value:= .pointer (some ⟨W.b,0,none⟩)
def Q2 (t:Bool):Nat:=bif t then dW else eh
section
variable {E w:World} {F:List HP} {A:AS} {f:Nat→Nat} {W:WS} {col:List Nat} {row told st:Nat}
theorem Hv.len (ok:Hv W A f col):col.length=W.m:=by rw [←ok.row,dy]
theorem WB.t (ht:W.tab=true):WB W A col row told st=af W.b (Uw W A row told st):=by unfold WB;rw [ht];rfl
theorem WB.r (ht:W.tab=false):WB W A col row told st=af W.b (RY W A (tf col) row told st):=by unfold WB;rw [ht];rfl
section
variable {l:List HP} {L:List Value} {x0 x1 x2 x3 x4 x5 x6:Value} {r:List Value} {t:TypeId} {fr:Nat×Nat} {put:Obj→List HP} {b:Nat}
abbrev c7 (x0 x1 x2 x3 x4 x5 x6:Value) (R:List Value):Array Value:=⟨x0::x1::x2::x3::x4::x5::x6::R⟩
theorem UO {s:Sc} {K:s.T→Prop} {x:s.T} {c:Nat} [bC b l (c7 x0 x1 x2 x3 x4 x5 x6 (L++r)) t fr put] (h:Hp E w l) (hL:L.length=256) (hc:c<256) (hx:L[c]? =some (s.enc x)) (hK:K x):Ld (.sc s) ⟨b,7+c,none⟩ w K:=by
 refine Ld.xb h ?_ hK
 rw [Nat.add_comm 7 c]
 show (L++r)[c]? =_
 rw [List.getElem?_append_left (by omega)]
 exact hx
theorem Ay {s:Sc} {K:s.T→Prop} {x:s.T} {k:Nat} [bC b l (c7 x0 x1 x2 x3 x4 x5 x6 (L++r)) t fr put] (h:Hp E w l) (hL:L.length=256) (hx:r[k]? =some (s.enc x)) (hK:K x):Ld (.sc s) ⟨b,k+263,none⟩ w K:=by
 refine Ld.xb h ?_ hK
 show (L++r)[k+256]? =_
 rw [List.getElem?_append_right (by omega),hL,Nat.add_sub_cancel]
 exact hx
theorem Dl {v u:Value} {K:World→Prop} {a c:List Value} [bC b l (c7 x0 x1 x2 x3 x4 x5 x6 (L++(a++u::c))) t (0,0) put] (h:Hp E w l) (hL:L.length=256) {n:Nat} (hn:263+a.length=n) (hv:aA v=true)
  (hK: ∀w',Hp E w' (put (.cells (c7 x0 x1 x2 x3 x4 x5 x6 (L++(a++v::c))) t (0,0)))→K w'):St ⟨b,n,none⟩ v w K:=
 St.xm (pre:=x0::x1::x2::x3::x4::x5::x6::(L++a)) (u:=u) (post:=c) h (by simp) (by simp [hL];omega) hv (fun w' h'=>hK w' (by simpa using h'))
end
theorem uW (ok:Hv W A f col) {j:Nat} (hj:j<W.m):f (0+j)=col.getD j 0:=(vl ok.row hj).symm
theorem Le (ok:wJ W A f col) (hr:row≤W.m) (hne:row≠W.P):nx col (bx W.P row)≤65536:=by
 have:=Cn (last:=col) (vw (by rw [ok.len];exact ok.P2) (by rw [ok.len];exact hr) hne)
 have h1:=ok.m2;have h2:=ok.len
 omega
theorem E9 {K:Int→Bool→World→Prop} (ht:W.tab=true) (ok:Hv W A f col) (h:Hp E w (WB W A col row told st::Ar A f::F)) {q:Nat} (hq:q≤W.m)
  (hyes:q≠W.P→∀w',Hp E w' (WB W A col row told st::Ar A f::F)→K (col.getD (bx W.P q) 0:Int) true w') (hno:q=W.P→∀w',Hp E w' (WB W A col row told st::Ar A f::F)→K 0 false w'):
  Cl Tryz.prog [ao .u8,kB] eC ⟨[pW W,.int .i64 (q:Int)]⟩ w K:=by
 refine uq.ok _ _ _ _ ?_
 rw [WB.t ht] at*
 have h2:=ok.m2;have hp2:=ok.P2;have hp1:=ok.P1;have hml:=ok.ml
 (try simp only [aB,ag,Nat.zero_add,Nat.add_zero])
 refine Ld.xb (b:=W.b) (x:=(W.P:Int)) h rfl (aa.em (fun he=>hno (by omega) w h) fun hne=> ?_)
 have hne2:q≠W.P:=fun e=>hne (by rw [e])
 refine Ld.xb (b:=W.b) (x:=(W.P:Int)) h rfl (aa.dm (fun hgt=> ?_) fun hle=> ?_)
 ·have hat:bx W.P q=q - 1:=by unfold bx;rw [if_pos (by omega)]
  refine aY.mk h fun w h=> ?_
  (skip)
  refine Ld.xb (b:=W.b) h rfl (Ld.xt (b:=W.b) h rfl ?_)
  rw [ab (by omega)]
  refine pf (p:=0) (q:=W.m) (h.at 1) (by omega) (fun j hj hjn w h=> ?_) (fun hno=>absurd ⟨by omega,by omega⟩ hno)
  rw [uW ok hjn,show j=bx W.P q by omega]
  exact hyes hne2 w (h.at 1)
 ·have hat:bx W.P q=q:=by unfold bx;rw [if_neg (by omega)]
  refine aY.mk h fun w h=> ?_
  (skip)
  refine Ld.xb (b:=W.b) h rfl (Ld.xt (b:=W.b) h rfl ?_)
  refine pf (p:=0) (q:=W.m) (h.at 1) (by omega) (fun j hj hjn w h=> ?_) (fun hno=>absurd ⟨by omega,by omega⟩ hno)
  rw [uW ok hjn,show j=bx W.P q by omega]
  exact hyes hne2 w (h.at 1)
theorem uR {K:Int→Int→Bool→World→Prop} (ok:wJ W A f col) (h:Hp E w (WB W A col row told st::Ar A f::F)) {q:Nat} (hq:q≤W.m) (hst:st≤1000000000000)
  (hyes:q≠W.P→∀c w',c≤min W.m W.d→Hp E w' (WB W A col row told (st+c)::Ar A f::F)→K (nx col (bx W.P q):Int) (col.getD (bx W.P q) 0:Int) true w')
  (hno:q=W.P→∀w',Hp E w' (WB W A col row told st::Ar A f::F)→K 0 0 false w'):
  Cl Tryz.prog [kI,ao .u8,kB] (Q2 W.tab) ⟨[pW W,.int .i64 (q:Int)]⟩ w K:=by
 have h1:=ok.m1;have h2:=ok.m2;have hp2:=ok.P2;have hp1:=ok.P1;have hml:=ok.ml;have hd1:=ok.d1
 obtain ⟨aok,_⟩:=Ar.dw (h.at 1)
 have hle:=aok.le;have hbig:=aok.du
 cases ht:W.tab with
 |true=>
  obtain ⟨hu,hu2,hu3⟩:=ok.tb ht
  have word: ∀w (F:List HP) (K:Int→Bool→World→Prop),Hp E w (WB W A col row told st::Ar A f::F)→(∀w',Hp E w' (WB W A col row told st::Ar A f::F)→K ((if q=W.P then 0 else nx col (bx W.P q):Nat):Int) true w')→
    aY w fun w=>ah (some ⟨W.b,0,none⟩) fun g=>Ld kP (g.add 0) w fun h=>ah (some ⟨W.b,0,none⟩) fun i=>Ld (.st [.int .i64,.int .i64]) (i.add 3) w fun j=>Cl Tryz.prog [(ao .u32),kB] ew ⟨[(.pointer h),(.agg ⟨[(ni j.1),(ni j.2.1)]⟩),(ni (q:Int))]⟩ w fun l m k=>K l m k:=fun w F K h hK=>by
   rw [WB.t ht] at*
   refine aY.mk h fun w h=> ?_
   (try simp only [aB,ag,Nat.zero_add,Nat.add_zero])
   refine Ld.xb (b:=W.b) h rfl (Ld.xt (b:=W.b) h rfl ?_)
   refine CX (p:=W.p2) (q:=W.q2) (h.at 1) hu2 (by omega) fun w h=> ?_
   rw [hu q (by omega)]
   exact hK w (h.at 1)
  refine sa.ok _ _ _ _ ?_
  refine E9 ht ok.toHv h hq (fun hne w h=> ?_) (fun he w h=> ?_)
  ·have hnx:=Le ok hq hne
   refine word w F _ h fun w h=> ?_
   rw [if_neg hne]
   refine aa.f rfl (aa.f rfl ?_)
   rw [WB.t ht] at h
   (try simp only [aB,ag,Nat.zero_add])
   refine Ld.xb (b:=W.b) (x:=(st:Int)) h rfl (St.xs (b:=W.b) h rfl rfl fun w h=> ?_)
   dsimp only [aP,aq] at h
   rw [ab (x:=(st:Int)+1) (by omega)] at h
   rw [ab (by omega)]
   refine hyes hne 1 w (by omega) ?_
   rw [WB.t ht]
   exact h
  ·refine word w F _ h fun w h=> ?_
   exact aa.t rfl (hno he w h)
 |false=>
  obtain ⟨hr,hm⟩:=ok.rk ht
  have hLl:=jd col
  have hlen:=ok.len
  refine sJ.ok _ _ _ _ ?_
  have fin: ∀w,q≠W.P→Hp E w (WB W A col row told st::Ar A f::F)→∀j,j=bx W.P q→aY w fun w=>ah (some ⟨W.b,0,none⟩) fun h=>Ld kP (h.add 0) w fun i=>ah (some ⟨W.b,0,none⟩) fun k1=>Ld (.st [.int .i64,.int .i64]) (k1.add 1) w fun k=>
    Cl Tryz.prog [(ao .u8),kB] bA ⟨[(.pointer i),(.agg ⟨[(ni k.1),(ni k.2.1)]⟩),(ni (j:Int))]⟩ w fun (m:Int) (n:Bool) l=>
    aY l fun o=>ah (some ⟨W.b,0,none⟩) fun p=>Ld kP (p.add 0) o fun q=>ah (some ⟨W.b,0,none⟩) fun r=>Ld (.st [.int .i64,.int .i64]) (r.add 1) o fun s=>ah (some ⟨W.b,0,none⟩) fun t=>Ld (.st [.int .i64,.int .i64]) (t.add 3) o fun u=>ah (some ⟨W.b,0,none⟩) fun v=>Ld kI (v.add 6) o fun (x:Int)=>
    Cl Tryz.prog [kI,kI,kB] im ⟨[(.pointer q),(.agg ⟨[(ni s.1),(ni s.2.1)]⟩),(.agg ⟨[(ni u.1),(ni u.2.1)]⟩),(ni x),(.int .u8 m),(ni (j:Int))]⟩ o fun (z:Int) (a1:Int) (b1:Bool) y=>
    aa (!n) (K 0 0 false y) (aa (!b1) (K 0 0 false y) (ah (some ⟨W.b,0,none⟩) fun c1=>Ld kI (c1.add 265) y fun (d1:Int)=>ah (some ⟨W.b,0,none⟩) fun e1=>St (e1.add 265) (ni (i64 (d1+(i64 ((1:Int)+a1))))) y fun f1=>ah (some ⟨W.b,0,none⟩) fun g1=>au (g1.add 7) 256 m 1 fun h1=>Ld kI h1 f1 fun (i1:Int)=>K (i64 ((i64 ((1:Int)+i1))+z)) m true f1)):=by
   rintro w hne h j rfl
   have hat:bx W.P q<W.m:=by rw [←hlen];exact vw (by omega) (by omega) hne
   have hnx:=Ep (last:=col) (a:=bx W.P q) (by omega)
   have hnb:=Le ok hq hne
   generalize hj:bx W.P q=j at*
   have hcf:col.getD j 0<256:=by rw [←uW ok.toHv hat];exact aok.byt _
   rw [WB.r ht] at*
   refine aY.mk h fun w h=> ?_
   (try simp only [aB,ag,Nat.zero_add,Nat.add_zero])
   refine Ld.xb (b:=W.b) h rfl (Ld.xt (b:=W.b) h rfl ?_)
   refine pf (p:=0) (q:=W.m) (h.at 1) (by omega) (fun j2 hj2 hjn w h=> ?_) (fun hno=>absurd ⟨by omega,by omega⟩ hno)
   obtain rfl:j=j2:=by omega
   rw [uW ok.toHv hat]
   refine aY.mk h fun w h=> ?_
   (try simp only [Bool.not_true,gu])
   refine Ld.xb (b:=W.b) h rfl (Ld.xt (b:=W.b) h rfl (Ld.xt (b:=W.b) h rfl (Ld.xb (b:=W.b) (x:=(W.d:Int)) h rfl ?_)))
   refine C7 (place:=j) h hr ok.row hm (by omega) hcf fun w h=> ?_
   with_reducible refine aa.yD ?_
   have h:=h.at 1
   (skip)
   have hmod1:j % W.d<W.d:=Nat.mod_lt _ (by omega)
   have hmod2:j % W.d≤j:=Nat.mod_le _ _
   refine Ay (b:=W.b) (k:=2) h hLl (x:=(st:Int)) rfl ?_
   generalize hz:j % W.d=z at hmod1 hmod2⊢
   rw [ab (x:=(1:Int)+(z:Int)) (by omega),ab (x:=(st:Int)+((1:Int)+(z:Int))) (by omega),show (st:Int)+((1:Int)+(z:Int))=((st+(1+z):Nat):Int) by omega]
   refine Dl (b:=W.b) (a:= [.int .i64 (row:Int),.int .i64 (told:Int)]) (c:= []) (v:= .int .i64 ((st+(1+z):Nat):Int)) h hLl rfl rfl fun w h=> ?_
   have hcl:bE col (col.getD j 0)≤col.length:=List.countP_le_length
   have hcl2:=lh col j (col.getD j 0)
   refine ⟨by omega,by omega,?_⟩
   rw [Int.toNat_natCast,Nat.mul_one,ag]
   refine UO (b:=W.b) (L:=tf col) (r:= [.int .i64 (row:Int),.int .i64 (told:Int),.int .i64 ((st+(1+z):Nat):Int)]) h hLl hcf (Js hcf) ?_
   rw [ab (x:=(1:Int)+(bE col (col.getD j 0):Int)) (by omega),ab (by omega),show (1:Int)+(bE col (col.getD j 0):Int)+(((col.take j).count (col.getD j 0):Nat):Int)=(nx col j:Int) by rw [hnx];omega]
   refine hyes hne (1+z) w (by omega) ?_
   rw [WB.r ht]
   exact h
  rw [WB.r ht] at*
  (try simp only [aB,ag,Nat.zero_add,Nat.add_zero])
  refine Ld.xb (b:=W.b) (x:=(W.P:Int)) h rfl (aa.em (fun he=>hno (by omega) w h) fun hne=> ?_)
  have hne2:q≠W.P:=fun e=>hne (by rw [e])
  refine Ld.xb (b:=W.b) (x:=(W.P:Int)) h rfl (aa.dm (fun hgt=> ?_) fun hle=> ?_)
  ·rw [ab (x:=(q:Int) - 1) (by omega),show (q:Int) - 1=((q - 1:Nat):Int) by omega]
   exact fin w hne2 h (q - 1) (by unfold bx;rw [if_pos (by omega)])
  ·exact fin w hne2 h q (by unfold bx;rw [if_neg (by omega)])
end
end Go.Proofs.YtgglghjnakclmaaGreat
namespace Go.Proofs.YtgglghjnakclmaaGreat
open Go Go.Vc Go.Bw
abbrev iW (W:WS):Value:= .iface (bif W.tab then 294 else 297) (pW W)
section
variable {E w:World} {F:List HP} {A:AS} {f:Nat→Nat} {W:WS} {col:List Nat} {row told st:Nat}
theorem fw.w2 {name:String} {nt nr:Nat} {ks:List Ki} {K:mo ks (World→Prop)} (h1: ∀p w,(callMethod (.iface 294 (.pointer p)) name ⟨[]⟩).run Tryz.prog w= .ok (.enter nt ⟨[.pointer p]⟩) w)
  (h2: ∀p w,(callMethod (.iface 297 (.pointer p)) name ⟨[]⟩).run Tryz.prog w= .ok (.enter nr ⟨[.pointer p]⟩) w) (h:Cl Tryz.prog ks (bif W.tab then nt else nr) ⟨[pW W]⟩ w K):fw Tryz.prog (iW W) name ks [] w K:=by
 unfold iW
 cases ht:W.tab with
 |true=>rw [ht] at h;exact ⟨nt,_,h1 _ _,h⟩
 |false=>rw [ht] at h;exact ⟨nr,_,h2 _ _,h⟩
theorem xI {K:Int→World→Prop} (h:Hp E w (WB W A col row told st::F)) (hK:K (st:Int) w):fw Tryz.prog (iW W) "Steps" [kI] [] w K:=by
 refine fw.w2 (nt:=j5) (nr:=kO) (fun p w=>by kernel_rfl) (fun p w=>by kernel_rfl) ?_
 cases ht:W.tab with
 |true=>
  rw [WB.t ht] at h
  exact tA.ok _ _ _ (aa.f rfl (Ld.xb (b:=W.b) (x:=(st:Int)) h rfl hK))
 |false=>
  rw [WB.r ht] at h
  exact uu.ok _ _ _ (aa.f rfl (Ay (b:=W.b) (k:=2) h (jd col) (x:=(st:Int)) rfl hK))
theorem G9 {K:Int→World→Prop} (h:Hp E w (WB W A col row told st::F)) (hK:K (told:Int) w):fw Tryz.prog (iW W) "Told" [kI] [] w K:=by
 refine fw.w2 (nt:=la) (nr:=lL) (fun p w=>by kernel_rfl) (fun p w=>by kernel_rfl) ?_
 cases ht:W.tab with
 |true=>
  rw [WB.t ht] at h
  exact ui.ok _ _ _ (aa.f rfl (Ld.xb (b:=W.b) (x:=(told:Int)) h rfl hK))
 |false=>
  rw [WB.r ht] at h
  exact vu.ok _ _ _ (aa.f rfl (Ay (b:=W.b) (k:=1) h (jd col) (x:=(told:Int)) rfl hK))
theorem Ms {K:World→Prop} (h:Hp E w (WB W A col row told st::F)) (hK: ∀w',Hp E w' (WB W A col 0 0 st::F)→K w'):fw Tryz.prog (iW W) "Reset" [] [] w K:=by
 refine fw.w2 (nt:=jR) (nr:=kX) (fun p w=>by kernel_rfl) (fun p w=>by kernel_rfl) ?_
 cases ht:W.tab with
 |true=>
  rw [WB.t ht] at h hK
  refine td.ok _ _ _ (aa.t rfl ?_)
  (try simp only [aB,ag,Nat.zero_add])
  refine St.xs (b:=W.b) h rfl rfl fun w h=> ?_
  dsimp only [aP,aq] at h
  refine St.xs (b:=W.b) h rfl rfl fun w h=> ?_
  dsimp only [aP,aq] at h
  exact hK w h
 |false=>
  rw [WB.r ht] at h hK
  have hL:=jd col
  refine uk.ok _ _ _ (aa.t rfl ?_)
  (try simp only [aB,ag,Nat.zero_add])
  refine Dl (b:=W.b) (a:= []) (c:= [.int .i64 (told:Int),.int .i64 (st:Int)]) (u:= .int .i64 (row:Int)) h hL rfl rfl fun w h=> ?_
  refine Dl (b:=W.b) (a:= [.int .i64 ((0:Nat):Int)]) (c:= [.int .i64 (st:Int)]) (u:= .int .i64 (told:Int)) h hL rfl rfl fun w h=> ?_
  exact hK w h
theorem U8 {K:Int→Prop} (h:Hp E w (WB W A col row told st::F)) (hK:K (W.P:Int)):Ld kI ⟨W.b,5,none⟩ w K:=by
 cases ht:W.tab with
 |true=>rw [WB.t ht] at h;exact Ld.xb (b:=W.b) h rfl hK
 |false=>rw [WB.r ht] at h;exact Ld.xb (b:=W.b) h rfl hK
theorem Si {K:Int→Prop} (h:Hp E w (WB W A col row told st::F)) (hK:K (W.m:Int)):Ld kI ⟨W.b,2,none⟩ w K:=by
 cases ht:W.tab with
 |true=>rw [WB.t ht] at h;exact Ld.xb (b:=W.b) h rfl hK
 |false=>rw [WB.r ht] at h;exact Ld.xb (b:=W.b) h rfl hK
theorem Ma {R:Bool→World→Prop} (ok:wJ W A f col) (h:Hp E w (WB W A col row told st::Ar A f::F)) (hst:st≤100000000000)
  (hK: ∀st' w',st'≤st+W.m*min W.m W.d→Hp E w' (WB W A col row told st'::Ar A f::F)→R (decide (okB col W.P)) w'):
  cp 0 0 w fun I ms (x:Int) (y:Int) w1=>aa (decide (y<(W.m:Int))) (Cl Tryz.prog [kI,(ao .u8),kB] (Q2 W.tab) ⟨[pW W,ni x]⟩ w1 fun (j:Int) (k:Int) (l:Bool) w2=>aa (!l) (R false w2) (I j (i64 (y+1)) w2∧ms j (i64 (y+1)) w2<ms x y w1)) (Ld kI ⟨W.b,5,none⟩ w1 fun (n:Int)=>R (x==n) w1):=by
 have hlen:=ok.len
 have h2:=ok.m2;have hp2:=ok.P2;have hm1:=ok.m1
 have hmd:W.m*min W.m W.d≤65536*65536:=Nat.mul_le_mul h2 (by omega)
 refine ⟨fun x y w=> ∃k st',x=((wk col W.P k:Nat):Int)∧y=(k:Int)∧k≤W.m∧(∀j,j<k→wk col W.P j≠W.P)∧st'≤st+k*min W.m W.d∧Hp E w (WB W A col row told st'::Ar A f::F),fun _ y _=>W.m - y.toNat,⟨0,st,rfl,rfl,Nat.zero_le _,fun j hj=>by omega,by omega,h⟩,?_⟩
 rintro x y w ⟨k,st',rfl,rfl,hk,hj,hs,h⟩
 have hle:=Ca (last:=col) (index:=W.P) (by omega) k hj
 have hkm:k*min W.m W.d≤W.m*min W.m W.d:=Nat.mul_le_mul_right _ hk
 refine aa.dm (fun hlt=> ?_) (fun hge=> ?_)
 ·have hlt:k<W.m:=by omega
  refine uR ok h (q:=wk col W.P k) (by omega) (by omega) (fun hne c w hc h=>aa.f rfl ?_) (fun he w h=>aa.t rfl ?_)
  ·rw [ab (by omega)]
   have e:(k+1)*min W.m W.d=k*min W.m W.d+min W.m W.d:=Nat.succ_mul ..
   refine ⟨⟨k+1,st'+c,rfl,by omega,by omega,fun j hj2=> ?_,by omega,h⟩,by first|omega|(dsimp only;omega)⟩
   rcases Nat.lt_or_ge j k with h|h
   ·exact hj j h
   ·obtain rfl:j=k:=by omega
    exact hne
  ·have: ¬okB col W.P:=fun ho=>ho.2.1 k (by omega) he
   have:=hK st' w (by omega) h
   rwa [decide_eq_false (by assumption)] at this
 ·obtain rfl:k=W.m:=by omega
  refine U8 h ?_
  have:=hK st' w (by omega) h
  by_cases he:wk col W.P W.m=W.P
  ·rw [show (((wk col W.P W.m:Nat):Int)==(W.P:Int))=true from beq_iff_eq.2 (by omega)]
   rwa [decide_eq_true (show okB col W.P from ⟨by omega,by rw [hlen];exact hj,by rw [hlen];exact he⟩)] at this
  ·rw [show (((wk col W.P W.m:Nat):Int)==(W.P:Int))=false from beq_eq_false_iff_ne.2 (by omega)]
   rwa [decide_eq_false (fun ho:okB col W.P=>he (by have:=ho.2.2;rwa [hlen] at this))] at this
theorem Ml {K:Bool→World→Prop} (ok:wJ W A f col) (h:Hp E w (WB W A col row told st::Ar A f::F)) (hst:st≤100000000000)
  (hK: ∀st' w',st'≤st+W.m*min W.m W.d→Hp E w' (WB W A col row told st'::Ar A f::F)→K (decide (okB col W.P)) w'):fw Tryz.prog (iW W) "Valid" [kB] [] w K:=by
 refine fw.w2 (nt:=jV) (nr:=lq) (fun p w=>by kernel_rfl) (fun p w=>by kernel_rfl) ?_
 have key:=Ma (R:=K) ok h hst hK
 cases ht:W.tab with
 |true=>
  rw [ht] at key
  exact sE.ok _ _ _ (aa.f rfl (Si h key))
 |false=>
  rw [ht] at key
  exact uf.ok _ _ _ (aa.f rfl (Si h key))
theorem GN {k:Nat} {K:Int→Bool→World→Prop} (ok:wJ W A f col) (h:Hp E w (WB W A col (wk col W.P k) k st::Ar A f::F)) (hst:st≤100000000000) (hk:k≤W.m) (hj: ∀j,j<W.m→wk col W.P j≠W.P)
  (hyes:k<W.m→∀c w',c≤min W.m W.d→Hp E w' (WB W A col (wk col W.P (k+1)) (k+1) (st+c)::Ar A f::F)→K (col.getD (bx W.P (wk col W.P k)) 0:Int) true w')
  (hno:k=W.m→∀w',Hp E w' (WB W A col (wk col W.P k) k st::Ar A f::F)→K 0 false w'):fw Tryz.prog (iW W) "Next" [ao .u8,kB] [] w K:=by
 refine fw.w2 (nt:=kZ) (nr:=lY) (fun p w=>by kernel_rfl) (fun p w=>by kernel_rfl) ?_
 have hlen:=ok.len
 have h2:=ok.m2;have hp2:=ok.P2;have hm1:=ok.m1
 have hle:=Ca (last:=col) (index:=W.P) (by omega) k fun j hj2=>hj j (by omega)
 cases ht:W.tab with
 |true=>
  refine uv.ok _ _ _ (aY.mk h fun w h=>aa.f rfl ?_)
  have h0:=h
  rw [WB.t ht] at h
  (try simp only [aB,ag,Nat.zero_add,Nat.reduceAdd])
  refine Ld.xb (b:=W.b) (x:=(k:Int)) h rfl (Ld.xb (b:=W.b) (x:=(W.m:Int)) h rfl (aa.em (fun he=>hno (by omega) w h0) fun hne=> ?_))
  refine Ld.xb (b:=W.b) (x:=((wk col W.P k:Nat):Int)) h rfl ?_
  have hlt:k<W.m:=by omega
  have key:=uR (K:=fun (j k1:Int) (l:Bool) i=>aa (!l) (K 0 false i) (St ⟨W.b,6,none⟩ (ni j) i fun n=>Ld kI ⟨W.b,7,none⟩ n fun (p:Int)=>St ⟨W.b,7,none⟩ (ni (i64 (p+1))) n fun r=>K k1 true r)) ok h0 (q:=wk col W.P k) (by omega) (by omega) (fun _ c w hc h=>aa.f rfl ?_) (fun he w h=>absurd he (hj k hlt))
  ·rw [ht] at key;exact key
  ·rw [WB.t ht] at h
   refine St.xs (b:=W.b) h rfl rfl fun w h=> ?_
   dsimp only [aP,aq] at h
   refine Ld.xb (b:=W.b) (x:=(k:Int)) h rfl ?_
   rw [ab (x:=(k:Int)+1) (by omega)]
   refine St.xs (b:=W.b) h rfl rfl fun w h=> ?_
   dsimp only [aP,aq] at h
   refine hyes hlt c w hc ?_
   rw [WB.t ht]
   exact h
 |false=>
  have hL:=jd col
  refine uZ.ok _ _ _ (aY.mk h fun w h=>aa.f rfl ?_)
  have h0:=h
  rw [WB.r ht] at h
  (try simp only [aB,ag,Nat.zero_add,Nat.reduceAdd])
  refine Ay (b:=W.b) (k:=1) h hL (x:=(k:Int)) rfl (Ld.xb (b:=W.b) (x:=(W.m:Int)) h rfl (aa.em (fun he=>hno (by omega) w h0) fun hne=> ?_))
  refine Ay (b:=W.b) (k:=0) h hL (x:=((wk col W.P k:Nat):Int)) rfl ?_
  have hlt:k<W.m:=by omega
  have key:=uR (K:=fun (j k1:Int) (l:Bool) i=>aa (!l) (K 0 false i) (St ⟨W.b,263,none⟩ (ni j) i fun n=>Ld kI ⟨W.b,264,none⟩ n fun (p:Int)=>St ⟨W.b,264,none⟩ (ni (i64 (p+1))) n fun r=>K k1 true r)) ok h0 (q:=wk col W.P k) (by omega) (by omega) (fun _ c w hc h=>aa.f rfl ?_) (fun he w h=>absurd he (hj k hlt))
  ·rw [ht] at key;exact key
  ·rw [WB.r ht] at h
   refine Dl (b:=W.b) (a:= []) (c:= [.int .i64 (k:Int),.int .i64 ((st+c:Nat):Int)]) (u:= .int .i64 ((wk col W.P k:Nat):Int)) h hL rfl rfl fun w h=> ?_
   refine Ay (b:=W.b) (k:=1) (r:= [.int .i64 ((wk col W.P (k+1):Nat):Int),.int .i64 (k:Int),.int .i64 ((st+c:Nat):Int)]) h hL (x:=(k:Int)) rfl ?_
   rw [ab (x:=(k:Int)+1) (by omega),show (k:Int)+1=((k+1:Nat):Int) by omega]
   refine Dl (b:=W.b) (a:= [.int .i64 ((wk col W.P (k+1):Nat):Int)]) (c:= [.int .i64 ((st+c:Nat):Int)]) (u:= .int .i64 (k:Int)) h hL rfl rfl fun w h=> ?_
   refine hyes hlt c w hc ?_
   rw [WB.r ht]
   exact h
end
end Go.Proofs.YtgglghjnakclmaaGreat
namespace Go.Proofs.YtgglghjnakclmaaGreat
open Go Go.Vc Go.Bw
section
variable {E w:World} {F:List HP} {A:AS} {f:Nat→Nat} {col:List Nat} {m p2 q2 P d:Nat}
theorem KN {K:Bool→World→Prop} (h:Hp E w (Ar A f::F)) (hm1:1≤m) (hm2:m≤65536) (hmp:m≤p2) (hin:p2+q2≤A.live) (hq:4*(m+1)≤q2) (hK: ∀w',Hp E w' (Ar A f::F)→K true w'):
  Cl Tryz.prog [kB] jP ⟨[pA A,iT 0 m,iT p2 q2]⟩ w K:=by
 obtain ⟨aok,_⟩:=Ar.dw h
 have hle:=aok.le;have hbig:=aok.du
 refine zo.ok _ (((0:Nat):Int),(m:Int),()) ((p2:Int),(q2:Int),()) _ _ ?_
 dsimp only
 refine Nw.mk h fun b1 w h=>Nw.mk h fun b2 w h=> ?_
 rw [aO];dsimp only
 refine Ld.xt (b:=b1) h rfl ?_
 refine mQ (p:=0) (q:=m) (h.at 2) (by omega) fun w h=>aa.f rfl (Ld.xt (b:=b2) h rfl ?_)
 refine mQ (p:=p2) (q:=q2) h (by omega) fun w h=>aa.f rfl ?_
 (try simp only [ag,Nat.zero_add,Nat.add_zero])
 refine Ld.xb (b:=b1) h rfl (aa.df (by omega) (Ld.xb (b:=b1) h rfl (aa.df (by omega) (Ld.xb (b:=b2) h rfl (Ld.xb (b:=b1) h rfl ?_)))))
 rw [ab (x:=(m:Int)+1) (by omega),ab (by omega)]
 refine aa.df (by omega) (Ld.xb (b:=b1) h rfl (Ld.xb (b:=b1) h rfl (Ld.xb (b:=b2) h rfl (aa.dt ?_ (hK w ((h.no 1).no 1))))))
 rw [ab (by omega)];omega
abbrev wT (b m p2 q2 P:Nat):WS:=⟨true,b,m,p2,q2,P,1⟩
abbrev wR (b m p2 q2 P d:Nat):WS:=⟨false,b,m,p2,q2,P,d⟩
theorem Tg {K:Option Addr→Int→World→Prop} (h:Hp E w (Ar A f::F)) (hcol:eL f 0 m=col) (hm1:1≤m) (hm2:m≤65536) (hP1:1≤P) (hP2:P≤m) (hmp:m≤p2) (hin:p2+q2≤A.live) (hq:4*(m+1)≤q2)
  (hK: ∀b g w',wJ (wT b m p2 q2 P) A g col→(∀j,j<p2→g j=f j)→Hp E w' (WB (wT b m p2 q2 P) A col 0 0 0::Ar A g::F)→K (some ⟨b,0,none⟩) 0 w'):
  Cl Tryz.prog [kP,kI] lZ ⟨[pA A,iT 0 m,.int .i64 (P:Int),iT p2 q2]⟩ w K:=by
 obtain ⟨aok,_⟩:=Ar.dw h
 have hle:=aok.le;have hbig:=aok.du
 have hlen:col.length=m:=by rw [←hcol,dy]
 refine BT.ok _ (((0:Nat):Int),(m:Int),()) _ ((p2:Int),(q2:Int),()) _ _ ?_
 dsimp only
 refine Nw.mk h fun b1 w h=>Nw.mk h fun b2 w h=> ?_
 rw [aO];dsimp only
 refine Ld.xt (b:=b1) h rfl (Ld.xt (b:=b2) h rfl ?_)
 refine KN (h.at 2) hm1 hm2 hmp hin hq fun w h=>aa.f rfl (aa.df (by omega) ?_)
 (try simp only [ag,Nat.zero_add])
 refine Ld.xb (b:=b1) h rfl (aa.df (by omega) (Ld.xt (b:=b1) h rfl (Ld.xt (b:=b2) h rfl (Nw.mk h fun b3 w h=>Ld.xt (b:=b1) h rfl ?_))))
 refine Ob (pc:=0) (h.at 1) (by omega) hm2 hcol fun w h=>Nw.mk h fun b4 w h=>ak.q (b:=b4) h (by simp) (eF ..) zz fun w h=>Ld.xb (b:=b1) h rfl ?_
 have h:Hp E w (af b4 (.cells (eU (bE col) 256) 351 (0,0))::Ar A f::WB (wT b3 m p2 q2 P) A col 0 0 0::af b2 (.cells ⟨[.int .i64 (p2:Int),.int .i64 (q2:Int)]⟩ 146 (0,0))::af b1 (.cells ⟨[.int .i64 ((0:Nat):Int),.int .i64 (m:Int)]⟩ 146 (0,0))::F):=h
 rw [ab (x:=(m:Int)+1) (by omega)]
 refine ⟨fun x w=> ∃(r:Nat) (g:Nat→Nat),x=(r:Int)∧r≤m+1∧Q5 g p2 col P r∧(∀j,j<p2→g j=f j)∧
  Hp E w (af b4 (.cells (eU (fun c=>bE col c+(col.take (bx P r)).count c) 256) 351 (0,0))::WB (wT b3 m p2 q2 P) A col 0 0 0::Ar A g::af b2 (.cells ⟨[.int .i64 (p2:Int),.int .i64 (q2:Int)]⟩ 146 (0,0))::af b1 (.cells ⟨[.int .i64 ((0:Nat):Int),.int .i64 (m:Int)]⟩ 146 (0,0))::F),
  fun x _=>m+1 - x.toNat,⟨0,f,rfl,by omega,(fun r hr=>by omega),fun _ _=>rfl,?_⟩,?_⟩
 ·rw [ll (g:=bE col) fun i _=>by
   have:bx P 0=0:=by unfold bx;rw [if_neg (by omega)]
   rw [this,List.take_zero,List.count_nil,Nat.add_zero]]
  exact (h.at 2).at 1
 rintro x w ⟨r,g,rfl,hr,hu,hfr,h⟩
 have hrg:Hv (wT b3 m p2 q2 P) A g col:=⟨by rw [←hcol];exact CK fun i hi=>hfr _ (by have hi:i<m:=hi;omega),hm1,hm2,hP1,hP2,Nat.le_refl 1,by dsimp only;omega⟩
 obtain ⟨aok2,_⟩:=Ar.dw (h.at 2)
 refine aa.dm (fun hlt=> ?_) (fun hge=> ?_)
 ·have hlt:r≤m:=by omega
  refine E9 (W:=wT b3 m p2 q2 P) rfl hrg ((h.at 2).at 2) (q:=r) hlt (fun hne w h=>aa.t rfl ?_) (fun he w h=>aa.f rfl ?_)
  ·have hne:r≠P:=hne
   have hat:bx P r<m:=by rw [←hlen];exact vw (by omega) (by omega) hne
   have hnx:=Ep (last:=col) (a:=bx P r) (by omega)
   have hnb:=Cn (last:=col) (a:=bx P r) (by omega)
   have hc256:col.getD (bx P r) 0<256:=by rw [←uW hrg hat];exact aok2.byt _
   have hsu:=Mo hne
   have h:=h.at 2
   generalize hj:bx P r=j at*
   refine au.rd h (by omega) (by omega) ((bE col (col.getD j 0)+(col.take j).count (col.getD j 0):Nat):Int) (by rw [Int.toNat_natCast];exact mv (f:=fun c=>bE col c+(col.take j).count c) hc256) ?_
   rw [ab (by omega),show ((bE col (col.getD j 0)+(col.take j).count (col.getD j 0):Nat):Int)+1=(nx col j:Int) by omega]
   refine au.wr h (by omega) (by omega) (eF ..) rfl fun w h=> ?_
   rw [Int.toNat_natCast,rP,ll (g:=fun c=>bE col c+(col.take (bx P (r+1))).count c) fun c _=>by
    have:=congrFun (sG (col:=col) (k:=j) (by omega)) c
    rw [hsu,←this]
    unfold jx
    by_cases e:c=col.getD j 0
    ·rw [if_pos e,if_pos e,e];omega
    ·rw [if_neg e,if_neg e]] at h
   refine au.rd h (by omega) (by omega) (nx col j:Int) (by
    rw [Int.toNat_natCast,mv hc256]
    congr 2
    rw [hsu,tK (k:=j) (by omega),if_pos rfl];exact congrArg (fun n:Nat=>(n:Int)) (by omega)) ?_
   refine Ld.xt (b:=b2) h rfl ?_
   rw [cN (by omega)]
   refine rj (p:=p2) (q:=q2) (h.at 2) hin (by omega) (by omega) fun w h=> ?_
   rw [ab (x:=(r:Int)+1) (by omega)]
   have l4:=l8 (nx col j)
   refine ⟨⟨r+1,_,by omega,by omega,fun q hq=> ?_,fun q hq=> ?_,((h.at 1).at 2).at 1⟩,by first|omega|(dsimp only;omega)⟩
   ·by_cases e:q=r
    ·subst e
     rw [jo (by omega) (.inl rfl),if_pos rfl,if_neg hne,hj]
    ·rw [jo (by omega) (.inr (.inl (by omega))),if_neg (by omega)]
     exact hu q (by omega)
   ·rw [fl (by rw [l4];omega)]
    exact hfr q hq
  ·refine Ld.xt (b:=b2) h rfl ?_
   rw [cN (by omega)]
   refine rj (p:=p2) (q:=q2) (v:=0) (h.at 1) hin (by omega) (by omega) fun w h=> ?_
   rw [ab (x:=(r:Int)+1) (by omega)]
   have l4:=l8 0
   have he:r=P:=he
   have hsa:bx P (r+1)=bx P r:=by rw [he];exact N7 P
   refine ⟨⟨r+1,_,by omega,by omega,fun q hq=> ?_,fun q hq=> ?_,by rw [hsa];exact ((h.at 2).at 2).at 1⟩,by first|omega|(dsimp only;omega)⟩
   ·by_cases e:q=r
    ·subst e
     rw [jo (by omega) (.inl rfl),if_pos rfl,if_pos he]
    ·rw [jo (by omega) (.inr (.inl (by omega))),if_neg (by omega)]
     exact hu q (by omega)
   ·rw [fl (by rw [l4];omega)]
    exact hfr q hq
 ·have hr2:r=m+1:=by omega
  rw [hr2] at hu
  exact hK b3 g w ⟨hrg,fun _=>⟨hu,hin,hq⟩,fun e=>(by cases e)⟩ hfr ((h.no 0).no 2|>.no 2)
theorem UE {l:List HP} {L r:List Value} {x0 x1 x2 x3 x4 x5 x6:Value} {t:TypeId} {put:Obj→List HP} {b c:Nat} {v:Value} {K:World→Prop} [bC b l (c7 x0 x1 x2 x3 x4 x5 x6 (L++r)) t (0,0) put] (h:Hp E w l) (hc:c<L.length) (hv:aA v=true)
  (hK: ∀w',Hp E w' (put (.cells (c7 x0 x1 x2 x3 x4 x5 x6 (L.set c v++r)) t (0,0)))→K w'):St ⟨b,7+c,none⟩ v w K:=by
 refine St.xm (pre:=x0::x1::x2::x3::x4::x5::x6::L.take c) (u:=L[c]) (post:=L.drop (c+1)++r) h ?_ (by simp;omega) hv fun w' h'=>hK w' ?_
 ·have e:L++r=L.take c++(L[c]::(L.drop (c+1)++r)):=by rw [←List.cons_append,←List.drop_eq_getElem_cons hc,←List.append_assoc,List.take_append_drop]
  exact congrArg (fun y=>x0::x1::x2::x3::x4::x5::x6::y) e
 ·rw [List.set_eq_take_append_cons_drop,if_pos hc]
  simpa using h'
theorem Q1 {K:Option Addr→Int→World→Prop} (h:Hp E w (Ar A f::F)) (hcol:eL f 0 m=col) (hr:GX A 0 m p2 q2 d) (hP1:1≤P) (hP2:P≤m)
  (hK: ∀b g w',wJ (wR b m p2 q2 P d) A g col→(∀j,j<p2→g j=f j)→Hp E w' (WB (wR b m p2 q2 P d) A col 0 0 0::Ar A g::F)→K (some ⟨b,0,none⟩) 0 w'):
  Cl Tryz.prog [kP,kI] mJ ⟨[pA A,iT 0 m,.int .i64 (P:Int),iT p2 q2,.int .i64 (d:Int)]⟩ w K:=by
 obtain ⟨aok,_⟩:=Ar.dw h
 have hle:=aok.le;have hbig:=aok.du
 have hlen:col.length=m:=by rw [←hcol,dy]
 have c1:=hr.c1;have c2:=hr.c2;have d1:=hr.d1;have d2:=hr.d2;have hca:=hr.ca;have hma:=hr.ma
 refine Df.ok _ (((0:Nat):Int),(m:Int),()) _ ((p2:Int),(q2:Int),()) _ _ _ ?_
 dsimp only
 refine Nw.mk h fun b1 w h=>Nw.mk h fun b2 w h=>Ld.xt (b:=b1) h rfl (Ld.xt (b:=b2) h rfl ?_)
 refine NR (h.at 2) hr hcol fun g w hm hfr h=>aa.nf rfl ?_
 rw [aO];dsimp only
 refine aa.df (by omega) ?_
 (try simp only [ag,Nat.zero_add])
 refine Ld.xb (b:=b1) h rfl (aa.df (by omega) (Ld.xt (b:=b1) h rfl (Ld.xt (b:=b2) h rfl ?_)))
 refine ⟨⟨pA A:: .int .i64 ((0:Nat):Int):: .int .i64 (m:Int):: .int .i64 (p2:Int):: .int .i64 (q2:Int):: .int .i64 (P:Int):: .int .i64 (d:Int)::(List.replicate 256 (.int .i64 0)++ [.int .i64 0,.int .i64 0,.int .i64 0])⟩,by kernel_rfl,?_⟩
 have hz:List.replicate 256 (Value.int .i64 0)=(eU (fun c=>if c<0 then bE col c else 0) 256).toList:=by
  have:(⟨List.replicate 256 (Value.int .i64 0)⟩:Array Value)=eU (fun c=>if c<0 then bE col c else 0) 256:=by
   rw [xr];exact ll fun i _=>by rw [if_neg (by omega)]
  rw [←this]
 rw [hz]
 refine Nw.mk h fun b3 w h=> ?_
 have hfr2: ∀j,j<p2→g j=f j:=fun j hj=>hfr j (by omega)
 have hcol2:eL g 0 m=col:=by rw [←hcol];exact CK fun i hi=>hfr2 _ (by omega)
 refine ⟨fun y z w=> ∃j:Nat,z=(j:Int)∧j≤256∧y=(bE col j:Int)∧Hp E w (af b3 (RY (wR b3 m p2 q2 P d) A (eU (fun c=>if c<j then bE col c else 0) 256).toList 0 0 0)::Ar A g::af b2 (.cells ⟨[.int .i64 (p2:Int),.int .i64 (q2:Int)]⟩ 146 (0,0))::af b1 (.cells ⟨[.int .i64 ((0:Nat):Int),.int .i64 (m:Int)]⟩ 146 (0,0))::F),
  fun _ z _=>256 - z.toNat,⟨0,rfl,by omega,by rw [BO];rfl,h⟩,?_⟩
 rintro y z w ⟨j,rfl,hj,rfl,h⟩
 have hcl:bE col j≤col.length:=List.countP_le_length
 refine aa.dm (fun hlt=> ?_) (fun hge=> ?_)
 ·have hlt:j<256:=by omega
  have hs:=vb j col
  have hcl2:bE col (j+1)≤col.length:=List.countP_le_length
  refine ⟨by omega,by omega,?_⟩
  rw [Int.toNat_natCast,Nat.mul_one]
  (try simp only [ag])
  refine UE (b:=b3) (L:=(eU (fun c=>if c<j then bE col c else 0) 256).toList) (r:= [.int .i64 ((0:Nat):Int),.int .i64 ((0:Nat):Int),.int .i64 ((0:Nat):Int)]) h (by have:=eF (fun c=>if c<j then bE col c else 0) 256;simpa using by omega) rfl fun w h=> ?_
  have hset:(eU (fun c=>if c<j then bE col c else 0) 256).toList.set j (.int .i64 (bE col j:Int))=(eU (fun c=>if c<j+1 then bE col c else 0) 256).toList:=by
   rw [←Array.toList_setIfInBounds,rP,ll (g:=fun c=>if c<j+1 then bE col c else 0) fun i _=>by
    unfold jx
    dsimp only
    by_cases e:i=j
    ·rw [if_pos e,if_pos (by omega),e]
    ·rw [if_neg e]
     by_cases hi:i<j
     ·rw [if_pos hi,if_pos (by omega)]
     ·rw [if_neg hi,if_neg (by omega)]]
  rw [hset] at h
  refine Ld.xt (b:=b1) h rfl (Ld.xt (b:=b2) h rfl ?_)
  (try simp only [])
  refine Ld.xb (b:=b1) h rfl ?_
  rw [eD (by omega)]
  refine C7 (place:=m) (h.at 1) hr hcol2 hm (Nat.le_refl _) hlt fun w h=> ?_
  rw [List.take_of_length_le (by omega),ab (x:=(bE col j:Int)+(col.count j:Int)) (by omega),ab (x:=(j:Int)+1) (by omega)]
  exact ⟨⟨j+1,by omega,by omega,by omega,h.at 1⟩,by first|omega|(dsimp only;omega)⟩
 ·obtain rfl:j=256:=by omega
  rw [ll (g:=bE col) fun i hi=>by rw [if_pos hi]] at h
  exact hK b3 g w ⟨⟨hcol2,c1,c2,hP1,hP2,d1,by dsimp only;omega⟩,fun e=>(by cases e),fun _=>⟨hr,hm⟩⟩ hfr2 ((h.no 2).no 2)
end
end Go.Proofs.YtgglghjnakclmaaGreat
namespace Go.Proofs.YtgglghjnakclmaaGreat
open Go Go.Vc
set_option maxRecDepth 100000
theorem FM.ok (a:Int) (b:Int) (c:Int) (R:Int→Int→World→Prop) w (h:
 aQ (fun (h:World)=>
 ee 3 h fun i j (k:Int) l=>
 aa (decide (k>0))
 (Cl Pg [kI,kI] kg ⟨[(ni b),(.int .u8 c),(.int .u8 k)]⟩ l fun (n:Int) (o:Int) m=>
 aa (decide (n≤a))
 (R k 0 m)
 (i (u8 (k - 1)) m∧j (u8 (k - 1)) m<j k l))
 (R 0 230 l)) fun d=>
 Cl Pg [kI,kI] mN ⟨[(ni b),(.int .u8 c)]⟩ w fun (f:Int) (g:Int) e=>
 aa (g !=0)
 (R 0 2 e)
 (aa (decide (a<1))
 (R 0 2 e)
 (aa (decide (a>1048576))
 (R 0 2 e)
 (d e)))):Cl Pg [(ao .u8),kI] nT ⟨[(ni a),(ni b),(.int .u8 c)]⟩ w R:=co Tryz.f83 [(2,[]),(12,[(6,(ao .u8))])] h
theorem B0.ok (a:Int) (b:Int) (c:Int) (R:Sl→Int→World→Prop) w (h:
 Cl Pg [kM] pk ⟨[]⟩ w fun e d=>
 nO Pg (Instr.lookup 202 (.map e) (.agg ⟨[(.int .u8 b),(.int .u8 c)]⟩) true) [kV,kB] d fun g (h:Bool) f=>
 aa (!h)
 (R (⟨none,0,0⟩:Sl) 2 f)
 (aa (decide (a<1))
 (R (⟨none,0,0⟩:Sl) 2 f)
 (aa (decide (a>65536))
 (R (⟨none,0,0⟩:Sl) 2 f)
 (gn Pg g [kS] [(ni a)] f fun (j:Sl) i=>
 R j 0 i)))):Cl Pg [kS,kI] iH ⟨[(ni a),(.int .u8 b),(.int .u8 c)]⟩ w R:=co Tryz.f85 [] h
theorem CT.ok (a:Int) (b:Int) (R:Int→Int→World→Prop) w (h:
 Cl Pg [kI,kI] kg ⟨[(ni a),(.int .u8 b),(.int .u8 1)]⟩ w fun (d:Int) (e:Int) c=>
 R d e c):Cl Pg [kI,kI] mN ⟨[(ni a),(.int .u8 b)]⟩ w R:=co Tryz.f134 [] h
theorem Fv.ok (a:Int) (b:Int) (c:Int) (R:Int→Int→World→Prop) w (h:
 Cl Pg [kS,kI] iH ⟨[(ni a),(.int .u8 b),(.int .u8 c)]⟩ w fun (e:Sl) (f:Int) d=>
 cp 0 0 d fun g h (i:Int) (j:Int) k=>
 aa (decide (j<(e.len:Int)))
 (ay e j 1 fun l=>
 Ld kI l k fun (m:Int)=>
 g (i64 (i+m)) (i64 (j+1)) k∧h (i64 (i+m)) (i64 (j+1)) k<h i j k)
 (R i f k)):Cl Pg [kI,kI] kg ⟨[(ni a),(.int .u8 b),(.int .u8 c)]⟩ w R:=co Tryz.f135 [(7,[(6,kI),(20,kI)])] h
theorem qd.ok (a:Int) (R:Sl→World→Prop) w (h:
 Nw 3 ⟨[(ni a)]⟩ w fun c b=>
 R (⟨some ⟨c,0,none⟩,1,1⟩:Sl) b):Cl Pg [kS] fR ⟨[(ni a)]⟩ w R:=co Tryz.f187 [] h
theorem xi.ok (a:Int) (R:Sl→World→Prop) w (h:
 Nw 3 ⟨[(ni a),(ni a),(ni (i64 ((4:Int)*(if (1024:Int)<(i64 (a+1)) then (1024:Int) else (i64 (a+1))))))]⟩ w fun c b=>
 R (⟨some ⟨c,0,none⟩,3,3⟩:Sl) b):Cl Pg [kS] nC ⟨[(ni a)]⟩ w R:=co Tryz.f188 [] h
theorem yc.ok (a:Int) (R:Sl→World→Prop) w (h:
 0≤(13:Int)∧
 Nw 3 ⟨[(ni a),(ni (i64 ((1024:Int)*(bT .i64 a (13:Int)))))]⟩ w fun c b=>
 R (⟨some ⟨c,0,none⟩,2,2⟩:Sl) b):Cl Pg [kS] ny ⟨[(ni a)]⟩ w R:=co Tryz.f189 [] h
theorem xK.ok (a:Int) (R:Sl→World→Prop) w (h:
 0≤(10:Int)∧
 Nw 3 ⟨[(ni a),(ni (i64 ((1024:Int)*(bT .i64 a (10:Int)))))]⟩ w fun c b=>
 R (⟨some ⟨c,0,none⟩,2,2⟩:Sl) b):Cl Pg [kS] nA ⟨[(ni a)]⟩ w R:=co Tryz.f190 [] h
theorem wP.ok (a:Int) (R:Sl→World→Prop) w (h:
 Nw 3 ⟨[(ni a),(ni (i64 ((4:Int)*(i64 (a+1)))))]⟩ w fun c b=>
 R (⟨some ⟨c,0,none⟩,2,2⟩:Sl) b):Cl Pg [kS] nL ⟨[(ni a)]⟩ w R:=co Tryz.f191 [] h
theorem lA.ok (a:Int) (R:Int→Bool→World→Prop) w (h:
 aa (a==1)
 (R 8192 true w)
 (aa (a==2)
 (R 1024 true w)
 (R 0 false w))):Cl Pg [kI,kB] jO ⟨[(.int .u8 a)]⟩ w R:=co Tryz.f216 [] h
end Go.Proofs.YtgglghjnakclmaaGreat
namespace Go.Vc
open Go
def DA (P:Program) (ops:Array Oper) (S:World→Prop) (K:AF→World→Prop) (J:Array Bool→AF→World→Prop) (listed:Array Bool) (f:AF) (w:World):Prop:=
 match Region.ready .any ops listed with
 | []=>K f w
 |r::rs=>match (r::rs).find? (fun i=>(match ops[i]? with|some o=>eM P o.op|none=>false)&&Region.free .any ops listed i) with
  |some i=>match ops[i]? with
   |some o=>guarded ops o f
     (fun f=>l9 P S f (fun v=>J (listed.setIfInBounds i true) (bI f o.dst v) w) o.op)
     (fun f=>J (listed.setIfInBounds i true) (bI f o.dst (some undef)) w)
   |none=>False
  |none=>vg (r::rs) fun i=>match ops[i]? with
   |some o=>guarded ops o f
     (fun f=>kH P f o w fun v w'=>S w'∧J (listed.setIfInBounds i true) (bI f o.dst v) w')
     (fun f=>J (listed.setIfInBounds i true) (bI f o.dst (some undef)) w)
   |none=>False
theorem bl {P:Program} {ops:Array Oper} {S:World→Prop} {K:AF→World→Prop} {n:Nat} {listed:Array Bool} {f:AF} {w:World} (h:DA P ops S K (aF P ops S K n) listed f w):aF P ops S K (n+1) listed f w:=h
noncomputable def u3:Code→List Bool→Code
 |c,[]=>c
 | .seq x _,false::l=>u3 x l
 | .seq _ y,true::l=>u3 y l
 |c,_=>c
noncomputable def KB:Code→Array Oper
 | .region _ ops _=>ops
 |_=> #[]
def Ln (P:Program) (ops:Array Oper) (i:Nat):Bool:=match ops[i]? with|some o=>eM P o.op|none=>false
def ly (P:Program) (ops:Array Oper) (listed:Array Bool) (i:Nat):Bool:=Ln P ops i&&Region.free .any ops listed i
def ba (P:Program) (ops:Array Oper) (S:World→Prop) (J:Array Bool→AF→World→Prop) (listed:Array Bool) (f:AF) (w:World) (i:Nat):Prop:=match ops[i]? with
 |some o=>guarded ops o f
   (fun f=>kH P f o w fun v w'=>S w'∧J (listed.setIfInBounds i true) (bI f o.dst v) w')
   (fun f=>J (listed.setIfInBounds i true) (bI f o.dst (some undef)) w)
 |none=>False
def gW (P:Program) (ops:Array Oper) (S:World→Prop) (J:Array Bool→AF→World→Prop) (listed:Array Bool) (f:AF) (w:World) (i:Nat):Prop:=match ops[i]? with
 |some o=>guarded ops o f
   (fun f=>l9 P S f (fun v=>J (listed.setIfInBounds i true) (bI f o.dst v) w) o.op)
   (fun f=>J (listed.setIfInBounds i true) (bI f o.dst (some undef)) w)
 |none=>False
theorem Hh {F:Nat→Prop}: ∀{l:List Nat},(∀i∈l,F i)→vg l F
 | [],_=>trivial
 | [i],h=>h i (by simp)
 |i::j::l,h=>⟨h i (by simp),Hh fun k hk=>h k (List.mem_cons_of_mem _ hk)⟩
theorem xc {P:Program} {ops:Array Oper} {S:World→Prop} {K:AF→World→Prop} {J:Array Bool→AF→World→Prop} {listed:Array Bool} {f:AF} {w:World} {rs:List Nat}
  (hr:Region.ready .any ops listed=rs) (hn:rs≠ []) (hf:rs.find? (ly P ops listed)=none) (h: ∀i∈rs,ba P ops S J listed f w i):DA P ops S K J listed f w:=by
 unfold DA
 rw [hr]
 cases rs with
 |nil=>exact absurd rfl hn
 |cons r rs=>
  have hf':(r::rs).find? (fun i=>(match ops[i]? with|some o=>eM P o.op|none=>false)&&Region.free .any ops listed i)=none:=hf
  dsimp only
  rw [hf']
  exact Hh h
theorem bQ {P:Program} {ops:Array Oper} {S:World→Prop} {K:AF→World→Prop} {J:Array Bool→AF→World→Prop} {listed:Array Bool} {f:AF} {w:World} {rs:List Nat} {i:Nat}
  (hr:Region.ready .any ops listed=rs) (hf:rs.find? (ly P ops listed)=some i) (h:gW P ops S J listed f w i):DA P ops S K J listed f w:=by
 unfold DA
 rw [hr]
 cases rs with
 |nil=>cases hf
 |cons r rs=>
  have hf':(r::rs).find? (fun i=>(match ops[i]? with|some o=>eM P o.op|none=>false)&&Region.free .any ops listed i)=some i:=hf
  dsimp only
  rw [hf']
  exact h
end Go.Vc
