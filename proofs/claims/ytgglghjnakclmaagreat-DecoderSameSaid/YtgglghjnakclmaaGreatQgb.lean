/- Texts packed together by program; spaces struck by program. Conditions: as each theorem states. -/
import Derived.Carry
import Derived.Laws.AppendOwn
import Derived.Laws.BytesArg
import Derived.Laws.CopyRow
import Derived.Laws.IdiomCopy
import Derived.Laws.IdiomStrings
import Derived.Laws.MakeOwn
import Derived.Lib.BytesEntry
import Derived.Lib.MakeNoZero
import Derived.MapKept
import Derived.OpenShut
import Derived.OrdersIn
import Derived.ProofKit
import Derived.RangeFuncRecord
import Derived.ScopeJumps
import Derived.SizedLaws
import Derived.TacticsIn
import Derived.Test.YtgglghjnakclmaaGreatChecked
import Derived.Test.YtgglghjnakclmaaGreatQga
set_option linter.unusedSimpArgs false
set_option linter.unusedVariables false
set_option maxRecDepth 20000
namespace Go.aE
end Go.aE
namespace Go.ag
end Go.ag
namespace Go.Bw
end Go.Bw
namespace Go.ChangeShapes
end Go.ChangeShapes
namespace Go.Crc
end Go.Crc
namespace Go.Dcd
end Go.Dcd
namespace Go.Hd
end Go.Hd
namespace Go.Hs
end Go.Hs
namespace Go.Inc
end Go.Inc
namespace Go.Pm
end Go.Pm
namespace Go.Pol
end Go.Pol
namespace Go.Prs
end Go.Prs
namespace Go.Rk
end Go.Rk
namespace Go.RowKit
end Go.RowKit
namespace Go.Srt
end Go.Srt
namespace Go.Stm
end Go.Stm
namespace Go.Sym
end Go.Sym
namespace Go.Tab
end Go.Tab
namespace Go.Vc
end Go.Vc
namespace Go.WideShapes
end Go.WideShapes
namespace Go.Vc
open Go
noncomputable section
variable {nn:Nat} {dfs:List Deferred}
def mark (r:Nat):Deferred:={target:= .collected r,args:= #[]}
end
end Go.Vc
namespace Go.Vc
open Go
noncomputable section
variable {nn:Nat} {dfs:List Deferred}
end
end Go.Vc
namespace Go.Proofs.YtgglghjnakclmaaGreat
open Go Go.Vc
abbrev gh:Nat:=9
abbrev jL:Nat:=13
abbrev mu:Nat:=14
abbrev ep:Nat:=15
abbrev kn:Nat:=16
abbrev cS:Nat:=19
abbrev ff:Nat:=20
abbrev mS:Nat:=22
abbrev db:Nat:=28
abbrev mK:Nat:=43
abbrev eA:Nat:=45
abbrev ly:Nat:=46
abbrev cZ:Nat:=47
abbrev kK:Nat:=48
abbrev kD:Nat:=49
abbrev bF:Nat:=50
abbrev dB:Nat:=51
abbrev aX:Nat:=53
abbrev bP:Nat:=54
abbrev fe:Nat:=55
abbrev gn:Nat:=56
abbrev mA:Nat:=57
abbrev eC:Nat:=58
abbrev iY:Nat:=59
abbrev lC:Nat:=60
abbrev fp:Nat:=62
abbrev eR:Nat:=63
abbrev fy:Nat:=64
abbrev ed:Nat:=65
abbrev fa:Nat:=66
abbrev eI:Nat:=67
abbrev ey:Nat:=68
abbrev eN:Nat:=69
abbrev eu:Nat:=70
abbrev eJ:Nat:=71
abbrev fF:Nat:=72
abbrev fW:Nat:=73
abbrev fQ:Nat:=74
abbrev gx:Nat:=75
abbrev fz:Nat:=76
abbrev lD:Nat:=83
abbrev kL:Nat:=84
abbrev gq:Nat:=85
abbrev gA:Nat:=86
abbrev jA:Nat:=89
abbrev gk:Nat:=90
abbrev gF:Nat:=95
abbrev hO:Nat:=96
abbrev cC:Nat:=97
abbrev dr:Nat:=98
abbrev lk:Nat:=99
abbrev cp:Nat:=101
abbrev cg:Nat:=102
abbrev cn:Nat:=103
abbrev cD:Nat:=104
abbrev cq:Nat:=105
abbrev eW:Nat:=106
abbrev ek:Nat:=107
abbrev kG:Nat:=108
abbrev eB:Nat:=109
abbrev o9:Nat:=110
abbrev mN:Nat:=111
abbrev j0:Nat:=112
abbrev ck:Nat:=113
abbrev lu:Nat:=114
abbrev ba:Nat:=115
abbrev dN:Nat:=116
abbrev gD:Nat:=117
abbrev jF:Nat:=118
abbrev mi:Nat:=119
abbrev iS:Nat:=120
abbrev lE:Nat:=121
abbrev dZ:Nat:=122
abbrev cQ:Nat:=123
abbrev ka:Nat:=134
abbrev iF:Nat:=135
abbrev mO:Nat:=136
abbrev nC:Nat:=138
abbrev bJ:Nat:=139
abbrev gR:Nat:=145
abbrev iL:Nat:=153
abbrev eY:Nat:=155
abbrev fX:Nat:=156
abbrev kh:Nat:=157
abbrev ga:Nat:=158
abbrev lF:Nat:=159
abbrev nz:Nat:=160
abbrev mo:Nat:=161
abbrev mP:Nat:=162
abbrev cr:Nat:=163
abbrev kx:Nat:=164
abbrev fY:Nat:=165
abbrev dI:Nat:=166
abbrev dF:Nat:=167
abbrev dn:Nat:=168
abbrev bS:Nat:=169
abbrev gY:Nat:=170
abbrev gm:Nat:=171
abbrev gC:Nat:=172
abbrev eE:Nat:=173
abbrev qz:Nat:=174
abbrev ig:Nat:=175
abbrev fo:Nat:=176
abbrev hZ:Nat:=177
abbrev j8:Nat:=178
abbrev lp:Nat:=179
abbrev ln:Nat:=182
abbrev eO:Nat:=187
abbrev kZ:Nat:=188
abbrev kX:Nat:=189
abbrev k8:Nat:=190
abbrev kQ:Nat:=191
abbrev qp:Nat:=193
abbrev bh:Nat:=197
abbrev b9:Nat:=199
abbrev lB:Nat:=204
abbrev ie:Nat:=216
abbrev jZ:Nat:=217
abbrev kg:Nat:=218
abbrev mT:Nat:=219
abbrev iI:Nat:=220
abbrev lK:Nat:=221
abbrev ns:Nat:=222
abbrev lq:Nat:=223
abbrev hX:Nat:=224
abbrev kq:Nat:=225
abbrev mr:Nat:=226
abbrev ew:Nat:=227
abbrev fw:Nat:=228
abbrev lI:Nat:=229
abbrev iA:Nat:=230
abbrev c9:Nat:=231
abbrev bD:Nat:=232
abbrev gj:Nat:=233
abbrev fR:Nat:=234
abbrev iM:Nat:=235
abbrev kf:Nat:=236
abbrev nK:Nat:=237
abbrev iB:Nat:=238
abbrev jH:Nat:=239
abbrev py:Nat:=240
abbrev nA:Nat:=246
abbrev eU:Nat:=261
abbrev ic:Nat:=280
abbrev nG:Nat:=281
abbrev dE:Nat:=282
abbrev cM:Nat:=283
abbrev nL:Nat:=284
abbrev gg:Nat:=285
abbrev ll:Nat:=286
abbrev ny:Nat:=287
abbrev lz:Nat:=288
abbrev hY:Nat:=289
abbrev nw:Nat:=290
abbrev oM:Nat:=291
abbrev kd:Nat:=292
abbrev lA:Nat:=295
abbrev du:Nat:=305
abbrev eS:Nat:=316
abbrev jO:Nat:=317
abbrev dJ:Nat:=318
abbrev iD:Nat:=319
abbrev lG:Nat:=320
abbrev jU:Nat:=321
abbrev cf:Nat:=322
abbrev mJ:Nat:=328
abbrev nu:Nat:=329
abbrev lM:Nat:=331
abbrev jb:Nat:=351
abbrev ix:Nat:=352
abbrev iy:Nat:=353
abbrev jf:Nat:=354
abbrev im:Nat:=355
abbrev da:Nat:=356
abbrev jT:Nat:=357
abbrev jx:Nat:=358
abbrev jd:Nat:=359
abbrev jV:Nat:=360
abbrev jl:Nat:=361
abbrev dq:Nat:=362
noncomputable abbrev Pg:Program:=Tryz.prog
theorem Tryz.mix:Tryz.prog.follows .mixedOrders=true:=by kernel_rfl
theorem co {i:FuncId} {w:World} {F:Prop} {args:List Value} {ks:List Ki} {K:j6 ks (World→Prop)} (fn:Func) (L:List (Nat×List (Nat×Ki))) (h:F) (hf:Pg.funcs[i]? =some fn:=by kernel_rfl) (hb:fn.body=some (fn.body.getD .skip):=by kernel_rfl) (hl:Nat.ble args.length fn.ntmps=true:=by kernel_rfl) (he:vc Pg fn.ntmps (fn.body.getD .skip) (s7 (fn.body.getD .skip) 0 L).1 (sr Pg fn.results.toList ks K) (m7 args fn.ntmps) w=F:=by kernel_rfl):Cl Pg ks i ⟨args⟩ w K:=
 np Tryz.mix fn args ks K fn.ntmps fn.results.toList hf hb rfl hl rfl (s7 (fn.body.getD .skip) 0 L).1 he h
abbrev aY:List Sc:= [.int .u8,.int .i64,.int .i64,.int .i64,.int .u32,.sl,.int .i64]
abbrev aS:List Sc:= [.int .i64,.int .i64,.int .i64,.int .i64,.int .i64,.int .u32,.int .i64]
abbrev ch:List Sc:= [.int .i64,.int .i64,.int .i64,.int .i64]
abbrev CP:List Sc:= [.int .i64,.int .i64,.int .i64,.int .i64,.int .i64,.int .i64,.int .i64,.int .i64,.int .i64,.int .i64,.int .i64,.int .i64,.int .i64,.int .i64,.int .i64,.int .i64]
end Go.Proofs.YtgglghjnakclmaaGreat
namespace Go.Proofs.YtgglghjnakclmaaGreat
open Go Go.Vc
set_option maxRecDepth 100000
theorem rq.ok (a:Sl) (b:Int) (c:Int) (d:Int) (e:Int) (R:Bool→World→Prop) w (h:
 aR (fun (l:World)=>
 Cl Pg [kS] kn ⟨[(ar a),(.bool true)]⟩ l fun (n:Sl) m=>
 Cl Pg [kI] mS ⟨[(ar n),(ni 1)]⟩ m fun (p:Int) o=>
 Cl Pg [kI,kI] ly ⟨[(ni p),(.int .u8 2)]⟩ o fun (r:Int) (s:Int) q=>
 aR (fun (a1:World)=>
 Cl Pg [kP,kI] cZ ⟨[(ni b)]⟩ a1 fun c1 (d1:Int) b1=>
 Cl Pg [kP,kI] cZ ⟨[(ni c)]⟩ b1 fun f1 (g1:Int) e1=>
 aR (fun (l1:World)=>
 Cl Pg [kS] kD ⟨[(ar a),(ni d)]⟩ l1 fun (n1:Sl) m1=>
 Cl Pg [kS,(ak .u8),kI,kB] kK ⟨[(.pointer c1),(ar n1),(ni p)]⟩ m1 fun (p1:Sl) (q1:Int) (r1:Int) (s1:Bool) o1=>
 Cl Pg [kS] kD ⟨[(ar a),(ni e)]⟩ o1 fun (u1:Sl) t1=>
 Cl Pg [kS,(ak .u8),kI,kB] kK ⟨[(.pointer f1),(ar u1),(ni p)]⟩ t1 fun (x1:Sl) (y1:Int) (z1:Int) (a2:Bool) v1=>
 aa s1
 (aa a2
 (aw Pg (convert 26 9 (ar p1)) B4 v1 fun (c2:ByteArray) b2=>
 aw Pg (convert 26 9 (ar x1)) B4 b2 fun (e2:ByteArray) d2=>
 aa ((c2).toList==(e2).toList)
 (aa (q1==y1)
 (aa (r1==z1)
 (Cl Pg [kB] eA ⟨[]⟩ d2 fun (g2:Bool) f2=>
 R g2 f2)
 (R false d2))
 (R false d2))
 (R false d2))
 (R false v1))
 (R false v1)) fun h1=>
 aR (fun (j1:Bool) (k1:World)=>
 aa j1
 (R false k1)
 (h1 k1)) fun i1=>
 aa (d1 !=0)
 (i1 true e1)
 (aa (g1 !=0)
 (i1 true e1)
 (aa (Option.isNone (c1:Option Addr))
 (i1 true e1)
 (i1 (Option.isNone (f1:Option Addr)) e1)))) fun t=>
 aR (fun (v:Bool) (x:World)=>
 aa v
 (Cl Pg [kB] eA ⟨[]⟩ x fun (z:Bool) y=>
 R z y)
 (t x)) fun u=>
 aa (s==0)
 (aa (decide (b<r))
 (u true q)
 (u (decide (c<r)) q))
 (u false q)) fun f=>
 aR (fun (h:Bool) (i:World)=>
 aa h
 (Cl Pg [kB] eA ⟨[]⟩ i fun (k:Bool) j=>
 R k j)
 (f i)) fun g=>
 aa (decide ((a.len:Int)>600))
 (g true w)
 (aa (decide (b<1))
 (g true w)
 (aa (decide (b>400000))
 (g true w)
 (aa (decide (c<1))
 (g true w)
 (aa (decide (c>400000))
 (g true w)
 (aa (decide (d<1))
 (g true w)
 (aa (decide (e<1))
 (g true w)
 (aa (decide (d>700))
 (g true w)
 (g (decide (e>700)) w))))))))):Cl Pg [kB] gh ⟨[(ar a),(ni b),(ni c),(ni d),(ni e)]⟩ w R:=co Tryz.f9 [(2,[]),(3,[(60,kB)]),(11,[]),(12,[(81,kB)]),(20,[]),(21,[(106,kB)])] h
theorem zc.ok (R:Bool→World→Prop) w (h:
 Nw 5 ⟨[(.int .u8 87),(.int .u8 80),(.int .u8 1),(.int .u8 130),(.int .u8 44),(.int .u8 0),(.int .u8 0),(.int .u8 0),(.int .u8 0),(.int .u8 0)]⟩ w fun b a=>
 Cl Pg [kP,kI] cZ ⟨[(ni 300)]⟩ a fun d (e:Int) c=>
 Cl Pg [kP,kI] cZ ⟨[(ni 299)]⟩ c fun g (h:Int) f=>
 Cl Pg [kP,kI] cZ ⟨[(ni 0)]⟩ f fun j (k:Int) i=>
 aR (fun (p:World)=>
 Cl Pg [kI] cC ⟨[(.pointer d)]⟩ p fun (r:Int) q=>
 aU q fun b1=>
 bQ (⟨some ⟨b,0,none⟩,10,10⟩:Sl) 0 3 ((⟨some ⟨b,0,none⟩,10,10⟩:Sl)).cap 1 fun c1=>
 bQ (⟨some ⟨b,0,none⟩,10,10⟩:Sl) 3 ((⟨some ⟨b,0,none⟩,10,10⟩:Sl)).len ((⟨some ⟨b,0,none⟩,10,10⟩:Sl)).cap 1 fun d1=>
 Nw 26 ⟨[(ar c1),(ar d1)]⟩ b1 fun f1 e1=>
 Cl Pg [kB] bF ⟨[(.pointer d),(ar (⟨some ⟨f1,0,none⟩,2,2⟩:Sl))]⟩ e1 fun (h1:Bool) g1=>
 Cl Pg [(ak .u8),(ak .u8),kI] aX ⟨[(.pointer d)]⟩ g1 fun (j1:Int) (k1:Int) (l1:Int) i1=>
 Cl Pg [kB] dB ⟨[(.pointer d)]⟩ i1 fun (n1:Bool) m1=>
 Nw 26 ⟨[(ar (⟨some ⟨b,0,none⟩,10,10⟩:Sl))]⟩ m1 fun p1 o1=>
 Cl Pg [kB] bF ⟨[(.pointer d),(ar (⟨some ⟨p1,0,none⟩,1,1⟩:Sl))]⟩ o1 fun (r1:Bool) q1=>
 Cl Pg [(ak .u8),(ak .u8),kI] aX ⟨[(.pointer d)]⟩ q1 fun (t1:Int) (u1:Int) (v1:Int) s1=>
 Cl Pg [(ak .u8),(ak .u8),kI] aX ⟨[(.pointer d)]⟩ s1 fun (y1:Int) (z1:Int) (a2:Int) x1=>
 Nw 26 ⟨[(ar (⟨some ⟨b,0,none⟩,10,10⟩:Sl))]⟩ x1 fun c2 b2=>
 Cl Pg [kB] bF ⟨[(.pointer g),(ar (⟨some ⟨c2,0,none⟩,1,1⟩:Sl))]⟩ b2 fun (e2:Bool) d2=>
 Cl Pg [(ak .u8),(ak .u8),kI] aX ⟨[(.pointer g)]⟩ d2 fun (g2:Int) (h2:Int) (i2:Int) f2=>
 Cl Pg [(ak .u8),(ak .u8),kI] aX ⟨[(.pointer g)]⟩ f2 fun (k2:Int) (l2:Int) (m2:Int) j2=>
 Cl Pg [(ak .u8),(ak .u8),kI] aX ⟨[(.pointer none)]⟩ j2 fun (o2:Int) (p2:Int) (q2:Int) n2=>
 aa (r==0)
 (aa h1
 (aa (k1==2)
 (aa (l1==0)
 (aa n1
 (aa (!r1)
 (aa (u1==3)
 (aa (v1==0)
 (aa (z1==3)
 (aa (a2==0)
 (Cl Pg [kI] cC ⟨[(.pointer d)]⟩ n2 fun (s2:Int) r2=>
 aa (s2==300)
 (Cl Pg [(ak .u8)] dr ⟨[(.pointer d)]⟩ r2 fun (u2:Int) t2=>
 aa (u2==2)
 (Cl Pg [kI] bP ⟨[(.pointer d)]⟩ t2 fun (x2:Int) v2=>
 aa (x2==80)
 (Cl Pg [kI] fe ⟨[(.pointer d)]⟩ v2 fun (z2:Int) y2=>
 aa (z2==0)
 (aa (h2==4)
 (aa (i2==230)
 (aa (l2==4)
 (aa (m2==230)
 (Cl Pg [kI] cC ⟨[(.pointer g)]⟩ y2 fun (b3:Int) a3=>
 aa (b3==0)
 (aa (p2==4)
 (aa (q2==2)
 (Cl Pg [kB] bF ⟨[(.pointer none),(.slice none 0 0)]⟩ a3 fun (d3:Bool) c3=>
 aa (!d3)
 (Cl Pg [kI] bP ⟨[(.pointer none)]⟩ c3 fun (f3:Int) e3=>
 R (f3==0) e3)
 (R false c3))
 (R false a3))
 (R false a3))
 (R false a3))
 (R false y2))
 (R false y2))
 (R false y2))
 (R false y2))
 (R false y2))
 (R false v2))
 (R false t2))
 (R false r2))
 (R false n2))
 (R false n2))
 (R false n2))
 (R false n2))
 (R false n2))
 (R false n2))
 (R false n2))
 (R false n2))
 (R false n2))
 (R false n2)) fun l=>
 aR (fun (n:Bool) (o:World)=>
 aa n
 (R false o)
 (l o)) fun m=>
 aa (e !=0)
 (m true i)
 (aa (h !=0)
 (m true i)
 (aa (Option.isNone (d:Option Addr))
 (m true i)
 (aa (Option.isNone (g:Option Addr))
 (m true i)
 (m (k !=2) i))))):Cl Pg [kB] eA ⟨[]⟩ w R:=co Tryz.f45 [(10,[]),(11,[(61,kB)])] h
theorem Ee.ok (a:(Option Addr)) (b:Sl) (c:Int) (R:Sl→Int→Int→Bool→World→Prop) w (h:
 ec (⟨none,0,0⟩:Sl) 0 w fun d e (f:Sl) (g:Int) h=>
 aa (decide (g≤(b.len:Int)))
 (aR (fun (r:World)=>
 fx f r fun s t (u:Sl) v=>
 Cl Pg [kI] bP ⟨[(.pointer a)]⟩ v fun (y:Int) x=>
 Cl Pg [(ak .u8),(ak .u8),kI] aX ⟨[(.pointer a)]⟩ x fun (a1:Int) (b1:Int) (c1:Int) z=>
 Cl Pg [(ak .u8)] dr ⟨[(.pointer a)]⟩ z fun (e1:Int) d1=>
 Cl Pg [kI,kI] lk ⟨[(ni c),(.int .u8 e1)]⟩ d1 fun (g1:Int) (h1:Int) f1=>
 aa (h1==0)
 (Cl Pg [kI] bP ⟨[(.pointer a)]⟩ f1 fun (j1:Int) i1=>
 aa (decide ((i64 (j1 - y))>g1))
 (R (⟨none,0,0⟩:Sl) 0 0 false i1)
 (aa (b1==1)
 (Nw 5 ⟨[(.int .u8 a1)]⟩ i1 fun l1 k1=>
 aw Pg (Builtin.append_ #[26,26] 26 ⟨[(ar u),(ar (⟨some ⟨l1,0,none⟩,1,1⟩:Sl))]⟩) kS k1 fun (n1:Sl) m1=>
 s n1 m1∧t n1 m1<t u v)
 (aa (b1 !=2)
 (R u b1 c1 (b1 !=2) i1)
 (aa (g==(b.len:Int))
 (R u b1 c1 (b1 !=2) i1)
 (d u (i64 (g+1)) i1∧e u (i64 (g+1)) i1<e f g h)))))
 (aa (b1==1)
 (Nw 5 ⟨[(.int .u8 a1)]⟩ f1 fun p1 o1=>
 aw Pg (Builtin.append_ #[26,26] 26 ⟨[(ar u),(ar (⟨some ⟨p1,0,none⟩,1,1⟩:Sl))]⟩) kS o1 fun (r1:Sl) q1=>
 s r1 q1∧t r1 q1<t u v)
 (aa (b1 !=2)
 (R u b1 c1 (b1 !=2) f1)
 (aa (g==(b.len:Int))
 (R u b1 c1 (b1 !=2) f1)
 (d u (i64 (g+1)) f1∧e u (i64 (g+1)) f1<e f g h))))) fun i=>
 aa (decide (g<(b.len:Int)))
 (aT b g 1 fun j=>
 Ld kS j h fun (k:Sl)=>
 Nw 26 ⟨[(ar k)]⟩ h fun m l=>
 Cl Pg [kB] bF ⟨[(.pointer a),(ar (⟨some ⟨m,0,none⟩,1,1⟩:Sl))]⟩ l fun (o:Bool) n=>
 i n)
 (Cl Pg [kB] dB ⟨[(.pointer a)]⟩ h fun (q:Bool) p=>
 i p))
 (R f 0 0 false h)):Cl Pg [kS,(ak .u8),kI,kB] kK ⟨[(.pointer a),(ar b),(ni c)]⟩ w R:=co Tryz.f48 [(7,[(10,kS),(11,kI)]),(12,[]),(17,[(10,kS)])] h
theorem CC.ok (a:Sl) (b:Int) (R:Sl→World→Prop) w (h:
 ec (⟨none,0,0⟩:Sl) 0 w fun c d (e:Sl) (f:Int) g=>
 aa (decide (f<(a.len:Int)))
 (bQ a f (if (a.len:Int)<(i64 (f+b)) then (a.len:Int) else (i64 (f+b))) (a).cap 1 fun h=>
 Nw 26 ⟨[(ar h)]⟩ g fun j i=>
 aw Pg (Builtin.append_ #[47,47] 47 ⟨[(ar e),(ar (⟨some ⟨j,0,none⟩,1,1⟩:Sl))]⟩) kS i fun (l:Sl) k=>
 c l (i64 (f+b)) k∧d l (i64 (f+b)) k<d e f g)
 (R e g)):Cl Pg [kS] kD ⟨[(ar a),(ni b)]⟩ w R:=co Tryz.f49 [(7,[(5,kS),(6,kI)])] h
end Go.Proofs.YtgglghjnakclmaaGreat
namespace Go.Proofs.YtgglghjnakclmaaGreat
open Go Go.Vc
set_option maxRecDepth 100000
theorem ry.ok (a:Int) (R:(Option Addr)→Int→World→Prop) w (h:
 Cl Pg [kP,kI] kL ⟨[(ni a)]⟩ w fun c (d:Int) b=>
 aa (d !=0)
 (R none d b)
 (Cl Pg [kP] jL ⟨[]⟩ b fun f e=>
 Cl Pg [kP] mu ⟨[]⟩ e fun h g=>
 Nw 156 ⟨[(ni a),(.int .u8 0),(.pointer c),(.pointer f),(.pointer h),(.slice none 0 0),(ni 0),(ni 0),(.int .u32 0),(ni 0),.nilIface,(ni 0),(ni 0),(.int .u32 0),(ni 0)]⟩ g fun j i=>
 R (some ⟨j,0,none⟩) 0 i)):Cl Pg [kP,kI] cZ ⟨[(ni a)]⟩ w R:=co Tryz.f47 [] h
theorem jB.ok (a:(Option Addr)) (b:Sl) (R:Bool→World→Prop) w (h:
 aa (!(Option.isNone (a:Option Addr)))
 (ae a fun c=>
 Ld kP (c.add 3) w fun d=>
 Cl Pg [kB] ep ⟨[(.pointer d),(ar b)]⟩ w fun (f:Bool) e=>
 R f e)
 (R false w)):Cl Pg [kB] bF ⟨[(.pointer a),(ar b)]⟩ w R:=co Tryz.f50 [] h
theorem pX.ok (a:(Option Addr)) (R:Bool→World→Prop) w (h:
 aa (!(Option.isNone (a:Option Addr)))
 (ae a fun b=>
 Ld kP (b.add 3) w fun c=>
 Cl Pg [kB] ff ⟨[(.pointer c)]⟩ w fun (e:Bool) d=>
 R e d)
 (R false w)):Cl Pg [kB] dB ⟨[(.pointer a)]⟩ w R:=co Tryz.f51 [] h
theorem gH.ok (a:(Option Addr)) (R:Int→Int→Int→World→Prop) w (h:
 aa (Option.isNone (a:Option Addr))
 (R 0 4 2 w)
 (aw Pg (Instr.makeMap 160 none) kM w fun c b=>
 aw Pg (do Instr.mapUpdate 160 (.map c) (.int .u8 2) (.func (.func 101) ⟨[(.pointer a)]⟩ ⟨[]⟩);pure undef) kV b fun _ d=>
 aw Pg (do Instr.mapUpdate 160 (.map c) (.int .u8 3) (.func (.func 102) ⟨[(.pointer a)]⟩ ⟨[]⟩);pure undef) kV d fun _ e=>
 aw Pg (do Instr.mapUpdate 160 (.map c) (.int .u8 4) (.func (.func 103) ⟨[(.pointer a)]⟩ ⟨[]⟩);pure undef) kV e fun _ f=>
 aw Pg (do Instr.mapUpdate 160 (.map c) (.int .u8 5) (.func (.func 104) ⟨[(.pointer a)]⟩ ⟨[]⟩);pure undef) kV f fun _ g=>
 aw Pg (do Instr.mapUpdate 160 (.map c) (.int .u8 6) (.func (.func 105) ⟨[(.pointer a)]⟩ ⟨[]⟩);pure undef) kV g fun _ h=>
 My h fun i j k=>
 ae a fun l=>
 Ld kI (l.add 14) k fun (m:Int)=>
 aa (m==0)
 (Cl Pg [(ak .u8),kB] eW ⟨[(.pointer a)]⟩ k fun (o:Int) (p:Bool) n=>
 aa p
 (R o 1 0 n)
 (aR (fun (i1:Addr) (j1:World)=>
 Ld (ak .u8) (i1.add 0) j1 fun (k1:Int)=>
 aa (k1==1)
 (R 0 2 0 j1)
 (aa (k1==7)
 (R 0 3 0 j1)
 (aa (k1==8)
 (Ld kI (i1.add 6) j1 fun (l1:Int)=>
 ae a fun m1=>
 St (m1.add 14) (ni l1) j1 fun n1=>
 i n1∧j n1<j k)
 (Ld (ak .u8) (i1.add 0) j1 fun (o1:Int)=>
 aw Pg (Instr.lookup 160 (.map c) (.int .u8 o1) false) kV j1 fun q1 p1=>
 Ld (.st aY) i1 p1 fun r1=>
 fj Pg q1 [kI] [(.agg ⟨[(.int .u8 r1.1),(ni r1.2.1),(ni r1.2.2.1),(ni r1.2.2.2.1),(.int .u32 r1.2.2.2.2.1),(ar r1.2.2.2.2.2.1),(ni r1.2.2.2.2.2.2.1)]⟩)] p1 fun (t1:Int) s1=>
 ae a fun u1=>
 St (u1.add 14) (ni t1) s1 fun v1=>
 i v1∧j v1<j k)))) fun q=>
 cP n fun r s=>
 ae a fun t=>
 au kP (t.add 4) r fun u=>
 ae a fun v=>
 au kP (v.add 3) r fun x=>
 (Cl Pg [(.st aY)] cS ⟨[(.pointer u),(.pointer x)]⟩ s fun z y=>
 r y∧
 Nw 29 ⟨[(.int .u8 0),(ni 0),(ni 0),(ni 0),(.int .u32 0),(.slice none 0 0),(ni 0)]⟩ y fun b1 a1=>
 r a1∧
 ad ⟨b1,0,none⟩ [(.int .u8 z.1),(ni z.2.1),(ni z.2.2.1),(ni z.2.2.2.1),(.int .u32 z.2.2.2.2.1),(ar z.2.2.2.2.2.1),(ni z.2.2.2.2.2.2.1)] 0 a1 fun c1=>
 r c1∧
 q (⟨b1,0,none⟩) c1)∧
 (Nw 29 ⟨[(.int .u8 0),(ni 0),(ni 0),(ni 0),(.int .u32 0),(.slice none 0 0),(ni 0)]⟩ s fun e1 d1=>
 r d1∧
 Cl Pg [(.st aY)] cS ⟨[(.pointer u),(.pointer x)]⟩ d1 fun g1 f1=>
 r f1∧
 ad ⟨e1,0,none⟩ [(.int .u8 g1.1),(ni g1.2.1),(ni g1.2.2.1),(ni g1.2.2.2.1),(.int .u32 g1.2.2.2.2.1),(ar g1.2.2.2.2.2.1),(ni g1.2.2.2.2.2.2.1)] 0 f1 fun h1=>
 r h1∧
 q (⟨e1,0,none⟩) h1)))
 (aU k fun b2=>
 ae a fun c2=>
 Ld kI (c2.add 14) b2 fun (d2:Int)=>
 R 0 4 d2 b2))):Cl Pg [(ak .u8),(ak .u8),kI] aX ⟨[(.pointer a)]⟩ w R:=co Tryz.f53 [(10,[])] h
theorem jj.ok (a:(Option Addr)) (R:Int→World→Prop) w (h:
 aa (Option.isNone (a:Option Addr))
 (R 0 w)
 (cP w fun b c=>
 ae a fun d=>
 au kI (d.add 11) b fun (e:Int)=>
 ae a fun f=>
 au kP (f.add 3) b fun g=>
 Cl Pg [kI] ek ⟨[(.pointer g)]⟩ c fun (i:Int) h=>
 b h∧
 ae a fun j=>
 Ld kV (j.add 10) h fun k=>
 gp k fun l=>
 aa (!l)
 (ae a fun m=>
 Ld kV (m.add 10) h fun n=>
 ej Pg n "Steps" [kI] [] h fun (p:Int) o=>
 R (i64 ((i64 (e+i))+p)) o)
 (R (i64 (e+i)) h))):Cl Pg [kI] bP ⟨[(.pointer a)]⟩ w R:=co Tryz.f54 [] h
theorem oQ.ok (a:(Option Addr)) (R:Int→World→Prop) w (h:
 aa (Option.isNone (a:Option Addr))
 (R 0 w)
 (ae a fun b=>
 Ld kI (b.add 12) w fun (c:Int)=>
 R c w)):Cl Pg [kI] fe ⟨[(.pointer a)]⟩ w R:=co Tryz.f55 [] h
theorem oR.ok (a:(Option Addr)) (R:Int→World→Prop) w (h:
 aa (Option.isNone (a:Option Addr))
 (R 0 w)
 (ae a fun b=>
 Ld kP (b.add 2) w fun c=>
 Cl Pg [kI] gF ⟨[(.pointer c)]⟩ w fun (e:Int) d=>
 R e d)):Cl Pg [kI] cC ⟨[(.pointer a)]⟩ w R:=co Tryz.f97 [] h
theorem oO.ok (a:(Option Addr)) (R:Int→World→Prop) w (h:
 aa (Option.isNone (a:Option Addr))
 (R 0 w)
 (ae a fun b=>
 Ld (ak .u8) (b.add 1) w fun (c:Int)=>
 R c w)):Cl Pg [(ak .u8)] dr ⟨[(.pointer a)]⟩ w R:=co Tryz.f98 [] h
theorem n8.ok (a:(Option Addr)) (b:(TT aY)) (R:Int→World→Prop) w (h:
 Nw 29 ⟨[(.int .u8 b.1),(ni b.2.1),(ni b.2.2.1),(ni b.2.2.2.1),(.int .u32 b.2.2.2.2.1),(ar b.2.2.2.2.2.1),(ni b.2.2.2.2.2.2.1)]⟩ w fun d c=>
 aU c fun m=>
 ae a fun n=>
 Ld kI (n.add 0) m fun (o:Int)=>
 Ld kI (Addr.add ⟨d,0,none⟩ 1) m fun (p:Int)=>
 Cl Pg [(ak .u8),kI] lD ⟨[(ni o),(ni p),(.int .u8 2)]⟩ m fun (r:Int) (s:Int) q=>
 aa (s !=0)
 (R s q)
 (ae a fun t=>
 St (t.add 1) (.int .u8 r) q fun u=>
 Ld kI (Addr.add ⟨d,0,none⟩ 1) u fun (v:Int)=>
 Cl Pg [kS,kI] gq ⟨[(ni v),(.int .u8 2),(.int .u8 r)]⟩ u fun (y:Sl) (z:Int) x=>
 fx 0 x fun a1 b1 (c1:Int) d1=>
 aa (decide (c1<(y.len:Int)))
 (aT y c1 1 fun e1=>
 Ld kI e1 d1 fun (f1:Int)=>
 ae a fun g1=>
 Ld kP (g1.add 2) d1 fun h1=>
 Cl Pg [(.st [.int .i64,.int .i64]),kI] gA ⟨[(.pointer h1),(ni f1)]⟩ d1 fun j1 (k1:Int) i1=>
 Nw 146 ⟨[(ni 0),(ni 0)]⟩ i1 fun m1 l1=>
 ad ⟨m1,0,none⟩ [(ni j1.1),(ni j1.2.1)] 0 l1 fun n1=>
 aR (fun (h2:World)=>
 a1 (i64 (c1+1)) h2∧b1 (i64 (c1+1)) h2<b1 c1 d1) fun o1=>
 aU n1 fun p1=>
 ae a fun q1=>
 Ld (.st [.int .i64,.int .i64]) ⟨m1,0,none⟩ p1 fun r1=>
 (Ld kS (q1.add 5) p1 fun (s1:Sl)=>
 Nw 146 ⟨[(ni r1.1),(ni r1.2.1)]⟩ p1 fun u1 t1=>
 aw Pg (Builtin.append_ #[137,137] 137 ⟨[(ar s1),(ar (⟨some ⟨u1,0,none⟩,1,1⟩:Sl))]⟩) kS t1 fun (x1:Sl) v1=>
 ae a fun y1=>
 St (y1.add 5) (ar x1) v1 fun z1=>
 o1 z1)∧
 (Nw 146 ⟨[(ni r1.1),(ni r1.2.1)]⟩ p1 fun b2 a2=>
 Ld kS (q1.add 5) a2 fun (c2:Sl)=>
 aw Pg (Builtin.append_ #[137,137] 137 ⟨[(ar c2),(ar (⟨some ⟨b2,0,none⟩,1,1⟩:Sl))]⟩) kS a2 fun (e2:Sl) d2=>
 ae a fun f2=>
 St (f2.add 5) (ar e2) d2 fun g2=>
 o1 g2))
 (R 0 d1))):Cl Pg [kI] cp ⟨[(.pointer a),(.agg ⟨[(.int .u8 b.1),(ni b.2.1),(ni b.2.2.1),(ni b.2.2.2.1),(.int .u32 b.2.2.2.2.1),(ar b.2.2.2.2.2.1),(ni b.2.2.2.2.2.2.1)]⟩)]⟩ w R:=co Tryz.f101 [(16,[(39,kI)]),(25,[])] h
theorem nN.ok (a:(Option Addr)) (b:(TT aY)) (R:Int→World→Prop) w (h:
 Nw 29 ⟨[(.int .u8 b.1),(ni b.2.1),(ni b.2.2.1),(ni b.2.2.2.1),(.int .u32 b.2.2.2.2.1),(ar b.2.2.2.2.2.1),(ni b.2.2.2.2.2.2.1)]⟩ w fun d c=>
 Ld (.st [.int .i64,.int .i64,.int .u32]) (Addr.add ⟨d,0,none⟩ 2) c fun e=>
 ae a fun f=>
 ad (f.add 6) [(ni e.1),(ni e.2.1),(.int .u32 e.2.2.1)] 0 c fun g=>
 ae a fun h=>
 St (h.add 9) (ni 0) g fun i=>
 R 0 i):Cl Pg [kI] cg ⟨[(.pointer a),(.agg ⟨[(.int .u8 b.1),(ni b.2.1),(ni b.2.2.1),(ni b.2.2.2.1),(.int .u32 b.2.2.2.2.1),(ar b.2.2.2.2.2.1),(ni b.2.2.2.2.2.2.1)]⟩)]⟩ w R:=co Tryz.f102 [] h
theorem oc.ok (a:(Option Addr)) (b:(TT aY)) (R:Int→World→Prop) w (h:
 Nw 29 ⟨[(.int .u8 b.1),(ni b.2.1),(ni b.2.2.1),(ni b.2.2.2.1),(.int .u32 b.2.2.2.2.1),(ar b.2.2.2.2.2.1),(ni b.2.2.2.2.2.2.1)]⟩ w fun d c=>
 aU c fun e=>
 ae a fun f=>
 Ld kP (f.add 2) e fun g=>
 ae a fun h=>
 Ld kS (h.add 5) e fun (i:Sl)=>
 aT i 0 2 fun j=>
 Ld (.st [.int .i64,.int .i64]) j e fun k=>
 ae a fun l=>
 Ld kI (l.add 9) e fun (m:Int)=>
 Ld kS (Addr.add ⟨d,0,none⟩ 5) e fun (n:Sl)=>
 Cl Pg [kB] gk ⟨[(.pointer g),(.agg ⟨[(ni k.1),(ni k.2.1)]⟩),(ni m),(ar n)]⟩ e fun (p:Bool) o=>
 aU o fun q=>
 ae a fun r=>
 Ld kI (r.add 9) q fun (s:Int)=>
 Ld kS (Addr.add ⟨d,0,none⟩ 5) q fun (t:Sl)=>
 ae a fun u=>
 St (u.add 9) (ni (i64 (s+(t.len:Int)))) q fun v=>
 R 0 v):Cl Pg [kI] cn ⟨[(.pointer a),(.agg ⟨[(.int .u8 b.1),(ni b.2.1),(ni b.2.2.1),(ni b.2.2.2.1),(.int .u32 b.2.2.2.2.1),(ar b.2.2.2.2.2.1),(ni b.2.2.2.2.2.2.1)]⟩)]⟩ w R:=co Tryz.f103 [] h
theorem oY.ok (a:(Option Addr)) (b:(TT aY)) (R:Int→World→Prop) w (h:
 Nw 29 ⟨[(.int .u8 b.1),(ni b.2.1),(ni b.2.2.1),(ni b.2.2.2.1),(.int .u32 b.2.2.2.2.1),(ar b.2.2.2.2.2.1),(ni b.2.2.2.2.2.2.1)]⟩ w fun d c=>
 Cl Pg [kV,kI] eY ⟨[(.pointer a)]⟩ c fun f (g:Int) e=>
 aa (g !=0)
 (R 170 e)
 (ej Pg f "Valid" [kB] [] e fun (i:Bool) h=>
 aR (fun (y:Int) (z:World)=>
 aR (fun (u1:World)=>
 aa (!i)
 (R 170 u1)
 (ae a fun v1=>
 Ld (ak .u32) ((v1.add 6).add 2) u1 fun (x1:Int)=>
 aa (y !=x1)
 (R 250 u1)
 (ej Pg f "Reset" [] [] u1 fun y1=>
 ae a fun z1=>
 St (z1.add 10) f y1 fun a2=>
 R 0 a2))) fun a1=>
 aR (fun (e1:Bool) (f1:World)=>
 aa e1
 (aR (fun (t1:World)=>
 a1 t1) fun g1=>
 aU f1 fun h1=>
 ae a fun i1=>
 (Ld kI (i1.add 11) h1 fun (j1:Int)=>
 ej Pg f "Steps" [kI] [] h1 fun (l1:Int) k1=>
 ae a fun m1=>
 St (m1.add 11) (ni (i64 (j1+l1))) k1 fun n1=>
 g1 n1)∧
 (ej Pg f "Steps" [kI] [] h1 fun (p1:Int) o1=>
 Ld kI (i1.add 11) o1 fun (q1:Int)=>
 ae a fun r1=>
 St (r1.add 11) (ni (i64 (q1+p1))) o1 fun s1=>
 g1 s1))
 (a1 f1)) fun b1=>
 aa (!i)
 (b1 true z)
 (ae a fun c1=>
 Ld (ak .u32) ((c1.add 6).add 2) z fun (d1:Int)=>
 b1 (y !=d1) z)) fun j=>
 fx 0 h fun k l (m:Int) n=>
 aa i
 (ej Pg f "Next" [(ak .u8),kB] [] n fun (p:Int) (q:Bool) o=>
 aa (!q)
 (j m o)
 (Nw 5 ⟨[(.int .u8 p)]⟩ o fun s r=>
 Nw 26 ⟨[(ar (⟨some ⟨s,0,none⟩,1,1⟩:Sl))]⟩ r fun u t=>
 Cl Pg [(ak .u32)] jA ⟨[(.int .u32 m),(ar (⟨some ⟨u,0,none⟩,1,1⟩:Sl))]⟩ t fun (x:Int) v=>
 k x v∧l x v<l m n))
 (j m n))):Cl Pg [kI] cD ⟨[(.pointer a),(.agg ⟨[(.int .u8 b.1),(ni b.2.1),(ni b.2.2.1),(ni b.2.2.2.1),(.int .u32 b.2.2.2.2.1),(ar b.2.2.2.2.2.1),(ni b.2.2.2.2.2.2.1)]⟩)]⟩ w R:=co Tryz.f104 [(13,[(8,(ak .u32))]),(14,[(8,(ak .u32))]),(24,[]),(25,[(43,kB)]),(27,[])] h
theorem nP.ok (a:(Option Addr)) (b:(TT aY)) (R:Int→World→Prop) w (h:
 Nw 29 ⟨[(.int .u8 b.1),(ni b.2.1),(ni b.2.2.1),(ni b.2.2.2.1),(.int .u32 b.2.2.2.2.1),(ar b.2.2.2.2.2.1),(ni b.2.2.2.2.2.2.1)]⟩ w fun d c=>
 aU c fun e=>
 Ld (ak .u32) ((Addr.add ⟨d,0,none⟩ 2).add 2) e fun (f:Int)=>
 ae a fun g=>
 Ld (ak .u32) (g.add 13) e fun (h:Int)=>
 aa (f !=h)
 (R 260 e)
 (R 0 e)):Cl Pg [kI] cq ⟨[(.pointer a),(.agg ⟨[(.int .u8 b.1),(ni b.2.1),(ni b.2.2.1),(ni b.2.2.2.1),(.int .u32 b.2.2.2.2.1),(ar b.2.2.2.2.2.1),(ni b.2.2.2.2.2.2.1)]⟩)]⟩ w R:=co Tryz.f105 [] h
theorem px.ok (a:(Option Addr)) (R:Int→Bool→World→Prop) w (h:
 ae a fun b=>
 Ld kV (b.add 10) w fun c=>
 gp c fun d=>
 aa d
 (R 0 false w)
 (ae a fun e=>
 Ld kV (e.add 10) w fun f=>
 ej Pg f "Next" [(ak .u8),kB] [] w fun (h:Int) (i:Bool) g=>
 aR (fun (z:World)=>
 aR (fun (h2:World)=>
 R h i h2) fun a1=>
 aR (fun (m1:Bool) (n1:World)=>
 aa m1
 (aR (fun (e2:World)=>
 ae a fun f2=>
 St (f2.add 10) .nilIface e2 fun g2=>
 a1 g2) fun o1=>
 aU n1 fun p1=>
 ae a fun q1=>
 ae a fun r1=>
 Ld kV (r1.add 10) p1 fun s1=>
 (Ld kI (q1.add 11) p1 fun (t1:Int)=>
 ej Pg s1 "Steps" [kI] [] p1 fun (v1:Int) u1=>
 ae a fun x1=>
 St (x1.add 11) (ni (i64 (t1+v1))) u1 fun y1=>
 o1 y1)∧
 (ej Pg s1 "Steps" [kI] [] p1 fun (a2:Int) z1=>
 Ld kI (q1.add 11) z1 fun (b2:Int)=>
 ae a fun c2=>
 St (c2.add 11) (ni (i64 (b2+a2))) z1 fun d2=>
 o1 d2))
 (a1 n1)) fun b1=>
 aU z fun c1=>
 ae a fun d1=>
 Ld kV (d1.add 10) c1 fun e1=>
 ae a fun f1=>
 (ej Pg e1 "Told" [kI] [] c1 fun (h1:Int) g1=>
 Ld kI ((f1.add 6).add 0) g1 fun (i1:Int)=>
 b1 (h1==i1) g1)∧
 (Ld kI ((f1.add 6).add 0) c1 fun (j1:Int)=>
 ej Pg e1 "Told" [kI] [] c1 fun (l1:Int) k1=>
 b1 (l1==j1) k1)) fun j=>
 aa i
 (ae a fun k=>
 Ld kI (k.add 12) g fun (l:Int)=>
 ae a fun m=>
 St (m.add 12) (ni (i64 (l+1))) g fun n=>
 ae a fun o=>
 Ld (ak .u32) (o.add 13) n fun (p:Int)=>
 Nw 5 ⟨[(.int .u8 h)]⟩ n fun r q=>
 Nw 26 ⟨[(ar (⟨some ⟨r,0,none⟩,1,1⟩:Sl))]⟩ q fun t s=>
 Cl Pg [(ak .u32)] jA ⟨[(.int .u32 p),(ar (⟨some ⟨t,0,none⟩,1,1⟩:Sl))]⟩ s fun (v:Int) u=>
 ae a fun x=>
 St (x.add 13) (.int .u32 v) u fun y=>
 j y)
 (j g))):Cl Pg [(ak .u8),kB] eW ⟨[(.pointer a)]⟩ w R:=co Tryz.f106 [(9,[]),(15,[]),(17,[]),(19,[])] h
theorem oK.ok (a:(Option Addr)) (R:Value→Int→World→Prop) w (h:
 cP w fun b c=>
 ae a fun d=>
 au kS (d.add 5) b fun (e:Sl)=>
 aT e 0 2 fun f=>
 au kI (f.add 0) b fun (g:Int)=>
 ae a fun h=>
 au kI ((h.add 6).add 0) b fun (i:Int)=>
 Nw 146 ⟨[(ni 0),(ni 0)]⟩ c fun k j=>
 b j∧
 ad ⟨k,0,none⟩ [(ni g),(ni i)] 0 j fun l=>
 b l∧
 ae a fun m=>
 Ld (ak .u8) (m.add 1) l fun (n:Int)=>
 Cl Pg [kI,kB] ie ⟨[(.int .u8 n)]⟩ l fun (p:Int) (q:Bool) o=>
 aa (!q)
 (cP o fun r s=>
 ae a fun t=>
 au kP (t.add 2) r fun u=>
 au (.st [.int .i64,.int .i64]) ⟨k,0,none⟩ r fun v=>
 ae a fun x=>
 au kI ((x.add 6).add 1) r fun (y:Int)=>
 ae a fun z=>
 au kS (z.add 5) r fun (a1:Sl)=>
 aT a1 1 2 fun b1=>
 au (.st [.int .i64,.int .i64]) b1 r fun c1=>
 Cl Pg [kP,kI] jZ ⟨[(.pointer u),(.agg ⟨[(ni v.1),(ni v.2.1)]⟩),(ni y),(.agg ⟨[(ni c1.1),(ni c1.2.1)]⟩)]⟩ s fun e1 (f1:Int) d1=>
 r d1∧
 R (.iface 294 (.pointer e1)) f1 d1)
 (cP o fun g1 h1=>
 ae a fun i1=>
 au kP (i1.add 2) g1 fun j1=>
 au (.st [.int .i64,.int .i64]) ⟨k,0,none⟩ g1 fun k1=>
 ae a fun l1=>
 au kI ((l1.add 6).add 1) g1 fun (m1:Int)=>
 ae a fun n1=>
 au kS (n1.add 5) g1 fun (o1:Sl)=>
 aT o1 1 2 fun p1=>
 au (.st [.int .i64,.int .i64]) p1 g1 fun q1=>
 Cl Pg [kP,kI] kg ⟨[(.pointer j1),(.agg ⟨[(ni k1.1),(ni k1.2.1)]⟩),(ni m1),(.agg ⟨[(ni q1.1),(ni q1.2.1)]⟩),(ni p)]⟩ h1 fun s1 (t1:Int) r1=>
 g1 r1∧
 R (.iface 297 (.pointer s1)) t1 r1)):Cl Pg [kV,kI] eY ⟨[(.pointer a)]⟩ w R:=co Tryz.f155 [] h
end Go.Proofs.YtgglghjnakclmaaGreat
namespace Go.Proofs.YtgglghjnakclmaaGreat
open Go Go.Vc
set_option maxRecDepth 100000
theorem v7.ok (a:(Option Addr)) (b:(TT [.int .i64,.int .i64])) (c:Int) (d:(TT [.int .i64,.int .i64])) (R:(Option Addr)→Int→World→Prop) w (h:
 Nw 146 ⟨[(ni b.1),(ni b.2.1)]⟩ w fun f e=>
 Nw 146 ⟨[(ni d.1),(ni d.2.1)]⟩ e fun h g=>
 aR (fun (o:World)=>
 Ld (.st [.int .i64,.int .i64]) ⟨f,0,none⟩ o fun p=>
 Ld (.st [.int .i64,.int .i64]) ⟨h,0,none⟩ o fun q=>
 Nw 350 ⟨[(.pointer a),(ni p.1),(ni p.2.1),(ni q.1),(ni q.2.1),(ni c),(ni 0),(ni 0),(ni 0)]⟩ o fun s r=>
 Ld (.st [.int .i64,.int .i64]) ⟨f,0,none⟩ r fun t=>
 Cl Pg [(.arr 256)] nG ⟨[(.pointer a),(.agg ⟨[(ni t.1),(ni t.2.1)]⟩)]⟩ r fun v u=>
 Nw 351 ⟨List.replicate 256 (ni 0)⟩ u fun y x=>
 aj 256 ⟨y,0,none⟩ v x fun z=>
 Ld kI (Addr.add ⟨f,0,none⟩ 1) z fun (a1:Int)=>
 fx 0 z fun b1 c1 (d1:Int) e1=>
 aa (decide (d1<(i64 (a1+1))))
 (Cl Pg [(ak .u8),kB] dE ⟨[(.pointer (some ⟨s,0,none⟩)),(ni d1)]⟩ e1 fun (g1:Int) (h1:Bool) f1=>
 aa h1
 (aF ⟨y,0,none⟩ 256 g1 1 fun i1=>
 Ld kI i1 f1 fun (j1:Int)=>
 aF ⟨y,0,none⟩ 256 g1 1 fun k1=>
 St k1 (ni (i64 (j1+1))) f1 fun l1=>
 aF ⟨y,0,none⟩ 256 g1 1 fun m1=>
 Ld kI m1 l1 fun (n1:Int)=>
 Ld (.st [.int .i64,.int .i64]) ⟨h,0,none⟩ l1 fun o1=>
 Cl Pg [kB] cM ⟨[(.pointer a),(.agg ⟨[(ni o1.1),(ni o1.2.1)]⟩),(ni d1),(.int .u32 (u32 n1))]⟩ l1 fun (q1:Bool) p1=>
 b1 (i64 (d1+1)) p1∧c1 (i64 (d1+1)) p1<c1 d1 e1)
 (Ld (.st [.int .i64,.int .i64]) ⟨h,0,none⟩ f1 fun r1=>
 Cl Pg [kB] cM ⟨[(.pointer a),(.agg ⟨[(ni r1.1),(ni r1.2.1)]⟩),(ni d1),(.int .u32 (u32 0))]⟩ f1 fun (t1:Bool) s1=>
 b1 (i64 (d1+1)) s1∧c1 (i64 (d1+1)) s1<c1 d1 e1))
 (R (some ⟨s,0,none⟩) 0 e1)) fun i=>
 Ld (.st [.int .i64,.int .i64]) ⟨f,0,none⟩ g fun j=>
 Ld (.st [.int .i64,.int .i64]) ⟨h,0,none⟩ g fun k=>
 Cl Pg [kB] ic ⟨[(.pointer a),(.agg ⟨[(ni j.1),(ni j.2.1)]⟩),(.agg ⟨[(ni k.1),(ni k.2.1)]⟩)]⟩ g fun (m:Bool) l=>
 aa (!m)
 (R none 2 l)
 (aa (decide (c<1))
 (R none 170 l)
 (Ld kI (Addr.add ⟨f,0,none⟩ 1) l fun (n:Int)=>
 aa (decide (c>n))
 (R none 170 l)
 (i l)))):Cl Pg [kP,kI] jZ ⟨[(.pointer a),(.agg ⟨[(ni b.1),(ni b.2.1)]⟩),(ni c),(.agg ⟨[(ni d.1),(ni d.2.1)]⟩)]⟩ w R:=co Tryz.f217 [(2,[]),(18,[(43,kI)])] h
theorem sX.ok (a:(Option Addr)) (b:(TT [.int .i64,.int .i64])) (c:(TT [.int .i64,.int .i64])) (R:Bool→World→Prop) w (h:
 Nw 146 ⟨[(ni b.1),(ni b.2.1)]⟩ w fun e d=>
 Nw 146 ⟨[(ni c.1),(ni c.2.1)]⟩ d fun g f=>
 aR (fun (s:World)=>
 Ld kI (Addr.add ⟨e,0,none⟩ 0) s fun (t:Int)=>
 Ld kI (Addr.add ⟨e,0,none⟩ 1) s fun (u:Int)=>
 Ld kI (Addr.add ⟨g,0,none⟩ 0) s fun (v:Int)=>
 aa (decide ((i64 (t+u))≤v))
 (R true s)
 (Ld kI (Addr.add ⟨g,0,none⟩ 0) s fun (x:Int)=>
 Ld kI (Addr.add ⟨g,0,none⟩ 1) s fun (y:Int)=>
 Ld kI (Addr.add ⟨e,0,none⟩ 0) s fun (z:Int)=>
 R (decide ((i64 (x+y))≤z)) s)) fun h=>
 Ld (.st [.int .i64,.int .i64]) ⟨e,0,none⟩ f fun i=>
 Cl Pg [kB] bJ ⟨[(.pointer a),(.agg ⟨[(ni i.1),(ni i.2.1)]⟩)]⟩ f fun (k:Bool) j=>
 aa (!k)
 (R false j)
 (Ld (.st [.int .i64,.int .i64]) ⟨g,0,none⟩ j fun l=>
 Cl Pg [kB] bJ ⟨[(.pointer a),(.agg ⟨[(ni l.1),(ni l.2.1)]⟩)]⟩ j fun (n:Bool) m=>
 aa (!n)
 (R false m)
 (Ld kI (Addr.add ⟨e,0,none⟩ 1) m fun (o:Int)=>
 aa (decide (o<1))
 (R false m)
 (Ld kI (Addr.add ⟨e,0,none⟩ 1) m fun (p:Int)=>
 aa (decide (p>65536))
 (R false m)
 (Ld kI (Addr.add ⟨g,0,none⟩ 1) m fun (q:Int)=>
 Ld kI (Addr.add ⟨e,0,none⟩ 1) m fun (r:Int)=>
 aa (decide (q<(i64 ((4:Int)*(i64 (r+1))))))
 (R false m)
 (h m)))))):Cl Pg [kB] ic ⟨[(.pointer a),(.agg ⟨[(ni b.1),(ni b.2.1)]⟩),(.agg ⟨[(ni c.1),(ni c.2.1)]⟩)]⟩ w R:=co Tryz.f280 [(2,[])] h
theorem pO.ok (a:(Option Addr)) (b:Int) (R:Int→Bool→World→Prop) w (h:
 ae a fun c=>
 Ld kI (c.add 5) w fun (d:Int)=>
 aa (b==d)
 (R 0 false w)
 (ae a fun e=>
 Ld kI (e.add 5) w fun (f:Int)=>
 aa (decide (b>f))
 (aU w fun g=>
 ae a fun h=>
 Ld kP (h.add 0) g fun i=>
 ae a fun j=>
 Ld (.st [.int .i64,.int .i64]) (j.add 1) g fun k=>
 Cl Pg [(ak .u8),kB] bh ⟨[(.pointer i),(.agg ⟨[(ni k.1),(ni k.2.1)]⟩),(ni (i64 (b - 1)))]⟩ g fun (m:Int) (n:Bool) l=>
 R m n l)
 (aU w fun o=>
 ae a fun p=>
 Ld kP (p.add 0) o fun q=>
 ae a fun r=>
 Ld (.st [.int .i64,.int .i64]) (r.add 1) o fun s=>
 Cl Pg [(ak .u8),kB] bh ⟨[(.pointer q),(.agg ⟨[(ni s.1),(ni s.2.1)]⟩),(ni b)]⟩ o fun (u:Int) (v:Bool) t=>
 R u v t))):Cl Pg [(ak .u8),kB] dE ⟨[(.pointer a),(ni b)]⟩ w R:=co Tryz.f282 [] h
theorem pU.ok (a:(Option Addr)) (R:Int→Bool→World→Prop) w (h:
 aU w fun b=>
 aa (Option.isNone (a:Option Addr))
 (R 0 false b)
 (ae a fun c=>
 Ld kI (c.add 7) b fun (d:Int)=>
 ae a fun e=>
 Ld kI ((e.add 1).add 1) b fun (f:Int)=>
 aa (d==f)
 (R 0 false b)
 (ae a fun g=>
 Ld kI (g.add 6) b fun (h:Int)=>
 Cl Pg [kI,(ak .u8),kB] da ⟨[(.pointer a),(ni h)]⟩ b fun (j:Int) (k:Int) (l:Bool) i=>
 aa (!l)
 (R 0 false i)
 (ae a fun m=>
 St (m.add 6) (ni j) i fun n=>
 ae a fun o=>
 Ld kI (o.add 7) n fun (p:Int)=>
 ae a fun q=>
 St (q.add 7) (ni (i64 (p+1))) n fun r=>
 R k true r)))):Cl Pg [(ak .u8),kB] jb ⟨[(.pointer a)]⟩ w R:=co Tryz.f351 [] h
theorem po.ok (a:(Option Addr)) (R:World→Prop) w (h:
 aa (!(Option.isNone (a:Option Addr)))
 (ae a fun b=>
 St (b.add 6) (ni 0) w fun c=>
 ae a fun d=>
 St (d.add 7) (ni 0) c fun e=>
 R e)
 (R w)):Cl Pg [] ix ⟨[(.pointer a)]⟩ w R:=co Tryz.f352 [] h
theorem oZ.ok (a:(Option Addr)) (R:Int→World→Prop) w (h:
 aa (Option.isNone (a:Option Addr))
 (R 0 w)
 (ae a fun b=>
 Ld kI (b.add 8) w fun (c:Int)=>
 R c w)):Cl Pg [kI] iy ⟨[(.pointer a)]⟩ w R:=co Tryz.f353 [] h
theorem pN.ok (a:(Option Addr)) (R:Int→World→Prop) w (h:
 aa (Option.isNone (a:Option Addr))
 (R 0 w)
 (ae a fun b=>
 Ld kI (b.add 7) w fun (c:Int)=>
 R c w)):Cl Pg [kI] jf ⟨[(.pointer a)]⟩ w R:=co Tryz.f354 [] h
theorem ou.ok (a:(Option Addr)) (R:Bool→World→Prop) w (h:
 aa (Option.isNone (a:Option Addr))
 (R false w)
 (ae a fun b=>
 Ld kI ((b.add 1).add 1) w fun (c:Int)=>
 ec 0 0 w fun d e (f:Int) (g:Int) h=>
 aa (decide (g<c))
 (Cl Pg [kI,(ak .u8),kB] da ⟨[(.pointer a),(ni f)]⟩ h fun (j:Int) (k:Int) (l:Bool) i=>
 aa (!l)
 (R false i)
 (d j (i64 (g+1)) i∧e j (i64 (g+1)) i<e f g h))
 (ae a fun m=>
 Ld kI (m.add 5) h fun (n:Int)=>
 R (f==n) h))):Cl Pg [kB] im ⟨[(.pointer a)]⟩ w R:=co Tryz.f355 [(12,[(3,kI),(14,kI)])] h
theorem oh.ok (a:(Option Addr)) (b:Int) (R:Int→Int→Bool→World→Prop) w (h:
 Cl Pg [(ak .u8),kB] dE ⟨[(.pointer a),(ni b)]⟩ w fun (d:Int) (e:Bool) c=>
 aU c fun f=>
 ae a fun g=>
 Ld kP (g.add 0) f fun h=>
 ae a fun i=>
 Ld (.st [.int .i64,.int .i64]) (i.add 3) f fun j=>
 Cl Pg [(ak .u32),kB] du ⟨[(.pointer h),(.agg ⟨[(ni j.1),(ni j.2.1)]⟩),(ni b)]⟩ f fun (l:Int) (m:Bool) k=>
 aa (!e)
 (R 0 0 false k)
 (aa (!m)
 (R 0 0 false k)
 (ae a fun n=>
 Ld kI (n.add 8) k fun (o:Int)=>
 ae a fun p=>
 St (p.add 8) (ni (i64 (o+1))) k fun q=>
 R (i64 l) d true q))):Cl Pg [kI,(ak .u8),kB] da ⟨[(.pointer a),(ni b)]⟩ w R:=co Tryz.f356 [] h
end Go.Proofs.YtgglghjnakclmaaGreat
namespace Go.Proofs.YtgglghjnakclmaaGreat
open Go Go.Vc
set_option maxRecDepth 100000
theorem wB.ok (a:(Option Addr)) (b:(TT [.int .i64,.int .i64])) (c:Int) (d:(TT [.int .i64,.int .i64])) (e:Int) (R:(Option Addr)→Int→World→Prop) w (h:
 Nw 146 ⟨[(ni b.1),(ni b.2.1)]⟩ w fun g f=>
 Nw 146 ⟨[(ni d.1),(ni d.2.1)]⟩ f fun i h=>
 Ld (.st [.int .i64,.int .i64]) ⟨g,0,none⟩ h fun j=>
 Ld (.st [.int .i64,.int .i64]) ⟨i,0,none⟩ h fun k=>
 Cl Pg [kI] nL ⟨[(.pointer a),(.agg ⟨[(ni j.1),(ni j.2.1)]⟩),(.agg ⟨[(ni k.1),(ni k.2.1)]⟩),(ni e)]⟩ h fun (m:Int) l=>
 aa (m !=0)
 (R none m l)
 (aR (fun (p:World)=>
 Ld (.st [.int .i64,.int .i64]) ⟨g,0,none⟩ p fun q=>
 Ld (.st [.int .i64,.int .i64]) ⟨i,0,none⟩ p fun r=>
 bC Pg 357 [(0,(.pointer a)),(1,(.agg ⟨[(ni q.1),(ni q.2.1)]⟩)),(2,(.agg ⟨[(ni r.1),(ni r.2.1)]⟩)),(3,(ni c)),(4,(ni e))] fun s=>
 Nw 357 s p fun u t=>
 ec 0 0 t fun v x (y:Int) (z:Int) a1=>
 aa (decide (z<256))
 (aF (Addr.add ⟨u,0,none⟩ 7) 256 z 1 fun b1=>
 St b1 (ni y) a1 fun c1=>
 Ld (.st [.int .i64,.int .i64]) ⟨g,0,none⟩ c1 fun d1=>
 Ld (.st [.int .i64,.int .i64]) ⟨i,0,none⟩ c1 fun e1=>
 Ld kI (Addr.add ⟨g,0,none⟩ 1) c1 fun (f1:Int)=>
 Cl Pg [kI,kI,kB] gg ⟨[(.pointer a),(.agg ⟨[(ni d1.1),(ni d1.2.1)]⟩),(.agg ⟨[(ni e1.1),(ni e1.2.1)]⟩),(ni e),(.int .u8 (u8 z)),(ni f1)]⟩ c1 fun (h1:Int) (i1:Int) (j1:Bool) g1=>
 v (i64 (y+h1)) (i64 (z+1)) g1∧x (i64 (y+h1)) (i64 (z+1)) g1<x y z a1)
 (R (some ⟨u,0,none⟩) 0 a1)) fun n=>
 aa (decide (c<1))
 (R none 170 l)
 (Ld kI (Addr.add ⟨g,0,none⟩ 1) l fun (o:Int)=>
 aa (decide (c>o))
 (R none 170 l)
 (n l)))):Cl Pg [kP,kI] kg ⟨[(.pointer a),(.agg ⟨[(ni b.1),(ni b.2.1)]⟩),(ni c),(.agg ⟨[(ni d.1),(ni d.2.1)]⟩),(ni e)]⟩ w R:=co Tryz.f218 [(9,[]),(21,[(14,kI),(42,kI)])] h
theorem qx.ok (a:(Option Addr)) (R:Int→Bool→World→Prop) w (h:
 aU w fun b=>
 aa (Option.isNone (a:Option Addr))
 (R 0 false b)
 (ae a fun c=>
 Ld kI (c.add 264) b fun (d:Int)=>
 ae a fun e=>
 Ld kI ((e.add 1).add 1) b fun (f:Int)=>
 aa (d==f)
 (R 0 false b)
 (ae a fun g=>
 Ld kI (g.add 263) b fun (h:Int)=>
 Cl Pg [kI,(ak .u8),kB] dq ⟨[(.pointer a),(ni h)]⟩ b fun (j:Int) (k:Int) (l:Bool) i=>
 aa (!l)
 (R 0 false i)
 (ae a fun m=>
 St (m.add 263) (ni j) i fun n=>
 ae a fun o=>
 Ld kI (o.add 264) n fun (p:Int)=>
 ae a fun q=>
 St (q.add 264) (ni (i64 (p+1))) n fun r=>
 R k true r)))):Cl Pg [(ak .u8),kB] jT ⟨[(.pointer a)]⟩ w R:=co Tryz.f357 [] h
theorem pZ.ok (a:(Option Addr)) (R:World→Prop) w (h:
 aa (!(Option.isNone (a:Option Addr)))
 (ae a fun b=>
 St (b.add 263) (ni 0) w fun c=>
 ae a fun d=>
 St (d.add 264) (ni 0) c fun e=>
 R e)
 (R w)):Cl Pg [] jx ⟨[(.pointer a)]⟩ w R:=co Tryz.f358 [] h
theorem pM.ok (a:(Option Addr)) (R:Int→World→Prop) w (h:
 aa (Option.isNone (a:Option Addr))
 (R 0 w)
 (ae a fun b=>
 Ld kI (b.add 265) w fun (c:Int)=>
 R c w)):Cl Pg [kI] jd ⟨[(.pointer a)]⟩ w R:=co Tryz.f359 [] h
theorem qd.ok (a:(Option Addr)) (R:Int→World→Prop) w (h:
 aa (Option.isNone (a:Option Addr))
 (R 0 w)
 (ae a fun b=>
 Ld kI (b.add 264) w fun (c:Int)=>
 R c w)):Cl Pg [kI] jV ⟨[(.pointer a)]⟩ w R:=co Tryz.f360 [] h
theorem pV.ok (a:(Option Addr)) (R:Bool→World→Prop) w (h:
 aa (Option.isNone (a:Option Addr))
 (R false w)
 (ae a fun b=>
 Ld kI ((b.add 1).add 1) w fun (c:Int)=>
 ec 0 0 w fun d e (f:Int) (g:Int) h=>
 aa (decide (g<c))
 (Cl Pg [kI,(ak .u8),kB] dq ⟨[(.pointer a),(ni f)]⟩ h fun (j:Int) (k:Int) (l:Bool) i=>
 aa (!l)
 (R false i)
 (d j (i64 (g+1)) i∧e j (i64 (g+1)) i<e f g h))
 (ae a fun m=>
 Ld kI (m.add 5) h fun (n:Int)=>
 R (f==n) h))):Cl Pg [kB] jl ⟨[(.pointer a)]⟩ w R:=co Tryz.f361 [(12,[(3,kI),(17,kI)])] h
theorem oE.ok (a:(Option Addr)) (b:Int) (R:Int→Int→Bool→World→Prop) w (h:
 ae a fun c=>
 Ld kI (c.add 5) w fun (d:Int)=>
 aa (b==d)
 (R 0 0 false w)
 (ae a fun e=>
 Ld kI (e.add 5) w fun (f:Int)=>
 aa (decide (b>f))
 (aU w fun g=>
 ae a fun h=>
 Ld kP (h.add 0) g fun i=>
 ae a fun j=>
 Ld (.st [.int .i64,.int .i64]) (j.add 1) g fun k=>
 Cl Pg [(ak .u8),kB] bh ⟨[(.pointer i),(.agg ⟨[(ni k.1),(ni k.2.1)]⟩),(ni (i64 (b - 1)))]⟩ g fun (m:Int) (n:Bool) l=>
 aU l fun o=>
 ae a fun p=>
 Ld kP (p.add 0) o fun q=>
 ae a fun r=>
 Ld (.st [.int .i64,.int .i64]) (r.add 1) o fun s=>
 ae a fun t=>
 Ld (.st [.int .i64,.int .i64]) (t.add 3) o fun u=>
 ae a fun v=>
 Ld kI (v.add 6) o fun (x:Int)=>
 Cl Pg [kI,kI,kB] gg ⟨[(.pointer q),(.agg ⟨[(ni s.1),(ni s.2.1)]⟩),(.agg ⟨[(ni u.1),(ni u.2.1)]⟩),(ni x),(.int .u8 m),(ni (i64 (b - 1)))]⟩ o fun (z:Int) (a1:Int) (b1:Bool) y=>
 aa (!n)
 (R 0 0 false y)
 (aa (!b1)
 (R 0 0 false y)
 (ae a fun c1=>
 Ld kI (c1.add 265) y fun (d1:Int)=>
 ae a fun e1=>
 St (e1.add 265) (ni (i64 (d1+(i64 ((1:Int)+a1))))) y fun f1=>
 ae a fun g1=>
 aF (g1.add 7) 256 m 1 fun h1=>
 Ld kI h1 f1 fun (i1:Int)=>
 R (i64 ((i64 ((1:Int)+i1))+z)) m true f1)))
 (aU w fun j1=>
 ae a fun k1=>
 Ld kP (k1.add 0) j1 fun l1=>
 ae a fun m1=>
 Ld (.st [.int .i64,.int .i64]) (m1.add 1) j1 fun n1=>
 Cl Pg [(ak .u8),kB] bh ⟨[(.pointer l1),(.agg ⟨[(ni n1.1),(ni n1.2.1)]⟩),(ni b)]⟩ j1 fun (p1:Int) (q1:Bool) o1=>
 aU o1 fun r1=>
 ae a fun s1=>
 Ld kP (s1.add 0) r1 fun t1=>
 ae a fun u1=>
 Ld (.st [.int .i64,.int .i64]) (u1.add 1) r1 fun v1=>
 ae a fun x1=>
 Ld (.st [.int .i64,.int .i64]) (x1.add 3) r1 fun y1=>
 ae a fun z1=>
 Ld kI (z1.add 6) r1 fun (a2:Int)=>
 Cl Pg [kI,kI,kB] gg ⟨[(.pointer t1),(.agg ⟨[(ni v1.1),(ni v1.2.1)]⟩),(.agg ⟨[(ni y1.1),(ni y1.2.1)]⟩),(ni a2),(.int .u8 p1),(ni b)]⟩ r1 fun (c2:Int) (d2:Int) (e2:Bool) b2=>
 aa (!q1)
 (R 0 0 false b2)
 (aa (!e2)
 (R 0 0 false b2)
 (ae a fun f2=>
 Ld kI (f2.add 265) b2 fun (g2:Int)=>
 ae a fun h2=>
 St (h2.add 265) (ni (i64 (g2+(i64 ((1:Int)+d2))))) b2 fun i2=>
 ae a fun j2=>
 aF (j2.add 7) 256 p1 1 fun k2=>
 Ld kI k2 i2 fun (l2:Int)=>
 R (i64 ((i64 ((1:Int)+l2))+c2)) p1 true i2))))):Cl Pg [kI,(ak .u8),kB] dq ⟨[(.pointer a),(ni b)]⟩ w R:=co Tryz.f362 [] h
end Go.Proofs.YtgglghjnakclmaaGreat
namespace Go.Proofs.YtgglghjnakclmaaGreat
open Go Go.Vc
set_option maxRecDepth 100000
theorem Cz.ok (a:(Option Addr)) (b:(TT [.int .i64,.int .i64])) (R:(Array Value)→World→Prop) w (h:
 Nw 146 ⟨[(ni b.1),(ni b.2.1)]⟩ w fun d c=>
 Nw 351 ⟨List.replicate 256 (ni 0)⟩ c fun f e=>
 Nw 351 ⟨List.replicate 256 (ni 0)⟩ e fun h g=>
 Ld (.st [.int .i64,.int .i64]) ⟨d,0,none⟩ g fun i=>
 Cl Pg [kS] gR ⟨[(.pointer a),(.agg ⟨[(ni i.1),(ni i.2.1)]⟩)]⟩ g fun (k:Sl) j=>
 fx 0 j fun l m (n:Int) o=>
 aa (decide (n<(k.len:Int)))
 (aT k n 1 fun p=>
 Ld (ak .u8) p o fun (q:Int)=>
 aF ⟨h,0,none⟩ 256 q 1 fun r=>
 Ld kI r o fun (s:Int)=>
 aF ⟨h,0,none⟩ 256 q 1 fun t=>
 St t (ni (i64 (s+1))) o fun u=>
 l (i64 (n+1)) u∧m (i64 (n+1)) u<m n o)
 (ec 0 0 o fun v x (y:Int) (z:Int) a1=>
 aa (decide (z<256))
 (aF ⟨f,0,none⟩ 256 z 1 fun b1=>
 St b1 (ni y) a1 fun c1=>
 aF ⟨h,0,none⟩ 256 z 1 fun d1=>
 Ld kI d1 c1 fun (e1:Int)=>
 v (i64 (y+e1)) (i64 (z+1)) c1∧x (i64 (y+e1)) (i64 (z+1)) c1<x y z a1)
 (Ld (.arr 256) ⟨f,0,none⟩ a1 fun f1=>
 aj 256 ⟨f,0,none⟩ f1 a1 fun g1=>
 Ld (.arr 256) ⟨f,0,none⟩ g1 fun h1=>
 R h1 g1))):Cl Pg [(.arr 256)] nG ⟨[(.pointer a),(.agg ⟨[(ni b.1),(ni b.2.1)]⟩)]⟩ w R:=co Tryz.f281 [(7,[(14,kI)]),(21,[(8,kI),(24,kI)])] h
theorem DW.ok (a:(Option Addr)) (b:(TT [.int .i64,.int .i64])) (c:(TT [.int .i64,.int .i64])) (d:Int) (R:Int→World→Prop) w (h:
 Nw 146 ⟨[(ni b.1),(ni b.2.1)]⟩ w fun f e=>
 Nw 146 ⟨[(ni c.1),(ni c.2.1)]⟩ e fun h g=>
 Ld (.st [.int .i64,.int .i64]) ⟨f,0,none⟩ g fun i=>
 Ld (.st [.int .i64,.int .i64]) ⟨h,0,none⟩ g fun j=>
 Cl Pg [kB] jO ⟨[(.pointer a),(.agg ⟨[(ni i.1),(ni i.2.1)]⟩),(.agg ⟨[(ni j.1),(ni j.2.1)]⟩),(ni d)]⟩ g fun (l:Bool) k=>
 aa (!l)
 (R 2 k)
 (Nw 351 ⟨List.replicate 256 (ni 0)⟩ k fun n m=>
 Ld kI (Addr.add ⟨f,0,none⟩ 1) m fun (o:Int)=>
 d≠0∧
 fx 0 m fun p q (r:Int) s=>
 aa (decide (r<(i64 ((i64 (Int.tdiv o d))*d))))
 (Ld (.st [.int .i64,.int .i64]) ⟨f,0,none⟩ s fun t=>
 Cl Pg [(ak .u8),kB] bh ⟨[(.pointer a),(.agg ⟨[(ni t.1),(ni t.2.1)]⟩),(ni r)]⟩ s fun (v:Int) (x:Bool) u=>
 aF ⟨n,0,none⟩ 256 v 1 fun y=>
 Ld kI y u fun (z:Int)=>
 aF ⟨n,0,none⟩ 256 v 1 fun a1=>
 St a1 (ni (i64 (z+1))) u fun b1=>
 d≠0∧
 aa (((Int.tmod (i64 (r+1)) d):Int) !=0)
 (p (i64 (r+1)) b1∧q (i64 (r+1)) b1<q r s)
 (d≠0∧
 Ld (.arr 256) ⟨n,0,none⟩ b1 fun c1=>
 fx 0 b1 fun d1 e1 (f1:Int) g1=>
 aa (decide (f1<256))
 (iN (.int .i64) c1 256 f1 fun (h1:Int)=>
 Ld (.st [.int .i64,.int .i64]) ⟨h,0,none⟩ g1 fun i1=>
 Cl Pg [kB] cM ⟨[(.pointer a),(.agg ⟨[(ni i1.1),(ni i1.2.1)]⟩),(ni (i64 ((i64 ((i64 ((i64 (Int.tdiv (i64 (r+1)) d)) - 1))*256))+f1))),(.int .u32 (u32 h1))]⟩ g1 fun (k1:Bool) j1=>
 d1 (i64 (f1+1)) j1∧e1 (i64 (f1+1)) j1<e1 f1 g1)
 (p (i64 (r+1)) g1∧q (i64 (r+1)) g1<q r s)))
 (R 0 s))):Cl Pg [kI] nL ⟨[(.pointer a),(.agg ⟨[(ni b.1),(ni b.2.1)]⟩),(.agg ⟨[(ni c.1),(ni c.2.1)]⟩),(ni d)]⟩ w R:=co Tryz.f284 [(12,[(28,kI)]),(30,[(55,kI)])] h
theorem Di.ok (a:(Option Addr)) (b:(TT [.int .i64,.int .i64])) (c:(TT [.int .i64,.int .i64])) (d:Int) (e:Int) (f:Int) (R:Int→Int→Bool→World→Prop) w (h:
 Nw 146 ⟨[(ni b.1),(ni b.2.1)]⟩ w fun h g=>
 Nw 146 ⟨[(ni c.1),(ni c.2.1)]⟩ g fun j i=>
 aR (fun (s:Int) (t:Int) (u:World)=>
 d≠0∧
 aa (decide ((i64 (Int.tdiv f d))>0))
 (Ld (.st [.int .i64,.int .i64]) ⟨j,0,none⟩ u fun v=>
 Cl Pg [(ak .u32),kB] du ⟨[(.pointer a),(.agg ⟨[(ni v.1),(ni v.2.1)]⟩),(ni (i64 ((i64 ((i64 ((i64 (Int.tdiv f d)) - 1))*256))+(i64 e))))]⟩ u fun (y:Int) (z:Bool) x=>
 Dk (i64 y) t (i64 ((i64 (Int.tdiv f d))*d)) x fun a1 b1 (c1:Int) (d1:Int) (e1:Int) f1=>
 aa (decide (e1<f))
 (Ld (.st [.int .i64,.int .i64]) ⟨h,0,none⟩ f1 fun g1=>
 Cl Pg [(ak .u8),kB] bh ⟨[(.pointer a),(.agg ⟨[(ni g1.1),(ni g1.2.1)]⟩),(ni e1)]⟩ f1 fun (i1:Int) (j1:Bool) h1=>
 aa (i1==e)
 (a1 (i64 (c1+1)) (i64 (d1+1)) (i64 (e1+1)) h1∧b1 (i64 (c1+1)) (i64 (d1+1)) (i64 (e1+1)) h1<b1 c1 d1 e1 f1)
 (a1 c1 (i64 (d1+1)) (i64 (e1+1)) h1∧b1 c1 (i64 (d1+1)) (i64 (e1+1)) h1<b1 c1 d1 e1 f1))
 (R c1 d1 true f1))
 (Dk s t (i64 ((i64 (Int.tdiv f d))*d)) u fun k1 l1 (m1:Int) (n1:Int) (o1:Int) p1=>
 aa (decide (o1<f))
 (Ld (.st [.int .i64,.int .i64]) ⟨h,0,none⟩ p1 fun q1=>
 Cl Pg [(ak .u8),kB] bh ⟨[(.pointer a),(.agg ⟨[(ni q1.1),(ni q1.2.1)]⟩),(ni o1)]⟩ p1 fun (s1:Int) (t1:Bool) r1=>
 aa (s1==e)
 (k1 (i64 (m1+1)) (i64 (n1+1)) (i64 (o1+1)) r1∧l1 (i64 (m1+1)) (i64 (n1+1)) (i64 (o1+1)) r1<l1 m1 n1 o1 p1)
 (k1 m1 (i64 (n1+1)) (i64 (o1+1)) r1∧l1 m1 (i64 (n1+1)) (i64 (o1+1)) r1<l1 m1 n1 o1 p1))
 (R m1 n1 true p1))) fun k=>
 Ld (.st [.int .i64,.int .i64]) ⟨h,0,none⟩ i fun l=>
 Ld (.st [.int .i64,.int .i64]) ⟨j,0,none⟩ i fun m=>
 Cl Pg [kB] jO ⟨[(.pointer a),(.agg ⟨[(ni l.1),(ni l.2.1)]⟩),(.agg ⟨[(ni m.1),(ni m.2.1)]⟩),(ni d)]⟩ i fun (o:Bool) n=>
 aa (!o)
 (R 0 0 false n)
 (Ld kI (Addr.add ⟨h,0,none⟩ 1) n fun (p:Int)=>
 Cl Pg [kB] dJ ⟨[(ni f),(ni 0),(ni p)]⟩ n fun (r:Bool) q=>
 aa (!r)
 (R 0 0 false q)
 (k 0 0 q))):Cl Pg [kI,kI,kB] gg ⟨[(.pointer a),(.agg ⟨[(ni b.1),(ni b.2.1)]⟩),(.agg ⟨[(ni c.1),(ni c.2.1)]⟩),(ni d),(.int .u8 e),(ni f)]⟩ w R:=co Tryz.f285 [(2,[(12,kI),(13,kI)]),(18,[(12,kI),(13,kI),(18,kI)])] h
theorem BZ.ok (a:(Option Addr)) (b:(TT [.int .i64,.int .i64])) (c:(TT [.int .i64,.int .i64])) (d:Int) (R:Bool→World→Prop) w (h:
 Nw 146 ⟨[(ni b.1),(ni b.2.1)]⟩ w fun f e=>
 Nw 146 ⟨[(ni c.1),(ni c.2.1)]⟩ e fun h g=>
 Ld (.st [.int .i64,.int .i64]) ⟨f,0,none⟩ g fun i=>
 Cl Pg [kB] bJ ⟨[(.pointer a),(.agg ⟨[(ni i.1),(ni i.2.1)]⟩)]⟩ g fun (k:Bool) j=>
 aa (!k)
 (R false j)
 (Ld (.st [.int .i64,.int .i64]) ⟨h,0,none⟩ j fun l=>
 Cl Pg [kB] bJ ⟨[(.pointer a),(.agg ⟨[(ni l.1),(ni l.2.1)]⟩)]⟩ j fun (n:Bool) m=>
 aa (!n)
 (R false m)
 (Ld kI (Addr.add ⟨f,0,none⟩ 1) m fun (o:Int)=>
 Cl Pg [kB] dJ ⟨[(ni o),(ni 1),(ni 65536)]⟩ m fun (q:Bool) p=>
 aa (!q)
 (R false p)
 (Cl Pg [kB] dJ ⟨[(ni d),(ni 1),(ni 65536)]⟩ p fun (s:Bool) r=>
 aa (!s)
 (R false r)
 (cP r fun t u=>
 au (.st [.int .i64,.int .i64]) ⟨f,0,none⟩ t fun v=>
 au (.st [.int .i64,.int .i64]) ⟨h,0,none⟩ t fun x=>
 Cl Pg [kB] mJ ⟨[(.agg ⟨[(ni v.1),(ni v.2.1)]⟩),(.agg ⟨[(ni x.1),(ni x.2.1)]⟩)]⟩ u fun (z:Bool) y=>
 t y∧
 aa z
 (au kI (Addr.add ⟨h,0,none⟩ 1) t fun (a1:Int)=>
 au kI (Addr.add ⟨f,0,none⟩ 1) t fun (b1:Int)=>
 Cl Pg [kI] nu ⟨[(ni b1),(ni d)]⟩ y fun (d1:Int) c1=>
 t c1∧
 R (decide (a1≥d1)) c1)
 (R false y)))))):Cl Pg [kB] jO ⟨[(.pointer a),(.agg ⟨[(ni b.1),(ni b.2.1)]⟩),(.agg ⟨[(ni c.1),(ni c.2.1)]⟩),(ni d)]⟩ w R:=co Tryz.f317 [] h
theorem zv.ok (a:Int) (b:Int) (c:Int) (R:Bool→World→Prop) w (h:
 aa (decide (a≥b))
 (R (decide (a≤c)) w)
 (R false w)):Cl Pg [kB] dJ ⟨[(ni a),(ni b),(ni c)]⟩ w R:=co Tryz.f318 [] h
theorem B7.ok (a:(TT [.int .i64,.int .i64])) (b:(TT [.int .i64,.int .i64])) (R:Bool→World→Prop) w (h:
 Nw 146 ⟨[(ni a.1),(ni a.2.1)]⟩ w fun d c=>
 Nw 146 ⟨[(ni b.1),(ni b.2.1)]⟩ c fun f e=>
 Ld kI (Addr.add ⟨d,0,none⟩ 1) e fun (g:Int)=>
 aa (g==0)
 (R true e)
 (Ld kI (Addr.add ⟨f,0,none⟩ 1) e fun (h:Int)=>
 aa (h==0)
 (R true e)
 (Ld kI (Addr.add ⟨d,0,none⟩ 0) e fun (i:Int)=>
 Ld kI (Addr.add ⟨d,0,none⟩ 1) e fun (j:Int)=>
 Ld kI (Addr.add ⟨f,0,none⟩ 0) e fun (k:Int)=>
 aa (decide ((i64 (i+j))≤k))
 (R true e)
 (Ld kI (Addr.add ⟨f,0,none⟩ 0) e fun (l:Int)=>
 Ld kI (Addr.add ⟨f,0,none⟩ 1) e fun (m:Int)=>
 Ld kI (Addr.add ⟨d,0,none⟩ 0) e fun (n:Int)=>
 R (decide ((i64 (l+m))≤n)) e)))):Cl Pg [kB] mJ ⟨[(.agg ⟨[(ni a.1),(ni a.2.1)]⟩),(.agg ⟨[(ni b.1),(ni b.2.1)]⟩)]⟩ w R:=co Tryz.f328 [] h
theorem CA.ok (a:Int) (b:Int) (R:Int→World→Prop) w (h:
 Cl Pg [kB] dJ ⟨[(ni a),(ni 0),(ni 65536)]⟩ w fun (d:Bool) c=>
 aa (!d)
 (R 0 c)
 (Cl Pg [kB] dJ ⟨[(ni b),(ni 1),(ni 65536)]⟩ c fun (f:Bool) e=>
 aa (!f)
 (R 0 e)
 (b≠0∧
 R (i64 ((i64 (Int.tdiv a b))*1024)) e))):Cl Pg [kI] nu ⟨[(ni a),(ni b)]⟩ w R:=co Tryz.f329 [] h
end Go.Proofs.YtgglghjnakclmaaGreat
namespace Go.Proofs.YtgglghjnakclmaaGreat
open Go Go.Vc
set_option maxRecDepth 100000
theorem vy.ok (a:Int) (R:(Option Addr)→Int→World→Prop) w (h:
 aa (decide (a<1))
 (R none 2 w)
 (aa (decide (a>1048576))
 (R none 2 w)
 (aw Pg (Instr.makeSlice 26 (ni a) (ni a)) kS w fun (c:Sl) b=>
 Nw 199 ⟨[(ar c),(ni 0),(ni 0)]⟩ b fun e d=>
 R (some ⟨e,0,none⟩) 0 d))):Cl Pg [kP,kI] kL ⟨[(ni a)]⟩ w R:=co Tryz.f84 [] h
theorem sf.ok (a:(Option Addr)) (b:Int) (R:(TT [.int .i64,.int .i64])→Int→World→Prop) w (h:
 Nw 146 ⟨[(ni 0),(ni 0)]⟩ w fun d c=>
 aa (Option.isNone (a:Option Addr))
 (ad ⟨d,0,none⟩ [(ni 0),(ni 0)] 0 c fun e=>
 Ld (.st [.int .i64,.int .i64]) ⟨d,0,none⟩ e fun f=>
 R f 2 e)
 (aa (decide (b<0))
 (ad ⟨d,0,none⟩ [(ni 0),(ni 0)] 0 c fun g=>
 Ld (.st [.int .i64,.int .i64]) ⟨d,0,none⟩ g fun h=>
 R h 2 g)
 (aU c fun i=>
 ae a fun j=>
 Ld kS (j.add 0) i fun (k:Sl)=>
 ae a fun l=>
 Ld kI (l.add 1) i fun (m:Int)=>
 aa (decide (b>(i64 ((k.len:Int) - m))))
 (ad ⟨d,0,none⟩ [(ni 0),(ni 0)] 0 i fun n=>
 Ld (.st [.int .i64,.int .i64]) ⟨d,0,none⟩ n fun o=>
 R o 10 n)
 (ae a fun p=>
 Ld kI (p.add 1) i fun (q:Int)=>
 Nw 146 ⟨[(ni 0),(ni 0)]⟩ i fun s r=>
 ad ⟨s,0,none⟩ [(ni q),(ni b)] 0 r fun t=>
 aU t fun u=>
 ae a fun v=>
 Ld kS (v.add 0) u fun (x:Sl)=>
 Ld kI (Addr.add ⟨s,0,none⟩ 0) u fun (y:Int)=>
 Ld kI (Addr.add ⟨s,0,none⟩ 0) u fun (z:Int)=>
 bQ x y (i64 (z+b)) (x).cap 1 fun a1=>
 aw Pg (Builtin.clear_ #[26] 0 ⟨[(ar a1)]⟩) kV u fun c1 b1=>
 ae a fun d1=>
 Ld kI (d1.add 1) b1 fun (e1:Int)=>
 ae a fun f1=>
 St (f1.add 1) (ni (i64 (e1+b))) b1 fun g1=>
 aU g1 fun h1=>
 ae a fun i1=>
 Ld kI (i1.add 2) h1 fun (j1:Int)=>
 ae a fun k1=>
 Ld kI (k1.add 1) h1 fun (l1:Int)=>
 ae a fun m1=>
 St (m1.add 2) (ni (if l1>j1 then l1 else j1)) h1 fun n1=>
 Ld (.st [.int .i64,.int .i64]) ⟨s,0,none⟩ n1 fun o1=>
 ad ⟨d,0,none⟩ [(ni o1.1),(ni o1.2.1)] 0 n1 fun p1=>
 Ld (.st [.int .i64,.int .i64]) ⟨d,0,none⟩ p1 fun q1=>
 R q1 0 p1)))):Cl Pg [(.st [.int .i64,.int .i64]),kI] gA ⟨[(.pointer a),(ni b)]⟩ w R:=co Tryz.f86 [] h
theorem ru.ok (a:(Option Addr)) (b:(TT [.int .i64,.int .i64])) (c:Int) (d:Sl) (R:Bool→World→Prop) w (h:
 Nw 146 ⟨[(ni b.1),(ni b.2.1)]⟩ w fun f e=>
 Ld (.st [.int .i64,.int .i64]) ⟨f,0,none⟩ e fun g=>
 Cl Pg [kB] bJ ⟨[(.pointer a),(.agg ⟨[(ni g.1),(ni g.2.1)]⟩)]⟩ e fun (i:Bool) h=>
 aa (!i)
 (R false h)
 (aa (decide (c<0))
 (R false h)
 (Ld kI (Addr.add ⟨f,0,none⟩ 1) h fun (j:Int)=>
 aa (decide (c>(i64 (j - (d.len:Int)))))
 (R false h)
 (aU h fun k=>
 ae a fun l=>
 Ld kS (l.add 0) k fun (m:Sl)=>
 Ld kI (Addr.add ⟨f,0,none⟩ 0) k fun (n:Int)=>
 bQ m (i64 (n+c)) (m).len (m).cap 1 fun o=>
 aw Pg (Builtin.copy_ #[26,26] 3 ⟨[(ar o),(ar d)]⟩) kI k fun (q:Int) p=>
 R true p)))):Cl Pg [kB] gk ⟨[(.pointer a),(.agg ⟨[(ni b.1),(ni b.2.1)]⟩),(ni c),(ar d)]⟩ w R:=co Tryz.f90 [] h
theorem sd.ok (a:(Option Addr)) (R:Int→World→Prop) w (h:
 aa (Option.isNone (a:Option Addr))
 (R 0 w)
 (ae a fun b=>
 Ld kI (b.add 2) w fun (c:Int)=>
 R c w)):Cl Pg [kI] gF ⟨[(.pointer a)]⟩ w R:=co Tryz.f95 [] h
theorem tq.ok (a:(Option Addr)) (b:(TT [.int .i64,.int .i64])) (R:Bool→World→Prop) w (h:
 Nw 146 ⟨[(ni b.1),(ni b.2.1)]⟩ w fun d c=>
 aU c fun e=>
 aa (!(Option.isNone (a:Option Addr)))
 (Ld kI (Addr.add ⟨d,0,none⟩ 0) e fun (f:Int)=>
 aa (decide (f≥0))
 (Ld kI (Addr.add ⟨d,0,none⟩ 1) e fun (g:Int)=>
 aa (decide (g≥0))
 (Ld kI (Addr.add ⟨d,0,none⟩ 0) e fun (h:Int)=>
 ae a fun i=>
 Ld kI (i.add 1) e fun (j:Int)=>
 aa (decide (h≤j))
 (Ld kI (Addr.add ⟨d,0,none⟩ 1) e fun (k:Int)=>
 ae a fun l=>
 Ld kI (l.add 1) e fun (m:Int)=>
 Ld kI (Addr.add ⟨d,0,none⟩ 0) e fun (n:Int)=>
 R (decide (k≤(i64 (m - n)))) e)
 (R false e))
 (R false e))
 (R false e))
 (R false e)):Cl Pg [kB] bJ ⟨[(.pointer a),(.agg ⟨[(ni b.1),(ni b.2.1)]⟩)]⟩ w R:=co Tryz.f139 [] h
theorem sn.ok (a:(Option Addr)) (b:(TT [.int .i64,.int .i64])) (R:Sl→World→Prop) w (h:
 Nw 146 ⟨[(ni b.1),(ni b.2.1)]⟩ w fun d c=>
 Ld (.st [.int .i64,.int .i64]) ⟨d,0,none⟩ c fun e=>
 Cl Pg [kB] bJ ⟨[(.pointer a),(.agg ⟨[(ni e.1),(ni e.2.1)]⟩)]⟩ c fun (g:Bool) f=>
 aa (!g)
 (R (⟨none,0,0⟩:Sl) f)
 (aU f fun h=>
 ae a fun i=>
 Ld kS (i.add 0) h fun (j:Sl)=>
 Ld kI (Addr.add ⟨d,0,none⟩ 0) h fun (k:Int)=>
 Ld kI (Addr.add ⟨d,0,none⟩ 0) h fun (l:Int)=>
 Ld kI (Addr.add ⟨d,0,none⟩ 1) h fun (m:Int)=>
 bQ j k (i64 (l+m)) (j).cap 1 fun n=>
 Cl Pg [kS] lB ⟨[(ar n)]⟩ h fun (p:Sl) o=>
 R p o)):Cl Pg [kS] gR ⟨[(.pointer a),(.agg ⟨[(ni b.1),(ni b.2.1)]⟩)]⟩ w R:=co Tryz.f145 [] h
theorem sv.ok (a:(Option Addr)) (b:(TT [.int .i64,.int .i64])) (c:Int) (R:Int→Bool→World→Prop) w (h:
 Nw 146 ⟨[(ni b.1),(ni b.2.1)]⟩ w fun e d=>
 Ld (.st [.int .i64,.int .i64]) ⟨e,0,none⟩ d fun f=>
 Cl Pg [kS] eU ⟨[(.pointer a),(.agg ⟨[(ni f.1),(ni f.2.1)]⟩),(ni c),(ni 1)]⟩ d fun (h:Sl) g=>
 aa (Option.isNone (h).base)
 (R 0 false g)
 (aT h 0 1 fun i=>
 Ld (ak .u8) i g fun (j:Int)=>
 R j true g)):Cl Pg [(ak .u8),kB] bh ⟨[(.pointer a),(.agg ⟨[(ni b.1),(ni b.2.1)]⟩),(ni c)]⟩ w R:=co Tryz.f197 [] h
theorem sx.ok (a:(Option Addr)) (b:(TT [.int .i64,.int .i64])) (c:Int) (d:Int) (R:Sl→World→Prop) w (h:
 Nw 146 ⟨[(ni b.1),(ni b.2.1)]⟩ w fun f e=>
 Ld (.st [.int .i64,.int .i64]) ⟨f,0,none⟩ e fun g=>
 Cl Pg [kB] bJ ⟨[(.pointer a),(.agg ⟨[(ni g.1),(ni g.2.1)]⟩)]⟩ e fun (i:Bool) h=>
 aa (!i)
 (R (⟨none,0,0⟩:Sl) h)
 (aa (decide (c<0))
 (R (⟨none,0,0⟩:Sl) h)
 (Ld kI (Addr.add ⟨f,0,none⟩ 1) h fun (j:Int)=>
 aa (decide (c>(i64 (j - d))))
 (R (⟨none,0,0⟩:Sl) h)
 (Ld kI (Addr.add ⟨f,0,none⟩ 0) h fun (k:Int)=>
 ae a fun l=>
 Ld kS (l.add 0) h fun (m:Sl)=>
 bQ m (i64 (c+k)) (i64 ((i64 (c+k))+d)) (i64 ((i64 (c+k))+d)) 1 fun n=>
 R n h)))):Cl Pg [kS] eU ⟨[(.pointer a),(.agg ⟨[(ni b.1),(ni b.2.1)]⟩),(ni c),(ni d)]⟩ w R:=co Tryz.f261 [] h
theorem pQ.ok (a:(Option Addr)) (b:(TT [.int .i64,.int .i64])) (c:Int) (d:Int) (R:Bool→World→Prop) w (h:
 Nw 146 ⟨[(ni b.1),(ni b.2.1)]⟩ w fun f e=>
 Ld (.st [.int .i64,.int .i64]) ⟨f,0,none⟩ e fun g=>
 Cl Pg [kS] eS ⟨[(.pointer a),(.agg ⟨[(ni g.1),(ni g.2.1)]⟩),(ni c)]⟩ e fun (i:Sl) h=>
 fx 0 h fun j k (l:Int) m=>
 aa (decide (l<(i.len:Int)))
 (0≤(i64 ((8:Int)*l))∧
 aT i l 1 fun n=>
 St n (.int .u8 (u8 (bI .u32 d (i64 ((8:Int)*l))))) m fun o=>
 j (i64 (l+1)) o∧k (i64 (l+1)) o<k l m)
 (R (!(Option.isNone (i).base)) m)):Cl Pg [kB] cM ⟨[(.pointer a),(.agg ⟨[(ni b.1),(ni b.2.1)]⟩),(ni c),(.int .u32 d)]⟩ w R:=co Tryz.f283 [(7,[(17,kI)])] h
theorem rT.ok (a:(Option Addr)) (b:(TT [.int .i64,.int .i64])) (c:Int) (R:Int→Bool→World→Prop) w (h:
 Nw 146 ⟨[(ni b.1),(ni b.2.1)]⟩ w fun e d=>
 Ld (.st [.int .i64,.int .i64]) ⟨e,0,none⟩ d fun f=>
 Cl Pg [kS] eS ⟨[(.pointer a),(.agg ⟨[(ni f.1),(ni f.2.1)]⟩),(ni c)]⟩ d fun (h:Sl) g=>
 ec 0 0 g fun i j (k:Int) (l:Int) m=>
 aa (decide (l<(h.len:Int)))
 (aT h l 1 fun n=>
 Ld (ak .u8) n m fun (o:Int)=>
 0≤(i64 ((8:Int)*l))∧
 i (jy .u32 k (a8 .u32 (u32 o) (i64 ((8:Int)*l)))) (i64 (l+1)) m∧j (jy .u32 k (a8 .u32 (u32 o) (i64 ((8:Int)*l)))) (i64 (l+1)) m<j k l m)
 (R k (!(Option.isNone (h).base)) m)):Cl Pg [(ak .u32),kB] du ⟨[(.pointer a),(.agg ⟨[(ni b.1),(ni b.2.1)]⟩),(ni c)]⟩ w R:=co Tryz.f305 [(7,[(6,(ak .u32)),(17,kI)])] h
theorem sH.ok (a:(Option Addr)) (b:(TT [.int .i64,.int .i64])) (c:Int) (R:Sl→World→Prop) w (h:
 Nw 146 ⟨[(ni b.1),(ni b.2.1)]⟩ w fun e d=>
 aa (decide (c<0))
 (R (⟨none,0,0⟩:Sl) d)
 (aa (decide (c>1048576))
 (R (⟨none,0,0⟩:Sl) d)
 (Ld (.st [.int .i64,.int .i64]) ⟨e,0,none⟩ d fun f=>
 0≤(2:Int)∧
 Cl Pg [kS] eU ⟨[(.pointer a),(.agg ⟨[(ni f.1),(ni f.2.1)]⟩),(ni (a8 .i64 c (2:Int))),(ni 4)]⟩ d fun (h:Sl) g=>
 R h g))):Cl Pg [kS] eS ⟨[(.pointer a),(.agg ⟨[(ni b.1),(ni b.2.1)]⟩),(ni c)]⟩ w R:=co Tryz.f316 [] h
end Go.Proofs.YtgglghjnakclmaaGreat
namespace Go.Vc
open Go
abbrev aK:=Nat→Option Obj
abbrev HP:=aK→Prop
def aK.emp:aK:=fun _=>none
def aK.one (b:Nat) (o:Obj):aK:=fun r=>if r=b then some o else none
def aK.add (f g:aK):aK:=fun r=>match f r with|some o=>some o|none=>g r
def iz (f g:aK):Prop:= ∀r,f r=none∨g r=none
def ag (b:Nat) (o:Obj):HP:=fun f=>f=aK.one b o
def Sat:List HP→HP
 | [],f=>f=aK.emp
 |A::l,f=> ∃g h,iz g h∧f=g.add h∧A g∧Sat l h
def J7 (f:aK) (w:World):Prop:= ∀r o,f r=some o→w.heap[r]? =some o
structure Hp (E:World) (w:World) (l:List HP):Prop where
 os:w.os=E.os
 output:w.output=E.output
 tape:w.tape=E.tape
 frag: ∃f,J7 f w∧Sat l f
theorem iz.comm {f g:aK} (h:iz f g):iz g f:=fun r=>(h r).symm
theorem aK.add_comm {f g:aK} (h:iz f g):f.add g=g.add f:=by
 funext r
 unfold aK.add
 rcases h r with h|h
 ·rw [h];cases g r<;>rfl
 ·rw [h];cases f r<;>rfl
theorem aK.add_assoc (f g h:aK):(f.add g).add h=f.add (g.add h):=by
 funext r
 unfold aK.add
 cases f r<;>rfl
theorem aK.HI (f:aK):f.add aK.emp=f:=by
 funext r;unfold aK.add aK.emp;cases f r<;>rfl
theorem aK.ug (f:aK):aK.emp.add f=f:=by
 funext r;rfl
theorem ji {f g h:aK}:iz f (g.add h)↔iz f g∧iz f h:=by
 constructor
 ·intro H
  refine ⟨fun r=> ?_,fun r=> ?_⟩
  ·rcases H r with h1|h1
   ·exact .inl h1
   ·right;unfold aK.add at h1;cases hg:g r<;>simp_all
  ·rcases H r with h1|h1
   ·exact .inl h1
   ·right;unfold aK.add at h1;cases hg:g r<;>simp_all
 ·rintro ⟨h1,h2⟩ r
  rcases h1 r with h|h
  ·exact .inl h
  ·rcases h2 r with h'|h'
   ·exact .inl h'
   ·right;simp [aK.add,h,h']
theorem vj {f g h:aK}:iz (f.add g) h↔iz f h∧iz g h:=
 ⟨fun H=>let ⟨a,b⟩:=ji.1 H.comm;⟨a.comm,b.comm⟩,fun ⟨a,b⟩=>(ji.2 ⟨a.comm,b.comm⟩).comm⟩
theorem Sat.swap {A B:HP} {l:List HP} {f:aK} (h:Sat (A::B::l) f):Sat (B::A::l) f:=by
 obtain ⟨g,h1,hd,rfl,hA,g2,h2,hd2,rfl,hB,hl⟩:=h
 obtain ⟨d1,d2⟩:=ji.1 hd
 refine ⟨g2,g.add h2,ji.2 ⟨d1.comm,hd2⟩,?_,hB,g,h2,d2,rfl,hA,hl⟩
 rw [←aK.add_assoc,←aK.add_assoc,aK.add_comm d1]
theorem Sat.tail {A:HP} {l l':List HP} (h: ∀f,Sat l f→Sat l' f) {f:aK} (hs:Sat (A::l) f):Sat (A::l') f:=by
 obtain ⟨g,k,hd,rfl,hA,hl⟩:=hs
 exact ⟨g,k,hd,rfl,hA,h _ hl⟩
theorem Sat.perm {l l':List HP} (hp:l.Perm l'): ∀f,Sat l f→Sat l' f:=by
 induction hp with
 |nil=>exact fun _ h=>h
 |cons A _ ih=>exact fun f h=>h.tail ih
 |swap A B l=>exact fun f h=>h.swap
 |trans _ _ ih1 ih2=>exact fun f h=>ih2 f (ih1 f h)
theorem Sat.append {l l':List HP} {f:aK}:Sat (l++l') f↔∃g h,iz g h∧f=g.add h∧Sat l g∧Sat l' h:=by
 induction l generalizing f with
 |nil=>exact ⟨fun h=>⟨aK.emp,f,fun _=> .inl rfl,(aK.ug f).symm,rfl,h⟩,fun ⟨g,h,_,e,hg,hh⟩=>by
   have:g=aK.emp:=hg
   rw [e,this,aK.ug];exact hh⟩
 |cons A l ih=>
  constructor
  ·rintro ⟨g,h,hd,rfl,hA,hs⟩
   obtain ⟨g2,h2,hd2,rfl,hs2,hs3⟩:=ih.1 hs
   obtain ⟨d1,d2⟩:=ji.1 hd
   exact ⟨g.add g2,h2,vj.2 ⟨d2,hd2⟩,(aK.add_assoc _ _ _).symm,⟨g,g2,d1,rfl,hA,hs2⟩,hs3⟩
  ·rintro ⟨g,h,hd,rfl,⟨g2,h2,hd2,rfl,hA,hs2⟩,hs3⟩
   obtain ⟨d1,d2⟩:=vj.1 hd
   exact ⟨g2,h2.add h,ji.2 ⟨hd2,d1⟩,aK.add_assoc _ _ _,hA,ih.2 ⟨h2,h,d2,rfl,hs2,hs3⟩⟩
section
variable {E w w':World} {A B C D G:HP} {l l' F:List HP}
theorem Hp.perm (h:Hp E w l) (hp:l.Perm l'):Hp E w l':=
 ⟨h.os,h.output,h.tape,let ⟨f,a,b⟩:=h.frag;⟨f,a,Sat.perm hp f b⟩⟩
theorem Hp.p1 (h:Hp E w (A::B::F)):Hp E w (B::A::F):=h.perm (.swap ..)
theorem Hp.p2 (h:Hp E w (A::B::C::F)):Hp E w (C::A::B::F):=h.perm ((List.Perm.cons A (.swap ..)).trans (.swap ..))
theorem Hp.p3 (h:Hp E w (A::B::C::D::F)):Hp E w (D::A::B::C::F):=
 h.perm ((List.Perm.cons A ((List.Perm.cons B (.swap ..)).trans (.swap ..))).trans (.swap ..))
theorem Hp.q2 (h:Hp E w (A::B::C::F)):Hp E w (B::C::A::F):=h.p1.perm (.cons B (.swap ..))
theorem Hp.q3 (h:Hp E w (A::B::C::D::F)):Hp E w (B::C::D::A::F):=h.q2.perm (.cons B (.cons C (.swap ..)))
theorem Hp.q4 (h:Hp E w (A::B::C::D::G::F)):Hp E w (B::C::D::G::A::F):=h.q3.perm (.cons B (.cons C (.cons D (.swap ..))))
theorem Hp.flat (h:Hp E w (Sat l::F)):Hp E w (l++F):=
 ⟨h.os,h.output,h.tape,let ⟨f,a,g,k,hd,e,h1,h2⟩:=h.frag;⟨f,a,Sat.append.2 ⟨g,k,hd,e,h1,h2⟩⟩⟩
theorem Hp.fold (h:Hp E w (l++F)):Hp E w (Sat l::F):=
 ⟨h.os,h.output,h.tape,let ⟨f,a,h1⟩:=h.frag;let ⟨g,k,hd,e,h1,h2⟩:=Sat.append.1 h1;⟨f,a,g,k,hd,e,h1,h2⟩⟩
theorem Hp.AV {α:Sort _} {X:α→Prop} {L:α→List HP} (hA: ∀f,A f→∃x,X x∧Sat (L x) f) (h:Hp E w (A::F)): ∃x,X x∧Hp E w (L x++F):=by
 obtain ⟨f,a,g,k,hd,e,h1,h2⟩:=h.frag
 obtain ⟨x,hx,h3⟩:=hA g h1
 exact ⟨x,hx,h.os,h.output,h.tape,f,a,Sat.append.2 ⟨g,k,hd,e,h3,h2⟩⟩
theorem Hp.BT (hA: ∀f,Sat l f→A f) (h:Hp E w (l++F)):Hp E w (A::F):=by
 obtain ⟨f,a,h1⟩:=h.frag
 obtain ⟨g,k,hd,e,h1,h2⟩:=Sat.append.1 h1
 exact ⟨h.os,h.output,h.tape,f,a,g,k,hd,e,hA _ h1,h2⟩
theorem Hp.Es (hA: ∀f,A f→B f) (h:Hp E w (A::F)):Hp E w (B::F):=by
 obtain ⟨f,a,g,k,hd,e,h1,h2⟩:=h.frag
 exact ⟨h.os,h.output,h.tape,f,a,g,k,hd,e,hA _ h1,h2⟩
theorem Hp.drop (h:Hp E w (A::F)):Hp E w F:=by
 obtain ⟨f,a,g,k,hd,rfl,h1,h2⟩:=h.frag
 refine ⟨h.os,h.output,h.tape,k,fun r o hr=>a r o ?_,h2⟩
 rcases hd r with hg|hk
 ·simp [aK.add,hg,hr]
 ·rw [hk] at hr;cases hr
theorem Hp.emp (h:Hp E w F) (hA:A aK.emp):Hp E w (A::F):=by
 obtain ⟨f,a,h1⟩:=h.frag
 exact ⟨h.os,h.output,h.tape,f,a,aK.emp,f,fun _=> .inl rfl,(aK.ug f).symm,hA,h1⟩
theorem Hp.same (h:Hp E w l) (h1:w'.heap=w.heap) (h2:w'.os=w.os) (h3:w'.output=w.output) (h4:w'.tape=w.tape):Hp E w' l:=
 ⟨h2.trans h.os,h3.trans h.output,h4.trans h.tape,let ⟨f,a,b⟩:=h.frag;⟨f,fun r o hr=>by rw [h1];exact a r o hr,b⟩⟩
theorem Hp.drew {n:Nat} (h:Hp E w l):Hp E {w with drawn:=n} l:=h.same rfl rfl rfl rfl
theorem Hp.aB {b:Nat} {o:Obj} (h:Hp E w (ag b o::F)):w.heap[b]? =some o:=by
 obtain ⟨f,a,g,k,hd,rfl,rfl,h2⟩:=h.frag
 exact a b o (by simp [aK.add,aK.one])
theorem Hp.cell {b i:Nat} {c:Array Value} {t:TypeId} {fr:Nat×Nat} (h:Hp E w (ag b (.cells c t fr)::F)):w.cell? ⟨b,i,none⟩=c[i]? :=by
 simp [World.cell?,h.aB]
theorem Hp.alloc (h:Hp E w F) (o:Obj):Hp E (w.alloc o) (ag w.heap.size o::F):=by
 obtain ⟨f,a,h1⟩:=h.frag
 have hn:f w.heap.size=none:=by
  cases hf:f w.heap.size with
  |none=>rfl
  |some o=>have:=a _ _ hf;simp at this
 refine ⟨h.os,h.output,h.tape,(aK.one w.heap.size o).add f,fun r o' hr=> ?_,_,_,fun r=> ?_,rfl,rfl,h1⟩
 ·show (w.heap.push o)[r]? =_
  rw [Array.getElem?_push]
  by_cases hr0:r=w.heap.size
  ·subst hr0;simp [aK.add,aK.one] at hr;simp [hr]
  ·simp [aK.add,aK.one,hr0] at hr
   rw [if_neg hr0];exact a r o' hr
 ·by_cases hr0:r=w.heap.size
  ·subst hr0;exact .inr hn
  ·exact .inl (by simp [aK.one,hr0])
theorem Hp.setObj {b:Nat} {o o':Obj} (h:Hp E w (ag b o::F)) (h1:w'.heap=w.heap.set! b o') (h2:w'.os=w.os) (h3:w'.output=w.output) (h4:w'.tape=w.tape):Hp E w' (ag b o'::F):=by
 have hb:=h.aB
 obtain ⟨f,a,g,k,hd,rfl,rfl,h5⟩:=h.frag
 have hk:k b=none:=by
  rcases hd b with hh|hh
  ·simp [aK.one] at hh
  ·exact hh
 refine ⟨h2.trans h.os,h3.trans h.output,h4.trans h.tape,(aK.one b o').add k,fun r x hr=> ?_,_,_,fun r=> ?_,rfl,rfl,h5⟩
 ·rw [h1]
  have hlt:b<w.heap.size:=by
   rcases Nat.lt_or_ge b w.heap.size with hh|hh
   ·exact hh
   ·simp [Array.getElem?_eq_none hh] at hb
  by_cases hr0:r=b
  ·subst hr0
   simp [aK.add,aK.one] at hr
   simp [hr,hlt]
  ·simp [aK.add,aK.one,hr0] at hr
   have:=a r x (by simp [aK.add,aK.one,hr0,hr])
   rw [Array.set!_eq_setIfInBounds,Array.getElem?_setIfInBounds_ne (Ne.symm hr0)]
   exact this
 ·by_cases hr0:r=b
  ·subst hr0;exact .inr hk
  ·exact .inl (by simp [aK.one,hr0])
theorem Hp.setCell {b i:Nat} {c:Array Value} {t:TypeId} {fr:Nat×Nat} (h:Hp E w (ag b (.cells c t fr)::F)) (v:Value):
  Hp E (w.setCell ⟨b,i,none⟩ v) (ag b (.cells (c.setIfInBounds i v) t fr)::F):=by
 have hb:=h.aB
 refine h.setObj (o':= .cells (c.setIfInBounds i v) t fr) ?_ rfl rfl rfl
 apply Array.ext_getElem?
 intro r
 have hlt:b<w.heap.size:=by
  rcases Nat.lt_or_ge b w.heap.size with hh|hh
  ·exact hh
  ·simp [Array.getElem?_eq_none hh] at hb
 simp only [World.setCell,Array.getElem?_modify,Array.set!_eq_setIfInBounds,Array.getElem?_setIfInBounds]
 by_cases hr:b=r
 ·subst hr
  have hv:w.heap[b]= .cells c t fr:=by simpa [hlt] using hb
  simp [hlt,hv]
 ·simp [hr]
def ah (F:List HP) (φ:World→Prop):Prop:= ∀w f,J7 f w→Sat F f→φ w
theorem Hp.ao {φ:World→Prop} (h:Hp E w F) (ht:ah F φ):φ w:=let ⟨f,a,b⟩:=h.frag;ht w f a b
theorem ah.cons {φ:World→Prop} (ht:ah F φ):ah (A::F) φ:=by
 rintro w f a ⟨g,k,hd,rfl,h1,h2⟩
 refine ht w k (fun r o hr=>a r o ?_) h2
 rcases hd r with hg|hk
 ·simp [aK.add,hg,hr]
 ·rw [hk] at hr;cases hr
theorem ah.perm {φ:World→Prop} (ht:ah l φ) (hp:l.Perm l'):ah l' φ:=fun w f a b=>ht w f a (Sat.perm hp.symm f b)
theorem ah.imp {φ ψ:World→Prop} (ht:ah F φ) (h: ∀w,φ w→ψ w):ah F ψ:=fun w f a b=>h w (ht w f a b)
theorem ah.and {φ ψ:World→Prop} (h1:ah F φ) (h2:ah F ψ):ah F (fun w=>φ w∧ψ w):=fun w f a b=>⟨h1 w f a b,h2 w f a b⟩
theorem ah.all {α:Sort _} {φ:α→World→Prop} (h: ∀x,ah F (φ x)):ah F (fun w=> ∀x,φ x w):=fun w f a b x=>h x w f a b
theorem ah.const {p:Prop} (h:p):ah F (fun _=>p):=fun _ _ _ _=>h
def Old (W:World):HP:=fun f=> ∀r,f r=W.heap[r]?
theorem Hp.start (W:World):Hp W W [Old W]:=
 ⟨rfl,rfl,rfl,fun r=>W.heap[r]?,fun _ _ h=>h,fun r=>W.heap[r]?,aK.emp,fun _=> .inr rfl,(aK.HI _).symm,fun _=>rfl,rfl⟩
theorem ah.Li {W:World} {φ:World→Prop} (h: ∀w,(∀r,r<W.heap.size→w.heap[r]? =W.heap[r]?)→φ w):ah (Old W::F) φ:=by
 rintro w f a ⟨g,k,hd,rfl,h1,h2⟩
 refine h w fun r hr=> ?_
 have:g r=some W.heap[r]:=by rw [h1 r];simp [hr]
 rw [a r W.heap[r] (by simp [aK.add,this])]
 simp [hr]
theorem Hp.below {W:World} (h:Hp W w (Old W::F)):Go.RowKit.Below W.heap.size W w:=by
 have hk:=h.ao (ah.Li (φ:=fun w=> ∀r,r<W.heap.size→w.heap[r]? =W.heap[r]?) fun w h=>h)
 refine ⟨h.os,h.tape,h.output,?_,hk⟩
 rcases Nat.lt_or_ge w.heap.size W.heap.size with hlt|hge
 ·have:=hk w.heap.size hlt
  simp [hlt] at this
 ·exact hge
end
section
variable {E w:World} {F:List HP}
theorem aa.mk {b:Bool} {X Y:Prop} (h1:b=true→X) (h2:b=false→Y):aa b X Y:=by
 cases b
 ·exact h2 rfl
 ·exact h1 rfl
theorem aa.t {b:Bool} {X Y:Prop} (hb:b=true) (h:X):aa b X Y:=by subst hb;exact h
theorem aa.f {b:Bool} {X Y:Prop} (hb:b=false) (h:Y):aa b X Y:=by subst hb;exact h
theorem Ld.sc {s:Sc} {p:Addr} {K:s.T→Prop} (x:s.T) (hc:w.cell? p=some (s.enc x)) (h:K x):Ld (.sc s) p w K:=
 ⟨x,fun w' hw=>by subst hw;exact hc,h⟩
theorem St.mk {p:Addr} {v:Value} {K:World→Prop} {b i:Nat} {c:Array Value} {t:TypeId} (hp:p=⟨b,i,none⟩) (hh:Hp E w (ag b (.cells c t (0,0))::F)) (hi:i<c.size) (hv:ay v=true)
  (h: ∀w',Hp E w' (ag b (.cells (c.setIfInBounds i v) t (0,0))::F)→K w'):St p v w K:=by
 subst hp
 unfold St
 rw [hv]
 refine ⟨?_,?_,h _ (hh.setCell v)⟩
 ·rw [hh.cell];simp [hi]
 ·simp [World.frozen?,hh.aB]
theorem Nw.mk {t:TypeId} {cs:Array Value} {K:Nat→World→Prop} (hh:Hp E w F) (h: ∀b w',Hp E w' (ag b (.cells cs t (0,0))::F)→K b w'):Nw t cs w K:=h _ _ (hh.alloc _)
theorem aU.mk {K:World→Prop} (hh:Hp E w F) (h: ∀w',Hp E w' F→K w'):aU w K:=h _ hh.drew
theorem Cl.imp {P:Program} {ks:List Ki} {i:FuncId} {args:Array Value} {K K':j6 ks (World→Prop)} (h:Cl P ks i args w K) (hk: ∀e w',qZ ks K e w'→qZ ks K' e w'):Cl P ks i args w K':=
 Calls.mono h hk
end
end Go.Vc
namespace Go.Vc
open Go
theorem ab {x:Int} (h: -9223372036854775808≤x∧x≤9223372036854775807):i64 x=x:=IntWalk.i64_in x h
theorem gO {x:Int} (h:0≤x∧x≤18446744073709551615):u64 x=x:=IntWalk.u64_in x h
theorem dv {x:Int} (h:0≤x∧x≤4294967295):u32 x=x:=IntWalk.u32_in x h
theorem yy (x:Int):u8 x=x % 256:=by
 show IntKind.wrap .u8 x=x % 256
 simp [IntKind.wrap,IntKind.bits,IntKind.signed]
theorem j4 {x:Int} (h:0≤x∧x≤255):u8 x=x:=by rw [yy];omega
theorem jc (n a:Nat) (h:a<2^n):(BitVec.ofInt n (a:Int)).toNat=a:=by
 rw [BitVec.toNat_ofInt]
 have:((a:Int) % ((2^n:Nat):Int))=((a % 2^n:Nat):Int):=by omega
 rw [this,Int.toNat_natCast,Nat.mod_eq_of_lt h]
theorem oG {k:IntKind} {a:Nat} (h:(a:Int)≤k.max):k.wrap (a:Int)=a:=by
 cases k
 ·have:IntKind.max .i8=127:=rfl
  exact IntWalk.i8_in _ (by omega)
 ·have:IntKind.max .i16=32767:=rfl
  exact IntWalk.i16_in _ (by omega)
 ·have:IntKind.max .i32=2147483647:=rfl
  exact IntWalk.i32_in _ (by omega)
 ·have:IntKind.max .i64=9223372036854775807:=rfl
  exact IntWalk.i64_in _ (by omega)
 ·have:IntKind.max .u8=255:=rfl
  exact IntWalk.u8_in _ (by omega)
 ·have:IntKind.max .u16=65535:=rfl
  exact IntWalk.u16_in _ (by omega)
 ·have:IntKind.max .u32=4294967295:=rfl
  exact IntWalk.u32_in _ (by omega)
 ·have:IntKind.max .u64=18446744073709551615:=rfl
  exact IntWalk.u64_in _ (by omega)
theorem max_lt (k:IntKind):(k.max:Int)<2^k.bits:=by cases k<;>decide
theorem lY {k:IntKind} {a:Nat} (ha:(a:Int)≤k.max):a<2^k.bits:=by
 have:=max_lt k
 have h2:(a:Int)<2^k.bits:=Int.lt_of_le_of_lt ha this
 exact_mod_cast h2
theorem og {k:IntKind} {a b:Nat} (ha:(a:Int)≤k.max) (hb:(b:Int)≤k.max) (h:((a|||b:Nat):Int)≤k.max):jy k a b=((a|||b:Nat):Int):=by
 unfold jy
 rw [BitVec.toNat_or,jc _ _ (lY ha),jc _ _ (lY hb),oG h]
theorem mv {k:IntKind} {a b:Nat} (ha:(a:Int)≤k.max) (hb:(b:Int)≤k.max):dk k a b=((a&&&b:Nat):Int):=by
 unfold dk
 rw [BitVec.toNat_and,jc _ _ (lY ha),jc _ _ (lY hb),oG]
 have:=Nat.and_le_left (n:=a) (m:=b)
 omega
theorem ox {k:IntKind} {a b:Nat} (ha:(a:Int)≤k.max) (hb:(b:Int)≤k.max) (h:((a^^^b:Nat):Int)≤k.max):gG k a b=((a^^^b:Nat):Int):=by
 unfold gG
 rw [BitVec.toNat_xor,jc _ _ (lY ha),jc _ _ (lY hb),oG h]
theorem dj {k:IntKind} {a b:Nat} (hb:b≤k.bits):bI k a b=((a/2^b:Nat):Int):=by
 unfold bI
 rw [Int.toNat_natCast,Nat.min_eq_left hb,Int.fdiv_eq_ediv_of_nonneg _ (by exact_mod_cast Nat.zero_le _)]
 exact_mod_cast rfl
theorem dg {k:IntKind} {a b:Nat} (hb:b≤k.bits) (h:((a*2^b:Nat):Int)≤k.max):a8 k a b=((a*2^b:Nat):Int):=by
 unfold a8
 rw [Int.toNat_natCast,Nat.min_eq_left hb]
 have:(a:Int)*2^b=((a*2^b:Nat):Int):=by push_cast;rfl
 rw [this,oG h]
theorem af (b o n:Nat):(⟨b,o,none⟩:Addr).add n=⟨b,o+n,none⟩:=by
 unfold Addr.add
 split
 ·rename_i h;subst h;rfl
 ·rfl
theorem add_zero (p:Addr):p.add 0=p:=by simp [Addr.add]
def aQ (sz:Nat) (s:Sl) (xs:List Value) (w:World):Prop:=
 xs.length=s.len*sz∧∀i (h:i<xs.length),∃p,s.base=some p∧w.cell? (p.add i)=some xs[i]
def aC (sz:Nat) (s:Sl) (xs:List Value):HP:=fun f=>
 xs.length=s.len*sz∧((s.base=none∧s.len=0∧s.cap=0∧f=aK.emp)∨
 ∃b off arr t,s.base=some ⟨b,off,none⟩∧s.len≤s.cap∧off+s.cap*sz≤arr.size∧(∀i (h:i<xs.length),arr[off+i]? =some xs[i])∧f=aK.one b (.cells arr t (0,0)))
section
variable {E w w':World} {F:List HP} {sz:Nat} {s:Sl} {xs ys:List Value}
theorem aC.nil (sz:Nat):aC sz ⟨none,0,0⟩ [] aK.emp:=⟨by simp,.inl ⟨rfl,rfl,rfl,rfl⟩⟩
theorem Hp.bf (h:Hp E w F) (sz:Nat):Hp E w (aC sz ⟨none,0,0⟩ []::F):=h.emp (aC.nil sz)
theorem Hp.nX {b:Nat} {arr:Array Value} {t:TypeId} {n:Nat} (h:Hp E w (ag b (.cells arr t (0,0))::F)) (hn:arr.toList.length=n*sz):
  Hp E w (aC sz ⟨some ⟨b,0,none⟩,n,n⟩ arr.toList::F):=by
 refine h.Es fun f hf=>⟨hn,.inr ⟨b,0,arr,t,rfl,Nat.le_refl _,?_,?_,hf⟩⟩
 ·have:arr.size=n*sz:=by simpa using hn
  simp only [this];omega
 ·intro i hi
  have hi':i<arr.size:=by simpa using hi
  simp [hi']
theorem Hp.cR (h:Hp E w (aC sz s xs::F)):xs.length=s.len*sz:=by
 obtain ⟨f,a,g,k,hd,e,h1,h2⟩:=h.frag
 exact h1.1
theorem Hp.nR (h:Hp E w (aC sz s xs::F)):s.len≤s.cap:=by
 obtain ⟨f,a,g,k,hd,e,h1,h2⟩:=h.frag
 rcases h1.2 with ⟨h1,h2,h3,_⟩|⟨b,off,arr,t,h1,h2,_⟩
 ·omega
 ·exact h2
theorem Hp.uO (h:Hp E w (aC sz s xs::F)):(s=⟨none,0,0⟩∧xs= []∧Hp E w F)∨
  ∃b off arr t,s.base=some ⟨b,off,none⟩∧s.len≤s.cap∧off+s.cap*sz≤arr.size∧(∀i (h:i<xs.length),arr[off+i]? =some xs[i])∧Hp E w (ag b (.cells arr t (0,0))::F):=by
 have hl:=h.cR
 obtain ⟨f,a,g,k,hd,rfl,h1,h2⟩:=h.frag
 rcases h1.2 with ⟨h3,h4,h5,h6⟩|⟨b,off,arr,t,h3,h4,h5,h6,h7⟩
 ·refine .inl ⟨by cases s;simp_all,?_,h.drop⟩
  have:xs.length=0:=by rw [hl,h4];simp
  exact List.length_eq_zero_iff.1 this
 ·exact .inr ⟨b,off,arr,t,h3,h4,h5,h6,h.os,h.output,h.tape,_,a,g,k,hd,rfl,h7,h2⟩
theorem Hp.l6 {b off:Nat} {arr:Array Value} {t:TypeId} (h:Hp E w (ag b (.cells arr t (0,0))::F)) (hl:xs.length=s.len*sz) (h1:s.base=some ⟨b,off,none⟩) (h2:s.len≤s.cap) (h3:off+s.cap*sz≤arr.size)
  (h4: ∀i (h:i<xs.length),arr[off+i]? =some xs[i]):Hp E w (aC sz s xs::F):=
 h.Es fun _ hf=>⟨hl,.inr ⟨b,off,arr,t,h1,h2,h3,h4,hf⟩⟩
theorem ah.own:ah (aC sz s xs::F) (aQ sz s xs):=by
 rintro w f a ⟨g,k,hd,rfl,⟨hl,h1⟩,h2⟩
 refine ⟨hl,fun i hi=> ?_⟩
 rcases h1 with ⟨h3,h4,h5,_⟩|⟨b,off,arr,t,h3,h4,h5,h6,rfl⟩
 ·rw [hl,h4] at hi;simp at hi
 ·refine ⟨_,h3,?_⟩
  have:w.heap[b]? =some (.cells arr t (0,0)):=a b _ (by simp [aK.add,aK.one])
  rw [af]
  simp only [World.cell?,this]
  exact h6 i hi
theorem ah.cell {W:World} {p:Addr} {v:Value} (h:W.cell? p=some v):ah (Old W::F) (fun w=>w.cell? p=some v):=by
 refine ah.Li fun w hw=> ?_
 have hlt:p.block<W.heap.size:=by
  unfold World.cell? at h
  rcases Nat.lt_or_ge p.block W.heap.size with hh|hh
  ·exact hh
  ·simp [Array.getElem?_eq_none hh] at h
 rw [←h]
 unfold World.cell?
 rw [hw _ hlt]
theorem ah.Mp {W:World} (h:aQ sz s xs W):ah (Old W::F) (aQ sz s xs):=by
 intro w f a b
 refine ⟨h.1,fun i hi=> ?_⟩
 obtain ⟨p,hp,hc⟩:=h.2 i hi
 exact ⟨p,hp,(ah.cell hc) w f a b⟩
theorem aT.mk {i:Int} {K:Addr→Prop} {p:Addr} (hp:s.base=some p) (h0:0≤i) (h1:i<(s.len:Int)) (h:K (p.add (i.toNat*sz))):aT s i sz K:=⟨p,hp,h0,h1,h⟩
theorem aT.rd {i:Int} {K:Addr→Prop} (hs:aQ 1 s xs w) (h0:0≤i) (h1:i<(s.len:Int)) (h: ∀p (hi:i.toNat<xs.length),w.cell? p=some xs[i.toNat]→K p):aT s i 1 K:=by
 have hl:i.toNat<xs.length:=by rw [hs.1];omega
 obtain ⟨p,hp,hc⟩:=hs.2 _ hl
 exact ⟨p,hp,h0,h1,h _ hl (by simpa using hc)⟩
theorem aT.J0 {i:Int} {K:Addr→Prop} (hs:aQ sz s xs w) (hz:0<sz) (h0:0≤i) (h1:i<(s.len:Int)) (h: ∀p,(∀j (hj:i.toNat*sz+j<xs.length),j<sz→w.cell? (p.add j)=some xs[i.toNat*sz+j])→K p):aT s i sz K:=by
 have hlt:i.toNat<s.len:=by omega
 have hmul:i.toNat*sz+sz≤s.len*sz:=by
  have:(i.toNat+1)*sz≤s.len*sz:=Nat.mul_le_mul_right _ hlt
  rw [Nat.succ_mul] at this;exact this
 obtain ⟨p,hp,_⟩:=hs.2 (i.toNat*sz) (by rw [hs.1];omega)
 refine ⟨p,hp,h0,h1,h _ fun j hj hjs=> ?_⟩
 obtain ⟨q,hq,hc⟩:=hs.2 (i.toNat*sz+j) hj
 have:q=p:=Option.some.inj (hq.symm.trans hp)
 subst this
 rw [←hc]
 congr 1
 unfold Addr.add
 by_cases e1:i.toNat*sz=0<;>by_cases e2:j=0<;>simp [e1,e2,Nat.add_assoc]
theorem Hp.setRow {b off:Nat} {t:TypeId}: ∀(vs:List Value) (i:Nat) (w:World) (arr:Array Value),Hp E w (ag b (.cells arr t (0,0))::F)→off+i+vs.length≤arr.size→
  ∃arr':Array Value,arr'.size=arr.size∧(∀j (h:j<vs.length),arr'[off+i+j]? =some vs[j])∧(∀j,j<off+i→arr'[j]? =arr[j]?)∧
   Hp E (aj.setRow w ⟨b,off,none⟩ vs i) (ag b (.cells arr' t (0,0))::F)
 | [],i,w,arr,h,_=>⟨arr,rfl,fun j h=>by simp at h,fun _ _=>rfl,h⟩
 |v::vs,i,w,arr,h,hl=>by
  simp only [List.length_cons] at hl
  have h1:=h.setCell (i:=off+i) v
  have hsz:off+(i+1)+vs.length≤(arr.setIfInBounds (off+i) v).size:=by rw [Array.size_setIfInBounds];omega
  obtain ⟨arr',e1,e2,e3,h2⟩:=Hp.setRow (b:=b) (off:=off) (t:=t) vs (i+1) _ (arr.setIfInBounds (off+i) v) h1 hsz
  refine ⟨arr',by simpa using e1,fun j hj=> ?_,fun j hj=> ?_,?_⟩
  ·cases j with
   |zero=>
    rw [Nat.add_zero,e3 _ (by omega)]
    simp [show off+i<arr.size by omega]
   |succ j=>
    have:=e2 j (by simp at hj;omega)
    rw [show off+i+(j+1)=off+(i+1)+j by omega]
    simpa using this
  ·rw [e3 _ (by omega),Array.getElem?_setIfInBounds_ne (by omega)]
  ·rw [aj.setRow,af];exact h2
theorem Hq {P:Program} {b off:Nat} {arr:Array Value} {t:TypeId} (h:Hp E w (ag b (.cells arr t (0,0))::F)) (vs:List Value) (i:Nat) (hl:off+i+vs.length≤arr.size) (hv: ∀v∈vs,ay v=true):
  (storeCells ⟨b,off,none⟩ vs i).run P w= .ok () (aj.setRow w ⟨b,off,none⟩ vs i):=by
 refine lO vs i w fun j hj=>⟨hv _ (List.getElem_mem hj),?_,?_⟩
 ·rw [af,h.cell];simp;omega
 ·rw [af];simp [World.frozen?,h.aB]
theorem fC: ∀(r c n:Nat),c≤2*n+1024→Builtin.growBy n r c≤2*n+1024
 |0,c,n,h=>h
 |r+1,c,n,h=>by
  unfold Builtin.growBy
  split
  ·exact h
  ·exact fC r _ n (by omega)
theorem Gv {n c:Nat} (h:c<n):Builtin.nextslicecap n c≤2*n+1024:=by
 unfold Builtin.nextslicecap
 split
 ·omega
 ·split
  ·omega
  ·exact fC 4 c n (by omega)
structure fm (P:Program) (t e:TypeId) (sz bytes:Nat):Prop where
 und:P.underlying t=some (.slice e)
 info: ∃it z,P.info? e=some it∧it.size=sz∧it.bytes=bytes∧it.zero=some z∧z.cells.size=sz
def Gl (P:Program) (e:TypeId) (sz bytes:Nat):Bool:=
 match P.info? e with
 |some it=>it.size==sz&&it.bytes==bytes&&(match it.zero with|some z=>z.cells.size==sz|none=>false)
 |none=>false
theorem fm.of {P:Program} {t e:TypeId} {sz bytes:Nat} (h1:P.underlying t=some (.slice e)) (h2:Gl P e sz bytes=true):fm P t e sz bytes:=by
 refine ⟨h1,?_⟩
 unfold Gl at h2
 split at h2
 ·rename_i it hi
  simp only [Bool.and_eq_true,beq_iff_eq] at h2
  obtain ⟨⟨h2,h3⟩,h4⟩:=h2
  split at h4
  ·rename_i z hz
   exact ⟨it,z,hi,h2,h3,hz,by simpa using h4⟩
  ·simp at h4
 ·simp at h2
theorem u7 {P:Program} {vs:List Value} {p:Addr} (h: ∀i (hi:i<vs.length),w.cell? (p.add i)=some vs[i]):(loadCells p vs.length).run P w= .ok vs.toArray w:=by
 have:=il (P:=P) (w:=w) (a:=p) vs 0 #[] (fun j hj=>by simpa using h j hj)
 simpa [loadCells] using this
def Src (sz n:Nat) (x:Value) (ys:List Value) (w:World):Prop:=
 (∃b l c,x= .slice b l c∧n=l∧aQ sz ⟨b,l,c⟩ ys w)∨(∃s:ByteArray,x= .string s∧n=s.size∧ys=s.data.toList.map fun b=> .int .u8 b.toNat)
theorem Src.run {P:Program} {n:Nat} {x:Value} (h:Src sz n x ys w):(Builtin.firstCells sz n x).run P w= .ok ys.toArray w∧(Builtin.lenOf x).run P w= .ok n w:=by
 rcases h with ⟨b,l,c,rfl,rfl,hl,hc⟩|⟨s,rfl,rfl,rfl⟩
 ·refine ⟨?_,rfl⟩
  simp only at hl
  cases b with
  |none=>
   cases ys with
   |nil=>rfl
   |cons y ys=>obtain ⟨p,hp,_⟩:=hc 0 (by simp);cases hp
  |some p=>
   show (loadCells p (n*sz)).run P w=_
   rw [←hl]
   exact u7 fun i hi=>by obtain ⟨q,hq,hc⟩:=hc i hi;cases hq;exact hc
 ·refine ⟨?_,rfl⟩
  show Result.ok ((s.extract 0 s.size).data.map fun b=>Value.int .u8 b.toNat) w=_
  congr 1
  have:s.extract 0 s.size=s:=by simp
  rw [this]
  apply Array.ext'
  simp
theorem Src.len {n:Nat} {x:Value} (h:Src 1 n x ys w):ys.length=n:=by
 rcases h with ⟨b,l,c,rfl,rfl,hl,hc⟩|⟨s,rfl,rfl,rfl⟩
 ·simpa using hl
 ·simp
theorem uw (z:Array Value) (n:Nat):(Builtin.zeroCells z n).size=n*z.size:=by simp [Builtin.zeroCells]
theorem yQ {P:Program} {t tx ty e:TypeId} {bytes n:Nat} {x:Value} {K:Sl→World→Prop} (he:fm P t e sz bytes) (_:0<sz) (hx:(∃e2,P.underlying tx=some (.slice e2))∨P.underlying tx=some .string)
  (hh:Hp E w (aC sz s xs::F)) (hs:Src sz n x ys w) (hyl:ys.length=n*sz) (hys: ∀y∈ys,ay y=true) (hb:(2*(s.len+n)+1024)*bytes≤2^48) (hb2:s.len+n<2^62)
  (h: ∀s' w',Hp E w' (aC sz s' (xs++ys)::F)→s'.len=s.len+n→aQ sz s xs w'→K s' w'):aw P (Builtin.append_ #[t,tx] ty ⟨[.slice s.base s.len s.cap,x]⟩) kS w K:=by
 obtain ⟨it,z,hi,hsz,hby,hze,hzs⟩:=he.info
 obtain ⟨hs1,hs2⟩:=hs.run (P:=P)
 have hlen:=hh.cR
 have hcap:=hh.nR
 have hso:(sizeOf e).run P w= .ok sz w:=by rw [ct hi,hsz]
 have step: ∀v w',(Builtin.append_ #[t,tx] ty ⟨[.slice s.base s.len s.cap,x]⟩).run P w= .ok v w'→(∃s':Sl,v= .slice s'.base s'.len s'.cap∧Hp E w' (aC sz s' (xs++ys)::F)∧s'.len=s.len+n∧aQ sz s xs w')→
   aw P (Builtin.append_ #[t,tx] ty ⟨[.slice s.base s.len s.cap,x]⟩) kS w K:=by
  rintro v w' h1 ⟨s',rfl,h2,h3,h4⟩
  unfold aw
  rw [h1]
  exact h s' w' h2 h3 h4
 have hlen2:(xs++ys).length=(s.len+n)*sz:=by rw [List.length_append,hlen,hyl,Nat.add_mul]
 by_cases hfit:s.len+n≤s.cap
 ·rcases hh.uO with ⟨rfl,rfl,hF⟩|⟨b,off,arr,tt,h1,h2,h3,h4,hB⟩
  ·have hn0:n=0:=by simp at hfit;exact hfit
   subst hn0
   have hy0:ys= []:=by simpa using hyl
   subst hy0
   refine step (.slice none 0 0) w ?_ ⟨⟨none,0,0⟩,rfl,hh,rfl,hh.ao ah.own⟩
   rcases hx with ⟨e2,hd⟩|hd<;>simp [Builtin.append_,run_underlying he.und,hso,run_underlying hd,hs1,hs2]
  ·have hmul:(s.len+n)*sz≤s.cap*sz:=Nat.mul_le_mul_right _ hfit
   rw [Nat.add_mul] at hmul
   have hlr:off+s.len*sz+ys.length≤arr.size:=by omega
   obtain ⟨arr',e1,e2,e3,hB'⟩:=Hp.setRow (off:=off) ys (s.len*sz) w arr hB (by omega)
   have hrow:=Hq (P:=P) (off:=off+s.len*sz) hB ys 0 (by omega) hys
   have hro2:aj.setRow w ⟨b,off+s.len*sz,none⟩ ys 0=aj.setRow w ⟨b,off,none⟩ ys (s.len*sz):=by
    have key: ∀(vs:List Value) (w:World) (i:Nat),aj.setRow w ⟨b,off+s.len*sz,none⟩ vs i=aj.setRow w ⟨b,off,none⟩ vs (s.len*sz+i):=by
     intro vs
     induction vs with
     |nil=>intro w i;rfl
     |cons v vs ih=>intro w i;simp only [aj.setRow,ih,af,Nat.add_assoc]
    simpa using key ys w 0
   refine step (.slice s.base (s.len+n) s.cap) (aj.setRow w ⟨b,off,none⟩ ys (s.len*sz)) ?_ ⟨⟨s.base,s.len+n,s.cap⟩,rfl,?_,rfl,⟨hlen,fun i hi=>⟨_,h1,by rw [af,hB'.cell,e3 _ (by omega)];exact h4 i hi⟩⟩⟩
   ·rw [hro2] at hrow
    rcases hx with ⟨e2,hd⟩|hd<;>simp [Builtin.append_,run_underlying he.und,hso,run_underlying hd,hs1,hs2,hfit,h1,af,hrow]
   ·refine Hp.l6 hB' hlen2 h1 hfit (by simp only;omega) fun i hi=> ?_
    by_cases hi2:i<xs.length
    ·rw [e3 _ (by omega),List.getElem_append_left hi2];exact h4 i hi2
    ·rw [List.getElem_append_right (by omega)]
     have:=e2 (i - xs.length) (by simp at hi;omega)
     rw [←this]
     congr 1
     omega
 ·have hnext: ¬Builtin.nextslicecap (s.len+n) s.cap*it.bytes>2^48:=by
   have:=Gv (n:=s.len+n) (c:=s.cap) (by omega)
   have h2:Builtin.nextslicecap (s.len+n) s.cap*it.bytes≤(2*(s.len+n)+1024)*bytes:=by rw [hby];exact Nat.mul_le_mul_right _ this
   omega
  have hmax: ¬((s.len+n:Nat):Int)>IntKind.i64.max:=by
   have:IntKind.i64.max=9223372036854775807:=rfl
   rw [this];omega
  have hold:(Builtin.firstCells sz s.len (.slice s.base s.len s.cap)).run P w= .ok xs.toArray w:=by
   have:Src sz s.len (.slice s.base s.len s.cap) xs w:= .inl ⟨s.base,s.len,s.cap,rfl,rfl,hh.ao ah.own⟩
   exact (this.run (P:=P)).1
  generalize hq:Question.cut (.appendCap (s.len+n) s.cap e) (w.tape w.drawn (.appendCap (s.len+n) s.cap e))=newCap
  have hnc:s.len+n≤newCap:=by rw [←hq];exact Nat.le_add_right _ _
  have hF:Hp E w F:=hh.drop
  have hD:Hp E w.drew F:=hF.drew (n:=w.drawn+1)
  have hold':(Builtin.firstCells sz s.len (.slice s.base s.len s.cap)).run P w.drew= .ok xs.toArray w.drew:=by
   have:Src sz s.len (.slice s.base s.len s.cap) xs w.drew:= .inl ⟨s.base,s.len,s.cap,rfl,rfl,(hh.drew (n:=w.drawn+1)).ao ah.own⟩
   exact (this.run (P:=P)).1
  have hs1':(Builtin.firstCells sz n x).run P w.drew= .ok ys.toArray w.drew:=(Src.run (P:=P) (w:=w.drew) hs).1
  have hA:=hD.alloc (.cells (xs.toArray++ys.toArray++Builtin.zeroCells z.cells (newCap - (s.len+n))) e)
  refine step (.slice (some ⟨w.heap.size,0,none⟩) (s.len+n) newCap) _ ?_ ⟨⟨some ⟨w.heap.size,0,none⟩,s.len+n,newCap⟩,rfl,Hp.l6 hA hlen2 rfl hnc ?_ ?_,rfl,((hh.drew (n:=w.drawn+1)).alloc (.cells (xs.toArray++ys.toArray++Builtin.zeroCells z.cells (newCap - (s.len+n))) e)).ao (ah.cons ah.own)⟩
  ·have hz': ∀w:World,(zeroValue e).run P w= .ok z w:=by intro w;simp [zeroValue,typeInfo,hi,hze]
   have hti: ∀w:World,(typeInfo e).run P w= .ok it w:=by intro w;simp [typeInfo,hi]
   have hmax': ¬(9223372036854775807<(s.len:Int)+(n:Int)∧it.bytes=0):=by omega
   have hfo:Question.forced (.appendCap (s.len+n) s.cap e)=false:=rfl
   rcases hx with ⟨e2,hd⟩|hd<;>simp [Builtin.append_,run_underlying he.und,hso,run_underlying hd,hs2,hfit,hmax',hti,hnext,hfo,hq,hold',hs1',hz',newRow]
   all_goals rw [←Array.append_assoc,show xs.toArray++ys.toArray=(xs++ys).toArray by simp]
  ·simp only [Array.size_append,List.size_toArray,uw,hzs,hlen,hyl]
   have:newCap*sz=(s.len+n)*sz+(newCap - (s.len+n))*sz:=by rw [←Nat.add_mul];congr 1;omega
   rw [this,Nat.add_mul];omega
  ·intro i hi
   have h1:i<(xs.toArray++ys.toArray).size:=by simpa using hi
   rw [Nat.zero_add,Array.getElem?_append_left h1]
   have:(xs.toArray++ys.toArray)=(xs++ys).toArray:=by simp
   rw [this]
   simp only [List.getElem?_toArray]
   exact List.getElem?_eq_getElem hi
theorem bZ {P:Program} {t tx ty e:TypeId} {bytes n:Nat} {x:Value} {K:Sl→World→Prop} (he:fm P t e sz bytes) (hz:0<sz) (hx:(∃e2,P.underlying tx=some (.slice e2))∨P.underlying tx=some .string)
  (hh:Hp E w (aC sz s xs::F)) (hs:Src sz n x ys w) (hyl:ys.length=n*sz) (hys: ∀y∈ys,ay y=true) (hb:(2*(s.len+n)+1024)*bytes≤2^48) (hb2:s.len+n<2^62)
  (h: ∀s' w',Hp E w' (aC sz s' (xs++ys)::F)→s'.len=s.len+n→K s' w'):aw P (Builtin.append_ #[t,tx] ty ⟨[.slice s.base s.len s.cap,x]⟩) kS w K:=
 yQ he hz hx hh hs hyl hys hb hb2 fun s' w' h1 h2 _=>h s' w' h1 h2
end
theorem fj.mk {P:Program} {i:FuncId} {first captured:Array Value} {ks:List Ki} {args:List Value} {w:World} {K:j6 ks (World→Prop)} (ok:n4 P i=true) (h:Cl P ks i ⟨first.toList++args++captured.toList⟩ w K):
  fj P (.func (.func i) first captured) ks args w K:=by
 unfold fj
 simp only [ok]
 exact h
theorem pj {X Y:Prop}:aa true X Y=X:=rfl
theorem fl {X Y:Prop}:aa false X Y=Y:=rfl
theorem av {p:Addr} {K:Addr→Prop}:ae (some p) K=K p:=rfl
theorem aV {α:Type} (r:α) (k:α→Prop):aR r k=k r:=rfl
section
variable {E w:World} {F:List HP}
theorem Ld.aB {s:Sc} {b i:Nat} {c:Array Value} {t:TypeId} {fr:Nat×Nat} {K:s.T→Prop} (h:Hp E w (ag b (.cells c t fr)::F)) (x:s.T) (hx:c[i]? =some (s.enc x)) (hk:K x):Ld (.sc s) ⟨b,i,none⟩ w K:=
 Ld.sc x (by rw [h.cell];exact hx) hk
theorem St.aB {v:Value} {K:World→Prop} {b i:Nat} {c:Array Value} {t:TypeId} (hh:Hp E w (ag b (.cells c t (0,0))::F)) (hi:i<c.size) (hv:ay v=true)
  (h: ∀w',Hp E w' (ag b (.cells (c.setIfInBounds i v) t (0,0))::F)→K w'):St ⟨b,i,none⟩ v w K:=St.mk rfl hh hi hv h
end
def eP:Nat:=1099511627776
theorem bX:eP=1099511627776:=rfl
def vB (x:Nat):Value:= .int .u8 (x:Int)
def vI (x:Int):Value:= .int .i64 x
theorem lb {xs:List Nat}: ∀y∈xs.map vB,ay y=true:=by
 intro y hy
 obtain ⟨x,_,rfl⟩:=List.mem_map.1 hy
 rfl
theorem uZ {xs:List Int}: ∀y∈xs.map vI,ay y=true:=by
 intro y hy
 obtain ⟨x,_,rfl⟩:=List.mem_map.1 hy
 rfl
theorem St.IV {E w:World} {F:List HP} {sz j:Nat} {s:Sl} {xs:List Value} {i:Int} {v:Value} {K:World→Prop} (hh:Hp E w (aC sz s xs::F)) (hj:j<sz) (h0:0≤i) (h1:i<(s.len:Int)) (hv:ay v=true)
  (h: ∀w',Hp E w' (aC sz s (xs.set (i.toNat*sz+j) v)::F)→K w'):aT s i sz (fun q=>St (q.add j) v w K):=by
 have hl:=hh.cR
 have hlt:i.toNat<s.len:=by omega
 have hmul:i.toNat*sz+sz≤s.len*sz:=by
  have:(i.toNat+1)*sz≤s.len*sz:=Nat.mul_le_mul_right _ hlt
  rw [Nat.succ_mul] at this;exact this
 rcases hh.uO with ⟨rfl,rfl,hF⟩|⟨b,off,arr,t,e1,e2,e3,e4,hB⟩
 ·simp at hlt
 ·have hcm:s.len*sz≤s.cap*sz:=Nat.mul_le_mul_right _ e2
  refine ⟨_,e1,h0,h1,?_⟩
  rw [af]
  show St (Addr.add _ j) v w K
  rw [af]
  refine St.mk rfl hB (by omega) hv fun w' h'=>h _ ?_
  refine h'.l6 (by simpa using hl) e1 e2 (by simpa using e3) fun r hr=> ?_
  rw [List.length_set] at hr
  rw [Array.getElem?_setIfInBounds,List.getElem_set]
  by_cases hq:i.toNat*sz+j=r
  ·rw [if_pos (by omega),if_pos (by omega),if_pos hq]
  ·rw [if_neg (by omega),if_neg hq];exact e4 r hr
theorem St.own {E w:World} {F:List HP} {s:Sl} {xs:List Value} {i:Int} {v:Value} {K:World→Prop} (hh:Hp E w (aC 1 s xs::F)) (h0:0≤i) (h1:i<(s.len:Int)) (hv:ay v=true)
  (h: ∀w',Hp E w' (aC 1 s (xs.set i.toNat v)::F)→K w'):aT s i 1 (fun q=>St q v w K):=by
 have:=St.IV (sz:=1) (j:=0) (K:=K) hh (by decide) h0 h1 hv (by simpa using h)
 simpa only [add_zero] using this
theorem ah.aB {F:List HP} {b n m sz:Nat} {arr:Array Value} {xs:List Value} {t:TypeId} {fr:Nat×Nat} (hx:arr.toList=xs) (hl:xs.length=n*sz):ah (ag b (.cells arr t fr)::F) (aQ sz ⟨some ⟨b,0,none⟩,n,m⟩ xs):=by
 subst hx
 rintro w f a ⟨g,k,hd,rfl,rfl,h2⟩
 refine ⟨hl,fun i hi=>⟨_,rfl,?_⟩⟩
 have:w.heap[b]? =some (.cells arr t fr):=a b _ (by simp [aK.add,aK.one])
 rw [af]
 simp only [World.cell?,this,Nat.zero_add]
 have hi':i<arr.size:=by simpa using hi
 simp [hi']
theorem ah.nil {F:List HP} {sz:Nat}:ah F (aQ sz ⟨none,0,0⟩ []):=fun _ _ _ _=>⟨by simp,fun i hi=>by simp at hi⟩
theorem bQ.own {E w:World} {F:List HP} {s:Sl} {xs:List Value} {lo hi:Int} {K:Sl→Prop} (hh:Hp E w (aC 1 s xs::F)) (h0:0≤lo) (h1:lo≤hi) (h2:hi≤(s.len:Int))
  (h: ∀s':Sl,Hp E w (aC 1 s' ((xs.drop lo.toNat).take (hi.toNat - lo.toNat))::F)→s'.len=hi.toNat - lo.toNat→K s'):bQ s lo hi s.cap 1 K:=by
 have hl:=hh.cR
 have hc:=hh.nR
 refine ⟨h0,h1,by omega,by omega,h _ ?_ rfl⟩
 rcases hh.uO with ⟨rfl,rfl,hF⟩|⟨b,off,arr,t,e1,e2,e3,e4,hB⟩
 ·simp only at h2
  have e1:lo.toNat=0:=by omega
  have e2:hi.toNat=0:=by omega
  simpa [e1,e2] using hh
 ·have key:(if (s.cap:Int).toNat=lo.toNat then s.base else s.base.map (·.add (lo.toNat*1)))=if s.cap=lo.toNat then s.base else some ⟨b,off+lo.toNat,none⟩:=by
   rw [Int.toNat_natCast,e1]
   simp only [Option.map_some,af,Nat.mul_one]
  rw [key,Int.toNat_natCast]
  have hlen:((xs.drop lo.toNat).take (hi.toNat - lo.toNat)).length=(hi.toNat - lo.toNat)*1:=by simp [hl];omega
  by_cases hcl:s.cap=lo.toNat
  ·rw [if_pos hcl]
   refine hB.l6 hlen e1 (by simp only;omega) (by simp only;omega) fun i hi'=> ?_
   rw [hlen] at hi';omega
  ·rw [if_neg hcl]
   refine hB.l6 hlen rfl (by simp only;omega) (by simp only;omega) fun i hi'=> ?_
   have hi2:lo.toNat+i<xs.length:=by rw [hlen] at hi';omega
   rw [Nat.add_assoc,e4 _ hi2]
   simp
theorem bQ.rd {w:World} {s:Sl} {xs:List Value} {lo hi mx:Int} {K:Sl→Prop} (hs:aQ 1 s xs w) (h0:0≤lo) (h1:lo≤hi) (h2:hi≤(s.len:Int)) (h3:hi≤mx) (h4:mx≤(s.cap:Int))
  (h: ∀s':Sl,(∀w',aQ 1 s xs w'→aQ 1 s' ((xs.drop lo.toNat).take (hi.toNat - lo.toNat)) w')→s'.len=hi.toNat - lo.toNat→K s'):bQ s lo hi mx 1 K:=by
 have hl:=hs.1
 refine ⟨h0,h1,h3,h4,h _ (fun w' hs'=> ?_) rfl⟩
 have hlen:((xs.drop lo.toNat).take (hi.toNat - lo.toNat)).length=(hi.toNat - lo.toNat)*1:=by simp [hl];omega
 refine ⟨hlen,fun i hi'=> ?_⟩
 have hi2:lo.toNat+i<xs.length:=by rw [hlen] at hi';omega
 obtain ⟨p,hp,hcell⟩:=hs'.2 _ hi2
 have hne:mx.toNat≠lo.toNat:=by rw [hlen] at hi';omega
 refine ⟨p.add lo.toNat,by simp [hne,hp],?_⟩
 have:(p.add lo.toNat).add i=p.add (lo.toNat+i):=by
  unfold Addr.add
  by_cases e1:lo.toNat=0<;>by_cases e2:i=0<;>simp [e1,e2,Nat.add_assoc]
 rw [this,hcell]
 simp
end Go.Vc
namespace Go.Vc
open Go
section
variable {E w:World} {F:List HP}
theorem Ld.arr {b n:Nat} {cs:Array Value} {t:TypeId} {fr:Nat×Nat} {K:Array Value→Prop} (h:Hp E w (ag b (.cells cs t fr)::F)) (hn:cs.size=n) (hK:K cs):Ld (.arr n) ⟨b,0,none⟩ w K:=by
 refine ⟨cs,hn,fun w' hw i hi=> ?_,hK⟩
 subst hw
 rw [af,h.cell,Nat.zero_add]
 simp [hn,hi]
theorem aj.aB {b n:Nat} {c0 cs:Array Value} {t:TypeId} {K:World→Prop} (h:Hp E w (ag b (.cells c0 t (0,0))::F)) (h0:c0.size=n) (hn:cs.size=n) (hs: ∀v∈cs.toList,ay v=true)
  (hK: ∀w',Hp E w' (ag b (.cells cs t (0,0))::F)→K w'):aj n ⟨b,0,none⟩ cs w K:=by
 refine ⟨hn,fun i hi=>⟨?_,?_,?_⟩,?_⟩
 ·have:cs.getD i undef∈cs.toList:=by simp [hn,hi]
  exact hs _ this
 ·rw [af,h.cell];simp [h0,hi]
 ·rw [af];simp [World.frozen?,h.aB]
 ·obtain ⟨arr',e1,e2,e3,h'⟩:=Hp.setRow (b:=b) (off:=0) cs.toList 0 w c0 h (by simp;omega)
  have:arr'=cs:=by
   apply Array.ext
   ·omega
   ·intro i hi1 hi2
    have:=e2 i (by simpa using hi2)
    rw [show 0+0+i=i by omega,Array.getElem?_eq_getElem hi1] at this
    simpa using this
  subst this
  exact hK _ h'
theorem aF.rd {b n:Nat} {cs:Array Value} {t:TypeId} {fr:Nat×Nat} {i:Int} {s:Sc} {K:s.T→Prop} (h:Hp E w (ag b (.cells cs t fr)::F)) (h0:0≤i) (h1:i<(n:Int)) (x:s.T) (hx:cs[i.toNat]? =some (s.enc x)) (hK:K x):
  aF ⟨b,0,none⟩ n i 1 fun q=>Ld (.sc s) q w K:=by
 refine ⟨h0,h1,?_⟩
 rw [af]
 exact Ld.aB h x (by simpa using hx) hK
theorem aF.wr {b n:Nat} {cs:Array Value} {t:TypeId} {i:Int} {v:Value} {K:World→Prop} (h:Hp E w (ag b (.cells cs t (0,0))::F)) (h0:0≤i) (h1:i<(n:Int)) (hn:cs.size=n) (hv:ay v=true)
  (hK: ∀w',Hp E w' (ag b (.cells (cs.setIfInBounds i.toNat v) t (0,0))::F)→K w'):aF ⟨b,0,none⟩ n i 1 fun q=>St q v w K:=by
 refine ⟨h0,h1,?_⟩
 rw [af]
 exact St.aB h (by omega) hv (by simpa using hK)
theorem iN.rd {s:Sc} {cs:Array Value} {n:Nat} {i:Int} {K:s.T→Prop} (h0:0≤i) (h1:i<(n:Int)) (x:s.T) (hx:cs[i.toNat]? =some (s.enc x)) (hK:K x):iN s cs n i K:=⟨h0,h1,x,hx,hK⟩
end
def ai (k:IntKind) (l:List Nat):Array Value:=⟨l.map fun (n:Nat)=> .int k (n:Int)⟩
theorem cj {k:IntKind} {l:List Nat}:(ai k l).size=l.length:=by simp [ai]
theorem nQ {k:IntKind} {l:List Nat} {i:Nat} (h:i<l.length):(ai k l)[i]? =some (Sc.enc (.int k) (l[i]:Int)):=by simp [ai,h]
theorem lh {k:IntKind} {l:List Nat}: ∀v∈(ai k l).toList,ay v=true:=by
 intro v hv
 simp only [ai,List.mem_map] at hv
 obtain ⟨x,_,rfl⟩:=hv
 rfl
theorem Jb {k:IntKind} {l:List Nat} {i x:Nat}:(ai k l).setIfInBounds i (.int k (x:Int))=ai k (l.set i x):=by
 unfold ai
 apply Array.ext'
 simp [List.map_set]
theorem HN {k:IntKind} {n:Nat}:(⟨List.replicate n (.int k 0)⟩:Array Value)=ai k (List.replicate n 0):=by
 unfold ai;simp
theorem yf.mk {k:IntKind} {n:Nat} {a b:List Nat} {K:Bool→Prop} (ha:a.length=n) (hb:b.length=n) (h:K (a==b)):yf k n (ai k a) (ai k b) K:=by
 refine ⟨a.map fun (x:Nat)=>(x:Int),b.map fun (x:Nat)=>(x:Int),by simp [ai],by simp [ai],by simpa using ha,by simpa using hb,?_⟩
 have:((a.map fun (x:Nat)=>(x:Int))==(b.map fun (x:Nat)=>(x:Int)))=(a==b):=by
  rw [Bool.eq_iff_iff,beq_iff_eq,beq_iff_eq]
  constructor
  ·intro h
   exact (List.map_inj_right (fun x y h=>by have h:(x:Int)=(y:Int):=h;omega)).1 h
  ·rintro rfl;rfl
 rw [this];exact h
end Go.Vc
namespace Go.Vc
open Go
section
variable {E w w':World} {F G:List HP} {sz:Nat} {s:Sl} {xs ys:List Value}
theorem Hp.A5 {l:List HP} (h:Hp E w (l++F)):Hp E w F:=by
 induction l with
 |nil=>exact h
 |cons A l ih=>exact ih h.drop
theorem ah.app {φ:World→Prop} (l:List HP) (ht:ah F φ):ah (l++F) φ:=by
 induction l with
 |nil=>exact ht
 |cons A l ih=>exact ih.cons
theorem bQ.J0 {lo hi mx:Int} {K:Sl→Prop} (hl:xs.length=s.len*sz) (h0:0≤lo) (h1:lo≤hi) (h2:hi≤(s.len:Int)) (h3:hi≤mx) (h4:mx≤(s.cap:Int))
  (h: ∀s':Sl,(∀w',aQ sz s xs w'→aQ sz s' ((xs.drop (lo.toNat*sz)).take ((hi.toNat - lo.toNat)*sz)) w')→s'.len=hi.toNat - lo.toNat→s'.len≤s'.cap→K s'):bQ s lo hi mx sz K:=by
 refine ⟨h0,h1,h3,h4,h _ (fun w' hs'=> ?_) rfl (by simp only;omega)⟩
 have hm:hi.toNat*sz≤s.len*sz:=Nat.mul_le_mul_right _ (by omega)
 have hsub:(hi.toNat - lo.toNat)*sz=hi.toNat*sz - lo.toNat*sz:=Nat.sub_mul ..
 have hmono:lo.toNat*sz≤hi.toNat*sz:=Nat.mul_le_mul_right _ (by omega)
 have hlen:((xs.drop (lo.toNat*sz)).take ((hi.toNat - lo.toNat)*sz)).length=(hi.toNat - lo.toNat)*sz:=by
  rw [List.length_take,List.length_drop];omega
 refine ⟨hlen,fun i hi'=> ?_⟩
 rw [hlen] at hi'
 obtain ⟨p,hp,hcell⟩:=hs'.2 (lo.toNat*sz+i) (by omega)
 have hne:mx.toNat≠lo.toNat:=by
  intro e
  have:hi.toNat - lo.toNat=0:=by omega
  rw [this] at hi';omega
 refine ⟨p.add (lo.toNat*sz),by simp [hne,hp],?_⟩
 have:(p.add (lo.toNat*sz)).add i=p.add (lo.toNat*sz+i):=by
  unfold Addr.add
  by_cases e1:lo.toNat*sz=0<;>by_cases e2:i=0<;>simp [e1,e2,Nat.add_assoc]
 rw [this,hcell]
 simp
theorem au.sc {S:World→Prop} {s:Sc} {p:Addr} {K:s.T→Prop} (x:s.T) (hc: ∀w,S w→w.cell? p=some (s.enc x)) (h:K x):au (.sc s) p S K:=⟨x,hc,h⟩
theorem bQ.whole {b n:Nat} {hi mx:Int} {K:Sl→Prop} (hn:0<n) (h1:hi=(n:Int)) (h2:mx=(n:Int)) (h:K ⟨some ⟨b,0,none⟩,n,n⟩):bQ ⟨some ⟨b,0,none⟩,n,n⟩ 0 hi mx 1 K:=by
 subst h1;subst h2
 refine ⟨by omega,by omega,by omega,by simp,?_⟩
 have e:(if ((n:Int)).toNat=(0:Int).toNat then (some ⟨b,0,none⟩:Option Addr) else (some ⟨b,0,none⟩:Option Addr).map (·.add ((0:Int).toNat*1)))=some ⟨b,0,none⟩:=by
  rw [if_neg (by simp;omega)];simp [Addr.add]
 rw [e]
 simpa using h
end
section
variable {α:Type} {g:α→List Value} {sz:Nat} {l:List α}
theorem de (hg: ∀x,(g x).length=sz) (l:List α):(l.flatMap g).length=l.length*sz:=by
 induction l with
 |nil=>simp
 |cons x l ih=>rw [List.flatMap_cons,List.length_append,ih,hg,List.length_cons,Nat.succ_mul];omega
theorem AR (hg: ∀x,(g x).length=sz): ∀(l:List α) (n:Nat),(l.flatMap g).drop (n*sz)=(l.drop n).flatMap g
 |l,0=>by simp
 | [],n+1=>by simp
 |x::l,n+1=>by
  rw [List.drop_succ_cons,List.flatMap_cons,Nat.succ_mul,Nat.add_comm,←List.drop_drop,←hg x,List.drop_left,hg x]
  exact AR hg l n
theorem zW (hg: ∀x,(g x).length=sz): ∀(l:List α) (n:Nat),(l.flatMap g).take (n*sz)=(l.take n).flatMap g
 |l,0=>by simp
 | [],n+1=>by simp
 |x::l,n+1=>by
  rw [List.take_succ_cons,List.flatMap_cons,List.flatMap_cons,Nat.succ_mul,Nat.add_comm,List.take_append,hg x,List.take_of_length_le (by rw [hg x];omega),show sz+n*sz - sz=n*sz by omega,zW hg l n]
theorem mQ (hg: ∀x,(g x).length=sz): ∀(l:List α) (i j:Nat) (hi:i<l.length),j<sz→(l.flatMap g)[i*sz+j]? =(g l[i])[j]?
 |x::l,0,j,_,hj=>by rw [List.flatMap_cons,List.getElem?_append_left (by rw [hg];omega),Nat.zero_mul,Nat.zero_add];rfl
 |x::l,i+1,j,hi,hj=>by
  rw [List.flatMap_cons,List.getElem?_append_right (by rw [hg,Nat.succ_mul];omega),hg,show (i+1)*sz+j - sz=i*sz+j by rw [Nat.succ_mul];omega,mQ hg l i j (by simpa using hi) hj]
  rfl
end
section
variable {E w w':World} {F G:List HP} {sz:Nat} {s:Sl} {α:Type} {g:α→List Value} {l:List α}
theorem aT.el {i:Int} {n:Nat} {K:Addr→Prop} (hg: ∀x,(g x).length=sz) (hz:0<sz) (hs:aQ sz s (l.flatMap g) w) (hn:i=(n:Int)) (hi:n<l.length) (h: ∀p,(∀j,j<sz→w.cell? (p.add j)=(g l[n])[j]?)→K p):aT s i sz K:=by
 subst hn
 have hl:=hs.1
 rw [de hg] at hl
 have hle:l.length=s.len:=Nat.eq_of_mul_eq_mul_right hz hl
 refine aT.J0 hs hz (by omega) (by omega) fun p hp=>h p fun j hj=> ?_
 have e:=mQ hg l n j hi hj
 have hlt:n*sz+j<(l.flatMap g).length:=by
  rw [de hg]
  have:(n+1)*sz≤l.length*sz:=Nat.mul_le_mul_right _ hi
  rw [Nat.succ_mul] at this;omega
 rw [hp j (by rw [Int.toNat_natCast];exact hlt) hj]
 simp only [Int.toNat_natCast]
 rw [←e,List.getElem?_eq_getElem hlt]
theorem aQ.len (hg: ∀x,(g x).length=sz) (hz:0<sz) (hs:aQ sz s (l.flatMap g) w):s.len=l.length:=by
 have hl:=hs.1
 rw [de hg] at hl
 exact (Nat.eq_of_mul_eq_mul_right hz hl).symm
theorem bQ.el {lo hi mx:Int} {a b:Nat} {K:Sl→Prop} (hg: ∀x,(g x).length=sz) (hl:s.len=l.length) (ha:lo=(a:Int)) (hb:hi=(b:Int)) (h1:a≤b) (h2:b≤l.length) (h3:hi≤mx) (h4:mx≤(s.cap:Int))
  (h: ∀s':Sl,(∀w',aQ sz s (l.flatMap g) w'→aQ sz s' (((l.drop a).take (b - a)).flatMap g) w')→s'.len=b - a→s'.len≤s'.cap→K s'):bQ s lo hi mx sz K:=by
 subst ha;subst hb
 refine bQ.J0 (xs:=l.flatMap g) (by rw [de hg,hl]) (by omega) (by omega) (by omega) h3 h4 fun s' hs' hl' hc'=>h s' (fun w' hw'=> ?_) (by simpa using hl') hc'
 have:=hs' w' hw'
 simp only [Int.toNat_natCast] at this
 rw [AR hg,zW hg] at this
 exact this
theorem s8 {S:World→Prop} {p:Addr}: ∀{ks:List Sc} {i:Nat} {K:TT ks→Prop} (x:TT ks) (_: ∀w,S w→∀j (hj:j<(eV ks x).length),w.cell? (p.add (i+j))=some (eV ks x)[j]) (_:K x),Ax S p ks i K
 | [],_,_,_,_,h=>h
 |k::ks,i,K,(x,y),hc,h=>⟨x,fun w hw=>by have:=hc w hw 0 (by simp);simpa using this,s8 (ks:=ks) (i:=i+1) y (fun w hw j hj=>by
   have:=hc w hw (j+1) (by simp;omega)
   simpa [Nat.add_assoc,Nat.add_comm 1 j] using this) h⟩
theorem Ld.st {ks:List Sc} {p:Addr} {K:TT ks→Prop} (x:TT ks) (hc: ∀j,j<(eV ks x).length→w.cell? (p.add j)=(eV ks x)[j]?) (h:K x):Ld (.st ks) p w K:=
 s8 x (fun w' hw' j hj=>by
  have hw':w'=w:=hw'
  subst hw'
  rw [Nat.zero_add,hc j hj,List.getElem?_eq_getElem hj]) h
theorem Ld.FZ {ks:List Sc} {b:Nat} {cs:Array Value} {t:TypeId} {fr:Nat×Nat} {K:TT ks→Prop} (hh:Hp E w (ag b (.cells cs t fr)::F)) (x:TT ks) (hc:cs=⟨eV ks x⟩) (h:K x):Ld (.st ks) ⟨b,0,none⟩ w K:=by
 subst hc
 refine Ld.st x (fun j hj=> ?_) h
 rw [af,hh.cell];simp
theorem ad.go {b:Nat} {t:TypeId} {K:World→Prop}: ∀(vs:List Value) (i:Nat) (w:World) (c:Array Value),Hp E w (ag b (.cells c t (0,0))::F)→i+vs.length=c.size→(∀v∈vs,ay v=true)→
  (∀c' w',c'.toList=c.toList.take i++vs→Hp E w' (ag b (.cells c' t (0,0))::F)→K w')→ad ⟨b,0,none⟩ vs i w K
 | [],i,w,c,hh,hi,_,hK=>hK c w (by rw [List.append_nil,List.take_of_length_le (by simp;simp at hi;omega)]) hh
 |v::vs,i,w,c,hh,hi,hv,hK=>by
  have h1:=hv v (by simp)
  simp only [List.length_cons] at hi
  unfold ad
  rw [h1]
  have h2:=hh.setCell (i:=i) v
  refine ⟨?_,?_,?_⟩
  ·rw [af,hh.cell];simp;omega
  ·rw [af];simp [World.frozen?,hh.aB]
  ·rw [af,Nat.zero_add]
   refine ad.go vs (i+1) _ _ h2 (by simp;omega) (fun x hx=>hv x (List.mem_cons_of_mem _ hx)) fun c' w' e h3=>hK c' w' ?_ h3
   rw [e,Array.toList_setIfInBounds,List.take_add_one,List.take_set_of_le (by omega)]
   rw [List.getElem?_set_self (by simp;omega)]
   simp
theorem ad.aB {b:Nat} {c:Array Value} {t:TypeId} {vs:List Value} {K:World→Prop} (hh:Hp E w (ag b (.cells c t (0,0))::F)) (hi:vs.length=c.size) (hv: ∀v∈vs,ay v=true)
  (hK: ∀w',Hp E w' (ag b (.cells ⟨vs⟩ t (0,0))::F)→K w'):ad ⟨b,0,none⟩ vs 0 w K:=
 ad.go vs 0 w c hh (by omega) hv fun c' w' e h=>by
  have:c'=⟨vs⟩:=by apply Array.ext';simpa using e
  subst this
  exact hK w' h
end
end Go.Vc
namespace Go.Vc
open Go
section
variable {E w:World} {F:List HP} {A:HP}
theorem au.aB {S:World→Prop} {s:Sc} {b i:Nat} {c:Array Value} {t:TypeId} {fr:Nat×Nat} {K:s.T→Prop} (hS: ∀w,S w→∃G,Hp E w (ag b (.cells c t fr)::G)) (x:s.T) (hx:c[i]? =some (s.enc x)) (hk:K x):au (.sc s) ⟨b,i,none⟩ S K:=by
 refine au.sc x (fun w' hw=> ?_) hk
 obtain ⟨G,h⟩:=hS w' hw
 rw [h.cell];exact hx
theorem au.sub {S:World→Prop} {b n off:Nat} {pre bl post:List Value} {t:TypeId} {fr:Nat×Nat} {K:Array Value→Prop} (hS: ∀w,S w→∃G,Hp E w (ag b (.cells ⟨pre++bl++post⟩ t fr)::G)) (ho:pre.length=off) (hn:bl.length=n) (hK:K ⟨bl⟩):au (.arr n) ⟨b,off,none⟩ S K:=by
 refine ⟨⟨bl⟩,hn,fun w' hw i hi=> ?_,hK⟩
 obtain ⟨G,h⟩:=hS w' hw
 rw [af,h.cell]
 subst ho
 rw [List.getElem?_toArray,List.append_assoc,List.getElem?_append_right (by omega),List.getElem?_append_left (by omega),show pre.length+i - pre.length=i by omega]
 rw [List.getElem?_eq_getElem (by omega)]
 simp [show i<bl.length by omega]
theorem Ld.sub {b n off:Nat} {pre bl post:List Value} {t:TypeId} {fr:Nat×Nat} {K:Array Value→Prop} (h:Hp E w (ag b (.cells ⟨pre++bl++post⟩ t fr)::F)) (ho:pre.length=off) (hn:bl.length=n) (hK:K ⟨bl⟩):Ld (.arr n) ⟨b,off,none⟩ w K:=
 au.sub (E:=E) (fun w' hw=>⟨F,by rw [hw];exact h⟩) ho hn hK
end
def dw (n:Nat) (f:Nat→Int):Array Value:=⟨(List.range n).map fun j=> .int .i64 (f j)⟩
theorem dy {n:Nat} {f:Nat→Int}:(dw n f).size=n:=by simp [dw]
theorem r8 {n:Nat} {f:Nat→Int} {i:Nat} (h:i<n):(dw n f)[i]? =some (Sc.enc (.int .i64) (f i)):=by
 unfold dw
 rw [List.getElem?_toArray,List.getElem?_map,List.getElem?_range h];rfl
theorem oS {n:Nat} {f:Nat→Int} {i:Nat} {v:Int}:(dw n f).setIfInBounds i (.int .i64 v)=dw n fun j=>if j=i then v else f j:=by
 apply Array.ext_getElem?
 intro j
 rw [Array.getElem?_setIfInBounds]
 unfold dw
 simp only [List.getElem?_toArray,List.getElem?_map,List.size_toArray,List.length_map,List.length_range]
 by_cases hj:j<n
 ·rw [List.getElem?_range hj]
  by_cases e:i=j
  ·subst e;simp [hj]
  ·rw [if_neg e];simp [Ne.symm e]
 ·rw [List.getElem?_eq_none (by simpa using hj)]
  by_cases e:i=j
  ·subst e;simp [hj]
  ·simp [e]
theorem fO {n:Nat} {f g:Nat→Int} (h: ∀i,i<n→f i=g i):dw n f=dw n g:=by
 unfold dw
 congr 1
 exact List.map_congr_left fun j hj=>by rw [h j (by simpa using hj)]
theorem yM {off:Nat}: ∀(vs:List Value) (k:Nat) (pre bl post:List Value),bl.length=vs.length→pre.length=off+k→
  (vs.zipIdx k).foldl (fun (cs:Array Value) (x:Value×Nat)=>cs.setIfInBounds (off+x.2) x.1) ⟨pre++bl++post⟩=⟨pre++vs++post⟩
 | [],k,pre,bl,post,hm,_=>by
  have:bl= []:=List.length_eq_zero_iff.1 hm
  subst this;rfl
 |v::vs,k,pre,bl,post,hm,hp=>by
  obtain ⟨m,bl,rfl⟩: ∃m mid',bl=m::mid':=by
   cases bl with
   |nil=>simp at hm
   |cons m bl=>exact ⟨m,bl,rfl⟩
  rw [List.zipIdx_cons,List.foldl_cons]
  have e:(⟨pre++m::bl++post⟩:Array Value).setIfInBounds (off+k) v=⟨(pre++ [v])++bl++post⟩:=by
   rw [←hp]
   apply Array.ext'
   simp
  show ((vs.zipIdx (k+1)).foldl _ ((⟨pre++m::bl++post⟩:Array Value).setIfInBounds (off+k) v))=_
  rw [e,yM vs (k+1) (pre++ [v]) bl post (by simpa using hm) (by simp;omega)]
  simp
theorem gQ {place:Nat→Option (Nat×Nat)} {i off size:Nat} {v:Value} {rest:List (Nat×Value)} {pre bl post:List Value} (hpl:place i=some (off,size)) (ho:pre.length=off) (hm:bl.length=size) (hv:v.cells.size=size):
  Instr.fill place ⟨pre++bl++post⟩ ((i,v)::rest)=Instr.fill place ⟨pre++v.cells.toList++post⟩ rest:=by
 rw [Instr.fill,hpl]
 simp only
 rw [if_neg (by simp [hv];omega)]
 congr 1
 rw [←Array.foldl_toList,Array.toList_zipIdx]
 exact yM (off:=off) v.cells.toList 0 pre bl post (by simp [hm,hv]) (by omega)
end Go.Vc
namespace Go.Vc
open Go
class bj (b:Nat) (l:List HP) (c:outParam (Array Value)) (t:outParam TypeId) (fr:outParam (Nat×Nat)) (put:outParam (Obj→List HP)):Prop where
 perm: ∃r,l.Perm (ag b (.cells c t fr)::r)∧∀o,(ag b o::r).Perm (put o)
instance bj.head {b:Nat} {l:List HP} {c:Array Value} {t:TypeId} {fr:Nat×Nat}:bj b (ag b (.cells c t fr)::l) c t fr (fun o=>ag b o::l):=
 ⟨l,.refl _,fun _=> .refl _⟩
instance bj.tail {b:Nat} {A:HP} {l:List HP} {c:Array Value} {t:TypeId} {fr:Nat×Nat} {put:Obj→List HP} [h:bj b l c t fr put]:bj b (A::l) c t fr (fun o=>A::put o):=
 ⟨by
  obtain ⟨r,h1,h2⟩:=h.perm
  exact ⟨A::r,(h1.cons A).trans (.swap ..),fun o=>(List.Perm.swap ..).trans ((h2 o).cons A)⟩⟩
class u6 (n:Nat) (l:List HP) (A:outParam HP) (r:outParam (List HP)):Prop where
 perm:l.Perm (A::r)
instance u6.zero {A:HP} {l:List HP}:u6 0 (A::l) A l:=⟨.refl _⟩
instance u6.succ {n:Nat} {A B:HP} {l r:List HP} [h:u6 n l A r]:u6 (n+1) (B::l) A (B::r):=⟨(h.perm.cons B).trans (.swap ..)⟩
section
variable {E w:World} {l:List HP} {b i:Nat} {c:Array Value} {t:TypeId} {fr:Nat×Nat} {put:Obj→List HP}
theorem Hp.at {A:HP} {r:List HP} (h:Hp E w l) (n:Nat) [hn:u6 n l A r]:Hp E w (A::r):=h.perm hn.perm
theorem Hp.no {A:HP} {r:List HP} (h:Hp E w l) (n:Nat) [hn:u6 n l A r]:Hp E w r:=(h.perm hn.perm).drop
theorem ah.at {A:HP} {r:List HP} {φ:World→Prop} (n:Nat) [hn:u6 n l A r] (ht:ah (A::r) φ):ah l φ:=ht.perm hn.perm.symm
theorem Hp.fb [hf:bj b l c t fr put] (h:Hp E w l):w.heap[b]? =some (.cells c t fr):=by
 obtain ⟨r,h1,_⟩:=hf.perm
 exact (h.perm h1).aB
theorem Hp.fc [bj b l c t fr put] (h:Hp E w l):w.cell? ⟨b,i,none⟩=c[i]? :=by
 simp [World.cell?,h.fb]
def bm (b:Nat) (c:Array Value) (t:TypeId) (fr:Nat×Nat) (w:World):Prop:=w.heap[b]? =some (.cells c t fr)
theorem Hp.hb [bj b l c t fr put] (h:Hp E w l):bm b c t fr w:=h.fb
theorem bm.cell (h:bm b c t fr w):w.cell? ⟨b,i,none⟩=c[i]? :=by simp [World.cell?,show w.heap[b]? =_ from h]
def Sc.Eu:(s:Sc)→Value→Option s.T
 | .int k,.int k' n=>match k==k' with|true=>some n|false=>none
 | .bool,.bool b=>some b
 | .ptr,.pointer p=>some p
 | .sl,.slice b l c=>some ⟨b,l,c⟩
 | .str,.string s=>some s
 | .mp,.map m=>some m
 | .any,v=>some v
 | .addr,.pointer (some p)=>some p
 |_,_=>none
def tR:(l:List Sc)→List Value→Option (TT l)
 | [],_=>some ()
 |s::l,v::vs=>match s.Eu v,tR l vs with
  |some x,some y=>some (x,y)
  |_,_=>none
 |_::_,[]=>none
theorem Sc.Fa {s:Sc} {v:Value} {x:s.T} (h:s.Eu v=some x):v=s.enc x:=by
 cases s<;>cases v<;>simp only [Sc.Eu] at h<;>first|cases h;rfl|cases h|skip
 ·rename_i k k' n
  by_cases e:k=k'
  ·subst e;simp at h;subst h;rfl
  ·have:(k==k')=false:=by simpa using e
   rw [this] at h;cases h
 ·rename_i p
  cases p with
  |none=>cases h
  |some p=>simp only [Option.some.injEq] at h;subst h;rfl
theorem vb: ∀{l:List Sc} {vs:List Value} {x:TT l},tR l vs=some x→∃r,vs=eV l x++r
 | [],vs,(),_=>⟨vs,rfl⟩
 |s::l,v::vs,(x,y),h=>by
  simp only [tR] at h
  split at h
  ·rename_i x' y' hx hy
   simp only [Option.some.injEq,Prod.mk.injEq] at h
   obtain ⟨rfl,rfl⟩:=h
   obtain ⟨r,e⟩:=vb hy
   exact ⟨r,by rw [e,Sc.Fa hx];rfl⟩
  ·cases h
 |_::_,[],_,h=>by cases h
class k7 (l F:List HP):Prop where
 sub: ∃p,l=p++F
instance k7.refl {F:List HP}:k7 F F:=⟨[],rfl⟩
instance k7.cons {A:HP} {l F:List HP} [h:k7 l F]:k7 (A::l) F:=⟨by obtain ⟨p,e⟩:=h.sub;exact ⟨A::p,by rw [e];rfl⟩⟩
theorem Hp.tl {F:List HP} [h2:k7 l F] (h:Hp E w l):Hp E w F:=by
 obtain ⟨p,e⟩:=h2.sub
 subst e;exact h.A5
theorem dx {α β:Type} {K:α→β→Prop} {a a':α} {w:β} (e:a=a') (h:K a' w):K a w:=e▸h
theorem aa.yes {b:Bool} {X Y:Prop} (k:X) (h:b=true:=by with_reducible first|rfl|exact decide_eq_true (by omega)|exact beq_iff_eq.2 (by omega)|exact bne_iff_ne.2 (by omega)|exact Bool.not_false|exact Bool.not_eq_true' _▸decide_eq_false (by omega)):aa b X Y:=aa.t h k
theorem aa.no {b:Bool} {X Y:Prop} (k:Y) (h:b=false:=by with_reducible first|rfl|exact decide_eq_false (by omega)|exact beq_eq_false_iff_ne.2 (by omega)|exact bne_eq_false_iff_eq.2 (by omega)|exact Bool.not_true|exact Bool.not_eq_false' _▸decide_eq_true (by omega)):aa b X Y:=aa.f h k
theorem aa.dt {p:Prop} [Decidable p] {X Y:Prop} (hp:p) (h:X):aa (decide p) X Y:=aa.t (decide_eq_true hp) h
theorem aa.df {p:Prop} [Decidable p] {X Y:Prop} (hp: ¬p) (h:Y):aa (decide p) X Y:=aa.f (decide_eq_false hp) h
theorem aa.Gb {p:Prop} [Decidable p] {X Y:Prop} (hp:p) (h:Y):aa (!decide p) X Y:=aa.f (by rw [decide_eq_true hp];rfl) h
theorem aa.vG {X Y:Prop} (h:Y):aa (!true) X Y:=h
theorem aa.F9 {X Y:Prop} (h:X):aa (!false) X Y:=h
theorem aa.et {a b:Int} {X Y:Prop} (hp:a=b) (h:X):aa (a==b) X Y:=aa.t (beq_iff_eq.2 hp) h
theorem aa.ef {a b:Int} {X Y:Prop} (hp: ¬a=b) (h:Y):aa (a==b) X Y:=aa.f (beq_eq_false_iff_ne.2 hp) h
theorem aa.nt {a b:Int} {X Y:Prop} (hp: ¬a=b) (h:X):aa (a !=b) X Y:=aa.t (bne_iff_ne.2 hp) h
theorem aa.nf {a b:Int} {X Y:Prop} (hp:a=b) (h:Y):aa (a !=b) X Y:=aa.f (bne_eq_false_iff_eq.2 hp) h
theorem aa.dm {p:Prop} [Decidable p] {X Y:Prop} (h1:p→X) (h2: ¬p→Y):aa (decide p) X Y:=aa.mk (fun h=>h1 (of_decide_eq_true h)) (fun h=>h2 (of_decide_eq_false h))
theorem aa.em {a b:Int} {X Y:Prop} (h1:a=b→X) (h2: ¬a=b→Y):aa (a==b) X Y:=aa.mk (fun h=>h1 (beq_iff_eq.1 h)) (fun h=>h2 (beq_eq_false_iff_ne.1 h))
theorem aa.nm {a b:Int} {X Y:Prop} (h1: ¬a=b→X) (h2:a=b→Y):aa (a !=b) X Y:=aa.mk (fun h=>h1 (bne_iff_ne.1 h)) (fun h=>h2 (bne_eq_false_iff_eq.1 h))
theorem au.xb {S:World→Prop} {s:Sc} {K:s.T→Prop} {x:s.T} (hS: ∀w,S w→bm b c t fr w) (hx:c.toList[i]? =some (s.enc x)) (hK:K x):au (.sc s) ⟨b,i,none⟩ S K:=
 ⟨x,fun w hw=>by rw [(hS w hw).cell];rw [←hx];simp,hK⟩
theorem au.xt {S:World→Prop} {ks:List Sc} {K:TT ks→Prop} {x:TT ks} (hS: ∀w,S w→bm b c t fr w) (hx:tR ks (c.toList.drop i)=some x) (hK:K x):au (.st ks) ⟨b,i,none⟩ S K:=by
 obtain ⟨r,e⟩:=vb hx
 refine s8 x (fun w hw j hj=> ?_) hK
 rw [Nat.zero_add,af,(hS w hw).cell]
 have h1:(c.toList.drop i)[j]? =(eV ks x)[j]? :=by rw [e,List.getElem?_append_left hj]
 rw [List.getElem?_drop,List.getElem?_eq_getElem hj] at h1
 rw [←h1];simp
theorem au.xa {S:World→Prop} {n:Nat} {bl post:List Value} {K:Array Value→Prop} (hS: ∀w,S w→bm b c t fr w) (hx:c.toList.drop i=bl++post) (hn:bl.length=n) (hK:K ⟨bl⟩):au (.arr n) ⟨b,i,none⟩ S K:=by
 refine ⟨⟨bl⟩,hn,fun w hw j hj=> ?_,hK⟩
 rw [af,(hS w hw).cell]
 have h1:(c.toList.drop i)[j]? =bl[j]? :=by rw [hx,List.getElem?_append_left (by omega)]
 rw [List.getElem?_drop] at h1
 rw [show c[i+j]? =c.toList[i+j]? by simp,h1]
 simp [show j<bl.length by omega]
theorem Ld.xb {s:Sc} {K:s.T→Prop} {x:s.T} [bj b l c t fr put] (h:Hp E w l) (hx:c.toList[i]? =some (s.enc x)) (hK:K x):Ld (.sc s) ⟨b,i,none⟩ w K:=au.xb (fun w' hw=>by rw [hw];exact h.fb) hx hK
theorem Ld.xt {ks:List Sc} {K:TT ks→Prop} {x:TT ks} [bj b l c t fr put] (h:Hp E w l) (hx:tR ks (c.toList.drop i)=some x) (hK:K x):Ld (.st ks) ⟨b,i,none⟩ w K:=au.xt (fun w' hw=>by rw [hw];exact h.fb) hx hK
theorem Ld.xa {n:Nat} {bl post:List Value} {K:Array Value→Prop} [bj b l c t fr put] (h:Hp E w l) (hx:c.toList.drop i=bl++post) (hn:bl.length=n) (hK:K ⟨bl⟩):Ld (.arr n) ⟨b,i,none⟩ w K:=au.xa (fun w' hw=>by rw [hw];exact h.fb) hx hn hK
theorem Ld.xw {n:Nat} {K:Array Value→Prop} [bj b l c t fr put] (h:Hp E w l) (hn:c.size=n) (hK:K c):Ld (.arr n) ⟨b,0,none⟩ w K:=
 Ld.xa (bl:=c.toList) (post:= []) h (by simp) (by simpa using hn) (by simpa using hK)
theorem au.xw {S:World→Prop} {n:Nat} {K:Array Value→Prop} (hS: ∀w,S w→bm b c t fr w) (hn:c.size=n) (hK:K c):au (.arr n) ⟨b,0,none⟩ S K:=
 au.xa (bl:=c.toList) (post:= []) hS (by simp) (by simpa using hn) (by simpa using hK)
theorem ad.La {b:Nat} {t:TypeId} {F:List HP} {K:World→Prop}: ∀(vs:List Value) (i o:Nat) (w:World) (c:Array Value),Hp E w (ag b (.cells c t (0,0))::F)→o+i+vs.length≤c.size→(∀v∈vs,ay v=true)→
  (∀c' w',c'.toList=c.toList.take (o+i)++vs++c.toList.drop (o+i+vs.length)→Hp E w' (ag b (.cells c' t (0,0))::F)→K w')→ad ⟨b,o,none⟩ vs i w K
 | [],i,o,w,c,hh,hi,_,hK=>hK c w (by simp) hh
 |v::vs,i,o,w,c,hh,hi,hv,hK=>by
  have h1:=hv v (by simp)
  simp only [List.length_cons] at hi
  unfold ad
  rw [h1]
  have h2:=hh.setCell (i:=o+i) v
  refine ⟨?_,?_,?_⟩
  ·rw [af,hh.cell];simp;omega
  ·rw [af];simp [World.frozen?,hh.aB]
  ·rw [af]
   refine ad.La vs (i+1) o _ _ h2 (by simp;omega) (fun x hx=>hv x (List.mem_cons_of_mem _ hx)) fun c' w' e h3=>hK c' w' ?_ h3
   rw [e,Array.toList_setIfInBounds,show o+(i+1)=o+i+1 by omega,List.take_add_one,List.take_set_of_le (by omega)]
   rw [List.getElem?_set_self (by simp;omega)]
   rw [List.drop_set_of_lt (by omega),List.length_cons]
   simp only [Option.toList_some,List.append_assoc,List.cons_append,List.nil_append]
   rw [show o+i+1+vs.length=o+i+(vs.length+1) by omega]
theorem ad.xm {o:Nat} {vs pre bl post:List Value} {K:World→Prop} [hf:bj b l c t (0,0) put] (h:Hp E w l) (hc:c.toList=pre++(bl++post)) (ho:pre.length=o) (hn:bl.length=vs.length) (hv:vs.all ay=true)
  (hK: ∀w',Hp E w' (put (.cells ⟨pre++(vs++post)⟩ t (0,0)))→K w'):ad ⟨b,o,none⟩ vs 0 w K:=by
 obtain ⟨r,h1,h2⟩:=hf.perm
 have hs:c.size=pre.length+(bl.length+post.length):=by rw [←Array.length_toList,hc];simp
 refine ad.La vs 0 o w c (h.perm h1) (by omega) (List.all_eq_true.1 hv) fun c' w' e h'=>hK w' ?_
 have:c'=⟨pre++(vs++post)⟩:=by
  apply Array.ext'
  rw [e,hc,Nat.add_zero,←ho,List.take_left,←hn,←List.length_append,←List.append_assoc,List.drop_left,List.append_assoc]
 rw [this] at h'
 exact h'.perm (h2 _)
theorem ad.xw {vs:List Value} {K:World→Prop} [hf:bj b l c t (0,0) put] (h:Hp E w l) (hn:vs.length=c.size) (hv:vs.all ay=true)
  (hK: ∀w',Hp E w' (put (.cells ⟨vs⟩ t (0,0)))→K w'):ad ⟨b,0,none⟩ vs 0 w K:=
 ad.xm (pre:= []) (bl:=c.toList) (post:= []) h (by simp) rfl (by simpa using hn.symm) hv (by simpa using hK)
theorem St.xb {o:Nat} {v:Value} {K:World→Prop} [hf:bj b l c t (0,0) put] (h:Hp E w l) (hi:o<c.size) (hv:ay v=true)
  (hK: ∀w',Hp E w' (put (.cells (c.setIfInBounds o v) t (0,0)))→K w'):St ⟨b,o,none⟩ v w K:=by
 obtain ⟨r,h1,h2⟩:=hf.perm
 exact St.mk rfl (h.perm h1) hi hv fun w' h'=>hK w' (h'.perm (h2 _))
theorem St.xm {o:Nat} {v u:Value} {pre post:List Value} {K:World→Prop} [hf:bj b l c t (0,0) put] (h:Hp E w l) (hc:c.toList=pre++(u::post)) (ho:pre.length=o) (hv:ay v=true)
  (hK: ∀w',Hp E w' (put (.cells ⟨pre++(v::post)⟩ t (0,0)))→K w'):St ⟨b,o,none⟩ v w K:=by
 refine St.xb h ?_ hv fun w' h'=>hK w' ?_
 ·rw [←Array.length_toList,hc];simp;omega
 ·have:c.setIfInBounds o v=⟨pre++(v::post)⟩:=by
   apply Array.ext'
   rw [Array.toList_setIfInBounds,hc,←ho]
   simp
  rwa [this] at h'
def aq:List Value→List Value→List Value
 | [],l=>l
 |_::_,[]=> []
 |v::vs,_::l=>v::aq vs l
def aM:List Value→Nat→List Value→List Value
 |l,0,vs=>aq vs l
 |a::l,o+1,vs=>a::aM l o vs
 | [],_+1,_=> []
theorem As: ∀{l vs:List Value},vs.length≤l.length→aq vs l=vs++l.drop vs.length
 |_,[],_=>rfl
 | [],_::_,h=>by simp at h
 |a::l,v::vs,h=>by
  rw [aq,As (by simpa using h)];rfl
theorem wO: ∀{l:List Value} {o:Nat} {vs:List Value},o+vs.length≤l.length→aM l o vs=l.take o++(vs++l.drop (o+vs.length))
 |l,0,vs,h=>by
  have:aM l 0 vs=aq vs l:=by cases l<;>rfl
  rw [this,As (by omega)];simp
 |a::l,o+1,vs,h=>by
  rw [aM,wO (by simp at h;omega),show o+1+vs.length=o+vs.length+1 by omega];rfl
 | [],o+1,vs,h=>by simp at h
theorem ad.xs {o:Nat} {vs:List Value} {K:World→Prop} [hf:bj b l c t (0,0) put] (h:Hp E w l) (hb:Nat.ble (o+vs.length) c.toList.length=true) (hv:vs.all ay=true)
  (hK: ∀w',Hp E w' (put (.cells ⟨aM c.toList o vs⟩ t (0,0)))→K w'):ad ⟨b,o,none⟩ vs 0 w K:=by
 have hb:=Nat.le_of_ble_eq_true hb
 rw [wO hb] at hK
 refine ad.xm (bl:=(c.toList.drop o).take vs.length) h ?_ (by simp;simp at hb;omega) (by simp;simp at hb;omega) hv hK
 rw [←List.drop_drop,List.take_append_drop,List.take_append_drop]
theorem St.xs {o:Nat} {v:Value} {K:World→Prop} [hf:bj b l c t (0,0) put] (h:Hp E w l) (hb:Nat.ble (o+1) c.toList.length=true) (hv:ay v=true)
  (hK: ∀w',Hp E w' (put (.cells ⟨aM c.toList o [v]⟩ t (0,0)))→K w'):St ⟨b,o,none⟩ v w K:=by
 have hb:=Nat.le_of_ble_eq_true hb
 have hb2:o<c.toList.length:=by omega
 rw [wO (by simpa using hb)] at hK
 refine St.xm (u:=c.toList[o]'hb2) (pre:=c.toList.take o) (post:=c.toList.drop (o+1)) h ?_ (by simp;simp at hb;omega) hv (by simpa using hK)
 rw [List.getElem_cons_drop,List.take_append_drop]
theorem aj.xm {n o:Nat} {cs:Array Value} {pre bl post:List Value} {K:World→Prop} [hf:bj b l c t (0,0) put] (h:Hp E w l) (hc:c.toList=pre++(bl++post)) (ho:pre.length=o) (hn:bl.length=n) (hcs:cs.size=n) (hv: ∀v∈cs.toList,ay v=true)
  (hK: ∀w',Hp E w' (put (.cells ⟨pre++(cs.toList++post)⟩ t (0,0)))→K w'):aj n ⟨b,o,none⟩ cs w K:=by
 obtain ⟨r,h1,h2⟩:=hf.perm
 have hh:=h.perm h1
 have hs:c.size=pre.length+(bl.length+post.length):=by rw [←Array.length_toList,hc];simp
 refine ⟨hcs,fun i hi=>⟨?_,?_,?_⟩,?_⟩
 ·have:cs.getD i undef∈cs.toList:=by simp [Array.getD,hcs,hi]
  exact hv _ this
 ·rw [af,hh.cell];simp;omega
 ·rw [af];simp [World.frozen?,hh.aB]
 ·have key: ∀(vs:List Value) (i:Nat) (w:World) (c:Array Value),Hp E w (ag b (.cells c t (0,0))::r)→o+i+vs.length≤c.size→
    Hp E (aj.setRow w ⟨b,o,none⟩ vs i) (ag b (.cells ⟨c.toList.take (o+i)++vs++c.toList.drop (o+i+vs.length)⟩ t (0,0))::r):=by
   intro vs
   induction vs with
   |nil=>intro i w c hh hi;simpa [aj.setRow] using hh
   |cons v vs ih=>
    intro i w c hh hi
    simp only [List.length_cons] at hi
    have h2:=hh.setCell (i:=o+i) v
    have:=ih (i+1) _ _ h2 (by simp;omega)
    unfold aj.setRow
    rw [af]
    rw [Array.toList_setIfInBounds,show o+(i+1)=o+i+1 by omega,List.take_add_one,List.take_set_of_le (by omega),List.getElem?_set_self (by simp;omega),List.drop_set_of_lt (by omega)] at this
    rw [List.length_cons,show o+i+(vs.length+1)=o+i+1+vs.length by omega]
    simpa using this
  have:=key cs.toList 0 w c hh (by rw [Array.length_toList];omega)
  refine hK _ ((this.perm (h2 _)).perm (by
   rw [hc,Nat.add_zero,←ho,List.take_left,show cs.toList.length=bl.length by simp;omega,←List.length_append,←List.append_assoc,List.drop_left,List.append_assoc]))
theorem aj.xw {n:Nat} {cs:Array Value} {K:World→Prop} [hf:bj b l c t (0,0) put] (h:Hp E w l) (hn:c.size=n) (hcs:cs.size=n) (hv: ∀v∈cs.toList,ay v=true)
  (hK: ∀w',Hp E w' (put (.cells cs t (0,0)))→K w'):aj n ⟨b,0,none⟩ cs w K:=
 aj.xm (pre:= []) (bl:=c.toList) (post:= []) h (by simp) rfl (by simpa using hn) hcs hv (by simpa using hK)
end
end Go.Vc
namespace Go.Vc
open Go
section
variable {E w:World} {l:List HP} {b n k o:Nat} {L r:List Value} {t:TypeId} {fr:Nat×Nat} {put:Obj→List HP}
theorem jK (hL:L.length=n):(L++r)[k+n]? =r[k]? :=by
 rw [List.getElem?_append_right (by omega)]
 congr 1;omega
theorem AQ: ∀{L r:List Value} {n k:Nat} {vs:List Value},L.length=n→aM (L++r) (k+n) vs=L++aM r k vs
 | [],r,n,k,vs,h=>by
  have:n=0:=by simpa using h.symm
  subst this;rfl
 |a::L,r,n,k,vs,h=>by
  obtain ⟨m,rfl⟩: ∃m,n=m+1:=⟨L.length,by simpa using h.symm⟩
  rw [show k+(m+1)=(k+m)+1 by omega,List.cons_append,aM,AQ (by simpa using h)]
  rfl
theorem au.q {S:World→Prop} {s:Sc} {K:s.T→Prop} {x:s.T} (hS: ∀w,S w→bm b ⟨L++r⟩ t fr w) (hL:L.length=n) (ho:o=k+n) (hx:r[k]? =some (s.enc x)) (hK:K x):au (.sc s) ⟨b,o,none⟩ S K:=by
 subst ho
 exact au.xb hS ((jK hL).trans hx) hK
theorem Ld.q {s:Sc} {K:s.T→Prop} {x:s.T} [bj b l ⟨L++r⟩ t fr put] (h:Hp E w l) (hL:L.length=n) (ho:o=k+n) (hx:r[k]? =some (s.enc x)) (hK:K x):Ld (.sc s) ⟨b,o,none⟩ w K:=
 au.q (fun w' hw=>by rw [hw];exact h.fb) hL ho hx hK
theorem au.p {S:World→Prop} {K:Array Value→Prop} (hS: ∀w,S w→bm b ⟨L++r⟩ t fr w) (hL:L.length=n) (hK:K ⟨L⟩):au (.arr n) ⟨b,0,none⟩ S K:=
 au.xa (bl:=L) (post:=r) hS rfl hL hK
theorem Ld.p {K:Array Value→Prop} [bj b l ⟨L++r⟩ t fr put] (h:Hp E w l) (hL:L.length=n) (hK:K ⟨L⟩):Ld (.arr n) ⟨b,0,none⟩ w K:=
 au.p (fun w' hw=>by rw [hw];exact h.fb) hL hK
theorem Ld.qw {m:Nat} {K:Array Value→Prop} [bj b l ⟨L++r⟩ t fr put] (h:Hp E w l) (hL:L.length=n) (hm:n+r.length=m) (hK:K ⟨L++r⟩):Ld (.arr m) ⟨b,0,none⟩ w K:=
 Ld.xw h (by simp [hL,hm]) hK
theorem au.qw {S:World→Prop} {m:Nat} {K:Array Value→Prop} (hS: ∀w,S w→bm b ⟨L++r⟩ t fr w) (hL:L.length=n) (hm:n+r.length=m) (hK:K ⟨L++r⟩):au (.arr m) ⟨b,0,none⟩ S K:=
 au.xw hS (by simp [hL,hm]) hK
theorem St.q {v:Value} {K:World→Prop} [bj b l ⟨L++r⟩ t (0,0) put] (h:Hp E w l) (hL:L.length=n) (ho:o=k+n) (hb:Nat.ble (k+1) r.length=true) (hv:ay v=true)
  (hK: ∀w',Hp E w' (put (.cells ⟨L++aM r k [v]⟩ t (0,0)))→K w'):St ⟨b,o,none⟩ v w K:=by
 subst ho
 have hb':=Nat.le_of_ble_eq_true hb
 refine St.xs h (Nat.ble_eq_true_of_le (by simp;omega)) hv fun w' h'=>hK w' ?_
 rw [show (⟨L++r⟩:Array Value).toList=L++r from rfl,AQ hL] at h'
 exact h'
theorem aj.q {m:Nat} {cs:Array Value} {c:Array Value} {K:World→Prop} [bj b l c t (0,0) put] (h:Hp E w l) (hc:c.size=m) (hcs:cs.size=m) (hv:cs.toList.all ay=true)
  (hK: ∀w',Hp E w' (put (.cells cs t (0,0)))→K w'):aj m ⟨b,0,none⟩ cs w K:=aj.xw h hc hcs (List.all_eq_true.1 hv) hK
theorem St.g {v:Value} {K:World→Prop} [bj b l ⟨L++r⟩ t (0,0) put] (h:Hp E w l) (ho:o<L.length) (hv:ay v=true)
  (hK: ∀w',Hp E w' (put (.cells ⟨L.set o v++r⟩ t (0,0)))→K w'):St ⟨b,o,none⟩ v w K:=by
 refine St.xb h (by simp;omega) hv fun w' h'=>hK w' ?_
 have:(⟨L++r⟩:Array Value).setIfInBounds o v=⟨L.set o v++r⟩:=by
  apply Array.ext'
  rw [Array.toList_setIfInBounds,List.set_append_left _ _ ho]
 rwa [this] at h'
theorem Ld.g {s:Sc} {K:s.T→Prop} {x:s.T} [bj b l ⟨L++r⟩ t fr put] (h:Hp E w l) (hx:L[o]? =some (s.enc x)) (hK:K x):Ld (.sc s) ⟨b,o,none⟩ w K:=by
 refine Ld.xb h ?_ hK
 have:o<L.length:=by
  rcases Nat.lt_or_ge o L.length with h|h
  ·exact h
  ·rw [List.getElem?_eq_none h] at hx;cases hx
 rw [show (⟨L++r⟩:Array Value).toList=L++r from rfl,List.getElem?_append_left this,hx]
end
end Go.Vc
namespace Go.Vc
open Go
section
variable {P:Program} {E w:World} {l:List HP} {b o:Nat} {c:Array Value} {t:TypeId} {fr:Nat×Nat} {put:Obj→List HP}
theorem Hp.Hu {F:List HP} {cs:Array Value} {fr:Nat×Nat} (h:Hp E w (ag b (.cells c t fr)::F)):Hp E (w.setRow b cs) (ag b (.cells cs t fr)::F):=by
 have hb:=h.aB
 refine h.setObj (o':= .cells cs t fr) ?_ rfl rfl rfl
 apply Array.ext_getElem?
 intro r
 have hlt:b<w.heap.size:=by
  rcases Nat.lt_or_ge b w.heap.size with hh|hh
  ·exact hh
  ·simp [Array.getElem?_eq_none hh] at hb
 simp only [World.setRow,Array.getElem?_modify,Array.set!_eq_setIfInBounds,Array.getElem?_setIfInBounds]
 by_cases hr:b=r
 ·subst hr
  have hv:w.heap[b]= .cells c t fr:=by simpa [hlt] using hb
  simp [hlt,hv]
 ·simp [hr]
theorem kR {dT sT ty e:TypeId} {dLen dCap:Nat} {s:Sl} {ys:List Value} {K:Int→World→Prop} [hf:bj b l c t (0,0) put] (hu:P.underlying dT=some (.slice e)) (hs:(P.info? e).map (·.size)=some 1)
  (h:Hp E w l) (hsrc:aQ 1 s ys w) (hsc: ∀v∈ys,ay v=true) (hfit:o+dLen≤c.size)
  (hK: ∀w',Hp E w' (put (.cells ⟨c.toList.take o++(ys.take dLen++c.toList.drop (o+min ys.length dLen))⟩ t (0,0)))→K ((min ys.length dLen:Nat):Int) w'):
  aw P (Builtin.copy_ #[dT,sT] ty ⟨[.slice (some ⟨b,o,none⟩) dLen dCap,.slice s.base s.len s.cap]⟩) kI w K:=by
 have hl:=hsrc.1
 rw [Nat.mul_one] at hl
 obtain ⟨r,h1,h2⟩:=hf.perm
 have hh:=h.perm h1
 unfold aw
 by_cases h0:min ys.length dLen=0
 ·rw [show (⟨[.slice (some ⟨b,o,none⟩) dLen dCap,.slice s.base s.len s.cap]⟩:Array Value)= #[.slice (some ⟨b,o,none⟩) dLen dCap,.slice s.base s.len s.cap] from rfl,run_copy_none (P:=P) w dT sT ty e _ _ _ _ _ _ hu hs (by rw [←hl];exact h0)]
  have hk:=hK w
  rw [h0] at hk
  have e1:ys.take dLen= []:=by
   rcases Nat.eq_zero_or_pos dLen with hd|hd
   ·rw [hd];rfl
   ·have:ys= []:=List.length_eq_zero_iff.1 (by omega)
    rw [this];simp
  rw [e1,List.nil_append,Nat.add_zero,List.take_append_drop] at hk
  exact hk (hh.perm (by have:=h2 (.cells c t (0,0));simpa using this))
 ·have hpos:0<ys.length:=by omega
  obtain ⟨p,hp,_⟩:=hsrc.2 0 hpos
  rw [hp]
  have hmin:(ys.take dLen).length=Nat.min s.len dLen:=by
   rw [List.length_take,←hl,Nat.min_comm]
  have:=run_copy_row (P:=P) w dT sT ty e b o dLen dCap p s.len s.cap c t (ys.take dLen) hu hs hh.aB hmin (fun j v hv=> ?_) (by
   rw [List.length_take];omega) (fun v hv=>lQ (hsc v (List.mem_of_mem_take hv)))
  ·rw [show (⟨[.slice (some ⟨b,o,none⟩) dLen dCap,.slice (some p) s.len s.cap]⟩:Array Value)= #[.slice (some ⟨b,o,none⟩) dLen dCap,.slice (some p) s.len s.cap] from rfl,this]
   have hlen:(ys.take dLen).length=min ys.length dLen:=by rw [List.length_take,Nat.min_comm]
   rw [hlen,List.append_assoc]
   exact hK _ ((hh.Hu).perm (h2 _))
  ·have hj:j<(ys.take dLen).length:=by
    rcases Nat.lt_or_ge j (ys.take dLen).length with h|h
    ·exact h
    ·rw [List.getElem?_eq_none h] at hv;cases hv
   rw [List.length_take] at hj
   obtain ⟨p',hp',hc⟩:=hsrc.2 j (by omega)
   rw [hp] at hp'
   cases hp'
   rw [hc]
   rw [List.getElem?_take_of_lt (by omega),List.getElem?_eq_getElem (by omega)] at hv
   exact hv
end
end Go.Vc
namespace Go.Proofs.YtgglghjnakclmaaGreat
open Go Go.Vc
set_option maxRecDepth 100000
theorem yZ.ok (a:Sl) (R:Sl→World→Prop) w (h:
 aa (Option.isNone (a).base)
 (R (⟨none,0,0⟩:Sl) w)
 (Nw 5 ⟨[]⟩ w fun c b=>
 aw Pg (Builtin.append_ #[26,26] 26 ⟨[(ar (⟨some ⟨c,0,none⟩,0,0⟩:Sl)),(ar a)]⟩) kS b fun (e:Sl) d=>
 R e d)):Cl Pg [kS] lB ⟨[(ar a)]⟩ w R:=co Tryz.f204 [] h
theorem xM.ok (a:Sl) (b:Int) (R:Sl→World→Prop) w (h:
 aa (b==0)
 (Nw 5 ⟨[]⟩ w fun d c=>
 R (⟨some ⟨d,0,none⟩,0,0⟩:Sl) c)
 (aR (fun (g:World)=>
 Cl Pg [(ak .u64),(ak .u64)] jU ⟨[(.int .u64 (u64 (a.len:Int))),(.int .u64 (u64 b))]⟩ g fun (i:Int) (j:Int) h=>
 aR (fun (n:World)=>
 aa ((a.len:Int)==0)
 (Nw 5 ⟨[]⟩ n fun p o=>
 R (⟨some ⟨p,0,none⟩,0,0⟩:Sl) o)
 (aR (fun (r:Int) (s:World)=>
 Ext Pg cf ⟨[(ni (i64 j))]⟩ [kS] s fun (u:Sl) t=>
 bQ u 0 (i64 j) (i64 j) 1 fun v=>
 aw Pg (Builtin.copy_ #[26,26] 3 ⟨[(ar v),(ar a)]⟩) kI t fun (y:Int) x=>
 fx y x fun z a1 (b1:Int) c1=>
 aa (decide (b1<(i64 j)))
 (aU c1 fun d1=>
 bQ v b1 (v).len (v).cap 1 fun e1=>
 bQ v 0 (if r<b1 then r else b1) (v).cap 1 fun f1=>
 aw Pg (Builtin.copy_ #[26,26] 3 ⟨[(ar e1),(ar f1)]⟩) kI d1 fun (h1:Int) g1=>
 z (i64 (b1+h1)) g1∧a1 (i64 (b1+h1)) g1<a1 b1 c1)
 (R v c1)) fun q=>
 aa (decide ((i64 j)>8192))
 ((a.len:Int)≠0∧
 aa ((i64 ((i64 (Int.tdiv (8192:Int) (a.len:Int)))*(a.len:Int)))==0)
 (q (a.len:Int) n)
 (q (i64 ((i64 (Int.tdiv (8192:Int) (a.len:Int)))*(a.len:Int))) n))
 (q (i64 j) n))) fun k=>
 aa (decide (i>0))
 (False)
 (aa (decide (j>9223372036854775807))
 (False)
 (k h))) fun e=>
 aa (decide (b<0))
 (False)
 (e w))):Cl Pg [kS] kd ⟨[(ar a),(ni b)]⟩ w R:=co Tryz.f292 [(7,[]),(13,[]),(26,[(8,kI)]),(39,[(10,kI)])] h
end Go.Proofs.YtgglghjnakclmaaGreat
namespace Go.Vc
open Go
section
variable {E w:World} {F:List HP}
end
end Go.Vc
namespace Go.Proofs.YtgglghjnakclmaaGreat
open Go Go.Vc
section
variable {E w:World} {F:List HP}
theorem BQ:fm Tryz.prog 26 5 1 1:=fm.of (by kernel_rfl) (by kernel_rfl)
theorem Hj {s:Sl} {bs:List Nat} {K:Sl→World→Prop} (h:Hp E w F) (hs:ah F (aQ 1 s (bs.map vB))) (hb:bs.length≤2*eP) (hK: ∀s' w',Hp E w' (aC 1 s' (bs.map vB)::F)→K s' w'):
  Cl Tryz.prog [kS] lB ⟨[.slice s.base s.len s.cap]⟩ w K:=by
 refine yZ.ok _ _ _ ?_
 have hl:bs.length=s.len:=by have:=(h.ao hs).1;simpa using this
 rw [bX] at hb
 cases hsb:s.base with
 |none=>
  have:bs= []:=by
   cases bs with
   |nil=>rfl
   |cons x bs=>
    obtain ⟨p,hp,_⟩:=(h.ao hs).2 0 (by simp)
    rw [hsb] at hp;cases hp
  subst this
  exact aa.t rfl (hK _ _ (h.bf 1))
 |some p=>
  refine aa.f rfl (Nw.mk h fun b w h=> ?_)
  have h2:=Hp.nX (n:=0) (sz:=1) h (by simp)
  have hsrc:Src 1 s.len (.slice s.base s.len s.cap) (bs.map vB) w:= .inl ⟨s.base,s.len,s.cap,rfl,rfl,h2.drop.ao hs⟩
  refine bZ (s:=⟨some ⟨b,0,none⟩,0,0⟩) BQ (by decide) (.inl ⟨5,by kernel_rfl⟩) h2 hsrc (by simp [hl]) lb (by simp only;omega) (by simp only;omega) fun s' w' h3 _=>hK s' w' ?_
  simpa using h3
end
end Go.Proofs.YtgglghjnakclmaaGreat
namespace Go.Vc
open Go
section
variable {E w:World} {F A:List HP}
theorem Hp.put {b:Nat} {o:Obj} (h:Hp E w (ag b o::F)) (o':Obj):Hp E (w.putObj b o') (ag b o'::F):=h.setObj rfl rfl rfl rfl
end
end Go.Vc
namespace Go.Vc
open Go
section
variable {E w:World} {F A:List HP}
def Ci {α:Type} (X:α→Prop) (L:α→List HP):HP:=fun f=> ∃x,X x∧Sat (L x) f
theorem Hp.ex {α:Type} {X:α→Prop} {L:α→List HP} (h:Hp E w (Ci X L::F)): ∃x,X x∧Hp E w (L x++F):=h.AV fun _ hf=>hf
theorem Hp.EA {α:Type} {X:α→Prop} {L:α→List HP} (x:α) (hx:X x) (h:Hp E w (L x++F)):Hp E w (Ci X L::F):=h.BT fun _ hf=>⟨x,hx,hf⟩
end
end Go.Vc
namespace Go.Vc
open Go
def fK (f:Nat→Nat) (N:Nat):Array Value:=⟨(List.range N).map fun i=>vB (f i)⟩
theorem o5 (f:Nat→Nat) (N:Nat):(fK f N).size=N:=by simp [fK]
theorem uu {f:Nat→Nat} {N i:Nat} (h:i<N):(fK f N).toList[i]? =some (Sc.enc (.int .u8) (f i:Int)):=by simp [fK,h,vB,Sc.enc]
def gy (f:Nat→Nat) (p v:Nat):Nat→Nat:=fun j=>if j=p then v else f j
theorem Hh {f:Nat→Nat} {N p v:Nat}:(fK f N).setIfInBounds p (.int .u8 (v:Int))=fK (gy f p v) N:=by
 apply Array.ext'
 apply List.ext_getElem?
 intro i
 simp only [fK,Array.toList_setIfInBounds,List.getElem?_set,List.getElem?_map,List.getElem?_range,List.length_map,List.length_range]
 by_cases e:p=i
 ·subst e
  by_cases hp:p<N
  ·simp [hp,gy,vB]
  ·simp [hp,List.getElem?_eq_none]
 ·by_cases hi:i<N
  ·simp [e,hi,gy,Ne.symm e]
  ·simp [e,List.getElem?_eq_none,hi]
def dQ (f:Nat→Nat) (p:Nat) (b:List Nat):Nat→Nat:=fun j=>if p≤j∧j<p+b.length then b.getD (j - p) 0 else f j
theorem GW {f:Nat→Nat} {N p:Nat} {b:List Nat} (h:p+b.length≤N):(⟨(fK f N).toList.take p++(b.map vB++(fK f N).toList.drop (p+b.length))⟩:Array Value)=fK (dQ f p b) N:=by
 apply Array.ext'
 apply List.ext_getElem?
 intro i
 have hl:(fK f N).toList.length=N:=by simp [fK]
 have e1: ∀g:Nat→Nat,(fK g N).toList[i]? =if i<N then some (vB (g i)) else none:=fun g=>by
  by_cases hi:i<N
  ·simp [fK,hi]
  ·simp [fK,hi,List.getElem?_eq_none]
 rw [e1]
 show ((fK f N).toList.take p++(b.map vB++(fK f N).toList.drop (p+b.length)))[i]? =_
 by_cases h1:i<p
 ·rw [List.getElem?_append_left (by rw [List.length_take];omega),List.getElem?_take,if_pos h1,e1]
  simp only [dQ]
  rw [if_pos (show i<N by omega),if_pos (show i<N by omega),if_neg (by omega)]
 ·rw [List.getElem?_append_right (by rw [List.length_take];omega)]
  rw [List.length_take,hl,Nat.min_eq_left (by omega)]
  by_cases h2:i - p<b.length
  ·rw [List.getElem?_append_left (by rw [List.length_map];exact h2),List.getElem?_map,List.getElem?_eq_getElem h2,if_pos (show i<N by omega)]
   simp only [dQ,Option.map_some]
   rw [if_pos (by omega)]
   simp [List.getD,h2]
  ·rw [List.getElem?_append_right (by rw [List.length_map];omega),List.length_map,List.getElem?_drop,show p+b.length+(i - p - b.length)=i by omega,e1]
   simp only [dQ]
   rw [if_neg (show¬(p≤i∧i<p+b.length) by omega)]
def dH (f:Nat→Nat) (p q:Nat):List Nat:=(List.range q).map fun i=>f (p+i)
theorem cJ (f:Nat→Nat) (p q:Nat):(dH f p q).length=q:=by simp [dH]
theorem oH {f:Nat→Nat} {p q i:Nat} (h:i<q):(dH f p q)[i]'(by rw [cJ];exact h)=f (p+i):=by simp [dH]
theorem yG {f g:Nat→Nat} {p q:Nat} (h: ∀i,i<q→f (p+i)=g (p+i)):dH f p q=dH g p q:=List.map_congr_left fun i hi=>h i (List.mem_range.1 hi)
theorem Hc {f:Nat→Nat} {N p q cap m:Nat} {t:TypeId} {fr:Nat×Nat} {w:World} (h:p+q≤N) (hw:w.heap[m]? =some (.cells (fK f N) t fr)):aQ 1 ⟨some ⟨m,p,none⟩,q,cap⟩ ((dH f p q).map vB) w:=by
 refine ⟨by simp [cJ],fun i hi=>⟨_,rfl,?_⟩⟩
 rw [List.length_map,cJ] at hi
 rw [af,List.getElem_map,oH hi]
 have:=uu (f:=f) (N:=N) (i:=p+i) (by omega)
 simp only [World.cell?,hw]
 simpa [Sc.enc,vB] using this
def kE (f:Nat→Nat) (p:Nat):Nat:=f p+256*f (p+1)+65536*f (p+2)+16777216*f (p+3)
def dc (v:Nat):List Nat:= [v % 256,v/256 % 256,v/65536 % 256,v/16777216 % 256]
theorem jr {f:Nat→Nat} {p i:Nat} {b:List Nat} (h:i<b.length):dQ f p b (p+i)=b.getD i 0:=by
 unfold dQ;rw [if_pos (by omega),Nat.add_sub_cancel_left]
theorem dY {f:Nat→Nat} {p j:Nat} {b:List Nat} (h: ¬(p≤j∧j<p+b.length)):dQ f p b j=f j:=if_neg h
theorem jR (v:Nat):(dc v).length=4:=rfl
theorem gN {f:Nat→Nat} {p q v:Nat} (hv:v<4294967296) (hd:q=p∨q+4≤p∨p+4≤q):kE (dQ f p (dc v)) q=if q=p then v else kE f q:=by
 have hl:=jR v
 rcases hd with rfl|hd
 ·have h0:=jr (f:=f) (p:=q) (i:=0) (b:=dc v) (by omega)
  rw [Nat.add_zero] at h0
  rw [if_pos rfl,kE,h0,jr (by omega),jr (by omega),jr (by omega)]
  simp only [dc,List.getD_cons_zero,List.getD_cons_succ]
  omega
 ·rw [if_neg (by omega),kE,dY (by omega),dY (by omega),dY (by omega),dY (by omega)]
  rfl
theorem HQ {P:Program} {t e:TypeId} {z:Value} {n bytes:Nat} {E w:World} {F:List HP} {K:Sl→World→Prop} (ht:P.underlying t=some (.slice e)) (hi: ∃i,P.info? e=some i∧i.zero=some z∧i.size=1∧i.bytes=bytes) (hz:z.cells= #[z])
  (hn:n≤1000000) (hb:bytes≤8) (h:Hp E w F) (hK: ∀b w',Hp E w' (ag b (.cells ⟨List.replicate n z⟩ e (0,0))::F)→K ⟨some ⟨b,0,none⟩,n,n⟩ w'):aw P (Instr.makeSlice t (.int .i64 (n:Int)) (.int .i64 (n:Int))) kS w K:=by
 obtain ⟨i,h1,h2,h3,h4⟩:=hi
 have hbn:bytes*n≤8*n:=Nat.mul_le_mul_right _ hb
 have hbb:((bytes:Int)*(n:Int))≤281474976710656:=by
  have:((bytes:Int)*(n:Int))=((bytes*n:Nat):Int):=by simp
  omega
 have hm:=run_makeSlice (w:=w) t e i z ht h1 h2 .i64 .i64 (n:Int) (n:Int) (by omega) (by omega) (by rw [h3,Int.toNat_natCast];omega) (by rw [h4];exact hbb) (by omega)
 unfold aw
 rw [hm]
 have hc:madeCells z.cells (n*1)=⟨List.replicate n z⟩:=by
  unfold madeCells
  rw [hz,Nat.mul_one]
  apply Array.ext
  ·simp
  ·intro j h1 h2
   simp [Nat.mod_one]
 rw [h3,Int.toNat_natCast,hc]
 exact hK w.heap.size _ (h.alloc (.cells ⟨List.replicate n z⟩ e))
theorem yi (N:Nat):(⟨List.replicate N (.int .u8 0)⟩:Array Value)=fK (fun _=>0) N:=by
 apply Array.ext'
 show List.replicate N (Value.int .u8 0)=(List.range N).map fun _=>vB 0
 rw [List.map_const']
 simp [vB]
end Go.Vc
namespace Go.Proofs.YtgglghjnakclmaaGreat
open Go Go.Vc
section
variable {E w:World} {F:List HP}
structure AS where
 a:Nat
 m:Nat
 N:Nat
 live:Nat
 peak:Nat
structure uk (A:AS) (f:Nat→Nat):Prop where
 le:A.live≤A.N
 eP:A.N≤1000000
 byt: ∀i,f i<256
def Ar (A:AS) (f:Nat→Nat):HP:=Ci (fun _:Unit=>uk A f) fun _=> [ag A.a (.cells ⟨[.slice (some ⟨A.m,0,none⟩) A.N A.N,.int .i64 (A.live:Int),.int .i64 (A.peak:Int)]⟩ 199 (0,0)),ag A.m (.cells (fK f A.N) 5 (0,0))]
variable {A:AS} {f:Nat→Nat}
theorem Ar.cE (h:Hp E w (Ar A f::F)):uk A f∧Hp E w (ag A.a (.cells ⟨[.slice (some ⟨A.m,0,none⟩) A.N A.N,.int .i64 (A.live:Int),.int .i64 (A.peak:Int)]⟩ 199 (0,0))::ag A.m (.cells (fK f A.N) 5 (0,0))::F):=by
 obtain ⟨_,hx,h⟩:=h.ex
 exact ⟨hx,h⟩
theorem Ar.shut (ok:uk A f) (h:Hp E w (ag A.a (.cells ⟨[.slice (some ⟨A.m,0,none⟩) A.N A.N,.int .i64 (A.live:Int),.int .i64 (A.peak:Int)]⟩ 199 (0,0))::ag A.m (.cells (fK f A.N) 5 (0,0))::F)):Hp E w (Ar A f::F):=Hp.EA () ok h
theorem uk.aH {g:Nat→Nat} (h:uk A f) (hg: ∀i,g i<256):uk A g:=⟨h.le,h.eP,hg⟩
theorem Ex {p v:Nat} (h: ∀i,f i<256) (hv:v<256): ∀i,gy f p v i<256:=fun i=>by unfold gy;split<;>first|exact hv|exact h i
theorem FR {p:Nat} {b:List Nat} (h: ∀i,f i<256) (hb: ∀x∈b,x<256): ∀i,dQ f p b i<256:=fun i=>by
 unfold dQ
 split
 ·rename_i hi
  rw [List.getD_eq_getElem?_getD,List.getElem?_eq_getElem (by omega)]
  exact hb _ (List.getElem_mem _)
 ·exact h i
abbrev sA (A:AS):Sl:=⟨some ⟨A.m,0,none⟩,A.N,A.N⟩
abbrev pA (A:AS):Value:= .pointer (some ⟨A.a,0,none⟩)
abbrev gT (p q:Nat):Value:= .agg ⟨[.int .i64 (p:Int),.int .i64 (q:Int)]⟩
theorem kA {p q:Nat} {K:Bool→World→Prop} (h:Hp E w (Ar A f::F)) (hin:p+q≤A.live) (hK: ∀w',Hp E w' (Ar A f::F)→K true w'):Cl Tryz.prog [kB] bJ ⟨[pA A,gT p q]⟩ w K:=by
 refine tq.ok _ ((p:Int),(q:Int),()) _ _ ?_
 dsimp only
 obtain ⟨ok,h⟩:=Ar.cE h
 have h1:=ok.le;have h2:=ok.eP
 (try simp only [av,af,Nat.zero_add,Nat.add_zero,Bool.not_false,pj,Option.isNone])
 (with_reducible repeat first|refine Nw.mk h fun b w h=> ?_|refine aU.mk h fun w h=> ?_|refine Ld.xb h rfl ?_|refine aa.yes ?_)
 exact dx (decide_eq_true (by rw [ab (by omega)];omega)) (hK _ (Ar.shut ok (h.no 0)))
theorem yd {p q:Nat} {i:Int} {n:Nat} {K:Sl→World→Prop} (h:Hp E w (Ar A f::F)) (hin:p+q≤A.live) (hn:0<n) (hn2:n≤1000000)
  (hyes: ∀j:Nat,i=(j:Int)→j+n≤q→∀w',Hp E w' (Ar A f::F)→K ⟨some ⟨A.m,p+j,none⟩,n,n⟩ w') (hno: ¬(0≤i∧i+n≤q)→∀w',Hp E w' (Ar A f::F)→K ⟨none,0,0⟩ w'):
  Cl Tryz.prog [kS] eU ⟨[pA A,gT p q,.int .i64 i,.int .i64 (n:Int)]⟩ w K:=by
 refine sx.ok _ ((p:Int),(q:Int),()) _ _ _ _ ?_
 dsimp only
 refine Nw.mk h fun b w h=>Ld.xt h rfl ?_
 refine kA (h.at 1) hin fun w h=> ?_
 obtain ⟨ok,h⟩:=Ar.cE h
 have h1:=ok.le;have h2:=ok.eP
 have hend: ∀w,Hp E w (ag A.a (.cells ⟨[.slice (some ⟨A.m,0,none⟩) A.N A.N,.int .i64 (A.live:Int),.int .i64 (A.peak:Int)]⟩ 199 (0,0))::ag A.m (.cells (fK f A.N) 5 (0,0))::ag b (.cells ⟨[.int .i64 (p:Int),.int .i64 (q:Int)]⟩ 146 (0,0))::F)→Hp E w (Ar A f::F):=fun w h=>Ar.shut ok (h.no 2)
 refine aa.f rfl (aa.dm (fun hlt=>hno (by omega) _ (hend _ h)) fun hge=> ?_)
 (try simp only [av,af,Nat.zero_add,Nat.add_zero])
 refine Ld.xb h rfl (aa.dm (fun hgt=>hno (fun hh=>by rw [ab (by omega)] at hgt;omega) _ (hend _ h)) fun hle=> ?_)
 obtain ⟨j,rfl⟩: ∃j:Nat,i=(j:Int):=⟨i.toNat,by omega⟩
 rw [ab (by omega)] at hle
 refine Ld.xb h rfl (Ld.xb (x:=sA A) h rfl ?_)
 simp (disch:=omega) only [ab]
 refine ⟨by omega,by omega,by omega,by dsimp only;omega,?_⟩
 dsimp only
 rw [if_neg (by omega)]
 simp only [Option.map_some,Nat.mul_one,af,Nat.zero_add]
 rw [show ((j:Int)+(p:Int)).toNat=p+j by omega,show ((j:Int)+(p:Int)+(n:Int)).toNat - (p+j)=n by omega]
 exact hyes j rfl (by omega) _ (hend _ h)
theorem mM {p q:Nat} {i:Int} {K:Int→Bool→World→Prop} (h:Hp E w (Ar A f::F)) (hin:p+q≤A.live)
  (hyes: ∀j:Nat,i=(j:Int)→j<q→∀w',Hp E w' (Ar A f::F)→K (f (p+j):Int) true w') (hno: ¬(0≤i∧i<q)→∀w',Hp E w' (Ar A f::F)→K 0 false w'):
  Cl Tryz.prog [ak .u8,kB] bh ⟨[pA A,gT p q,.int .i64 i]⟩ w K:=by
 refine sv.ok _ ((p:Int),(q:Int),()) _ _ _ ?_
 dsimp only
 refine Nw.mk h fun b w h=>Ld.xt h rfl ?_
 refine yd (n:=1) (h.at 1) hin (by omega) (by omega) (fun j hj hjq w h=> ?_) (fun hn w h=>aa.t rfl (hno (by omega) _ (h.no 1)))
 refine aa.f rfl (aT.mk rfl (by omega) (by dsimp only;omega) ?_)
 obtain ⟨ok,h⟩:=Ar.cE h
 have h1:=ok.le
 rw [show (0:Int).toNat*1=0 by decide,af,Nat.add_zero]
 exact Ld.xb h (uu (by omega)) (hyes j hj (by omega) _ (Ar.shut ok (h.no 2)))
end
end Go.Proofs.YtgglghjnakclmaaGreat
namespace Go.Vc
open Go
theorem DI {P:Program} {t e ty:TypeId} {z:Value} {E w:World} {l:List HP} {b o n cap:Nat} {c:Array Value} {t':TypeId} {put:Obj→List HP} {K:Value→World→Prop} [hf:bj b l c t' (0,0) put]
  (hu:P.underlying t=some (.slice e)) (hz: ∀w,(zeroValue e).run P w= .ok z w) (hc:z.cells= #[z]) (hs:ay z=true) (h:Hp E w l) (hfit:o+n≤c.size)
  (hK: ∀w',Hp E w' (put (.cells ⟨c.toList.take o++(List.replicate n z++c.toList.drop (o+n))⟩ t' (0,0)))→K (.tuple #[]) w'):
  aw P (Builtin.clear_ #[t] ty ⟨[.slice (some ⟨b,o,none⟩) n cap]⟩) kV w K:=by
 have hsz:c.toList.length=c.size:=by simp
 obtain ⟨_,hcond,hk⟩:=aj.xm (b:=b) (n:=n) (o:=o) (cs:=⟨List.replicate n z⟩) (pre:=c.toList.take o) (bl:=(c.toList.drop o).take n) (post:=c.toList.drop (o+n)) (K:=fun w'=>K (.tuple #[]) w') h
  (by rw [←List.drop_drop,List.take_append_drop,List.take_append_drop]) (by rw [List.length_take];omega) (by rw [List.length_take,List.length_drop];omega) (by simp) (fun v hv=>by rw [List.eq_of_mem_replicate hv];exact hs) hK
 unfold aw
 cases n with
 |zero=>
  have e1:(Builtin.clear_ #[t] ty ⟨[.slice (some ⟨b,o,none⟩) 0 cap]⟩).run P w= .ok (.tuple #[]) w:=by
   simp [Builtin.clear_,run_underlying hu]
  rw [e1]
  exact hk
 |succ m=>
  have hzc:(Builtin.zeroCells z.cells (m+1)).toList=List.replicate (m+1) z:=by
   rw [hc]
   simp [Builtin.zeroCells]
   apply List.ext_getElem
   ·simp
   ·intro i h1 h2
    simp [Nat.mod_one]
  have hst:=lO (P:=P) (p:=⟨b,o,none⟩) (List.replicate (m+1) z) 0 w (fun j hj=>by
   rw [List.length_replicate] at hj
   have:=hcond j hj
   rw [Nat.zero_add]
   refine ⟨?_,this.2⟩
   rw [List.getElem_replicate];exact hs)
  have e1:(Builtin.clear_ #[t] ty ⟨[.slice (some ⟨b,o,none⟩) (m+1) cap]⟩).run P w= .ok (.tuple #[]) (aj.setRow w ⟨b,o,none⟩ (List.replicate (m+1) z) 0):=by
   simp [Builtin.clear_,run_underlying hu,hz,hzc,hst]
  rw [e1]
  exact hk
end Go.Vc
namespace Go.Proofs.YtgglghjnakclmaaGreat
open Go Go.Vc
section
variable {E w:World} {F:List HP} {A:AS} {f:Nat→Nat}
theorem v9:Tryz.prog.underlying 26=some (.slice 5):=by kernel_rfl
theorem GB {n:Nat} {K:Option Addr→Int→World→Prop} (h:Hp E w F) (hn:1≤n) (hn2:n≤1000000) (hK: ∀a m w',Hp E w' (Ar ⟨a,m,n,0,0⟩ (fun _=>0)::F)→K (some ⟨a,0,none⟩) 0 w'):Cl Tryz.prog [kP,kI] kL ⟨[.int .i64 (n:Int)]⟩ w K:=by
 refine vy.ok _ _ _ (aa.df (by omega) (aa.df (by omega) ?_))
 refine HQ (z:= .int .u8 0) (bytes:=1) v9 ⟨_,rfl,by kernel_rfl,by kernel_rfl,by kernel_rfl⟩ rfl (by omega) (by omega) h fun m w h=>Nw.mk h fun a w h=>hK a m w ?_
 rw [yi] at h
 exact Ar.shut ⟨by dsimp only;omega,by dsimp only;omega,fun _=>by decide⟩ h
theorem Bt {n:Int} {K:Option Addr→Int→World→Prop} (hn: ¬(1≤n∧n≤1048576)) (hK:K none 2 w):Cl Tryz.prog [kP,kI] kL ⟨[.int .i64 n]⟩ w K:=by
 refine vy.ok _ _ _ (aa.dm (fun _=>hK) fun h1=>aa.dt (by omega) hK)
theorem Ej {K:Int→World→Prop} (h:Hp E w (Ar A f::F)) (hK:Hp E w (Ar A f::F)→K (A.peak:Int) w):Cl Tryz.prog [kI] gF ⟨[pA A]⟩ w K:=by
 refine sd.ok _ _ _ ?_
 obtain ⟨ok,h⟩:=Ar.cE h
 (try simp only [av,af,Nat.zero_add,fl,Option.isNone])
 exact Ld.xb h rfl (hK (Ar.shut ok h))
theorem ah.hb {b:Nat} {o:Obj} {φ:World→Prop} (hf: ∀w:World,w.heap[b]? =some o→φ w):ah (ag b o::F) φ:=by
 rintro w f a ⟨g,k,hd,rfl,rfl,h2⟩
 exact hf w (a b _ (by simp [aK.add,aK.one]))
theorem EX {p q:Nat} {K:Sl→World→Prop} (h:Hp E w (Ar A f::F)) (hin:p+q≤A.live) (hK: ∀s w',Hp E w' (aC 1 s ((dH f p q).map vB)::Ar A f::F)→K s w'):Cl Tryz.prog [kS] gR ⟨[pA A,gT p q]⟩ w K:=by
 refine sn.ok _ ((p:Int),(q:Int),()) _ _ ?_
 dsimp only
 refine Nw.mk h fun b w h=>Ld.xt h rfl ?_
 refine kA (h.at 1) hin fun w h=>aa.f rfl ?_
 obtain ⟨ok,h⟩:=Ar.cE h
 have h1:=ok.le;have h2:=ok.eP
 refine aU.mk h fun w h=> ?_
 (try simp only [av,af,Nat.zero_add,Nat.add_zero])
 refine Ld.xb (x:=sA A) h rfl (Ld.xb h rfl (Ld.xb h rfl (Ld.xb h rfl ?_)))
 simp (disch:=omega) only [ab]
 refine ⟨by omega,by omega,by omega,by dsimp only;omega,?_⟩
 dsimp only
 have hsl:(⟨if (A.N:Int).toNat=(p:Int).toNat then some ⟨A.m,0,none⟩ else (some ⟨A.m,0,none⟩:Option Addr).map (·.add ((p:Int).toNat*1)),((p:Int)+(q:Int)).toNat - (p:Int).toNat,(A.N:Int).toNat - (p:Int).toNat⟩:Sl)=⟨if A.N=p then some ⟨A.m,0,none⟩ else some ⟨A.m,p,none⟩,q,A.N - p⟩:=by
  simp only [Option.map_some,Int.toNat_natCast,Nat.mul_one,af,Nat.zero_add]
  rw [show ((p:Int)+(q:Int)).toNat - p=q by omega]
 rw [hsl]
 refine Hj (bs:=dH f p q) h (ah.at 1 (ah.hb fun w hw=> ?_)) (by rw [cJ,bX];omega) fun s w h=>hK s w ?_
 ·split
  ·have:q=0:=by omega
   subst this
   exact ⟨rfl,fun i hi=>by simp [dH] at hi⟩
  ·exact Hc (by omega) hw
 ·have h:=((h.no 3).at 1).at 2
  exact (Ar.shut ok (h.at 1)).at 1
theorem C7 {p q j:Nat} {s:Sl} {b:List Nat} {K:Bool→World→Prop} (h:Hp E w (Ar A f::F)) (hin:p+q≤A.live) (hj:j+b.length≤q) (hs:ah F (aQ 1 s (b.map vB))) (hb: ∀x∈b,x<256)
  (hK: ∀w',Hp E w' (Ar A (dQ f (p+j) b)::F)→K true w'):Cl Tryz.prog [kB] gk ⟨[pA A,gT p q,.int .i64 (j:Int),.slice s.base s.len s.cap]⟩ w K:=by
 refine ru.ok _ ((p:Int),(q:Int),()) _ _ _ _ ?_
 dsimp only
 have hlen:b.length=s.len:=by have:=(h.ao hs.cons).1;simpa using this
 refine Nw.mk h fun b4 w h=>Ld.xt h rfl ?_
 refine kA (h.at 1) hin fun w h=>aa.f rfl (aa.df (by omega) ?_)
 obtain ⟨ok,h⟩:=Ar.cE h
 have h1:=ok.le;have h2:=ok.eP
 (try simp only [av,af,Nat.zero_add,Nat.add_zero])
 refine Ld.xb h rfl (aa.df (by rw [ab (by omega)];omega) (aU.mk h fun w h=> ?_))
 (skip)
 refine Ld.xb (x:=sA A) h rfl (Ld.xb h rfl ?_)
 simp (disch:=omega) only [ab]
 refine ⟨by omega,by omega,by omega,by dsimp only;omega,?_⟩
 dsimp only
 have hsl:(⟨if (A.N:Int).toNat=((p:Int)+(j:Int)).toNat then some ⟨A.m,0,none⟩ else (some ⟨A.m,0,none⟩:Option Addr).map (·.add (((p:Int)+(j:Int)).toNat*1)),(A.N:Int).toNat - ((p:Int)+(j:Int)).toNat,(A.N:Int).toNat - ((p:Int)+(j:Int)).toNat⟩:Sl)=⟨if A.N=p+j then some ⟨A.m,0,none⟩ else some ⟨A.m,p+j,none⟩,A.N - (p+j),A.N - (p+j)⟩:=by
  simp only [Option.map_some,Int.toNat_natCast,Nat.mul_one,af,Nat.zero_add]
  rw [show ((p:Int)+(j:Int)).toNat=p+j by omega]
 rw [hsl]
 have hs3:aQ 1 s (b.map vB) w:=h.ao hs.cons.cons.cons
 by_cases hz:A.N=p+j
 ·have hb0:b= []:=List.length_eq_zero_iff.1 (by omega)
  subst hb0
  rw [if_pos hz]
  refine kR (o:=0) (dLen:=A.N - (p+j)) (ys:= []) v9 (by kernel_rfl) h (by simpa using hs3) (by simp) (by rw [o5];omega) fun w h=>hK w ?_
  have e:dQ f (p+j) []=f:=by funext i;unfold dQ;rw [if_neg (by simp)]
  rw [e]
  simp only [List.take_nil,List.nil_append,List.length_nil,Nat.zero_min,Nat.add_zero,List.take_append_drop,Array.toArray_toList] at h
  exact Ar.shut ok (h.no 2)
 ·rw [if_neg hz]
  refine kR (o:=p+j) (dLen:=A.N - (p+j)) (ys:=b.map vB) v9 (by kernel_rfl) h hs3 lb (by rw [o5];omega) fun w h=>hK w ?_
  have e1:(b.map vB).take (A.N - (p+j))=b.map vB:=List.take_of_length_le (by rw [List.length_map];omega)
  have e2:min (b.map vB).length (A.N - (p+j))=b.length:=by rw [List.length_map];omega
  rw [e1,e2,GW (by omega)] at h
  exact Ar.shut (ok.aH (FR ok.byt hb)) (h.no 2)
theorem EI {n:Nat} {K:(Int×Int×Unit)→Int→World→Prop} (h:Hp E w (Ar A (fun _=>0)::F)) (hn:n+A.live≤A.N)
  (hK: ∀w',Hp E w' (Ar ⟨A.a,A.m,A.N,A.live+n,max A.peak (A.live+n)⟩ (fun _=>0)::F)→K ((A.live:Int),(n:Int),()) 0 w'):Cl Tryz.prog [.st [.int .i64,.int .i64],kI] gA ⟨[pA A,.int .i64 (n:Int)]⟩ w K:=by
 refine sf.ok _ _ _ _ ?_
 obtain ⟨ok,h⟩:=Ar.cE h
 have h1:=ok.le;have h2:=ok.eP
 refine Nw.mk h fun b4 w h=> ?_
 (try simp only [av,af,Nat.zero_add,Nat.add_zero,fl,Option.isNone])
 refine aa.df (by omega) (aU.mk h fun w h=>Ld.xb (x:=sA A) h rfl (Ld.xb h rfl (aa.df (by dsimp only;rw [ab (by omega)];omega) ?_)))
 refine Ld.xb (x:=(A.live:Int)) h rfl (Nw.mk h fun b19 w h=> ?_)
 (with_reducible refine ad.xw h rfl rfl (fun w h=> ?_))
 refine aU.mk h fun w h=> ?_
 (skip)
 refine Ld.xb (x:=sA A) h rfl (Ld.xb h rfl (Ld.xb h rfl ?_))
 simp (disch:=omega) only [ab]
 refine ⟨by omega,by omega,by omega,by dsimp only;omega,?_⟩
 dsimp only
 have hsl:(⟨if (A.N:Int).toNat=(A.live:Int).toNat then some ⟨A.m,0,none⟩ else (some ⟨A.m,0,none⟩:Option Addr).map (·.add ((A.live:Int).toNat*1)),((A.live:Int)+(n:Int)).toNat - (A.live:Int).toNat,(A.N:Int).toNat - (A.live:Int).toNat⟩:Sl)=⟨if A.N=A.live then some ⟨A.m,0,none⟩ else some ⟨A.m,A.live,none⟩,n,A.N - A.live⟩:=by
  simp only [Option.map_some,Int.toNat_natCast,Nat.mul_one,af,Nat.zero_add]
  rw [show ((A.live:Int)+(n:Int)).toNat - A.live=n by omega]
 rw [hsl]
 obtain ⟨o,ho,hon⟩: ∃o,(if A.N=A.live then (some ⟨A.m,0,none⟩:Option Addr) else some ⟨A.m,A.live,none⟩)=some ⟨A.m,o,none⟩∧o+n≤A.N:=by
  by_cases hz:A.N=A.live
  ·exact ⟨0,by rw [if_pos hz],by omega⟩
  ·exact ⟨A.live,by rw [if_neg hz],by omega⟩
 rw [ho]
 refine DI (z:= .int .u8 0) v9 (fun w=>by kernel_rfl) rfl rfl h (by rw [o5];omega) fun w h=> ?_
 have hz:(⟨(fK (fun _=>0) A.N).toList.take o++(List.replicate n (.int .u8 0)++(fK (fun _=>0) A.N).toList.drop (o+n))⟩:Array Value)=fK (fun _=>0) A.N:=by
  rw [←yi]
  apply Array.ext'
  show (List.replicate A.N _).take o++(List.replicate n _++(List.replicate A.N _).drop (o+n))=List.replicate A.N _
  rw [List.take_replicate,List.drop_replicate,List.replicate_append_replicate,List.replicate_append_replicate]
  congr 1
  omega
 rw [hz] at h
 refine Ld.xb h rfl (St.xs h rfl rfl fun w h=> ?_)
 dsimp only [aM,aq] at h
 refine aU.mk h fun w h=>Ld.xb h rfl (Ld.xb h rfl (St.xs h rfl rfl fun w h=> ?_))
 dsimp only [aM,aq] at h
 refine Ld.xt h rfl ?_
 (with_reducible refine ad.xw h rfl rfl (fun w h=> ?_))
 refine Ld.xt h rfl (hK w ?_)
 simp (disch:=omega) only [ab] at h
 have e:(if ((A.live:Int)+(n:Int))>(A.peak:Int) then ((A.live:Int)+(n:Int)) else (A.peak:Int))=((max A.peak (A.live+n):Nat):Int):=by split<;>omega
 rw [e,show (A.live:Int)+(n:Int)=((A.live+n:Nat):Int) by omega] at h
 exact Ar.shut (A:=⟨A.a,A.m,A.N,A.live+n,max A.peak (A.live+n)⟩) ⟨by dsimp only;omega,ok.eP,ok.byt⟩ ((h.no 0).no 0)
end
end Go.Proofs.YtgglghjnakclmaaGreat
namespace Go.Vc
open Go
def wp (f:Nat→Nat) (P:Nat):Nat→Nat
 |0=>0
 |k+1=>wp f P k+f (P+k)*256^k
theorem FV {f:Nat→Nat} (h: ∀i,f i<256) (P:Nat): ∀k,wp f P k<256^k
 |0=>by simp [wp]
 |k+1=>by
  have h1:=FV h P k
  have h2:f (P+k)*256^k≤255*256^k:=Nat.mul_le_mul_right _ (by have:=h (P+k);omega)
  rw [wp,Nat.pow_succ];omega
theorem G3 (f:Nat→Nat) (P:Nat):wp f P 4=kE f P:=by
 simp only [wp,kE,Nat.add_zero,Nat.pow_zero,Nat.mul_one,Nat.zero_add,Nat.pow_one]
 rw [show (256^2:Nat)=65536 from rfl,show (256^3:Nat)=16777216 from rfl]
 omega
theorem Hf {v x k:Nat} (hv:v<256^k) (hx:x<256) (hk:k<4):jy .u32 (v:Int) (a8 .u32 (u32 (x:Int)) (i64 ((8:Int)*(k:Int))))=((v+x*256^k:Nat):Int):=by
 have hm:IntKind.max .u32=4294967295:=rfl
 have hp:(256:Nat)^k=2^(8*k):=by rw [Nat.pow_mul]
 have hb:x*256^k≤255*16777216:=Nat.mul_le_mul (by omega) (by
  have:256^k≤256^3:=Nat.pow_le_pow_right (by decide) (by omega)
  exact this)
 have hvb:v<16777216:=Nat.lt_of_lt_of_le hv (by
  have:256^k≤256^3:=Nat.pow_le_pow_right (by decide) (by omega)
  exact this)
 rw [dv (by omega),ab (by omega),show (8:Int)*(k:Int)=((8*k:Nat):Int) by omega,dg (by show 8*k≤32;omega) (by rw [hm,←hp];omega),←hp]
 have e:v|||x*256^k=v+x*256^k:=by
  rw [hp] at hv⊢
  rw [Nat.or_comm,Nat.mul_comm x,←Nat.two_pow_add_eq_or_of_lt hv,Nat.add_comm]
 rw [og (by rw [hm];omega) (by rw [hm];omega) (by rw [hm,e];omega),e]
theorem E0 {v k:Nat} (_hv:v<4294967296) (hk:k<4):u8 (bI .u32 (v:Int) (i64 ((8:Int)*(k:Int))))=(((dc v).getD k 0:Nat):Int):=by
 rw [ab (by omega),show (8:Int)*(k:Int)=((8*k:Nat):Int) by omega,dj (by show 8*k≤32;omega),yy]
 match k,hk with
 |0,_=>simp [dc]
 |1,_=>simp [dc]
 |2,_=>simp [dc]
 |3,_=>simp [dc]
theorem Dy {f:Nat→Nat} {p x:Nat} {b:List Nat}:gy (dQ f p b) (p+b.length) x=dQ f p (b++ [x]):=by
 funext j
 by_cases h1:j=p+b.length
 ·subst h1
  rw [jr (b:=b++ [x]) (by simp)]
  simp [gy,List.getD]
 ·unfold gy
  rw [if_neg h1]
  by_cases h2:p≤j∧j<p+b.length
  ·obtain ⟨i,rfl⟩: ∃i,j=p+i:=⟨j - p,by omega⟩
   rw [jr (by omega),jr (by simp;omega)]
   simp [List.getD,List.getElem?_append_left (show i<b.length by omega)]
  ·rw [dY h2,dY (by simp;omega)]
theorem E3 (f:Nat→Nat) (p:Nat):dQ f p []=f:=by funext j;rw [dY (by simp)]
theorem Bk (v:Nat): ∀x∈dc v,x<256:=by
 intro x hx
 simp only [dc,List.mem_cons,List.not_mem_nil,or_false] at hx
 omega
end Go.Vc
namespace Go.Proofs.YtgglghjnakclmaaGreat
open Go Go.Vc
section
variable {E w:World} {F:List HP} {A:AS} {f:Nat→Nat}
theorem vq {p q i:Nat} {K:Sl→World→Prop} (h:Hp E w (Ar A f::F)) (hin:p+q≤A.live) (hi:4*i+4≤q) (hK: ∀w',Hp E w' (Ar A f::F)→K ⟨some ⟨A.m,p+4*i,none⟩,4,4⟩ w'):
  Cl Tryz.prog [kS] eS ⟨[pA A,gT p q,.int .i64 (i:Int)]⟩ w K:=by
 refine sH.ok _ ((p:Int),(q:Int),()) _ _ _ ?_
 dsimp only
 obtain ⟨ok,_⟩:=Ar.cE h
 have h1:=ok.le;have h2:=ok.eP
 refine Nw.mk h fun b w h=>aa.df (by omega) (aa.df (by omega) (Ld.xt h rfl ⟨by decide,?_⟩))
 have hm:IntKind.max .i64=9223372036854775807:=rfl
 have e:a8 .i64 (i:Int) (2:Int)=((4*i:Nat):Int):=by
  have:=dg (k:= .i64) (a:=i) (b:=2) (by decide) (by rw [hm];omega)
  rw [show (2:Int)=((2:Nat):Int) from rfl,this]
  omega
 rw [e]
 refine yd (n:=4) (h.at 1) hin (by omega) (by omega) (fun j hj hjq w h=> ?_) (fun hn w h=>absurd ⟨by omega,by omega⟩ hn)
 obtain rfl:4*i=j:=by omega
 exact hK w (h.no 1)
theorem yh {p q i:Nat} {K:Int→Bool→World→Prop} (h:Hp E w (Ar A f::F)) (hin:p+q≤A.live) (hi:4*i+4≤q) (hK: ∀w',Hp E w' (Ar A f::F)→K (kE f (p+4*i):Int) true w'):
  Cl Tryz.prog [ak .u32,kB] du ⟨[pA A,gT p q,.int .i64 (i:Int)]⟩ w K:=by
 refine rT.ok _ ((p:Int),(q:Int),()) _ _ _ ?_
 dsimp only
 refine Nw.mk h fun b w h=>Ld.xt h rfl ?_
 refine vq (h.at 1) hin hi fun w h=> ?_
 have h:=h.no 1
 refine ⟨fun v t w=> ∃k:Nat,t=(k:Int)∧k≤4∧v=(wp f (p+4*i) k:Int)∧Hp E w (Ar A f::F),fun _ t _=>4 - t.toNat,⟨0,rfl,by omega,rfl,h⟩,?_⟩
 rintro v t w ⟨k,rfl,hk,rfl,h⟩
 refine aa.dm (fun hlt=> ?_) (fun hge=> ?_)
 ·dsimp only at hlt
  have hlt:k<4:=by omega
  refine aT.mk rfl (by omega) (by dsimp only;omega) ?_
  obtain ⟨ok,h⟩:=Ar.cE h
  have h1:=ok.le
  rw [Int.toNat_natCast,Nat.mul_one,af]
  refine Ld.xb h (uu (by omega)) ⟨by rw [ab (by omega)];omega,?_⟩
  rw [Hf (FV ok.byt _ _) (ok.byt _) hlt]
  refine ⟨⟨k+1,by rw [ab (by omega)];omega,by omega,rfl,Ar.shut ok h⟩,by rw [ab (by omega)];first|omega|(dsimp only;omega)⟩
 ·dsimp only at hge
  obtain rfl:k=4:=by omega
  rw [G3]
  exact hK w h
theorem nJ {p q i v:Nat} {K:Bool→World→Prop} (h:Hp E w (Ar A f::F)) (hin:p+q≤A.live) (hi:4*i+4≤q) (hv:v<4294967296) (hK: ∀w',Hp E w' (Ar A (dQ f (p+4*i) (dc v))::F)→K true w'):
  Cl Tryz.prog [kB] cM ⟨[pA A,gT p q,.int .i64 (i:Int),.int .u32 (v:Int)]⟩ w K:=by
 refine pQ.ok _ ((p:Int),(q:Int),()) _ _ _ _ ?_
 dsimp only
 refine Nw.mk h fun b w h=>Ld.xt h rfl ?_
 refine vq (h.at 1) hin hi fun w h=> ?_
 have h:=h.no 1
 have hl4:=jR v
 refine ⟨fun t w=> ∃k:Nat,t=(k:Int)∧k≤4∧Hp E w (Ar A (dQ f (p+4*i) ((dc v).take k))::F),fun t _=>4 - t.toNat,⟨0,rfl,by omega,by rw [List.take_zero,E3];exact h⟩,?_⟩
 rintro t w ⟨k,rfl,hk,h⟩
 refine aa.dm (fun hlt=> ?_) (fun hge=> ?_)
 ·dsimp only at hlt
  have hlt:k<4:=by omega
  refine ⟨by rw [ab (by omega)];omega,aT.mk rfl (by omega) (by dsimp only;omega) ?_⟩
  obtain ⟨ok,h⟩:=Ar.cE h
  have h1:=ok.le
  rw [Int.toNat_natCast,Nat.mul_one,af,E0 hv hlt]
  refine St.xb h (by rw [o5];omega) rfl fun w h=> ?_
  rw [Hh] at h
  have e:gy (dQ f (p+4*i) ((dc v).take k)) (p+4*i+k) ((dc v).getD k 0)=dQ f (p+4*i) ((dc v).take (k+1)):=by
   have:=Dy (f:=f) (p:=p+4*i) (x:=(dc v).getD k 0) (b:=(dc v).take k)
   rw [List.length_take,Nat.min_eq_left (by omega)] at this
   rw [this,List.take_add_one,List.getElem?_eq_getElem (by omega),List.getD_eq_getElem?_getD,List.getElem?_eq_getElem (by omega)]
   rfl
  rw [e] at h
  refine ⟨⟨k+1,by rw [ab (by omega)];omega,by omega,Ar.shut (ok.aH ?_) h⟩,by rw [ab (by omega)];first|omega|(dsimp only;omega)⟩
  rw [←e]
  exact Ex ok.byt (by rw [List.getD_eq_getElem?_getD,List.getElem?_eq_getElem (by omega)];exact Bk v _ (List.getElem_mem _))
 ·dsimp only at hge
  obtain rfl:k=4:=by omega
  rw [List.take_of_length_le (by omega)] at h
  exact hK w h
end
end Go.Proofs.YtgglghjnakclmaaGreat
namespace Go.Rk
section
variable {α:Type} {lt:α→α→Bool}
structure SO (lt:α→α→Bool):Prop where
 irr: ∀a,lt a a=false
 trans: ∀a b c,lt a b=true→lt b c=true→lt a c=true
 ntrans: ∀a b c,lt a b=false→lt b c=false→lt a c=false
theorem SO.I9 (h:SO lt) {a b:α} (hab:lt a b=true):lt b a=false:=by
 cases hb:lt b a with
 |false=>rfl
 |true=>have:=h.trans _ _ _ hab hb;rw [h.irr] at this;cases this
theorem l9 (h:SO lt): ∀{S:List α},S.Pairwise (fun a b=>lt a b=true)→∀(j:Nat) (hj:j<S.length),S.countP (fun x=>lt x S[j])=j
 | [],_,j,hj=>by simp at hj
 |a::S,hp,0,_=>by
  rw [List.pairwise_cons] at hp
  rw [List.countP_cons,List.getElem_cons_zero,h.irr,List.countP_eq_zero.2 fun x hx=>by rw [h.I9 (hp.1 x hx)];decide]
  rfl
 |a::S,hp,j+1,hj=>by
  rw [List.pairwise_cons] at hp
  have hj':j<S.length:=by simpa using hj
  rw [List.countP_cons,List.getElem_cons_succ,l9 h hp.2 j hj',hp.1 _ (List.getElem_mem hj')]
  rfl
theorem uj (h:SO lt) {S:List α} (hp:S.Pairwise (fun a b=>lt a b=true)) {x:α} (hx:x∈S): ∃hj:S.countP (fun y=>lt y x)<S.length,S[S.countP (fun y=>lt y x)]=x:=by
 obtain ⟨j,hj,rfl⟩:=List.getElem_of_mem hx
 have:=l9 h hp j hj
 exact ⟨by omega,by simp only [this]⟩
theorem DE (h:SO lt) {S T:List α} (hpm:S.Perm T) (hS:S.Pairwise (fun a b=>lt a b=true)) (hT:T.Pairwise (fun a b=>lt a b=true)):S=T:=by
 apply List.ext_getElem hpm.length_eq
 intro r h1 h3
 have hr:=l9 h hS r h1
 rw [hpm.countP_eq] at hr
 obtain ⟨h4,h5⟩:=uj h hT (hpm.mem_iff.1 (List.getElem_mem h1))
 rw [←h5]
 simp only [hr]
def rk (lt:α→α→Bool) (dom:List α) (x:α):Nat:=dom.countP fun y=>lt y x
def FX (lt:α→α→Bool) (dom:List α):Prop:= ∀x∈dom,∀y∈dom,x≠y→lt x y=true∨lt y x=true
def yN (lt:α→α→Bool) (dom:List α):List α:=dom.mergeSort fun a b=> !lt b a
theorem kz (dom:List α):(yN lt dom).Perm dom:=List.mergeSort_perm ..
theorem GC (dom:List α):(yN lt dom).length=dom.length:=(kz dom).length_eq
theorem BY (h:SO lt) {dom:List α} (hn:dom.Nodup) (ht:FX lt dom):(yN lt dom).Pairwise fun a b=>lt a b=true:=by
 have h1:=List.pairwise_mergeSort (le:=fun a b=> !lt b a) (fun a b c h1 h2=>by
   simp only [Bool.not_eq_true'] at*;exact h.ntrans _ _ _ h2 h1) (fun a b=>by
   cases hab:lt a b with
   |true=>simp [h.I9 hab]
   |false=>simp) dom
 have h2:(yN lt dom).Nodup:=(kz dom).nodup_iff.2 hn
 have h3:(yN lt dom).Pairwise fun a b=>a∈dom∧b∈dom:=List.Pairwise.imp_of_mem (fun {a b} ha hb _=>⟨(kz dom).mem_iff.1 ha,(kz dom).mem_iff.1 hb⟩) h2
 exact ((h1.and h2).and h3).imp fun {a b} hh=>by
  rcases ht a hh.2.1 b hh.2.2 hh.1.2 with h4|h4
  ·exact h4
  ·have:=hh.1.1;simp [h4] at this
theorem IW (h:SO lt) {dom:List α} (hn:dom.Nodup) (ht:FX lt dom) {x:α} (hx:x∈dom): ∃hj:rk lt dom x<(yN lt dom).length,(yN lt dom)[rk lt dom x]=x:=by
 have:=uj h (BY h hn ht) ((kz dom).mem_iff.2 hx)
 rw [(kz dom).countP_eq] at this
 exact this
theorem C1 (h:SO lt) {dom:List α} (hn:dom.Nodup) (ht:FX lt dom) {x:α} (hx:x∈dom):rk lt dom x<dom.length:=by
 obtain ⟨hj,_⟩:=IW h hn ht hx
 rwa [GC] at hj
end
end Go.Rk
namespace Go.Vc
open Go
def Lr:List Nat→List Nat→Bool
 |_,[]=>false
 | [],_::_=>true
 |a::x,b::y=>decide (a<b)||(a==b&&Lr x y)
def strOf (b:List Nat):ByteArray:=strOfNums (b.map fun (x:Nat)=>(x:Int))
theorem CN {P:Program} {src e dst:TypeId} {s:Sl} {b:List Nat} {w:World} {K:ByteArray→World→Prop} (hs:P.underlying src=some (.slice e)) (he:P.underlying e=some (.int .u8)) (hd:P.underlying dst=some .string)
  (hh:aQ 1 s (b.map vB) w) (hK:K (strOf b) w):aw P (convert src dst (.slice s.base s.len s.cap)) B4 w K:=by
 have hl:=hh.1
 simp only [List.length_map,Nat.mul_one] at hl
 have key:(convert src dst (.slice s.base s.len s.cap)).run P w= .ok (.string (strOf b)) w:=by
  cases hb:s.base with
  |none=>
   have:b= []:=by
    cases b with
    |nil=>rfl
    |cons x b=>
     obtain ⟨p,hp,_⟩:=hh.2 0 (by simp)
     rw [hb] at hp;cases hp
   subst this
   rw [run_convert_bytes_nil w src e hs he _ _ dst hd];rfl
  |some p=>
   have hc:(loadCells p s.len).run P w= .ok ((b.map fun (x:Nat)=>(x:Int)).map (Value.int .u8)).toArray w:=by
    have:=u7 (P:=P) (w:=w) (vs:=b.map vB) (p:=p) (fun i hi=>by
     obtain ⟨q,hq,hc⟩:=hh.2 i hi
     rw [hb] at hq
     cases hq
     exact hc)
    rw [List.length_map,hl] at this
    rw [this,List.map_map];rfl
   rw [run_convert_bytes_string w src dst e _ _ _ hs he hd,run_bytesToString w _ _ _ _ hc,foldl_push_bytes]
   unfold strOf strOfNums
   simp [ByteArray.empty,ByteArray.emptyWithCapacity]
   rfl
 unfold aw
 rw [key]
 exact hK
theorem BB (b:List Nat):(strOf b).toList=b.map UInt8.ofNat:=by
 unfold strOf strOfNums
 rw [ByteArray.toList_mk,List.map_map]
 refine List.map_congr_left fun x _=> ?_
 simp
theorem oz (b:List Nat):(strOf b).data.toList=b.map UInt8.ofNat:=by rw [←ByteArray.toList_eq,BB]
section
variable {E w:World} {F:List HP}
end
end Go.Vc
namespace Go.Bw
open Go.Rk
abbrev lx:List Nat→List Nat→Bool:=Go.Vc.Lr
theorem qM (a b:Nat) (x y:List Nat):lx (a::x) (b::y)=(decide (a<b)||(a==b&&lx x y)):=rfl
theorem tJ: ∀x,lx x x=false
 | []=>rfl
 |a::x=>by rw [qM,tJ x];simp
theorem C4: ∀(k c d:List Nat),lx (k++c) (k++d)=lx c d
 | [],_,_=>rfl
 |a::k,c,d=>by rw [List.cons_append,List.cons_append,qM,C4 k];simp
theorem yH: ∀(a b c d:List Nat),a≠b→(a.length<b.length→c= [])→(b.length<a.length→d= [])→lx (a++c) (b++d)=lx a b
 | [],[],_,_,h,_,_=>absurd rfl h
 | [],y::b,c,d,_,h1,_=>by rw [h1 (by simp)];rfl
 |x::a,[],c,d,_,_,h2=>by rw [h2 (by simp)];rfl
 |x::a,y::b,c,d,h,h1,h2=>by
  rw [List.cons_append,List.cons_append,qM,qM]
  by_cases e:x=y
  ·subst e
   rw [yH a b c d (fun e=>h (by rw [e])) (fun hl=>h1 (by simpa using hl)) (fun hl=>h2 (by simpa using hl))]
  ·rw [beq_eq_false_iff_ne.2 e,Bool.false_and,Bool.false_and]
def sl (t:List Nat) (i k:Nat):Bool:=lx (t.drop i) (t.drop k)
def rows (t:List Nat):List Nat:=List.range (t.length+1)
def Lk (t:List Nat) (i:Nat):Nat:=rk (sl t) (rows t) i
def bY (index row:Nat):Nat:=if row>index then row - 1 else row
def pl (last:List Nat) (a b:Nat):Bool:=decide (last.getD a 0<last.getD b 0)||(last.getD a 0==last.getD b 0&&decide (a<b))
theorem tm {last:List Nat} {a b:Nat}:pl last a b=true↔last.getD a 0<last.getD b 0∨(last.getD a 0=last.getD b 0∧a<b):=by simp [pl]
theorem JF {last:List Nat} {a b:Nat}:pl last a b=false↔¬(last.getD a 0<last.getD b 0∨(last.getD a 0=last.getD b 0∧a<b)):=by rw [←tm,Bool.not_eq_true]
theorem KE (last:List Nat):SO (pl last):=⟨fun a=>by rw [JF];omega,fun a b c h1 h2=>by rw [tm] at*;omega,fun a b c h1 h2=>by rw [JF] at*;omega⟩
theorem Ih (last dom:List Nat):FX (pl last) dom:=fun x _ y _ e=>by rw [tm,tm];omega
def nx (last:List Nat) (a:Nat):Nat:=1+rk (pl last) (List.range last.length) a
theorem Bo {last:List Nat} {a:Nat} (ha:a<last.length):nx last a≤last.length:=by
 have:=C1 (KE last) List.nodup_range (Ih last _) (List.mem_range.2 ha)
 rw [List.length_range] at this
 unfold nx;omega
def wk (last:List Nat) (index:Nat):Nat→Nat
 |0=>0
 |k+1=>nx last (bY index (wk last index k))
def okB (last:List Nat) (index:Nat):Prop:=index≤last.length∧(∀k,k<last.length→wk last index k≠index)∧wk last index last.length=index
instance (last:List Nat) (index:Nat):Decidable (okB last index):=by unfold okB;infer_instance
def cV (last:List Nat) (index:Nat):List Nat:=((List.range last.length).map fun k=>last.getD (bY index (wk last index k)) 0).reverse
theorem p9 (last:List Nat) (index:Nat):(cV last index).length=last.length:=by simp [cV]
theorem tw {last:List Nat} {index row:Nat} (hi:index≤last.length) (hr:row≤last.length) (hne:row≠index):bY index row<last.length:=by unfold bY;split<;>omega
theorem BH {last:List Nat} {index:Nat} (hi:index≤last.length): ∀k,(∀j,j<k→wk last index j≠index)→wk last index k≤last.length
 |0,_=>by rw [wk];omega
 |k+1,h=>by
  rw [wk]
  exact Bo (tw hi (BH hi k fun j hj=>h j (by omega)) (h k (by omega)))
end Go.Bw
namespace Go.Hs
open Go Go.Vc
theorem lH (zs:List Int) (z:Int) (k:Nat):(zs.take k).count z≤zs.count z:=by
 have:zs.count z=(zs.take k).count z+(zs.drop k).count z:=by rw [←List.count_append,List.take_append_drop]
 omega
end Go.Hs
namespace Go.Vc
open Go
set_option linter.unusedSectionVars false
def g0 (x y:Int×Int):Bool:=decide (x.1<y.1)||(decide (x.1=y.1)&&decide (x.2<y.2))
theorem fA {x y:Int×Int}:g0 x y=true↔x.1<y.1∨(x.1=y.1∧x.2<y.2):=by simp [g0]
def jN (xs:List (Int×Int)):List (Int×Int):=xs.mergeSort fun x y=> !g0 y x
section
variable {E w:World} {F:List HP}
theorem DA (xs:List (Int×Int)):(jN xs).length=xs.length:=List.length_mergeSort ..
end
end Go.Vc
namespace Go.Hs
open Go Go.Vc
theorem ia (xs:List (Int×Int)):(jN xs).Perm xs:=List.mergeSort_perm ..
theorem qh (xs:List (Int×Int)):(jN xs).Pairwise fun a b=>g0 b a=false:=by
 have h:=List.pairwise_mergeSort (le:=fun x y:Int×Int=> !g0 y x) (fun a b c h1 h2=>by
   simp only [Bool.not_eq_true',Bool.eq_false_iff,ne_eq,fA] at*;omega) (fun a b=>by
   simp only [Bool.or_eq_true,Bool.not_eq_true',Bool.eq_false_iff,ne_eq,fA];omega) xs
 exact h.imp fun {a b} h=>by simpa using h
theorem vh {a b:Int×Int} (h:a≠b) (h2:g0 b a=false):g0 a b=true:=by
 rw [fA]
 rw [Bool.eq_false_iff,ne_eq,fA] at h2
 have: ¬(a.1=b.1∧a.2=b.2):=fun e=>h (Prod.ext e.1 e.2)
 omega
theorem xG {xs:List (Int×Int)} (hn:xs.Nodup):(jN xs).Pairwise fun a b=>g0 a b=true:=by
 have h1:=qh xs
 have h2:(jN xs).Nodup:=(ia xs).nodup_iff.2 hn
 exact (h1.and h2).imp fun {a b} h=>vh h.2 h.1
theorem qQ (a:Int×Int):g0 a a=false:=by rw [Bool.eq_false_iff,ne_eq,fA];omega
theorem FQ {a b:Int×Int} (h:g0 a b=true):g0 b a=false:=by rw [Bool.eq_false_iff,ne_eq,fA];rw [fA] at h;omega
theorem l9: ∀{S:List (Int×Int)},S.Pairwise (fun a b=>g0 a b=true)→∀(j:Nat) (hj:j<S.length),S.countP (fun x=>g0 x S[j])=j
 | [],_,j,hj=>by simp at hj
 |a::S,h,0,_=>by
  rw [List.pairwise_cons] at h
  rw [List.countP_cons,List.getElem_cons_zero,qQ,List.countP_eq_zero.2 fun x hx=>by rw [FQ (h.1 x hx)];decide]
  rfl
 |a::S,h,j+1,hj=>by
  rw [List.pairwise_cons] at h
  have hj':j<S.length:=by simpa using hj
  rw [List.countP_cons,List.getElem_cons_succ,l9 h.2 j hj',h.1 _ (List.getElem_mem hj')]
  rfl
theorem uj {S:List (Int×Int)} (h:S.Pairwise (fun a b=>g0 a b=true)) {x:Int×Int} (hx:x∈S): ∃hj:S.countP (fun y=>g0 y x)<S.length,S[S.countP (fun y=>g0 y x)]=x:=by
 obtain ⟨j,hj,rfl⟩:=List.getElem_of_mem hx
 have:=l9 h j hj
 exact ⟨by omega,by simp only [this]⟩
def fi {α:Type} [DecidableEq α] (acc:List α) (t:α):List α:=if t∈acc then acc else acc++ [t]
def fV {α:Type} [DecidableEq α] (l:List α):List α:=l.foldl fi []
theorem Iz {α:Type} [DecidableEq α] {acc:List α} {t x:α}:x∈fi acc t↔x∈acc∨x=t:=by
 unfold fi
 split
 ·rename_i h
  constructor
  ·exact .inl
  ·rintro (h1|rfl)
   ·exact h1
   ·exact h
 ·simp
theorem zd {α:Type} [DecidableEq α] (l:List α) (t:α):fV (l++ [t])=fi (fV l) t:=by simp [fV]
theorem ql {α:Type} [DecidableEq α]: ∀(l acc:List α) (x:α),x∈l.foldl fi acc↔x∈acc∨x∈l
 | [],acc,x=>by simp
 |t::l,acc,x=>by
  rw [List.foldl_cons,ql l,Iz,List.mem_cons,or_assoc]
theorem pk {α:Type} [DecidableEq α] {l:List α} {x:α}:x∈fV l↔x∈l:=by
 rw [fV,ql];simp
end Go.Hs
namespace Go.Bw
open Go Go.Vc Go.Rk Go.Hs
theorem Ix:SO g0:=⟨qQ,fun a b c h1 h2=>by rw [fA] at*;omega,fun a b c h1 h2=>by
 rw [Bool.eq_false_iff] at*;simp only [ne_eq,fA] at*;omega⟩
def dd (l:List (Int×Int)):List (Int×Int):=fV (jN l)
theorem rG {S:List (Int×Int)} {k:Nat} (hk:k<S.length):fV (S.take (k+1))=fi (fV (S.take k)) S[k]:=by
 rw [List.take_add_one,List.getElem?_eq_getElem hk]
 exact zd _ _
theorem pE {S:List (Int×Int)} (hS:S.Pairwise fun a b=>g0 b a=false): ∀k,k≤S.length→(fV (S.take k)).Pairwise fun a b=>g0 a b=true
 |0,_=>List.Pairwise.nil
 |k+1,hk=>by
  have ih:=pE hS k (by omega)
  rw [rG (by omega)]
  unfold fi
  split
  ·exact ih
  ·rename_i hn
   refine List.pairwise_append.2 ⟨ih,by simp,fun a ha b hb=> ?_⟩
   rw [List.mem_singleton] at hb
   subst hb
   have ha2:=pk.1 ha
   obtain ⟨i,hi,e⟩:=List.getElem_of_mem ha2
   rw [List.length_take] at hi
   rw [List.getElem_take] at e
   have h1:=List.pairwise_iff_getElem.1 hS i k (by omega) (by omega) (by omega)
   rw [e] at h1
   exact vh (fun e=>hn (by rw [←e];exact ha)) h1
theorem uS (l:List (Int×Int)):(dd l).Pairwise fun a b=>g0 a b=true:=by
 have:=pE (qh l) (jN l).length (Nat.le_refl _)
 rwa [List.take_length] at this
theorem IZ {l:List (Int×Int)} {p:Int×Int}:p∈dd l↔p∈l:=by unfold dd;rw [pk,(ia l).mem_iff]
def JS (l:List (Int×Int)) (p:Int×Int):Nat:=rk g0 (dd l) p
theorem rL {S:List (Int×Int)}: ∀k,k≤S.length→(fV (S.take k)).length≤k∧(k≤(fV (S.take k)).length→(S.take k).Nodup)
 |0,_=>⟨by simp [fV],fun _=>by simp⟩
 |k+1,hk=>by
  have ih:=rL k (by omega:k≤S.length)
  rw [rG (by omega)]
  unfold fi
  split
  ·exact ⟨by omega,fun h=>by omega⟩
  ·rename_i hn
   rw [List.length_append,List.length_singleton]
   refine ⟨by omega,fun h=> ?_⟩
   rw [List.take_add_one,List.getElem?_eq_getElem (by omega)]
   refine List.nodup_append.2 ⟨ih.2 (by omega),by simp,fun a ha b hb=> ?_⟩
   simp only [Option.toList_some,List.mem_singleton] at hb
   subst hb
   exact fun e=>hn (by rw [pk,←e];exact ha)
theorem G7 {l:List (Int×Int)} (h:l.length≤(dd l).length):l.Nodup:=by
 have:=(rL (S:=jN l) (jN l).length (Nat.le_refl _)).2
 rw [List.take_length,DA] at this
 exact (ia l).nodup_iff.1 (this h)
theorem Fw {l:List (Int×Int)} (h:l.Nodup):dd l=jN l:=by
 have h2:(dd l).Perm (jN l):=by
  have hdn:(dd l).Nodup:=(uS l).imp fun {a b} hab e=>by subst e;rw [qQ] at hab;cases hab
  refine (List.perm_ext_iff_of_nodup hdn ((ia l).nodup_iff.2 h)).2 fun a=> ?_
  rw [IZ,(ia l).mem_iff]
 exact DE Ix h2 (uS l) (xG h)
theorem D6 {l:List (Int×Int)} (h:l.Nodup) (p:Int×Int):JS l p=rk g0 l p:=by
 unfold JS rk
 rw [Fw h,(ia l).countP_eq]
def key (t:List Nat) (h i:Nat):List Nat:=(t.drop i).take h
def CO (t:List Nat) (h:Nat) (f:Nat→Int×Int):Prop:= ∀i j,i≤t.length→j≤t.length→(g0 (f i) (f j)=true↔lx (key t h i) (key t h j)=true)∧(f i=f j↔key t h i=key t h j)
def Qr (t:List Nat) (h:Nat) (r:Nat→Int):Prop:= ∀i j,i≤t.length→j≤t.length→(r i<r j↔lx (key t h i) (key t h j)=true)∧(r i=r j↔key t h i=key t h j)
def iJ (t:List Nat) (f:Nat→Int×Int):List (Int×Int):=(List.range (t.length+1)).map f
theorem qk (t:List Nat) (f:Nat→Int×Int):(iJ t f).length=t.length+1:=by simp [iJ]
def m7 (t:List Nat) (i:Nat):Int×Int:=if i<t.length then (1+(t.getD i 0:Int),0) else (0,0)
theorem js {t:List Nat} {h i:Nat}:(key t h i).length=min h (t.length - i):=by unfold key;rw [List.length_take,List.length_drop]
def Ba (t:List Nat) (h:Nat) (r:Nat→Int) (i:Nat):Int×Int:=(r i,if i+h≤t.length then r (i+h) else -1)
theorem qY (t:List Nat) (h i:Nat):key t (h+h) i=key t h i++key t h (i+h):=by
 unfold key
 rw [List.take_add,List.drop_drop]
theorem CV {t:List Nat} {h i j:Nat} (hi:i≤t.length) (hj:j≤t.length) (he:key t h i=key t h j) (hne:i≠j):i+h≤t.length∧j+h≤t.length:=by
 have:=congrArg List.length he
 rw [js,js] at this
 omega
theorem H3 {t:List Nat} {h i:Nat} (hh:t.length≤i+h):key t h (i+h)= []:=by
 unfold key
 rw [List.drop_eq_nil_of_le hh];simp
theorem z6 {t:List Nat} {h:Nat} {r:Nat→Int} (hr:Qr t h r):CO t (h+h) (Ba t h r):=by
 intro i j hi hj
 obtain ⟨h1,h2⟩:=hr i j hi hj
 rw [qY,qY]
 by_cases hij:i=j
 ·subst hij
  simp [qQ,tJ]
 by_cases he:key t h i=key t h j
 ·obtain ⟨g1,g2⟩:=CV hi hj he hij
  obtain ⟨h3,h4⟩:=hr (i+h) (j+h) g1 g2
  have hre:=h2.2 he
  rw [←he,C4]
  unfold Ba
  rw [if_pos g1,if_pos g2,fA]
  simp only [Prod.mk.injEq,List.append_cancel_left_eq]
  rw [←h3,←h4]
  omega
 ·have hre:r i≠r j:=fun e=>he (h2.1 e)
  have hl: ∀{a b:Nat},a≤t.length→(key t h a).length<(key t h b).length→key t h (a+h)= []:=fun {a b} ha hlt=>by
   rw [js,js] at hlt
   exact H3 (by omega)
  rw [yH _ _ _ _ he (hl hi) (hl hj),←h1]
  unfold Ba
  rw [fA]
  simp only [Prod.mk.injEq]
  refine ⟨by omega,⟨fun e=>absurd e.1 hre,fun e=> ?_⟩⟩
  exfalso
  have hlen:=congrArg List.length e
  apply he
  have e1:(key t h i++key t h (i+h)).take h=key t h i∧(key t h j++key t h (j+h)).take h=key t h j:=by
   rw [←qY,←qY]
   unfold key
   rw [List.take_take,List.take_take,Nat.min_eq_left (by omega)]
   exact ⟨rfl,rfl⟩
  rw [←e1.1,←e1.2,e]
theorem done {t:List Nat} {h:Nat} {f:Nat→Int×Int} (hf:CO t h f) (hd:t.length+1≤(dd (iJ t f)).length) {i:Nat} (hi:i≤t.length):JS (iJ t f) (f i)=Lk t i:=by
 have hn:(iJ t f).Nodup:=G7 (by rw [qk];exact hd)
 have hinj: ∀a b,a≤t.length→b≤t.length→key t h a=key t h b→a=b:=fun a b ha hb e=>by
  have hfe:=((hf a b ha hb).2).2 e
  have hp:=List.pairwise_map.1 hn
  rcases Nat.lt_trichotomy a b with h1|h1|h1
  ·have:=List.pairwise_iff_getElem.1 hp a b (by simp;omega) (by simp;omega) h1
   simp only [List.getElem_range] at this
   exact absurd hfe this
  ·exact h1
  ·have:=List.pairwise_iff_getElem.1 hp b a (by simp;omega) (by simp;omega) h1
   simp only [List.getElem_range] at this
   exact absurd hfe.symm this
 rw [D6 hn]
 unfold rk Lk rk iJ rows
 rw [List.countP_map]
 refine List.countP_congr fun j hj=> ?_
 rw [List.mem_range] at hj
 simp only [Function.comp]
 rw [(hf j i (by omega) hi).1]
 unfold sl
 by_cases hij:j=i
 ·subst hij;rw [tJ,tJ]
 ·have hne:key t h j≠key t h i:=fun e=>hij (hinj j i (by omega) hi e)
  have hs: ∀a,t.drop a=key t h a++t.drop (a+h):=fun a=>by
   unfold key
   rw [←List.drop_drop,List.take_append_drop]
  rw [hs j,hs i,yH _ _ _ _ hne]
  ·intro hlt
   rw [js,js] at hlt
   exact List.drop_eq_nil_of_le (by omega)
  ·intro hlt
   rw [js,js] at hlt
   exact List.drop_eq_nil_of_le (by omega)
end Go.Bw
namespace Go.Bw
open Go.Rk
def bG (last:List Nat) (c:Nat):Nat:=last.countP fun x=>decide (x<c)
theorem vw (last:List Nat):bG last 0=0:=by unfold bG;rw [List.countP_eq_zero];intro x _;simp
theorem qA (c:Nat): ∀last:List Nat,bG last (c+1)=bG last c+last.count c
 | []=>rfl
 |x::last=>by
  have ih:=qA c last
  unfold bG at ih⊢
  rw [List.countP_cons,List.countP_cons,List.count_cons,ih]
  by_cases h1:x<c
  ·rw [if_pos (by simp;omega),if_pos (by simp [h1]),if_neg (by simp;omega)];omega
  ·by_cases h2:x=c
   ·rw [if_pos (by simp;omega),if_neg (by simp [h1]),if_pos (by simp [h2])];omega
   ·rw [if_neg (by simp;omega),if_neg (by simp [h1]),if_neg (by simp [h2])];omega
theorem Be (l:List Nat):l=(List.range l.length).map fun i=>l.getD i 0:=by
 apply List.ext_getElem (by simp)
 intro i h1 h2
 simp [List.getD,h1]
theorem tf (l:List Nat) (p:Nat→Bool):(List.range l.length).countP (fun i=>p (l.getD i 0))=l.countP p:=by
 conv=>rhs;rw [Be l,List.countP_map]
 rfl
theorem yY (q:Nat→Bool) (a:Nat): ∀n,a≤n→(List.range n).countP (fun i=>q i&&decide (i<a))=(List.range a).countP q
 |n,h=>by
  induction n with
  |zero=>obtain rfl:a=0:=by omega
         rfl
  |succ n ih=>
   rw [List.range_succ,List.countP_append,List.countP_cons,List.countP_nil]
   by_cases e:a=n+1
   ·subst e
    rw [List.range_succ,List.countP_append,List.countP_cons,List.countP_nil]
    congr 1
    ·refine List.countP_congr fun i hi=> ?_
     rw [List.mem_range] at hi
     simp;omega
    ·congr 1;simp
   ·rw [ih (by omega)];simp;omega
theorem Bg (l:List Nat) (c a:Nat) (h:a≤l.length):(l.take a).count c=(List.range a).countP fun i=>l.getD i 0==c:=by
 have:=tf (l.take a) (fun x=>x==c)
 rw [List.length_take,Nat.min_eq_left h] at this
 show (l.take a).countP (·==c)=_
 rw [←this]
 refine List.countP_congr fun i hi=> ?_
 rw [List.mem_range] at hi
 simp only [List.getD,List.getElem?_take_of_lt hi]
def Il (last:List Nat) (a k:Nat):Nat:=(List.range k).countP fun i=>pl last i a
theorem KJ (last:List Nat) (a:Nat):nx last a=1+Il last a last.length:=rfl
theorem vl {α:Type} (p q:α→Bool) (h: ∀x,p x=true→q x=false): ∀l:List α,l.countP (fun x=>p x||q x)=l.countP p+l.countP q
 | []=>rfl
 |x::l=>by
  rw [List.countP_cons,List.countP_cons,List.countP_cons,vl p q h l]
  cases hp:p x with
  |true=>rw [h x hp];simp;omega
  |false=>simp;omega
theorem DP {last:List Nat} {a:Nat} (ha:a<last.length):nx last a=bG last (last.getD a 0)+(last.take a).count (last.getD a 0)+1:=by
 have e1:Il last a last.length=bG last (last.getD a 0)+(last.take a).count (last.getD a 0):=by
  unfold Il
  have:(List.range last.length).countP (fun i=>pl last i a)=(List.range last.length).countP fun i=>(decide (last.getD i 0<last.getD a 0)||(last.getD i 0==last.getD a 0&&decide (i<a))):=rfl
  rw [this,vl (fun i=>decide (last.getD i 0<last.getD a 0)) (fun i=>(last.getD i 0==last.getD a 0&&decide (i<a))) fun i h=>by
   have:=of_decide_eq_true h
   rw [show (last.getD i 0==last.getD a 0)=false from beq_eq_false_iff_ne.2 (by omega)];rfl]
  rw [yY (fun i=>last.getD i 0==last.getD a 0) a _ (by omega),←Bg _ _ _ (by omega)]
  congr 1
  exact tf last fun x=>decide (x<last.getD a 0)
 rw [KJ,e1];omega
theorem Fk {index row:Nat} (hne:row≠index):bY index (row+1)=bY index row+1:=by unfold bY;split<;>split<;>omega
theorem Ei (index:Nat):bY index (index+1)=bY index index:=by unfold bY;rw [if_pos (by omega),if_neg (by omega)];omega
end Go.Bw
namespace Go.Vc
open Go Go.Bw
def dS (f:Nat→Nat) (N:Nat):Array Value:=⟨(List.range N).map fun i=> .int .i64 (f i:Int)⟩
theorem dG (f:Nat→Nat) (N:Nat):(dS f N).size=N:=by simp [dS]
theorem kr {f:Nat→Nat} {N i:Nat} (h:i<N):(dS f N)[i]? =some (Sc.enc (.int .i64) (f i:Int)):=by simp [dS,h,Sc.enc]
theorem tL {f:Nat→Nat} {N:Nat}:(dS f N).toList.all ay=true:=by
 rw [List.all_eq_true]
 intro v hv
 obtain ⟨i,_,rfl⟩:=List.mem_map.1 hv
 rfl
theorem nZ {f:Nat→Nat} {N p v:Nat}:(dS f N).setIfInBounds p (.int .i64 (v:Int))=dS (gy f p v) N:=by
 apply Array.ext'
 apply List.ext_getElem?
 intro i
 simp only [dS,Array.toList_setIfInBounds,List.getElem?_set,List.getElem?_map,List.getElem?_range,List.length_map,List.length_range]
 by_cases e:p=i
 ·subst e
  by_cases hp:p<N
  ·simp [hp,gy]
  ·simp [hp,List.getElem?_eq_none]
 ·by_cases hi:i<N
  ·simp [e,hi,gy,Ne.symm e]
  ·simp [e,List.getElem?_eq_none,hi]
theorem sJ {N:Nat}:(⟨List.replicate N (.int .i64 0)⟩:Array Value)=dS (fun _=>0) N:=by
 apply Array.ext'
 show List.replicate N (Value.int .i64 0)=(List.range N).map fun _=> .int .i64 ((0:Nat):Int)
 rw [List.map_const',List.length_range];rfl
theorem jk {f g:Nat→Nat} {N:Nat} (h: ∀i,i<N→f i=g i):dS f N=dS g N:=by
 unfold dS
 congr 1
 exact List.map_congr_left fun i hi=>by rw [h i (List.mem_range.1 hi)]
def qD (g:Nat→Nat) (pm d:Nat) (col:List Nat) (k:Nat):Prop:= ∀i,i<k→∀b,b<256→kE g (pm+4*(i*256+b))=(col.take ((i+1)*d)).count b
theorem pe {col:List Nat} {k:Nat} (hk:k<col.length) (c:Nat):(col.take (k+1)).count c=(col.take k).count c+if c=col.getD k 0 then 1 else 0:=by
 rw [List.take_add_one,List.count_append,List.getElem?_eq_getElem hk,List.getD_eq_getElem?_getD,List.getElem?_eq_getElem hk]
 congr 1
 simp only [Option.toList_some,Option.getD_some,List.count_cons,List.count_nil,Nat.zero_add]
 by_cases e:c=col[k]
 ·rw [if_pos e,if_pos (beq_iff_eq.2 e.symm)]
 ·rw [if_neg e,if_neg fun h=>e (beq_iff_eq.1 h).symm]
theorem pB {col:List Nat} {k:Nat} (hk:k<col.length):gy (fun c=>(col.take k).count c) (col.getD k 0) ((col.take k).count (col.getD k 0)+1)=fun c=>(col.take (k+1)).count c:=by
 funext c
 rw [pe hk]
 unfold gy
 by_cases e:c=col.getD k 0
 ·rw [if_pos e,if_pos e,e]
 ·rw [if_neg e,if_neg e,Nat.add_zero]
theorem jh (col:List Nat) (k c:Nat):(col.take k).count c≤col.length:=Nat.le_trans List.count_le_length (by rw [List.length_take];omega)
theorem qB {f:Nat→Nat} {p q i:Nat} {col:List Nat} (hc:dH f p q=col) (hi:i<q):col.getD i 0=f (p+i):=by
 subst hc
 rw [List.getD_eq_getElem?_getD,List.getElem?_eq_getElem (by rw [cJ];exact hi),oH hi];rfl
end Go.Vc
namespace Go.Proofs.YtgglghjnakclmaaGreat
open Go Go.Vc Go.Bw
section
variable {E w:World} {F:List HP} {A:AS} {f:Nat→Nat} {pc m pm qm d:Nat} {col:List Nat}
theorem jS {a b c:Int} {K:Bool→World→Prop} (h1:b≤a) (h2:a≤c) (hK:K true w):Cl Tryz.prog [kB] dJ ⟨[.int .i64 a,.int .i64 b,.int .i64 c]⟩ w K:=
 zv.ok _ _ _ _ _ (aa.dt h1 (dx (decide_eq_true h2) hK))
theorem El {K:Int→World→Prop} (hm:m≤65536) (hd:1≤d) (hd2:d≤65536) (hK:K ((m/d*1024:Nat):Int) w):Cl Tryz.prog [kI] nu ⟨[.int .i64 (m:Int),.int .i64 (d:Int)]⟩ w K:=by
 refine CA.ok _ _ _ _ (jS (by omega) (by omega) (aa.f rfl (jS (by omega) (by omega) (aa.f rfl ⟨by omega,?_⟩))))
 have hq:m/d≤m:=Nat.div_le_self _ _
 rw [show Int.tdiv (m:Int) (d:Int)=((m/d:Nat):Int) from rfl]
 generalize m/d=Q at hq hK⊢
 rw [ab (x:=(Q:Int)) (by omega),ab (by omega)]
 exact hK
structure Af (A:AS) (pc m pm qm d:Nat):Prop where
 c1:1≤m
 c2:m≤65536
 d1:1≤d
 d2:d≤65536
 ca:pc+m≤pm
 ma:pm+qm≤A.live
 mq:m/d*1024≤qm
theorem Dd {K:Bool→World→Prop} (h:Hp E w F) (r:Af A pc m pm qm d) (hb:A.live≤1000000) (hK: ∀w',Hp E w' F→K true w'):Cl Tryz.prog [kB] mJ ⟨[gT pc m,gT pm qm]⟩ w K:=by
 obtain ⟨c1,c2,d1,d2,ca,ma,mq⟩:=r
 refine B7.ok ((pc:Int),(m:Int),()) ((pm:Int),(qm:Int),()) _ _ ?_
 dsimp only
 refine Nw.mk h fun b1 w h=>Nw.mk h fun b2 w h=> ?_
 (try simp only [af,Nat.zero_add,Nat.add_zero])
 refine Ld.xb (b:=b1) h rfl (aa.em (fun _=>hK w ((h.no 0).no 0)) fun _=>Ld.xb (b:=b2) h rfl (aa.em (fun _=>hK w ((h.no 0).no 0)) fun _=> ?_))
 refine Ld.xb (b:=b1) h rfl (Ld.xb (b:=b1) h rfl (Ld.xb (b:=b2) h rfl ?_))
 exact aa.dt (by rw [ab (by omega)];omega) (hK w ((h.no 0).no 0))
theorem u3 {K:Bool→World→Prop} (h:Hp E w (Ar A f::F)) (r:Af A pc m pm qm d) (hK: ∀w',Hp E w' (Ar A f::F)→K true w'):Cl Tryz.prog [kB] jO ⟨[pA A,gT pc m,gT pm qm,.int .i64 (d:Int)]⟩ w K:=by
 obtain ⟨aok,_⟩:=Ar.cE h
 have hbig:=aok.eP;have hle:=aok.le
 have r':=r
 obtain ⟨c1,c2,d1,d2,ca,ma,mq⟩:=r'
 refine BZ.ok _ ((pc:Int),(m:Int),()) ((pm:Int),(qm:Int),()) _ _ _ ?_
 dsimp only
 refine Nw.mk h fun b1 w h=>Nw.mk h fun b2 w h=>Ld.xt (b:=b1) h rfl ?_
 refine kA (p:=pc) (q:=m) (h.at 2) (by omega) fun w h=>aa.f rfl (Ld.xt (b:=b2) h rfl ?_)
 refine kA (p:=pm) (q:=qm) h (by omega) fun w h=>aa.f rfl ?_
 (try simp only [af,Nat.zero_add])
 refine Ld.xb (b:=b1) h rfl (jS (by omega) (by omega) (aa.f rfl (jS (by omega) (by omega) (aa.f rfl ?_))))
 have h:=h.drew (n:=w.drawn+1)
 refine ⟨fun w=>bm b1 _ _ (0,0) w∧bm b2 _ _ (0,0) w,⟨h.hb,h.hb⟩,au.xt (fun _ h=>h.1) rfl (au.xt (fun _ h=>h.2) rfl ?_)⟩
 refine Dd h r (by omega) fun w h=>⟨⟨h.hb,h.hb⟩,aa.t rfl ?_⟩
 refine au.xb (b:=b2) (fun _ h=>h.2) rfl (au.xb (b:=b1) (fun _ h=>h.1) rfl ?_)
 refine El c2 d1 d2 ⟨⟨h.hb,h.hb⟩,dx (decide_eq_true (by omega)) (hK w ((h.no 1).no 1))⟩
theorem EL {K:Int→World→Prop} (h:Hp E w (Ar A f::F)) (r:Af A pc m pm qm d) (hcol:dH f pc m=col)
  (hK: ∀g w',qD g pm d col (m/d)→(∀j,¬(pm≤j∧j<pm+qm)→g j=f j)→Hp E w' (Ar A g::F)→K 0 w'):
  Cl Tryz.prog [kI] nL ⟨[pA A,gT pc m,gT pm qm,.int .i64 (d:Int)]⟩ w K:=by
 obtain ⟨aok0,_⟩:=Ar.cE h
 have hbig:=aok0.eP;have hle:=aok0.le
 have r':=r
 obtain ⟨c1,c2,d1,d2,ca,ma,mq⟩:=r'
 have hlen:col.length=m:=by rw [←hcol,cJ]
 have hq:m/d≤m:=Nat.div_le_self _ _
 have hqd:m/d*d≤m:=Nat.div_mul_le_self _ _
 refine DW.ok _ ((pc:Int),(m:Int),()) ((pm:Int),(qm:Int),()) _ _ _ ?_
 dsimp only
 refine Nw.mk h fun b1 w h=>Nw.mk h fun b2 w h=>Ld.xt (b:=b1) h rfl (Ld.xt (b:=b2) h rfl ?_)
 refine u3 (h.at 2) r fun w h=>aa.f rfl (Nw.mk h fun b3 w h=> ?_)
 have h:=h
 rw [show (⟨List.replicate 256 (ni 0)⟩:Array Value)=dS (fun c=>(col.take 0).count c) 256 from sJ] at h
 (try simp only [af,Nat.zero_add])
 refine Ld.xb (b:=b1) h rfl ⟨by omega,?_⟩
 have e0:i64 ((i64 (Int.tdiv (m:Int) (d:Int)))*(d:Int))=((m/d*d:Nat):Int):=by
  rw [show Int.tdiv (m:Int) (d:Int)=((m/d:Nat):Int) from rfl]
  clear hK
  generalize m/d=Q at hq hqd mq⊢
  rw [ab (x:=(Q:Int)) (by omega),show (Q:Int)*(d:Int)=((Q*d:Nat):Int) by simp]
  generalize Q*d=X at hqd⊢
  exact ab (by omega)
 rw [e0]
 generalize hQ:m/d=Q at*
 refine ⟨fun r w=> ∃(k:Nat) (g:Nat→Nat),r=(k:Int)∧k≤Q*d∧qD g pm d col (k/d)∧(∀j,¬(pm≤j∧j<pm+qm)→g j=f j)∧
  Hp E w (ag b3 (.cells (dS (fun c=>(col.take k).count c) 256) 351 (0,0))::Ar A g::ag b2 (.cells ⟨[.int .i64 (pm:Int),.int .i64 (qm:Int)]⟩ 146 (0,0))::ag b1 (.cells ⟨[.int .i64 (pc:Int),.int .i64 (m:Int)]⟩ 146 (0,0))::F),
  fun r _=>Q*d - r.toNat,⟨0,f,rfl,Nat.zero_le _,(fun i hi=>by rw [Nat.zero_div] at hi;omega),fun _ _=>rfl,h⟩,?_⟩
 rintro r w ⟨k,g,rfl,hk,hmk,hfr,h⟩
 refine aa.dm (fun hlt=> ?_) (fun hge=> ?_)
 ·have hlt:k<Q*d:=by omega
  have hkm:k<m:=by omega
  have hgc:col.getD k 0=g (pc+k):=by rw [qB hcol hkm,hfr _ (by omega)]
  obtain ⟨aok,_⟩:=Ar.cE (h.at 1)
  refine Ld.xt (b:=b1) h rfl ?_
  refine mM (p:=pc) (q:=m) (h.at 1) (by omega) (fun j hj hjn w h=> ?_) (fun hno=>absurd ⟨by omega,by omega⟩ hno)
  obtain rfl:k=j:=by omega
  rw [←hgc]
  have hc256:col.getD k 0<256:=by rw [hgc];exact aok.byt _
  have hcl:=jh col k (col.getD k 0)
  have h:=h.at 1
  refine aF.rd h (by omega) (by omega) ((col.take k).count (col.getD k 0):Int) (by rw [Int.toNat_natCast];exact kr hc256) ?_
  rw [ab (x:=(((col.take k).count (col.getD k 0):Nat):Int)+1) (by omega),show (((col.take k).count (col.getD k 0):Nat):Int)+1=(((col.take k).count (col.getD k 0)+1:Nat):Int) by omega]
  refine aF.wr h (by omega) (by omega) (dG ..) rfl fun w h=> ?_
  rw [Int.toNat_natCast,nZ,pB (by omega)] at h
  rw [ab (x:=(k:Int)+1) (by omega),show Int.tmod ((k:Int)+1) (d:Int)=(((k+1) % d:Nat):Int) from rfl]
  refine ⟨by omega,aa.nm (fun hnz=> ?_) (fun hz=> ?_)⟩
  ·have hdv:(k+1)/d=k/d:=by
    have h1:=Nat.div_add_mod k d
    have h2:=Nat.div_add_mod (k+1) d
    have h3:=Nat.mod_lt k (show d>0 by omega)
    have h4:=Nat.mod_lt (k+1) (show d>0 by omega)
    have h5:(k+1) % d≠0:=fun e=>hnz (by rw [e];rfl)
    have h6:(k+1) % d=k % d+1:=by
     rcases Nat.lt_or_ge (k % d+1) d with h|h
     ·have:=Nat.add_mod k 1 d
      rw [Nat.mod_eq_of_lt (a:=1) (by omega)] at this
      rw [this,Nat.mod_eq_of_lt h]
     ·exfalso
      have e:k % d+1=d:=by omega
      have:(k+1) % d=0:=by
       have:=Nat.div_add_mod k d
       rw [show k+1=d*(k/d)+d by omega,←Nat.mul_succ]
       exact Nat.mul_mod_right ..
      exact h5 this
    have h7:d*((k+1)/d)=d*(k/d):=by omega
    exact Nat.eq_of_mul_eq_mul_left (by omega) h7
   exact ⟨⟨k+1,g,by omega,by omega,by rw [hdv];exact hmk,hfr,h⟩,by first|omega|(dsimp only;omega)⟩
  ·obtain ⟨q,hq1⟩: ∃q,k+1=(q+1)*d:=by
    have h1:=Nat.div_add_mod (k+1) d
    have h2:(k+1) % d=0:=by exact_mod_cast hz
    refine ⟨(k+1)/d - 1,?_⟩
    have h3:(k+1)/d≠0:=fun e=>by rw [e] at h1;omega
    rw [Nat.sub_add_cancel (Nat.pos_of_ne_zero h3),Nat.mul_comm]
    rw [h2] at h1
    exact h1.symm
   have hkd:k/d=q:=by
    rw [Nat.succ_mul] at hq1
    have:k=d*q+(d - 1):=by rw [Nat.mul_comm];omega
    rw [this,Nat.mul_add_div (by omega),Nat.div_eq_of_lt (by omega)];omega
   have hkd1:(k+1)/d=q+1:=by rw [hq1];exact Nat.mul_div_cancel _ (by omega)
   have hqm:q<Q:=by
    have h3:(q+1)*d≤Q*d:=by omega
    have:=Nat.le_of_mul_le_mul_right h3 (by omega)
    omega
   rw [hkd] at hmk
   refine ⟨by omega,Ld.xw (b:=b3) h (dG ..) ?_⟩
   have e1:i64 ((i64 ((i64 (Int.tdiv ((k:Int)+1) (d:Int))) - 1))*256)=((q*256:Nat):Int):=by
    rw [show Int.tdiv ((k:Int)+1) (d:Int)=(((k+1)/d:Nat):Int) from rfl,hkd1,ab (x:=((q+1:Nat):Int)) (by omega),ab (x:=((q+1:Nat):Int) - 1) (by omega),ab (by omega)]
    omega
   rw [e1]
   refine ⟨fun t w=> ∃(j:Nat) (g':Nat→Nat),t=(j:Int)∧j≤256∧qD g' pm d col q∧(∀b,b<j→kE g' (pm+4*(q*256+b))=(col.take ((q+1)*d)).count b)∧(∀j,¬(pm≤j∧j<pm+qm)→g' j=f j)∧
    Hp E w (ag b3 (.cells (dS (fun c=>(col.take (k+1)).count c) 256) 351 (0,0))::Ar A g'::ag b2 (.cells ⟨[.int .i64 (pm:Int),.int .i64 (qm:Int)]⟩ 146 (0,0))::ag b1 (.cells ⟨[.int .i64 (pc:Int),.int .i64 (m:Int)]⟩ 146 (0,0))::F),
    fun t _=>256 - t.toNat,⟨0,g,rfl,by omega,hmk,fun b hb=>by omega,hfr,h⟩,?_⟩
   rintro t w ⟨j,g',rfl,hj,hm',hb',hfr',h⟩
   refine aa.dm (fun hlt2=> ?_) (fun hge2=> ?_)
   ·have hj2:j<256:=by omega
    have hcl2:=jh col (k+1) j
    refine iN.rd (by omega) (by omega) ((col.take (k+1)).count j:Int) (by rw [Int.toNat_natCast];exact kr hj2) ?_
    refine Ld.xt (b:=b2) h rfl ?_
    rw [ab (x:=((q*256:Nat):Int)+(j:Int)) (by omega),show ((q*256:Nat):Int)+(j:Int)=((q*256+j:Nat):Int) by omega,dv (x:=(((col.take (k+1)).count j:Nat):Int)) (by omega)]
    have hfit:4*(q*256+j)+4≤qm:=by
     have:(q+1)*1024≤Q*1024:=Nat.mul_le_mul_right _ hqm
     omega
    refine nJ (p:=pm) (q:=qm) (h.at 1) (by omega) hfit (by omega) fun w h=> ?_
    rw [ab (x:=(j:Int)+1) (by omega)]
    have l4:=jR ((col.take (k+1)).count j)
    refine ⟨⟨j+1,_,by omega,by omega,fun i hi b hb=> ?_,fun b hb=> ?_,fun p hp=> ?_,h.at 1⟩,by first|omega|(dsimp only;omega)⟩
    ·have hlt3:i*256+b<q*256:=by
      have:(i+1)*256≤q*256:=Nat.mul_le_mul_right _ hi
      omega
     rw [gN (by omega) (.inr (.inl (by omega))),if_neg (by omega)]
     exact hm' i hi b hb
    ·by_cases e:b=j
     ·subst e
      rw [gN (by omega) (.inl rfl),if_pos rfl,hq1]
     ·rw [gN (by omega) (.inr (.inl (by omega))),if_neg (by omega)]
      exact hb' b (by omega)
    ·rw [dY (by rw [l4];omega)]
     exact hfr' p hp
   ·obtain rfl:j=256:=by omega
    refine ⟨⟨k+1,g',by omega,by omega,fun i hi b hb=> ?_,hfr',h⟩,by first|omega|(dsimp only;omega)⟩
    rw [hkd1] at hi
    by_cases e:i=q
    ·subst e;exact hb' b hb
    ·exact hm' i (by omega) b hb
 ·obtain rfl:k=Q*d:=by omega
  refine hK g w ?_ hfr ((h.no 0).no 1|>.no 1)
  rw [Nat.mul_div_cancel _ (by omega)] at hmk
  exact hmk
end
end Go.Proofs.YtgglghjnakclmaaGreat
namespace Go.Proofs.YtgglghjnakclmaaGreat
open Go Go.Vc
set_option maxRecDepth 100000
theorem Hg.ok (R:(Array Value)→World→Prop) w (h:
 Nw 110 ⟨List.replicate 256 (.int .u8 0)⟩ w fun b a=>
 fx 0 a fun c d (e:Int) f=>
 aa (decide (e<256))
 (aF ⟨b,0,none⟩ 256 e 1 fun g=>
 St g (.int .u8 (u8 e)) f fun h=>
 c (i64 (e+1)) h∧d (i64 (e+1)) h<d e f)
 (Ld (.arr 256) ⟨b,0,none⟩ f fun i=>
 aj 256 ⟨b,0,none⟩ i f fun j=>
 Ld (.arr 256) ⟨b,0,none⟩ j fun k=>
 R k j)):Cl Pg [(.arr 256)] qz ⟨[]⟩ w R:=co Tryz.f174 [(5,[(2,kI)])] h
theorem CZ.ok (a:(Array Value)) (R:Bool→World→Prop) w (h:
 Nw 110 a w fun c b=>
 Nw 351 ⟨List.replicate 256 (ni 0)⟩ b fun e d=>
 Ld (.arr 256) ⟨c,0,none⟩ d fun f=>
 fx 0 d fun g h (i:Int) j=>
 aa (decide (i<256))
 (iN (.int .u8) f 256 i fun (k:Int)=>
 aF ⟨e,0,none⟩ 256 k 1 fun l=>
 St l (ni 1) j fun m=>
 g (i64 (i+1)) m∧h (i64 (i+1)) m<h i j)
 (cP j fun n o=>
 au (.arr 256) ⟨e,0,none⟩ n fun p=>
 Cl Pg [(.arr 256)] oM ⟨[]⟩ o fun r q=>
 n q∧
 yf .i64 256 p r fun s=>
 R s q)):Cl Pg [kB] nK ⟨[(.agg a)]⟩ w R:=co Tryz.f237 [(7,[(7,kI)])] h
theorem FK.ok (a:(Array Value)) (b:Int) (R:(Array Value)→Int→Bool→World→Prop) w (h:
 Nw 110 a w fun d c=>
 Nw 110 ⟨List.replicate 256 (.int .u8 0)⟩ c fun f e=>
 aa (decide (b<0))
 (Ld (.arr 256) ⟨d,0,none⟩ e fun g=>
 aj 256 ⟨f,0,none⟩ g e fun h=>
 Ld (.arr 256) ⟨f,0,none⟩ h fun i=>
 R i 0 false h)
 (aa (decide (b≥256))
 (Ld (.arr 256) ⟨d,0,none⟩ e fun j=>
 aj 256 ⟨f,0,none⟩ j e fun k=>
 Ld (.arr 256) ⟨f,0,none⟩ k fun l=>
 R l 0 false k)
 (aU e fun m=>
 Ld (.arr 256) ⟨d,0,none⟩ m fun n=>
 aF ⟨d,0,none⟩ 256 b 1 fun o=>
 Ld (ak .u8) o m fun (p:Int)=>
 aj 256 ⟨f,0,none⟩ n m fun q=>
 aU q fun r=>
 bQ (⟨some ⟨f,0,none⟩,256,256⟩:Sl) 1 (i64 (b+1)) 256 1 fun s=>
 bQ (⟨some ⟨d,0,none⟩,256,256⟩:Sl) 0 b 256 1 fun t=>
 aw Pg (Builtin.copy_ #[26,26] 3 ⟨[(ar s),(ar t)]⟩) kI r fun (v:Int) u=>
 aF ⟨f,0,none⟩ 256 0 1 fun x=>
 St x (.int .u8 p) u fun y=>
 Ld (.arr 256) ⟨f,0,none⟩ y fun z=>
 aj 256 ⟨f,0,none⟩ z y fun a1=>
 Ld (.arr 256) ⟨f,0,none⟩ a1 fun b1=>
 R b1 p true a1))):Cl Pg [(.arr 256),(ak .u8),kB] py ⟨[(.agg a),(ni b)]⟩ w R:=co Tryz.f240 [] h
theorem FM.ok (R:(Array Value)→World→Prop) w (h:
 Nw 351 ⟨List.replicate 256 (ni 0)⟩ w fun b a=>
 fx 0 a fun c d (e:Int) f=>
 aa (decide (e<256))
 (aF ⟨b,0,none⟩ 256 e 1 fun g=>
 St g (ni 1) f fun h=>
 c (i64 (e+1)) h∧d (i64 (e+1)) h<d e f)
 (Ld (.arr 256) ⟨b,0,none⟩ f fun i=>
 aj 256 ⟨b,0,none⟩ i f fun j=>
 Ld (.arr 256) ⟨b,0,none⟩ j fun k=>
 R k j)):Cl Pg [(.arr 256)] oM ⟨[]⟩ w R:=co Tryz.f291 [(5,[(2,kI)])] h
end Go.Proofs.YtgglghjnakclmaaGreat
namespace Go.Proofs.YtgglghjnakclmaaGreat
open Go Go.Vc
set_option maxRecDepth 100000
theorem zr.ok (a:Int) (b:Int) (c:Int) (R:Int→Int→World→Prop) w (h:
 aR (fun (e:World)=>
 0≤b∧
 aa (decide ((i64 (a+(a8 .i64 (i64 ((1:Int)+c)) b)))>2147483647))
 (R 0 2 e)
 (R (i64 (a+(a8 .i64 (i64 ((1:Int)+c)) b))) 0 e)) fun d=>
 aa (decide (a<0))
 (R 0 2 w)
 (aa (decide (a>2147483647))
 (R 0 2 w)
 (aa (decide (b<0))
 (R 0 2 w)
 (aa (decide (b>30))
 (R 0 2 w)
 (aa (c !=0)
 (aa (c !=1)
 (R 0 2 w)
 (d w))
 (d w)))))):Cl Pg [kI,kI] iB ⟨[(ni a),(ni b),(ni c)]⟩ w R:=co Tryz.f238 [(2,[])] h
end Go.Proofs.YtgglghjnakclmaaGreat
namespace Go.Inc
inductive tI (σ β ε:Type) where
 |more (s:σ)|fin (b:β)|bad (e:ε)
inductive Mu (α σ β ε:Type) where
 |short (s:σ)|fin (b:β) (rest:List α)|bad (e:ε)
def run {α σ β ε:Type} (f:σ→α→tI σ β ε):σ→List α→Mu α σ β ε
 |s,[]=> .short s
 |s,c::l=>match f s c with
  | .more s'=>run f s' l
  | .fin b=> .fin b l
  | .bad e=> .bad e
section
variable {α σ β ε:Type} {f:σ→α→tI σ β ε}
theorem re (s:σ):run f s []= .short s:=rfl
theorem cI (s:σ) (c:α) (l:List α):run f s (c::l)=match f s c with
  | .more s'=>run f s' l
  | .fin b=> .fin b l
  | .bad e=> .bad e:=rfl
theorem sN {s s':σ} {c:α} {l:List α} (h:f s c= .more s'):run f s (c::l)=run f s' l:=by rw [cI,h]
theorem ua {s:σ} {b:β} {c:α} {l:List α} (h:f s c= .fin b):run f s (c::l)= .fin b l:=by rw [cI,h]
theorem Ab {s:σ} {e:ε} {c:α} {l:List α} (h:f s c= .bad e):run f s (c::l)= .bad e:=by rw [cI,h]
theorem Am: ∀(a:List α) (s:σ) (l:List α),run f s (a++l)=match run f s a with
  | .short s'=>run f s' l
  | .fin b r=> .fin b (r++l)
  | .bad e=> .bad e
 | [],s,l=>rfl
 |c::a,s,l=>by
  rw [List.cons_append,cI,cI]
  cases f s c with
  |more s'=>exact Am a s' l
  |fin b=>rfl
  |bad e=>rfl
theorem mY {s s':σ} {a:List α} (h:run f s a= .short s') (l:List α):run f s (a++l)=run f s' l:=by rw [Am,h]
theorem vd: ∀{l:List α} {s:σ} {b:β} {r:List α},run f s l= .fin b r→∃a c s',l=a++c::r∧run f s a= .short s'∧f s' c= .fin b
 | [],s,b,r,h=>by cases h
 |c::l,s,b,r,h=>by
  rw [cI] at h
  cases hc:f s c with
  |more s'=>
   rw [hc] at h
   obtain ⟨a,c',s'',rfl,h1,h2⟩:=vd h
   exact ⟨c::a,c',s'',rfl,by rw [sN hc,h1],h2⟩
  |fin b'=>
   rw [hc] at h
   cases h
   exact ⟨[],c,s,rfl,rfl,hc⟩
  |bad e=>rw [hc] at h;cases h
end
end Go.Inc
namespace Go.Sym
open Go.Inc
def cT (L:List Nat) (p:Nat):List Nat:=L.getD p 0::L.eraseIdx p
theorem ow {L:List Nat} {p:Nat} (hp:p<L.length):(cT L p).Perm L:=by
 unfold cT
 have e:L.getD p 0=L[p]:=by simp [List.getD,hp]
 rw [e]
 rw [List.eraseIdx_eq_take_drop_succ]
 have h2:L.take p++L[p]::L.drop (p+1)=L:=by rw [List.getElem_cons_drop,List.take_append_drop]
 exact List.perm_middle.symm.trans (List.Perm.of_eq h2)
theorem D8 {L:List Nat} {p:Nat} (hp:p<L.length):(cT L p).length=L.length:=(ow hp).length_eq
def cO (L:List Nat):Prop:=L.Perm (List.range 256)
theorem cO.len {L:List Nat} (h:cO L):L.length=256:=by rw [h.length_eq,List.length_range]
theorem cO.mem {L:List Nat} (h:cO L) {c:Nat}:c∈L↔c<256:=by rw [h.mem_iff,List.mem_range]
theorem cO.nodup {L:List Nat} (h:cO L):L.Nodup:=h.nodup_iff.2 List.nodup_range
theorem cO.take {L:List Nat} (h:cO L) {p:Nat} (hp:p<256):cO (cT L p):=(ow (by rw [h.len];exact hp)).trans h
theorem cO.range:cO (List.range 256):=List.Perm.refl _
theorem cO.get {L:List Nat} (h:cO L) {p:Nat} (hp:p<256):L.getD p 0<256:=by
 have hl:=h.len
 have:L.getD p 0=L[p]:=by simp [List.getD,hl,hp]
 rw [this]
 exact h.mem.1 (List.getElem_mem _)
theorem cO.idx {L:List Nat} (h:cO L) {c:Nat} (hc:c<256):L.idxOf c<256∧L.getD (L.idxOf c) 0=c:=by
 have hm:=h.mem.2 hc
 have hl:=h.len
 have h1:=List.idxOf_lt_length_of_mem hm
 refine ⟨by omega,?_⟩
 rw [List.getD,List.getElem?_eq_getElem h1,List.getElem_idxOf h1];rfl
theorem cO.tW {L:List Nat} (h:cO L) {p:Nat} (hp:p<256):L.idxOf (L.getD p 0)=p:=by
 have hl:=h.len
 have e:L.getD p 0=L[p]:=by simp [List.getD,hl,hp]
 have h1:=h.idx (h.get hp)
 have e2:L[L.idxOf (L.getD p 0)]'(by omega)=L[p]:=by
  have:=h1.2
  rw [List.getD,List.getElem?_eq_getElem (by omega)] at this
  exact this.trans e
 exact (List.getElem_inj h.nodup).1 e2
def fG (n:Nat):List Nat:=if _h:n=0 then [] else (n - 1) % 2::fG ((n - 1)/2)
termination_by n
decreasing_by omega
theorem oL:fG 0= []:=by rw [fG];simp
theorem qP {n:Nat} (h:0<n):fG n=(n - 1) % 2::fG ((n - 1)/2):=by rw [fG,dif_neg (by omega)]
theorem H0 (n:Nat): ∀d∈fG n,d<2:=by
 induction n using Nat.strongRecOn with
 |ind n ih=>
  rcases Nat.eq_zero_or_pos n with e|e
  ·rw [e,oL];simp
  ·rw [qP e]
   intro d hd
   rcases List.mem_cons.1 hd with h|h
   ·omega
   ·exact ih _ (by omega) d h
def Bm:List Nat→Nat→List Nat→List Nat×List Nat×Nat
 |L,r,[]=>([],L,r)
 |L,r,c::b=>
  if L.idxOf c=0 then Bm (cT L 0) (r+1) b
  else
   let x:=Bm (cT L (L.idxOf c)) 0 b
   (fG r++(L.idxOf c+1)::x.1,x.2)
def FB (L:List Nat) (r:Nat) (b:List Nat):List Nat:=(Bm L r b).1++fG (Bm L r b).2.2++ [257]
def syms (b:List Nat):List Nat:=FB (List.range 256) 0 b
structure DS where
 L:List Nat
 left:Nat
 run:Nat
 digits:Nat
def cc (d:DS) (s:Nat):Option (DS×List Nat×Bool):=
 if s<2 then
  if d.run+(1+s)*2^d.digits≤d.left then some (⟨d.L,d.left,d.run+(1+s)*2^d.digits,d.digits+1⟩,[],false) else none
 else if s=257 then
  if d.run=d.left then some (⟨d.L,0,0,0⟩,List.replicate d.run (d.L.getD 0 0),true) else none
 else if d.run=d.left then none
 else some (⟨cT d.L (s - 1),d.left - (d.run+1),0,0⟩,List.replicate d.run (d.L.getD 0 0)++ [d.L.getD (s - 1) 0],false)
end Go.Sym
namespace Go.Vc
theorem zq {n:Nat} {f:Nat→Int}:(dw n f).toList.all ay=true:=by
 unfold dw
 rw [List.all_map]
 exact List.all_eq_true.2 fun _ _=>rfl
theorem vD {n:Nat}:dw n (fun _=>0)=⟨List.replicate n (.int .i64 0)⟩:=by
 unfold dw
 rw [List.map_const',List.length_range]
theorem yf.row {n:Nat} {f g:Nat→Int} {K:Bool→Prop} (hK:K (((List.range n).map f)==((List.range n).map g))):yf .i64 n (dw n f) (dw n g) K:=
 ⟨(List.range n).map f,(List.range n).map g,by simp [dw],by simp [dw],by simp,by simp,hK⟩
end Go.Vc
namespace Go.Proofs.YtgglghjnakclmaaGreat
open Go Go.Vc Go.Inc Go.Sym
abbrev a9 (l:List Nat):List Value:=l.map fun (n:Nat)=>Value.int .u8 (n:Int)
theorem kl {L:List Nat} (h:L.length=256):(a9 L).length=256:=by simp [h]
theorem dP {l:List Nat}:(a9 l).all ay=true:=by
 unfold a9
 rw [List.all_map]
 exact List.all_eq_true.2 fun _ _=>rfl
section
variable {E w:World} {F:List HP}
theorem HZ:Tryz.prog.underlying 26=some (.slice 5):=by kernel_rfl
theorem JK:(Tryz.prog.info? 5).map (·.size)=some 1:=by kernel_rfl
theorem I1 {K:Array Value→World→Prop} (h:Hp E w F) (hK: ∀w',Hp E w' F→K ⟨a9 (List.range 256)⟩ w'):Cl Tryz.prog [.arr 256] qz ⟨[]⟩ w K:=by
 refine Hg.ok _ _ ?_
 (skip)
 refine Nw.mk h fun b2 w h=> ?_
 have hlen: ∀k,k≤256→(a9 (List.range k++List.replicate (256 - k) 0)).length=256:=fun k hk=>by simp;omega
 refine ⟨fun i w'=> ∃k:Nat,i=(k:Int)∧k≤256∧Hp E w' (ag b2 (.cells ⟨a9 (List.range k++List.replicate (256 - k) 0)⟩ 110 (0,0))::F),fun i _=>256 - i.toNat,⟨0,rfl,by omega,by
  have:(⟨a9 (List.range 0++List.replicate (256 - 0) 0)⟩:Array Value)=⟨List.replicate 256 (.int .u8 0)⟩:=by simp
  rw [this];exact h⟩,?_⟩
 rintro i w ⟨k,rfl,hk,h⟩
 (first|refine aa.dm (fun hb=> ?_) (fun hb=> ?_)|refine aa.em (fun hb=> ?_) (fun hb=> ?_)|refine aa.nm (fun hb=> ?_) (fun hb=> ?_)|refine aa.mk (fun hb=> ?_) (fun hb=> ?_))
 ·refine ⟨by omega,by omega,?_⟩
  rw [show ((k:Int)).toNat*1=k by omega]
  (try simp only [af,Nat.zero_add])
  have hk:=hlen k (by omega)
  refine St.xb h (by simp;omega) rfl fun w h=> ?_
  rw [ab (by omega)]
  refine ⟨⟨k+1,rfl,by omega,?_⟩,by omega⟩
  have e:(⟨a9 (List.range k++List.replicate (256 - k) 0)⟩:Array Value).setIfInBounds k (.int .u8 (u8 (k:Int)))=⟨a9 (List.range (k+1)++List.replicate (256 - (k+1)) 0)⟩:=by
   rw [j4 (by omega)]
   apply Array.ext'
   rw [Array.toList_setIfInBounds]
   have:(a9 (List.range k++List.replicate (256 - k) 0)).set k (.int .u8 (k:Int))=a9 ((List.range k++List.replicate (256 - k) 0).set k k):=by rw [a9,a9,List.map_set]
   rw [this,List.set_append_right _ _ (by simp),List.length_range,Nat.sub_self]
   obtain ⟨m,hm⟩: ∃m,256 - k=m+1:=⟨255 - k,by omega⟩
   rw [hm,List.replicate_succ,List.set_cons_zero,List.range_succ,show 256 - (k+1)=m by omega]
   simp
  rw [e] at h
  exact h
 ·have hk2:k=256:=by omega
  subst hk2
  have e:(⟨a9 (List.range 256++List.replicate (256 - 256) 0)⟩:Array Value)=⟨a9 (List.range 256)⟩:=by simp
  rw [e] at h
  have hn:(⟨a9 (List.range 256)⟩:Array Value).size=256:=by simp
  refine Ld.xw h hn ?_
  refine aj.q h hn hn dP fun w h=> ?_
  exact Ld.xw h hn (hK _ h.tl)
theorem IB {K:Array Value→World→Prop} (h:Hp E w F) (hK: ∀w',Hp E w' F→K (dw 256 fun _=>1) w'):Cl Tryz.prog [.arr 256] oM ⟨[]⟩ w K:=by
 refine FM.ok _ _ ?_
 (skip)
 refine Nw.mk h fun b2 w h=> ?_
 refine ⟨fun i w'=> ∃k:Nat,i=(k:Int)∧k≤256∧Hp E w' (ag b2 (.cells (dw 256 fun j=>if j<k then 1 else 0) 351 (0,0))::F),fun i _=>256 - i.toNat,⟨0,rfl,by omega,by
  rw [fO (g:=fun _=>0) (fun i _=>by simp),vD];exact h⟩,?_⟩
 rintro i w ⟨k,rfl,hk,h⟩
 (first|refine aa.dm (fun hb=> ?_) (fun hb=> ?_)|refine aa.em (fun hb=> ?_) (fun hb=> ?_)|refine aa.nm (fun hb=> ?_) (fun hb=> ?_)|refine aa.mk (fun hb=> ?_) (fun hb=> ?_))
 ·refine ⟨by omega,by omega,?_⟩
  rw [show ((k:Int)).toNat*1=k by omega]
  (try simp only [af,Nat.zero_add])
  refine St.xb h (by rw [dy];omega) rfl fun w h=> ?_
  rw [ab (by omega)]
  refine ⟨⟨k+1,rfl,by omega,?_⟩,by omega⟩
  rw [oS] at h
  rw [fO (g:=fun j=>if j<k+1 then 1 else 0) (fun i _=>by
   by_cases h1:i=k
   ·subst h1;simp
   ·by_cases h2:i<k
    ·simp [h1,h2];omega
    ·simp [h1,h2];omega)] at h
  exact h
 ·have hk2:k=256:=by omega
  subst hk2
  rw [fO (g:=fun _=>1) (fun i hi=>by simp [hi])] at h
  refine Ld.xw h dy ?_
  refine aj.q h dy dy zq fun w h=> ?_
  exact Ld.xw h dy (hK _ h.tl)
theorem CE {L:List Nat} {K:Bool→World→Prop} (h:Hp E w F) (hL:cO L) (hK: ∀w',Hp E w' F→K true w'):Cl Tryz.prog [kB] nK ⟨[.agg ⟨a9 L⟩]⟩ w K:=by
 have hl:=hL.len
 have hlt: ∀x∈L,x<256:=fun x hx=>by simpa using hL.mem_iff.1 hx
 refine CZ.ok _ _ _ ?_
 (skip)
 have hn:(⟨a9 L⟩:Array Value).size=256:=by simp [hl]
 refine Nw.mk h fun b3 w h=>Nw.mk h fun b5 w h=>Ld.xw h hn ?_
 refine ⟨fun i w'=> ∃k:Nat,i=(k:Int)∧k≤256∧Hp E w' (ag b5 (.cells (dw 256 fun j=>if j∈L.take k then 1 else 0) 351 (0,0))::ag b3 (.cells ⟨a9 L⟩ 110 (0,0))::F),fun i _=>256 - i.toNat,⟨0,rfl,by omega,by
  rw [fO (g:=fun _=>0) (fun i _=>by simp),vD];exact h⟩,?_⟩
 rintro i w ⟨k,rfl,hk,h⟩
 (first|refine aa.dm (fun hb=> ?_) (fun hb=> ?_)|refine aa.em (fun hb=> ?_) (fun hb=> ?_)|refine aa.nm (fun hb=> ?_) (fun hb=> ?_)|refine aa.mk (fun hb=> ?_) (fun hb=> ?_))
 ·have hkl:k<L.length:=by omega
  refine iN.rd (s:= .int .u8) (by omega) (by omega) (L[k]:Int) ?_ ?_
  ·simp [hkl]
  have hx:=hlt _ (List.getElem_mem hkl)
  refine ⟨by omega,by omega,?_⟩
  rw [show ((L[k]:Int)).toNat*1=L[k] by omega]
  (try simp only [af,Nat.zero_add])
  refine St.xb h (by rw [dy];omega) rfl fun w h=> ?_
  rw [ab (by omega)]
  refine ⟨⟨k+1,rfl,by omega,?_⟩,by omega⟩
  rw [oS] at h
  rw [fO (g:=fun j=>if j∈L.take (k+1) then 1 else 0) (fun i _=>by
   have hmem:i∈L.take (k+1)↔i∈L.take k∨i=L[k]:=by
    rw [List.take_add_one,List.getElem?_eq_getElem hkl,List.mem_append]
    exact or_congr Iff.rfl List.mem_singleton
   by_cases h1:i=L[k]
   ·rw [if_pos h1,if_pos (hmem.2 (.inr h1))]
   ·rw [if_neg h1]
    by_cases h2:i∈L.take k
    ·rw [if_pos h2,if_pos (hmem.2 (.inl h2))]
    ·rw [if_neg h2,if_neg (fun hh=>(hmem.1 hh).elim h2 h1)])] at h
  exact h
 ·have hk2:k=256:=by omega
  subst hk2
  rw [fO (g:=fun _=>1) (fun i hi=>by
   rw [List.take_of_length_le (by omega),if_pos]
   exact hL.mem_iff.2 (by simpa using hi))] at h
  have h:=h.drew (n:=w.drawn+1)
  refine ⟨bm b5 _ _ _,h.hb,?_⟩
  dsimp only
  refine au.xw (fun _ h=>h) dy ?_
  refine IB h fun w h=>⟨h.hb,?_⟩
  refine yf.row ?_
  rw [beq_self_eq_true]
  exact hK _ h.tl
theorem Fc {L:List Nat} {p:Nat} (hl:L.length=256) (hp:p<256):((a9 L).take 1++((a9 (L.take p)).take p++(a9 L).drop (1+min (a9 (L.take p)).length p))).set 0 (.int .u8 (L.getD p 0:Int))=a9 (cT L p):=by
 have e1:(a9 (L.take p)).length=p:=by simp;omega
 rw [e1,Nat.min_self,List.take_of_length_le (l:=a9 (L.take p)) (by omega),Nat.add_comm 1 p]
 unfold cT
 rw [List.eraseIdx_eq_take_drop_succ]
 cases L with
 |nil=>simp at hl
 |cons a L=>simp [a9,List.map_take,List.map_drop]
theorem HA {L:List Nat} {p:Nat} {K:Array Value→Int→Bool→World→Prop} (h:Hp E w F) (hl:L.length=256) (hp:p<256) (hK: ∀w',Hp E w' F→K ⟨a9 (cT L p)⟩ (L.getD p 0:Int) true w'):
  Cl Tryz.prog [.arr 256,ak .u8,kB] py ⟨[.agg ⟨a9 L⟩,.int .i64 (p:Int)]⟩ w K:=by
 refine FK.ok _ _ _ _ ?_
 (skip)
 have hn:(⟨a9 L⟩:Array Value).size=256:=by simp [hl]
 have hz:(⟨List.replicate 256 (.int .u8 0)⟩:Array Value).size=256:=by simp
 have hpl:p<L.length:=by omega
 refine Nw.mk h fun b4 w h=>Nw.mk h fun b6 w h=> ?_
 (with_reducible repeat first|refine aU.mk h fun w h=> ?_|refine aa.no ?_)
 refine Ld.xw h hn ?_
 refine ⟨by omega,by omega,?_⟩
 rw [show ((p:Int)).toNat*1=p by omega]
 (try simp only [af,Nat.zero_add])
 refine Ld.xb (x:=(L.getD p 0:Int)) h ?_ ?_
 ·simp [List.getD_eq_getElem?_getD,hpl]
 refine aj.q h hz hn dP fun w h=>aU.mk h fun w h=> ?_
 rw [ab (by omega)]
 refine ⟨by omega,by omega,by omega,by simp,?_⟩
 rw [if_neg (by simp),show (1:Int).toNat*1=1 by decide,show ((p:Int)+1).toNat - (1:Int).toNat=p by omega,show (256:Int).toNat - (1:Int).toNat=255 by decide]
 refine ⟨by omega,by omega,by omega,by simp,?_⟩
 rw [if_neg (by decide),show (0:Int).toNat*1=0 by decide,show ((p:Int)).toNat - (0:Int).toNat=p by omega,show (256:Int).toNat - (0:Int).toNat=256 by decide]
 simp only [Option.map_some,af,Nat.zero_add]
 have hsrc:aQ 1 ⟨some ⟨b4,0,none⟩,p,256⟩ (a9 (L.take p)) w:=by
  refine ⟨by simp;omega,fun i hi=>⟨⟨b4,0,none⟩,rfl,?_⟩⟩
  rw [af,h.fc]
  simp at hi⊢
  simp [show i<L.length by omega]
 refine kR (ys:=a9 (L.take p)) HZ JK h hsrc (List.all_eq_true.1 dP) (by rw [hn];dsimp only;omega) fun w h=> ?_
 refine ⟨by omega,by omega,?_⟩
 rw [show ((0:Int)).toNat*1=0 by decide]
 (try simp only [af,Nat.add_zero])
 refine St.xb h (by simp;omega) rfl fun w h=> ?_
 have e:(⟨(⟨a9 L⟩:Array Value).toList.take 1++((a9 (L.take p)).take p++(⟨a9 L⟩:Array Value).toList.drop (1+min (a9 (L.take p)).length p))⟩:Array Value).setIfInBounds 0 (.int .u8 (L.getD p 0:Int))=⟨a9 (cT L p)⟩:=by
  apply Array.ext'
  rw [Array.toList_setIfInBounds]
  exact Fc hl hp
 rw [e] at h
 have hm:(⟨a9 (cT L p)⟩:Array Value).size=256:=by
  have:(cT L p).length=256:=by unfold cT;simp [List.length_eraseIdx,hpl];omega
  simp [this]
 refine Ld.xw h hm ?_
 refine aj.q h hm hm dP fun w h=> ?_
 exact Ld.xw h hm (hK _ h.tl)
theorem Iy {n many d:Nat} {K:Int→Int→World→Prop} (hn:n≤65536) (hm:many≤16) (hd:d≤1) (hK:K ((n+(1+d)*2^many:Nat):Int) 0 w):
  Cl Tryz.prog [kI,kI] iB ⟨[.int .i64 (n:Int),.int .i64 (many:Int),.int .i64 (d:Int)]⟩ w K:=by
 have hp:2^many≤65536:=Nat.pow_le_pow_right (n:=2) (by decide) hm
 have hpp:=Nat.two_pow_pos many
 have hb:(1+d)*2^many≤131072:=by
  have:=Nat.mul_le_mul (show 1+d≤2 by omega) hp
  omega
 refine zr.ok _ _ _ _ _ ?_
 have fin:0≤(many:Int)∧aa (decide (i64 ((n:Int)+a8 .i64 (i64 (1+(d:Int))) (many:Int))>2147483647)) (K 0 2 w) (K (i64 ((n:Int)+a8 .i64 (i64 (1+(d:Int))) (many:Int))) 0 w):=by
  refine ⟨by omega,?_⟩
  have hmx:IntKind.max .i64=9223372036854775807:=rfl
  rw [ab (x:=1+(d:Int)) (by omega),show 1+(d:Int)=((1+d:Nat):Int) by omega,dg (k:= .i64) (by have:IntKind.bits .i64=64:=rfl;omega) (by rw [hmx];omega),ab (by omega)]
  exact aa.df (by omega) (by rw [←Int.natCast_add];exact hK)
 (try simp only [aV])
 refine aa.df (by omega) (aa.df (by omega) (aa.df (by omega) (aa.df (by omega) ?_)))
 by_cases h0:d=0
 ·exact aa.nf (by omega) fin
 ·exact aa.nt (by omega) (aa.nf (by omega) fin)
end
end Go.Proofs.YtgglghjnakclmaaGreat
namespace Go.Proofs.YtgglghjnakclmaaGreat
open Go Go.Vc Go.Bw
section
variable {E w:World} {F:List HP} {A:AS} {f:Nat→Nat} {pc m pm qm d:Nat} {col:List Nat}
theorem wK {b1 place c n0 k0:Nat} {R:Int→Int→Bool→World→Prop} {t:TypeId} (h:Hp E w (Ar A f::ag b1 (.cells ⟨[.int .i64 (pc:Int),.int .i64 (m:Int)]⟩ t (0,0))::F)) (hle:pc+m≤A.live) (hm:m≤65536) (hcol:dH f pc m=col) (hk:k0≤place) (hp:place≤m)
  (hn:n0=(col.take k0).count c) (hK: ∀w',Hp E w' (Ar A f::F)→R (((col.take place).count c:Nat):Int) ((place - k0:Nat):Int) true w'):
  Dk (n0:Int) (0:Int) (k0:Int) w fun I ms (x:Int) (y:Int) (z:Int) w1=>aa (decide (z<(place:Int))) (Ld (.st [.int .i64,.int .i64]) ⟨b1,0,none⟩ w1 fun g=>Cl Tryz.prog [ak .u8,kB] bh ⟨[pA A,.agg ⟨[.int .i64 g.1,.int .i64 g.2.1]⟩,.int .i64 z]⟩ w1 fun (i:Int) (_:Bool) w2=>
   aa (i==(c:Int)) (I (i64 (x+1)) (i64 (y+1)) (i64 (z+1)) w2∧ms (i64 (x+1)) (i64 (y+1)) (i64 (z+1)) w2<ms x y z w1) (I x (i64 (y+1)) (i64 (z+1)) w2∧ms x (i64 (y+1)) (i64 (z+1)) w2<ms x y z w1)) (R x y true w1):=by
 have hlen:col.length=m:=by rw [←hcol,cJ]
 refine ⟨fun x y z w=> ∃k:Nat,z=(k:Int)∧k0≤k∧k≤place∧y=((k - k0:Nat):Int)∧x=(((col.take k).count c:Nat):Int)∧Hp E w (Ar A f::ag b1 (.cells ⟨[.int .i64 (pc:Int),.int .i64 (m:Int)]⟩ t (0,0))::F),fun _ _ z _=>place - z.toNat,⟨k0,rfl,Nat.le_refl _,hk,by rw [Nat.sub_self];rfl,by rw [hn],h⟩,?_⟩
 rintro x y z w ⟨k,rfl,h1,h2,rfl,rfl,h⟩
 refine aa.dm (fun hlt=> ?_) (fun hge=> ?_)
 ·have hlt:k<place:=by omega
  have hcl:=jh col k c
  have hsn:=pe (col:=col) (k:=k) (by omega) c
  refine Ld.xt (b:=b1) h rfl ?_
  refine mM (p:=pc) (q:=m) h hle (fun j hj hjn w h=> ?_) (fun hno=>absurd ⟨by omega,by omega⟩ hno)
  obtain rfl:k=j:=by omega
  rw [←qB hcol (by omega),ab (x:=((k - k0:Nat):Int)+1) (by omega),ab (x:=(k:Int)+1) (by omega)]
  refine aa.em (fun he=> ?_) (fun hne=> ?_)
  ·rw [if_pos (by omega)] at hsn
   rw [ab (by omega)]
   exact ⟨⟨k+1,by omega,by omega,by omega,by omega,by omega,h⟩,by first|omega|(dsimp only;omega)⟩
  ·rw [if_neg (by omega)] at hsn
   exact ⟨⟨k+1,by omega,by omega,by omega,by omega,by omega,h⟩,by first|omega|(dsimp only;omega)⟩
 ·obtain rfl:k=place:=by omega
  exact hK w (h.no 1)
theorem wJ {place c:Nat} {K:Int→Int→Bool→World→Prop} (h:Hp E w (Ar A f::F)) (r:Af A pc m pm qm d) (hcol:dH f pc m=col) (hm:qD f pm d col (m/d)) (hp:place≤m) (hc:c<256)
  (hK: ∀w',Hp E w' (Ar A f::F)→K (((col.take place).count c:Nat):Int) ((place % d:Nat):Int) true w'):
  Cl Tryz.prog [kI,kI,kB] gg ⟨[pA A,gT pc m,gT pm qm,.int .i64 (d:Int),.int .u8 (c:Int),.int .i64 (place:Int)]⟩ w K:=by
 obtain ⟨aok0,_⟩:=Ar.cE h
 have hbig:=aok0.eP;have hle:=aok0.le
 have r':=r
 obtain ⟨c1,c2,d1,d2,ca,ma,mq⟩:=r'
 have hlen:col.length=m:=by rw [←hcol,cJ]
 have hq:place/d≤place:=Nat.div_le_self _ _
 have hqd:place/d*d≤place:=Nat.div_mul_le_self _ _
 have hsub:place - place/d*d=place % d:=by have:=Nat.div_add_mod place d;rw [Nat.mul_comm] at this;omega
 refine Di.ok _ ((pc:Int),(m:Int),()) ((pm:Int),(qm:Int),()) _ _ _ _ _ ?_
 dsimp only
 refine Nw.mk h fun b1 w h=>Nw.mk h fun b2 w h=> ?_
 rw [aV];dsimp only
 refine Ld.xt (b:=b1) h rfl (Ld.xt (b:=b2) h rfl ?_)
 refine u3 (h.at 2) r fun w h=>aa.f rfl ?_
 (try simp only [af,Nat.zero_add])
 refine Ld.xb (b:=b1) h rfl (jS (by omega) (by omega) (aa.f rfl ⟨by omega,?_⟩))
 have e1:i64 (Int.tdiv (place:Int) (d:Int))=((place/d:Nat):Int):=by
  rw [show Int.tdiv (place:Int) (d:Int)=((place/d:Nat):Int) from rfl]
  clear hsub hK
  generalize place/d=T at hq hqd⊢
  exact ab (by omega)
 have e2:i64 ((i64 (Int.tdiv (place:Int) (d:Int)))*(d:Int))=((place/d*d:Nat):Int):=by
  rw [e1,show ((place/d:Nat):Int)*(d:Int)=((place/d*d:Nat):Int) by simp]
  clear hsub hK e1
  generalize place/d*d=T at hqd⊢
  exact ab (by omega)
 rw [e2,e1]
 clear e1 e2
 have hdd:=Nat.div_le_div_right (c:=d) hp
 generalize hT:place/d=T at*
 refine aa.dm (fun hpos=> ?_) (fun hz=> ?_)
 ·obtain ⟨q,hq1⟩: ∃q,T=q+1:=⟨T - 1,by omega⟩
  have hqm:q<m/d:=by
   rw [hq1] at hdd
   exact hdd
  have hmul:(q+1)*1024≤m/d*1024:=Nat.mul_le_mul_right _ hqm
  refine Ld.xt (b:=b2) h rfl ?_
  have e3:i64 ((i64 ((i64 ((T:Int) - 1))*256))+(i64 (c:Int)))=((q*256+c:Nat):Int):=by
   rw [hq1,ab (x:=((q+1:Nat):Int) - 1) (by omega),ab (x:=(((q+1:Nat):Int) - 1)*256) (by omega),ab (x:=(c:Int)) (by omega),ab (by omega)]
   omega
  rw [e3]
  refine yh (p:=pm) (q:=qm) h (by omega) (by omega) fun w h=> ?_
  rw [hm q hqm c hc]
  have hcl:=jh col ((q+1)*d) c
  rw [ab (x:=(((col.take ((q+1)*d)).count c:Nat):Int)) (by omega)]
  refine wK (h.no 1) (by omega) c2 hcol hqd hp (by rw [hq1]) fun w h=> ?_
  rw [hsub];exact hK w h
 ·have hz2:T*d=0:=by
   have:T=0:=by omega
   rw [this,Nat.zero_mul]
  refine wK (n0:=0) (h.no 1) (by omega) c2 hcol hqd hp (by rw [hz2,List.take_zero];rfl) fun w h=> ?_
  rw [hsub];exact hK w h
theorem E5 {K:Array Value→World→Prop} (h:Hp E w (Ar A f::F)) (hin:pc+m≤A.live) (hm2:m≤65536) (hcol:dH f pc m=col) (hK: ∀w',Hp E w' (Ar A f::F)→K (dS (bG col) 256) w'):
  Cl Tryz.prog [.arr 256] nG ⟨[pA A,gT pc m]⟩ w K:=by
 obtain ⟨aok,_⟩:=Ar.cE h
 have hlen:col.length=m:=by rw [←hcol,cJ]
 have hb: ∀x∈col,x<256:=fun x hx=>by rw [←hcol] at hx;obtain ⟨i,_,rfl⟩:=List.mem_map.1 hx;exact aok.byt _
 refine Cz.ok _ ((pc:Int),(m:Int),()) _ _ ?_
 dsimp only
 refine Nw.mk h fun b1 w h=>Nw.mk h fun b2 w h=>Nw.mk h fun b3 w h=>Ld.xt (b:=b1) h rfl ?_
 refine EX (p:=pc) (q:=m) (h.at 3) hin fun s w h=> ?_
 rw [hcol] at h
 have hsl:s.len=m:=by have:=h.cR;simpa [hlen] using this.symm
 have h:=h.at 2
 rw [show (⟨List.replicate 256 (ni 0)⟩:Array Value)=dS (fun c=>(col.take 0).count c) 256 from sJ] at h
 refine ⟨fun n w=> ∃k:Nat,n=(k:Int)∧k≤m∧Hp E w (ag b3 (.cells (dS (fun c=>(col.take k).count c) 256) 351 (0,0))::aC 1 s (col.map vB)::Ar A f::ag b2 (.cells (dS (fun _=>0) 256) 351 (0,0))::F),fun n _=>m - n.toNat,⟨0,rfl,Nat.zero_le _,?_⟩,?_⟩
 ·have h:=h.no 4
  rw [show (dS (fun c=>(col.take 0).count c) 256)=dS (fun _=>0) 256 from rfl] at h⊢
  exact h
 rintro n w ⟨k,rfl,hk,h⟩
 refine aa.dm (fun hlt=> ?_) (fun hge=> ?_)
 ·have hlt:k<m:=by omega
  refine aT.rd (h.ao (ah.at 1 ah.own)) (by omega) (by omega) fun q _ hq=> ?_
  refine Ld.sc (s:= .int .u8) (col.getD k 0:Int) (by rw [hq];simp [Sc.enc,vB,List.getD_eq_getElem?_getD,hlen,hlt]) ?_
  have hc256:col.getD k 0<256:=by rw [List.getD_eq_getElem?_getD,List.getElem?_eq_getElem (by omega)];exact hb _ (List.getElem_mem _)
  have hcl:=jh col k (col.getD k 0)
  refine aF.rd h (by omega) (by omega) ((col.take k).count (col.getD k 0):Int) (by rw [Int.toNat_natCast];exact kr hc256) ?_
  rw [ab (x:=(((col.take k).count (col.getD k 0):Nat):Int)+1) (by omega),show (((col.take k).count (col.getD k 0):Nat):Int)+1=(((col.take k).count (col.getD k 0)+1:Nat):Int) by omega]
  refine aF.wr h (by omega) (by omega) (dG ..) rfl fun w h=> ?_
  rw [Int.toNat_natCast,nZ,pB (by omega)] at h
  rw [ab (x:=(k:Int)+1) (by omega)]
  exact ⟨⟨k+1,by omega,by omega,h⟩,by first|omega|(dsimp only;omega)⟩
 ·have hfull:(fun c=>(col.take k).count c)=fun c=>col.count c:=by rw [List.take_of_length_le (by omega)]
  rw [hfull] at h
  refine ⟨fun y z w=> ∃j:Nat,z=(j:Int)∧j≤256∧y=(bG col j:Int)∧Hp E w (ag b2 (.cells (dS (fun c=>if c<j then bG col c else 0) 256) 351 (0,0))::ag b3 (.cells (dS (fun c=>col.count c) 256) 351 (0,0))::Ar A f::F),fun _ z _=>256 - z.toNat,⟨0,rfl,by omega,by rw [vw];rfl,?_⟩,?_⟩
  ·have h:=(h.no 1).at 2
   rw [jk (g:=fun c=>if c<0 then bG col c else 0) fun i _=>by rw [if_neg (by omega)]] at h
   exact h
  rintro y z w ⟨j,rfl,hj,rfl,h⟩
  have hcl:bG col j≤col.length:=List.countP_le_length
  refine aa.dm (fun hlt=> ?_) (fun hge=> ?_)
  ·have hlt:j<256:=by omega
   refine aF.wr h (by omega) (by omega) (dG ..) rfl fun w h=> ?_
   rw [Int.toNat_natCast,nZ] at h
   have hs:=qA j col
   have hcl2:bG col (j+1)≤col.length:=List.countP_le_length
   have h:=h.at 1
   refine aF.rd h (by omega) (by omega) (col.count j:Int) (by rw [Int.toNat_natCast];exact kr (f:=fun c=>col.count c) hlt) ?_
   rw [ab (x:=(bG col j:Int)+(col.count j:Int)) (by omega),ab (x:=(j:Int)+1) (by omega)]
   refine ⟨⟨j+1,by omega,by omega,by omega,?_⟩,by first|omega|(dsimp only;omega)⟩
   have h:=h.at 1
   rw [jk (g:=fun c=>if c<j+1 then bG col c else 0) fun i _=>by
    unfold gy
    dsimp only
    by_cases e:i=j
    ·rw [if_pos e,if_pos (by omega),e]
    ·rw [if_neg e]
     by_cases hi:i<j
     ·rw [if_pos hi,if_pos (by omega)]
     ·rw [if_neg hi,if_neg (by omega)]] at h
   exact h
  ·obtain rfl:j=256:=by omega
   rw [jk (g:=bG col) fun i hi=>by rw [if_pos hi]] at h
   refine Ld.xw (b:=b2) h (dG ..) (aj.q (b:=b2) h (dG ..) (dG ..) tL fun w h=>Ld.xw (b:=b2) h (dG ..) (hK w ((h.no 0).no 0)))
end
end Go.Proofs.YtgglghjnakclmaaGreat
namespace Go.Vc
open Go Go.Bw
def JN (g:Nat→Nat) (pr:Nat) (col:List Nat) (P k:Nat):Prop:= ∀row,row<k→kE g (pr+4*row)=if row=P then 0 else nx col (bY P row)
structure WS where
 tab:Bool
 b:Nat
 m:Nat
 p2:Nat
 q2:Nat
 P:Nat
 d:Nat
def pd (col:List Nat):List Value:=(dS (bG col) 256).toList
theorem gJ (col:List Nat):(pd col).length=256:=dG ..
theorem Dw {col:List Nat} {c:Nat} (h:c<256):(pd col)[c]? =some (Sc.enc (.int .i64) (bG col c:Int)):=by
 have:=kr (f:=bG col) (N:=256) h
 unfold pd
 rw [←this]
 simp
end Go.Vc
namespace Go.Proofs.YtgglghjnakclmaaGreat
open Go Go.Vc Go.Bw
abbrev Lq (W:WS) (A:AS) (row told st:Nat):Obj:= .cells ⟨[pA A,.int .i64 ((0:Nat):Int),.int .i64 (W.m:Int),.int .i64 (W.p2:Int),.int .i64 (W.q2:Int),.int .i64 (W.P:Int),.int .i64 (row:Int),.int .i64 (told:Int),.int .i64 (st:Int)]⟩ 350 (0,0)
abbrev Mw (W:WS) (A:AS) (L:List Value) (row told st:Nat):Array Value:=⟨pA A:: .int .i64 ((0:Nat):Int):: .int .i64 (W.m:Int):: .int .i64 (W.p2:Int):: .int .i64 (W.q2:Int):: .int .i64 (W.P:Int):: .int .i64 (W.d:Int)::(L++ [.int .i64 (row:Int),.int .i64 (told:Int),.int .i64 (st:Int)])⟩
abbrev Kh (W:WS) (A:AS) (L:List Value) (row told st:Nat):Obj:= .cells (Mw W A L row told st) 357 (0,0)
def WB (W:WS) (A:AS) (col:List Nat) (row told st:Nat):HP:=ag W.b (bif W.tab then Lq W A row told st else Kh W A (pd col) row told st)
structure AP (W:WS) (A:AS) (f:Nat→Nat) (col:List Nat):Prop where
 row:dH f 0 W.m=col
 m1:1≤W.m
 m2:W.m≤65536
 P1:1≤W.P
 P2:W.P≤W.m
 d1:1≤W.d
 ml:W.m≤A.live
structure rN (W:WS) (A:AS) (f:Nat→Nat) (col:List Nat):Prop extends AP W A f col where
 tb:W.tab=true→JN f W.p2 col W.P (W.m+1)∧W.p2+W.q2≤A.live∧4*(W.m+1)≤W.q2
 rk:W.tab=false→Af A 0 W.m W.p2 W.q2 W.d∧qD f W.p2 W.d col (W.m/W.d)
abbrev pW (W:WS):Value:= .pointer (some ⟨W.b,0,none⟩)
def Jx (t:Bool):Nat:=bif t then da else dq
section
variable {E w:World} {F:List HP} {A:AS} {f:Nat→Nat} {W:WS} {col:List Nat} {row told st:Nat}
theorem AP.len (ok:AP W A f col):col.length=W.m:=by rw [←ok.row,cJ]
theorem WB.t (ht:W.tab=true):WB W A col row told st=ag W.b (Lq W A row told st):=by unfold WB;rw [ht];rfl
theorem WB.r (ht:W.tab=false):WB W A col row told st=ag W.b (Kh W A (pd col) row told st):=by unfold WB;rw [ht];rfl
section
variable {l:List HP} {L:List Value} {x0 x1 x2 x3 x4 x5 x6:Value} {r:List Value} {t:TypeId} {fr:Nat×Nat} {put:Obj→List HP} {b:Nat}
abbrev c7 (x0 x1 x2 x3 x4 x5 x6:Value) (R:List Value):Array Value:=⟨x0::x1::x2::x3::x4::x5::x6::R⟩
theorem LR {s:Sc} {K:s.T→Prop} {x:s.T} {c:Nat} [bj b l (c7 x0 x1 x2 x3 x4 x5 x6 (L++r)) t fr put] (h:Hp E w l) (hL:L.length=256) (hc:c<256) (hx:L[c]? =some (s.enc x)) (hK:K x):Ld (.sc s) ⟨b,7+c,none⟩ w K:=by
 refine Ld.xb h ?_ hK
 rw [Nat.add_comm 7 c]
 show (L++r)[c]? =_
 rw [List.getElem?_append_left (by omega)]
 exact hx
theorem uf {s:Sc} {K:s.T→Prop} {x:s.T} {k:Nat} [bj b l (c7 x0 x1 x2 x3 x4 x5 x6 (L++r)) t fr put] (h:Hp E w l) (hL:L.length=256) (hx:r[k]? =some (s.enc x)) (hK:K x):Ld (.sc s) ⟨b,k+263,none⟩ w K:=by
 refine Ld.xb h ?_ hK
 show (L++r)[k+256]? =_
 rw [List.getElem?_append_right (by omega),hL,Nat.add_sub_cancel]
 exact hx
theorem yg {v u:Value} {K:World→Prop} {a c:List Value} [bj b l (c7 x0 x1 x2 x3 x4 x5 x6 (L++(a++u::c))) t (0,0) put] (h:Hp E w l) (hL:L.length=256) {n:Nat} (hn:263+a.length=n) (hv:ay v=true)
  (hK: ∀w',Hp E w' (put (.cells (c7 x0 x1 x2 x3 x4 x5 x6 (L++(a++v::c))) t (0,0)))→K w'):St ⟨b,n,none⟩ v w K:=
 St.xm (pre:=x0::x1::x2::x3::x4::x5::x6::(L++a)) (u:=u) (post:=c) h (by simp) (by simp [hL];omega) hv (fun w' h'=>hK w' (by simpa using h'))
end
theorem qb (ok:AP W A f col) {j:Nat} (hj:j<W.m):f (0+j)=col.getD j 0:=(qB ok.row hj).symm
theorem DB (ok:rN W A f col) (hr:row≤W.m) (hne:row≠W.P):nx col (bY W.P row)≤65536:=by
 have:=Bo (last:=col) (tw (by rw [ok.len];exact ok.P2) (by rw [ok.len];exact hr) hne)
 have h1:=ok.m2;have h2:=ok.len
 omega
theorem xu {K:Int→Bool→World→Prop} (ht:W.tab=true) (ok:AP W A f col) (h:Hp E w (WB W A col row told st::Ar A f::F)) {q:Nat} (hq:q≤W.m)
  (hyes:q≠W.P→∀w',Hp E w' (WB W A col row told st::Ar A f::F)→K (col.getD (bY W.P q) 0:Int) true w') (hno:q=W.P→∀w',Hp E w' (WB W A col row told st::Ar A f::F)→K 0 false w'):
  Cl Tryz.prog [ak .u8,kB] dE ⟨[pW W,.int .i64 (q:Int)]⟩ w K:=by
 refine pO.ok _ _ _ _ ?_
 rw [WB.t ht] at*
 have h2:=ok.m2;have hp2:=ok.P2;have hp1:=ok.P1;have hml:=ok.ml
 (try simp only [av,af,Nat.zero_add,Nat.add_zero])
 refine Ld.xb (b:=W.b) (x:=(W.P:Int)) h rfl (aa.em (fun he=>hno (by omega) w h) fun hne=> ?_)
 have hne2:q≠W.P:=fun e=>hne (by rw [e])
 refine Ld.xb (b:=W.b) (x:=(W.P:Int)) h rfl (aa.dm (fun hgt=> ?_) fun hle=> ?_)
 ·have hat:bY W.P q=q - 1:=by unfold bY;rw [if_pos (by omega)]
  refine aU.mk h fun w h=> ?_
  (skip)
  refine Ld.xb (b:=W.b) h rfl (Ld.xt (b:=W.b) h rfl ?_)
  rw [ab (by omega)]
  refine mM (p:=0) (q:=W.m) (h.at 1) (by omega) (fun j hj hjn w h=> ?_) (fun hno=>absurd ⟨by omega,by omega⟩ hno)
  rw [qb ok hjn,show j=bY W.P q by omega]
  exact hyes hne2 w (h.at 1)
 ·have hat:bY W.P q=q:=by unfold bY;rw [if_neg (by omega)]
  refine aU.mk h fun w h=> ?_
  (skip)
  refine Ld.xb (b:=W.b) h rfl (Ld.xt (b:=W.b) h rfl ?_)
  refine mM (p:=0) (q:=W.m) (h.at 1) (by omega) (fun j hj hjn w h=> ?_) (fun hno=>absurd ⟨by omega,by omega⟩ hno)
  rw [qb ok hjn,show j=bY W.P q by omega]
  exact hyes hne2 w (h.at 1)
theorem qq {K:Int→Int→Bool→World→Prop} (ok:rN W A f col) (h:Hp E w (WB W A col row told st::Ar A f::F)) {q:Nat} (hq:q≤W.m) (hst:st≤1000000000000)
  (hyes:q≠W.P→∀c w',c≤min W.m W.d→Hp E w' (WB W A col row told (st+c)::Ar A f::F)→K (nx col (bY W.P q):Int) (col.getD (bY W.P q) 0:Int) true w')
  (hno:q=W.P→∀w',Hp E w' (WB W A col row told st::Ar A f::F)→K 0 0 false w'):
  Cl Tryz.prog [kI,ak .u8,kB] (Jx W.tab) ⟨[pW W,.int .i64 (q:Int)]⟩ w K:=by
 have h1:=ok.m1;have h2:=ok.m2;have hp2:=ok.P2;have hp1:=ok.P1;have hml:=ok.ml;have hd1:=ok.d1
 obtain ⟨aok,_⟩:=Ar.cE (h.at 1)
 have hle:=aok.le;have hbig:=aok.eP
 cases ht:W.tab with
 |true=>
  obtain ⟨hu,hu2,hu3⟩:=ok.tb ht
  have word: ∀w (F:List HP) (K:Int→Bool→World→Prop),Hp E w (WB W A col row told st::Ar A f::F)→(∀w',Hp E w' (WB W A col row told st::Ar A f::F)→K ((if q=W.P then 0 else nx col (bY W.P q):Nat):Int) true w')→
    aU w fun w=>ae (some ⟨W.b,0,none⟩) fun g=>Ld kP (g.add 0) w fun h=>ae (some ⟨W.b,0,none⟩) fun i=>Ld (.st [.int .i64,.int .i64]) (i.add 3) w fun j=>Cl Tryz.prog [(ak .u32),kB] du ⟨[(.pointer h),(.agg ⟨[(ni j.1),(ni j.2.1)]⟩),(ni (q:Int))]⟩ w fun l m k=>K l m k:=fun w F K h hK=>by
   rw [WB.t ht] at*
   refine aU.mk h fun w h=> ?_
   (try simp only [av,af,Nat.zero_add,Nat.add_zero])
   refine Ld.xb (b:=W.b) h rfl (Ld.xt (b:=W.b) h rfl ?_)
   refine yh (p:=W.p2) (q:=W.q2) (h.at 1) hu2 (by omega) fun w h=> ?_
   rw [hu q (by omega)]
   exact hK w (h.at 1)
  refine oh.ok _ _ _ _ ?_
  refine xu ht ok.toAP h hq (fun hne w h=> ?_) (fun he w h=> ?_)
  ·have hnx:=DB ok hq hne
   refine word w F _ h fun w h=> ?_
   rw [if_neg hne]
   refine aa.f rfl (aa.f rfl ?_)
   rw [WB.t ht] at h
   (try simp only [av,af,Nat.zero_add])
   refine Ld.xb (b:=W.b) (x:=(st:Int)) h rfl (St.xs (b:=W.b) h rfl rfl fun w h=> ?_)
   dsimp only [aM,aq] at h
   rw [ab (x:=(st:Int)+1) (by omega)] at h
   rw [ab (by omega)]
   refine hyes hne 1 w (by omega) ?_
   rw [WB.t ht]
   exact h
  ·refine word w F _ h fun w h=> ?_
   exact aa.t rfl (hno he w h)
 |false=>
  obtain ⟨hr,hm⟩:=ok.rk ht
  have hLl:=gJ col
  have hlen:=ok.len
  refine oE.ok _ _ _ _ ?_
  have fin: ∀w,q≠W.P→Hp E w (WB W A col row told st::Ar A f::F)→∀j,j=bY W.P q→aU w fun w=>ae (some ⟨W.b,0,none⟩) fun h=>Ld kP (h.add 0) w fun i=>ae (some ⟨W.b,0,none⟩) fun k1=>Ld (.st [.int .i64,.int .i64]) (k1.add 1) w fun k=>
    Cl Tryz.prog [(ak .u8),kB] bh ⟨[(.pointer i),(.agg ⟨[(ni k.1),(ni k.2.1)]⟩),(ni (j:Int))]⟩ w fun (m:Int) (n:Bool) l=>
    aU l fun o=>ae (some ⟨W.b,0,none⟩) fun p=>Ld kP (p.add 0) o fun q=>ae (some ⟨W.b,0,none⟩) fun r=>Ld (.st [.int .i64,.int .i64]) (r.add 1) o fun s=>ae (some ⟨W.b,0,none⟩) fun t=>Ld (.st [.int .i64,.int .i64]) (t.add 3) o fun u=>ae (some ⟨W.b,0,none⟩) fun v=>Ld kI (v.add 6) o fun (x:Int)=>
    Cl Tryz.prog [kI,kI,kB] gg ⟨[(.pointer q),(.agg ⟨[(ni s.1),(ni s.2.1)]⟩),(.agg ⟨[(ni u.1),(ni u.2.1)]⟩),(ni x),(.int .u8 m),(ni (j:Int))]⟩ o fun (z:Int) (a1:Int) (b1:Bool) y=>
    aa (!n) (K 0 0 false y) (aa (!b1) (K 0 0 false y) (ae (some ⟨W.b,0,none⟩) fun c1=>Ld kI (c1.add 265) y fun (d1:Int)=>ae (some ⟨W.b,0,none⟩) fun e1=>St (e1.add 265) (ni (i64 (d1+(i64 ((1:Int)+a1))))) y fun f1=>ae (some ⟨W.b,0,none⟩) fun g1=>aF (g1.add 7) 256 m 1 fun h1=>Ld kI h1 f1 fun (i1:Int)=>K (i64 ((i64 ((1:Int)+i1))+z)) m true f1)):=by
   rintro w hne h j rfl
   have hat:bY W.P q<W.m:=by rw [←hlen];exact tw (by omega) (by omega) hne
   have hnx:=DP (last:=col) (a:=bY W.P q) (by omega)
   have hnb:=DB ok hq hne
   generalize hj:bY W.P q=j at*
   have hcf:col.getD j 0<256:=by rw [←qb ok.toAP hat];exact aok.byt _
   rw [WB.r ht] at*
   refine aU.mk h fun w h=> ?_
   (try simp only [av,af,Nat.zero_add,Nat.add_zero])
   refine Ld.xb (b:=W.b) h rfl (Ld.xt (b:=W.b) h rfl ?_)
   refine mM (p:=0) (q:=W.m) (h.at 1) (by omega) (fun j2 hj2 hjn w h=> ?_) (fun hno=>absurd ⟨by omega,by omega⟩ hno)
   obtain rfl:j=j2:=by omega
   rw [qb ok.toAP hat]
   refine aU.mk h fun w h=> ?_
   (try simp only [Bool.not_true,fl])
   refine Ld.xb (b:=W.b) h rfl (Ld.xt (b:=W.b) h rfl (Ld.xt (b:=W.b) h rfl (Ld.xb (b:=W.b) (x:=(W.d:Int)) h rfl ?_)))
   refine wJ (place:=j) h hr ok.row hm (by omega) hcf fun w h=> ?_
   with_reducible refine aa.vG ?_
   have h:=h.at 1
   (skip)
   have hmod1:j % W.d<W.d:=Nat.mod_lt _ (by omega)
   have hmod2:j % W.d≤j:=Nat.mod_le _ _
   refine uf (b:=W.b) (k:=2) h hLl (x:=(st:Int)) rfl ?_
   generalize hz:j % W.d=z at hmod1 hmod2⊢
   rw [ab (x:=(1:Int)+(z:Int)) (by omega),ab (x:=(st:Int)+((1:Int)+(z:Int))) (by omega),show (st:Int)+((1:Int)+(z:Int))=((st+(1+z):Nat):Int) by omega]
   refine yg (b:=W.b) (a:= [.int .i64 (row:Int),.int .i64 (told:Int)]) (c:= []) (v:= .int .i64 ((st+(1+z):Nat):Int)) h hLl rfl rfl fun w h=> ?_
   have hcl:bG col (col.getD j 0)≤col.length:=List.countP_le_length
   have hcl2:=jh col j (col.getD j 0)
   refine ⟨by omega,by omega,?_⟩
   rw [Int.toNat_natCast,Nat.mul_one,af]
   refine LR (b:=W.b) (L:=pd col) (r:= [.int .i64 (row:Int),.int .i64 (told:Int),.int .i64 ((st+(1+z):Nat):Int)]) h hLl hcf (Dw hcf) ?_
   rw [ab (x:=(1:Int)+(bG col (col.getD j 0):Int)) (by omega),ab (by omega),show (1:Int)+(bG col (col.getD j 0):Int)+(((col.take j).count (col.getD j 0):Nat):Int)=(nx col j:Int) by rw [hnx];omega]
   refine hyes hne (1+z) w (by omega) ?_
   rw [WB.r ht]
   exact h
  rw [WB.r ht] at*
  (try simp only [av,af,Nat.zero_add,Nat.add_zero])
  refine Ld.xb (b:=W.b) (x:=(W.P:Int)) h rfl (aa.em (fun he=>hno (by omega) w h) fun hne=> ?_)
  have hne2:q≠W.P:=fun e=>hne (by rw [e])
  refine Ld.xb (b:=W.b) (x:=(W.P:Int)) h rfl (aa.dm (fun hgt=> ?_) fun hle=> ?_)
  ·rw [ab (x:=(q:Int) - 1) (by omega),show (q:Int) - 1=((q - 1:Nat):Int) by omega]
   exact fin w hne2 h (q - 1) (by unfold bY;rw [if_pos (by omega)])
  ·exact fin w hne2 h q (by unfold bY;rw [if_neg (by omega)])
end
end Go.Proofs.YtgglghjnakclmaaGreat
namespace Go.Proofs.YtgglghjnakclmaaGreat
open Go Go.Vc Go.Bw
abbrev iW (W:WS):Value:= .iface (bif W.tab then 294 else 297) (pW W)
section
variable {E w:World} {F:List HP} {A:AS} {f:Nat→Nat} {W:WS} {col:List Nat} {row told st:Nat}
theorem ej.w2 {name:String} {nt nr:Nat} {ks:List Ki} {K:j6 ks (World→Prop)} (h1: ∀p w,(callMethod (.iface 294 (.pointer p)) name ⟨[]⟩).run Tryz.prog w= .ok (.enter nt ⟨[.pointer p]⟩) w)
  (h2: ∀p w,(callMethod (.iface 297 (.pointer p)) name ⟨[]⟩).run Tryz.prog w= .ok (.enter nr ⟨[.pointer p]⟩) w) (h:Cl Tryz.prog ks (bif W.tab then nt else nr) ⟨[pW W]⟩ w K):ej Tryz.prog (iW W) name ks [] w K:=by
 unfold iW
 cases ht:W.tab with
 |true=>rw [ht] at h;exact ⟨nt,_,h1 _ _,h⟩
 |false=>rw [ht] at h;exact ⟨nr,_,h2 _ _,h⟩
theorem rQ {K:Int→World→Prop} (h:Hp E w (WB W A col row told st::F)) (hK:K (st:Int) w):ej Tryz.prog (iW W) "Steps" [kI] [] w K:=by
 refine ej.w2 (nt:=iy) (nr:=jd) (fun p w=>by kernel_rfl) (fun p w=>by kernel_rfl) ?_
 cases ht:W.tab with
 |true=>
  rw [WB.t ht] at h
  exact oZ.ok _ _ _ (aa.f rfl (Ld.xb (b:=W.b) (x:=(st:Int)) h rfl hK))
 |false=>
  rw [WB.r ht] at h
  exact pM.ok _ _ _ (aa.f rfl (uf (b:=W.b) (k:=2) h (gJ col) (x:=(st:Int)) rfl hK))
theorem z4 {K:Int→World→Prop} (h:Hp E w (WB W A col row told st::F)) (hK:K (told:Int) w):ej Tryz.prog (iW W) "Told" [kI] [] w K:=by
 refine ej.w2 (nt:=jf) (nr:=jV) (fun p w=>by kernel_rfl) (fun p w=>by kernel_rfl) ?_
 cases ht:W.tab with
 |true=>
  rw [WB.t ht] at h
  exact pN.ok _ _ _ (aa.f rfl (Ld.xb (b:=W.b) (x:=(told:Int)) h rfl hK))
 |false=>
  rw [WB.r ht] at h
  exact qd.ok _ _ _ (aa.f rfl (uf (b:=W.b) (k:=1) h (gJ col) (x:=(told:Int)) rfl hK))
theorem FJ {K:World→Prop} (h:Hp E w (WB W A col row told st::F)) (hK: ∀w',Hp E w' (WB W A col 0 0 st::F)→K w'):ej Tryz.prog (iW W) "Reset" [] [] w K:=by
 refine ej.w2 (nt:=ix) (nr:=jx) (fun p w=>by kernel_rfl) (fun p w=>by kernel_rfl) ?_
 cases ht:W.tab with
 |true=>
  rw [WB.t ht] at h hK
  refine po.ok _ _ _ (aa.t rfl ?_)
  (try simp only [av,af,Nat.zero_add])
  refine St.xs (b:=W.b) h rfl rfl fun w h=> ?_
  dsimp only [aM,aq] at h
  refine St.xs (b:=W.b) h rfl rfl fun w h=> ?_
  dsimp only [aM,aq] at h
  exact hK w h
 |false=>
  rw [WB.r ht] at h hK
  have hL:=gJ col
  refine pZ.ok _ _ _ (aa.t rfl ?_)
  (try simp only [av,af,Nat.zero_add])
  refine yg (b:=W.b) (a:= []) (c:= [.int .i64 (told:Int),.int .i64 (st:Int)]) (u:= .int .i64 (row:Int)) h hL rfl rfl fun w h=> ?_
  refine yg (b:=W.b) (a:= [.int .i64 ((0:Nat):Int)]) (c:= [.int .i64 (st:Int)]) (u:= .int .i64 (told:Int)) h hL rfl rfl fun w h=> ?_
  exact hK w h
theorem Lx {K:Int→Prop} (h:Hp E w (WB W A col row told st::F)) (hK:K (W.P:Int)):Ld kI ⟨W.b,5,none⟩ w K:=by
 cases ht:W.tab with
 |true=>rw [WB.t ht] at h;exact Ld.xb (b:=W.b) h rfl hK
 |false=>rw [WB.r ht] at h;exact Ld.xb (b:=W.b) h rfl hK
theorem JQ {K:Int→Prop} (h:Hp E w (WB W A col row told st::F)) (hK:K (W.m:Int)):Ld kI ⟨W.b,2,none⟩ w K:=by
 cases ht:W.tab with
 |true=>rw [WB.t ht] at h;exact Ld.xb (b:=W.b) h rfl hK
 |false=>rw [WB.r ht] at h;exact Ld.xb (b:=W.b) h rfl hK
theorem Fj {R:Bool→World→Prop} (ok:rN W A f col) (h:Hp E w (WB W A col row told st::Ar A f::F)) (hst:st≤100000000000)
  (hK: ∀st' w',st'≤st+W.m*min W.m W.d→Hp E w' (WB W A col row told st'::Ar A f::F)→R (decide (okB col W.P)) w'):
  ec 0 0 w fun I ms (x:Int) (y:Int) w1=>aa (decide (y<(W.m:Int))) (Cl Tryz.prog [kI,(ak .u8),kB] (Jx W.tab) ⟨[pW W,ni x]⟩ w1 fun (j:Int) (k:Int) (l:Bool) w2=>aa (!l) (R false w2) (I j (i64 (y+1)) w2∧ms j (i64 (y+1)) w2<ms x y w1)) (Ld kI ⟨W.b,5,none⟩ w1 fun (n:Int)=>R (x==n) w1):=by
 have hlen:=ok.len
 have h2:=ok.m2;have hp2:=ok.P2;have hm1:=ok.m1
 have hmd:W.m*min W.m W.d≤65536*65536:=Nat.mul_le_mul h2 (by omega)
 refine ⟨fun x y w=> ∃k st',x=((wk col W.P k:Nat):Int)∧y=(k:Int)∧k≤W.m∧(∀j,j<k→wk col W.P j≠W.P)∧st'≤st+k*min W.m W.d∧Hp E w (WB W A col row told st'::Ar A f::F),fun _ y _=>W.m - y.toNat,⟨0,st,rfl,rfl,Nat.zero_le _,fun j hj=>by omega,by omega,h⟩,?_⟩
 rintro x y w ⟨k,st',rfl,rfl,hk,hj,hs,h⟩
 have hle:=BH (last:=col) (index:=W.P) (by omega) k hj
 have hkm:k*min W.m W.d≤W.m*min W.m W.d:=Nat.mul_le_mul_right _ hk
 refine aa.dm (fun hlt=> ?_) (fun hge=> ?_)
 ·have hlt:k<W.m:=by omega
  refine qq ok h (q:=wk col W.P k) (by omega) (by omega) (fun hne c w hc h=>aa.f rfl ?_) (fun he w h=>aa.t rfl ?_)
  ·rw [ab (by omega)]
   have e:(k+1)*min W.m W.d=k*min W.m W.d+min W.m W.d:=Nat.succ_mul ..
   refine ⟨⟨k+1,st'+c,rfl,by omega,by omega,fun j hj2=> ?_,by omega,h⟩,by first|omega|(dsimp only;omega)⟩
   rcases Nat.lt_or_ge j k with h|h
   ·exact hj j h
   ·obtain rfl:j=k:=by omega
    exact hne
  ·have: ¬okB col W.P:=fun ho=>ho.2.1 k (by omega) he
   have:=hK st' w (by omega) h
   rwa [decide_eq_false (by assumption)] at this
 ·obtain rfl:k=W.m:=by omega
  refine Lx h ?_
  have:=hK st' w (by omega) h
  by_cases he:wk col W.P W.m=W.P
  ·rw [show (((wk col W.P W.m:Nat):Int)==(W.P:Int))=true from beq_iff_eq.2 (by omega)]
   rwa [decide_eq_true (show okB col W.P from ⟨by omega,by rw [hlen];exact hj,by rw [hlen];exact he⟩)] at this
  ·rw [show (((wk col W.P W.m:Nat):Int)==(W.P:Int))=false from beq_eq_false_iff_ne.2 (by omega)]
   rwa [decide_eq_false (fun ho:okB col W.P=>he (by have:=ho.2.2;rwa [hlen] at this))] at this
theorem FH {K:Bool→World→Prop} (ok:rN W A f col) (h:Hp E w (WB W A col row told st::Ar A f::F)) (hst:st≤100000000000)
  (hK: ∀st' w',st'≤st+W.m*min W.m W.d→Hp E w' (WB W A col row told st'::Ar A f::F)→K (decide (okB col W.P)) w'):ej Tryz.prog (iW W) "Valid" [kB] [] w K:=by
 refine ej.w2 (nt:=im) (nr:=jl) (fun p w=>by kernel_rfl) (fun p w=>by kernel_rfl) ?_
 have key:=Fj (R:=K) ok h hst hK
 cases ht:W.tab with
 |true=>
  rw [ht] at key
  exact ou.ok _ _ _ (aa.f rfl (JQ h key))
 |false=>
  rw [ht] at key
  exact pV.ok _ _ _ (aa.f rfl (JQ h key))
theorem AA {k:Nat} {K:Int→Bool→World→Prop} (ok:rN W A f col) (h:Hp E w (WB W A col (wk col W.P k) k st::Ar A f::F)) (hst:st≤100000000000) (hk:k≤W.m) (hj: ∀j,j<W.m→wk col W.P j≠W.P)
  (hyes:k<W.m→∀c w',c≤min W.m W.d→Hp E w' (WB W A col (wk col W.P (k+1)) (k+1) (st+c)::Ar A f::F)→K (col.getD (bY W.P (wk col W.P k)) 0:Int) true w')
  (hno:k=W.m→∀w',Hp E w' (WB W A col (wk col W.P k) k st::Ar A f::F)→K 0 false w'):ej Tryz.prog (iW W) "Next" [ak .u8,kB] [] w K:=by
 refine ej.w2 (nt:=jb) (nr:=jT) (fun p w=>by kernel_rfl) (fun p w=>by kernel_rfl) ?_
 have hlen:=ok.len
 have h2:=ok.m2;have hp2:=ok.P2;have hm1:=ok.m1
 have hle:=BH (last:=col) (index:=W.P) (by omega) k fun j hj2=>hj j (by omega)
 cases ht:W.tab with
 |true=>
  refine pU.ok _ _ _ (aU.mk h fun w h=>aa.f rfl ?_)
  have h0:=h
  rw [WB.t ht] at h
  (try simp only [av,af,Nat.zero_add,Nat.reduceAdd])
  refine Ld.xb (b:=W.b) (x:=(k:Int)) h rfl (Ld.xb (b:=W.b) (x:=(W.m:Int)) h rfl (aa.em (fun he=>hno (by omega) w h0) fun hne=> ?_))
  refine Ld.xb (b:=W.b) (x:=((wk col W.P k:Nat):Int)) h rfl ?_
  have hlt:k<W.m:=by omega
  have key:=qq (K:=fun (j k1:Int) (l:Bool) i=>aa (!l) (K 0 false i) (St ⟨W.b,6,none⟩ (ni j) i fun n=>Ld kI ⟨W.b,7,none⟩ n fun (p:Int)=>St ⟨W.b,7,none⟩ (ni (i64 (p+1))) n fun r=>K k1 true r)) ok h0 (q:=wk col W.P k) (by omega) (by omega) (fun _ c w hc h=>aa.f rfl ?_) (fun he w h=>absurd he (hj k hlt))
  ·rw [ht] at key;exact key
  ·rw [WB.t ht] at h
   refine St.xs (b:=W.b) h rfl rfl fun w h=> ?_
   dsimp only [aM,aq] at h
   refine Ld.xb (b:=W.b) (x:=(k:Int)) h rfl ?_
   rw [ab (x:=(k:Int)+1) (by omega)]
   refine St.xs (b:=W.b) h rfl rfl fun w h=> ?_
   dsimp only [aM,aq] at h
   refine hyes hlt c w hc ?_
   rw [WB.t ht]
   exact h
 |false=>
  have hL:=gJ col
  refine qx.ok _ _ _ (aU.mk h fun w h=>aa.f rfl ?_)
  have h0:=h
  rw [WB.r ht] at h
  (try simp only [av,af,Nat.zero_add,Nat.reduceAdd])
  refine uf (b:=W.b) (k:=1) h hL (x:=(k:Int)) rfl (Ld.xb (b:=W.b) (x:=(W.m:Int)) h rfl (aa.em (fun he=>hno (by omega) w h0) fun hne=> ?_))
  refine uf (b:=W.b) (k:=0) h hL (x:=((wk col W.P k:Nat):Int)) rfl ?_
  have hlt:k<W.m:=by omega
  have key:=qq (K:=fun (j k1:Int) (l:Bool) i=>aa (!l) (K 0 false i) (St ⟨W.b,263,none⟩ (ni j) i fun n=>Ld kI ⟨W.b,264,none⟩ n fun (p:Int)=>St ⟨W.b,264,none⟩ (ni (i64 (p+1))) n fun r=>K k1 true r)) ok h0 (q:=wk col W.P k) (by omega) (by omega) (fun _ c w hc h=>aa.f rfl ?_) (fun he w h=>absurd he (hj k hlt))
  ·rw [ht] at key;exact key
  ·rw [WB.r ht] at h
   refine yg (b:=W.b) (a:= []) (c:= [.int .i64 (k:Int),.int .i64 ((st+c:Nat):Int)]) (u:= .int .i64 ((wk col W.P k:Nat):Int)) h hL rfl rfl fun w h=> ?_
   refine uf (b:=W.b) (k:=1) (r:= [.int .i64 ((wk col W.P (k+1):Nat):Int),.int .i64 (k:Int),.int .i64 ((st+c:Nat):Int)]) h hL (x:=(k:Int)) rfl ?_
   rw [ab (x:=(k:Int)+1) (by omega),show (k:Int)+1=((k+1:Nat):Int) by omega]
   refine yg (b:=W.b) (a:= [.int .i64 ((wk col W.P (k+1):Nat):Int)]) (c:= [.int .i64 ((st+c:Nat):Int)]) (u:= .int .i64 (k:Int)) h hL rfl rfl fun w h=> ?_
   refine hyes hlt c w hc ?_
   rw [WB.r ht]
   exact h
end
end Go.Proofs.YtgglghjnakclmaaGreat
namespace Go.Proofs.YtgglghjnakclmaaGreat
open Go Go.Vc Go.Bw
section
variable {E w:World} {F:List HP} {A:AS} {f:Nat→Nat} {col:List Nat} {m p2 q2 P d:Nat}
theorem DZ {K:Bool→World→Prop} (h:Hp E w (Ar A f::F)) (hm1:1≤m) (hm2:m≤65536) (hmp:m≤p2) (hin:p2+q2≤A.live) (hq:4*(m+1)≤q2) (hK: ∀w',Hp E w' (Ar A f::F)→K true w'):
  Cl Tryz.prog [kB] ic ⟨[pA A,gT 0 m,gT p2 q2]⟩ w K:=by
 obtain ⟨aok,_⟩:=Ar.cE h
 have hle:=aok.le;have hbig:=aok.eP
 refine sX.ok _ (((0:Nat):Int),(m:Int),()) ((p2:Int),(q2:Int),()) _ _ ?_
 dsimp only
 refine Nw.mk h fun b1 w h=>Nw.mk h fun b2 w h=> ?_
 rw [aV];dsimp only
 refine Ld.xt (b:=b1) h rfl ?_
 refine kA (p:=0) (q:=m) (h.at 2) (by omega) fun w h=>aa.f rfl (Ld.xt (b:=b2) h rfl ?_)
 refine kA (p:=p2) (q:=q2) h (by omega) fun w h=>aa.f rfl ?_
 (try simp only [af,Nat.zero_add,Nat.add_zero])
 refine Ld.xb (b:=b1) h rfl (aa.df (by omega) (Ld.xb (b:=b1) h rfl (aa.df (by omega) (Ld.xb (b:=b2) h rfl (Ld.xb (b:=b1) h rfl ?_)))))
 rw [ab (x:=(m:Int)+1) (by omega),ab (by omega)]
 refine aa.df (by omega) (Ld.xb (b:=b1) h rfl (Ld.xb (b:=b1) h rfl (Ld.xb (b:=b2) h rfl (aa.dt ?_ (hK w ((h.no 1).no 1))))))
 rw [ab (by omega)];omega
abbrev wT (b m p2 q2 P:Nat):WS:=⟨true,b,m,p2,q2,P,1⟩
abbrev wR (b m p2 q2 P d:Nat):WS:=⟨false,b,m,p2,q2,P,d⟩
theorem I4 {K:Option Addr→Int→World→Prop} (h:Hp E w (Ar A f::F)) (hcol:dH f 0 m=col) (hm1:1≤m) (hm2:m≤65536) (hP1:1≤P) (hP2:P≤m) (hmp:m≤p2) (hin:p2+q2≤A.live) (hq:4*(m+1)≤q2)
  (hK: ∀b g w',rN (wT b m p2 q2 P) A g col→(∀j,j<p2→g j=f j)→Hp E w' (WB (wT b m p2 q2 P) A col 0 0 0::Ar A g::F)→K (some ⟨b,0,none⟩) 0 w'):
  Cl Tryz.prog [kP,kI] jZ ⟨[pA A,gT 0 m,.int .i64 (P:Int),gT p2 q2]⟩ w K:=by
 obtain ⟨aok,_⟩:=Ar.cE h
 have hle:=aok.le;have hbig:=aok.eP
 have hlen:col.length=m:=by rw [←hcol,cJ]
 refine v7.ok _ (((0:Nat):Int),(m:Int),()) _ ((p2:Int),(q2:Int),()) _ _ ?_
 dsimp only
 refine Nw.mk h fun b1 w h=>Nw.mk h fun b2 w h=> ?_
 rw [aV];dsimp only
 refine Ld.xt (b:=b1) h rfl (Ld.xt (b:=b2) h rfl ?_)
 refine DZ (h.at 2) hm1 hm2 hmp hin hq fun w h=>aa.f rfl (aa.df (by omega) ?_)
 (try simp only [af,Nat.zero_add])
 refine Ld.xb (b:=b1) h rfl (aa.df (by omega) (Ld.xt (b:=b1) h rfl (Ld.xt (b:=b2) h rfl (Nw.mk h fun b3 w h=>Ld.xt (b:=b1) h rfl ?_))))
 refine E5 (pc:=0) (h.at 1) (by omega) hm2 hcol fun w h=>Nw.mk h fun b4 w h=>aj.q (b:=b4) h (by simp) (dG ..) tL fun w h=>Ld.xb (b:=b1) h rfl ?_
 have h:Hp E w (ag b4 (.cells (dS (bG col) 256) 351 (0,0))::Ar A f::WB (wT b3 m p2 q2 P) A col 0 0 0::ag b2 (.cells ⟨[.int .i64 (p2:Int),.int .i64 (q2:Int)]⟩ 146 (0,0))::ag b1 (.cells ⟨[.int .i64 ((0:Nat):Int),.int .i64 (m:Int)]⟩ 146 (0,0))::F):=h
 rw [ab (x:=(m:Int)+1) (by omega)]
 refine ⟨fun x w=> ∃(r:Nat) (g:Nat→Nat),x=(r:Int)∧r≤m+1∧JN g p2 col P r∧(∀j,j<p2→g j=f j)∧
  Hp E w (ag b4 (.cells (dS (fun c=>bG col c+(col.take (bY P r)).count c) 256) 351 (0,0))::WB (wT b3 m p2 q2 P) A col 0 0 0::Ar A g::ag b2 (.cells ⟨[.int .i64 (p2:Int),.int .i64 (q2:Int)]⟩ 146 (0,0))::ag b1 (.cells ⟨[.int .i64 ((0:Nat):Int),.int .i64 (m:Int)]⟩ 146 (0,0))::F),
  fun x _=>m+1 - x.toNat,⟨0,f,rfl,by omega,(fun r hr=>by omega),fun _ _=>rfl,?_⟩,?_⟩
 ·rw [jk (g:=bG col) fun i _=>by
   have:bY P 0=0:=by unfold bY;rw [if_neg (by omega)]
   rw [this,List.take_zero,List.count_nil,Nat.add_zero]]
  exact (h.at 2).at 1
 rintro x w ⟨r,g,rfl,hr,hu,hfr,h⟩
 have hrg:AP (wT b3 m p2 q2 P) A g col:=⟨by rw [←hcol];exact yG fun i hi=>hfr _ (by have hi:i<m:=hi;omega),hm1,hm2,hP1,hP2,Nat.le_refl 1,by dsimp only;omega⟩
 obtain ⟨aok2,_⟩:=Ar.cE (h.at 2)
 refine aa.dm (fun hlt=> ?_) (fun hge=> ?_)
 ·have hlt:r≤m:=by omega
  refine xu (W:=wT b3 m p2 q2 P) rfl hrg ((h.at 2).at 2) (q:=r) hlt (fun hne w h=>aa.t rfl ?_) (fun he w h=>aa.f rfl ?_)
  ·have hne:r≠P:=hne
   have hat:bY P r<m:=by rw [←hlen];exact tw (by omega) (by omega) hne
   have hnx:=DP (last:=col) (a:=bY P r) (by omega)
   have hnb:=Bo (last:=col) (a:=bY P r) (by omega)
   have hc256:col.getD (bY P r) 0<256:=by rw [←qb hrg hat];exact aok2.byt _
   have hsu:=Fk hne
   have h:=h.at 2
   generalize hj:bY P r=j at*
   refine aF.rd h (by omega) (by omega) ((bG col (col.getD j 0)+(col.take j).count (col.getD j 0):Nat):Int) (by rw [Int.toNat_natCast];exact kr (f:=fun c=>bG col c+(col.take j).count c) hc256) ?_
   rw [ab (by omega),show ((bG col (col.getD j 0)+(col.take j).count (col.getD j 0):Nat):Int)+1=(nx col j:Int) by omega]
   refine aF.wr h (by omega) (by omega) (dG ..) rfl fun w h=> ?_
   rw [Int.toNat_natCast,nZ,jk (g:=fun c=>bG col c+(col.take (bY P (r+1))).count c) fun c _=>by
    have:=congrFun (pB (col:=col) (k:=j) (by omega)) c
    rw [hsu,←this]
    unfold gy
    by_cases e:c=col.getD j 0
    ·rw [if_pos e,if_pos e,e];omega
    ·rw [if_neg e,if_neg e]] at h
   refine aF.rd h (by omega) (by omega) (nx col j:Int) (by
    rw [Int.toNat_natCast,kr hc256]
    congr 2
    rw [hsu,pe (k:=j) (by omega),if_pos rfl];exact congrArg (fun n:Nat=>(n:Int)) (by omega)) ?_
   refine Ld.xt (b:=b2) h rfl ?_
   rw [dv (by omega)]
   refine nJ (p:=p2) (q:=q2) (h.at 2) hin (by omega) (by omega) fun w h=> ?_
   rw [ab (x:=(r:Int)+1) (by omega)]
   have l4:=jR (nx col j)
   refine ⟨⟨r+1,_,by omega,by omega,fun q hq=> ?_,fun q hq=> ?_,((h.at 1).at 2).at 1⟩,by first|omega|(dsimp only;omega)⟩
   ·by_cases e:q=r
    ·subst e
     rw [gN (by omega) (.inl rfl),if_pos rfl,if_neg hne,hj]
    ·rw [gN (by omega) (.inr (.inl (by omega))),if_neg (by omega)]
     exact hu q (by omega)
   ·rw [dY (by rw [l4];omega)]
    exact hfr q hq
  ·refine Ld.xt (b:=b2) h rfl ?_
   rw [dv (by omega)]
   refine nJ (p:=p2) (q:=q2) (v:=0) (h.at 1) hin (by omega) (by omega) fun w h=> ?_
   rw [ab (x:=(r:Int)+1) (by omega)]
   have l4:=jR 0
   have he:r=P:=he
   have hsa:bY P (r+1)=bY P r:=by rw [he];exact Ei P
   refine ⟨⟨r+1,_,by omega,by omega,fun q hq=> ?_,fun q hq=> ?_,by rw [hsa];exact ((h.at 2).at 2).at 1⟩,by first|omega|(dsimp only;omega)⟩
   ·by_cases e:q=r
    ·subst e
     rw [gN (by omega) (.inl rfl),if_pos rfl,if_pos he]
    ·rw [gN (by omega) (.inr (.inl (by omega))),if_neg (by omega)]
     exact hu q (by omega)
   ·rw [dY (by rw [l4];omega)]
    exact hfr q hq
 ·have hr2:r=m+1:=by omega
  rw [hr2] at hu
  exact hK b3 g w ⟨hrg,fun _=>⟨hu,hin,hq⟩,fun e=>(by cases e)⟩ hfr ((h.no 0).no 2|>.no 2)
theorem L5 {l:List HP} {L r:List Value} {x0 x1 x2 x3 x4 x5 x6:Value} {t:TypeId} {put:Obj→List HP} {b c:Nat} {v:Value} {K:World→Prop} [bj b l (c7 x0 x1 x2 x3 x4 x5 x6 (L++r)) t (0,0) put] (h:Hp E w l) (hc:c<L.length) (hv:ay v=true)
  (hK: ∀w',Hp E w' (put (.cells (c7 x0 x1 x2 x3 x4 x5 x6 (L.set c v++r)) t (0,0)))→K w'):St ⟨b,7+c,none⟩ v w K:=by
 refine St.xm (pre:=x0::x1::x2::x3::x4::x5::x6::L.take c) (u:=L[c]) (post:=L.drop (c+1)++r) h ?_ (by simp;omega) hv fun w' h'=>hK w' ?_
 ·have e:L++r=L.take c++(L[c]::(L.drop (c+1)++r)):=by rw [←List.cons_append,←List.drop_eq_getElem_cons hc,←List.append_assoc,List.take_append_drop]
  exact congrArg (fun y=>x0::x1::x2::x3::x4::x5::x6::y) e
 ·rw [List.set_eq_take_append_cons_drop,if_pos hc]
  simpa using h'
theorem IJ {K:Option Addr→Int→World→Prop} (h:Hp E w (Ar A f::F)) (hcol:dH f 0 m=col) (hr:Af A 0 m p2 q2 d) (hP1:1≤P) (hP2:P≤m)
  (hK: ∀b g w',rN (wR b m p2 q2 P d) A g col→(∀j,j<p2→g j=f j)→Hp E w' (WB (wR b m p2 q2 P d) A col 0 0 0::Ar A g::F)→K (some ⟨b,0,none⟩) 0 w'):
  Cl Tryz.prog [kP,kI] kg ⟨[pA A,gT 0 m,.int .i64 (P:Int),gT p2 q2,.int .i64 (d:Int)]⟩ w K:=by
 obtain ⟨aok,_⟩:=Ar.cE h
 have hle:=aok.le;have hbig:=aok.eP
 have hlen:col.length=m:=by rw [←hcol,cJ]
 have c1:=hr.c1;have c2:=hr.c2;have d1:=hr.d1;have d2:=hr.d2;have hca:=hr.ca;have hma:=hr.ma
 refine wB.ok _ (((0:Nat):Int),(m:Int),()) _ ((p2:Int),(q2:Int),()) _ _ _ ?_
 dsimp only
 refine Nw.mk h fun b1 w h=>Nw.mk h fun b2 w h=>Ld.xt (b:=b1) h rfl (Ld.xt (b:=b2) h rfl ?_)
 refine EL (h.at 2) hr hcol fun g w hm hfr h=>aa.nf rfl ?_
 rw [aV];dsimp only
 refine aa.df (by omega) ?_
 (try simp only [af,Nat.zero_add])
 refine Ld.xb (b:=b1) h rfl (aa.df (by omega) (Ld.xt (b:=b1) h rfl (Ld.xt (b:=b2) h rfl ?_)))
 refine ⟨⟨pA A:: .int .i64 ((0:Nat):Int):: .int .i64 (m:Int):: .int .i64 (p2:Int):: .int .i64 (q2:Int):: .int .i64 (P:Int):: .int .i64 (d:Int)::(List.replicate 256 (.int .i64 0)++ [.int .i64 0,.int .i64 0,.int .i64 0])⟩,by kernel_rfl,?_⟩
 have hz:List.replicate 256 (Value.int .i64 0)=(dS (fun c=>if c<0 then bG col c else 0) 256).toList:=by
  have:(⟨List.replicate 256 (Value.int .i64 0)⟩:Array Value)=dS (fun c=>if c<0 then bG col c else 0) 256:=by
   rw [sJ];exact jk fun i _=>by rw [if_neg (by omega)]
  rw [←this]
 rw [hz]
 refine Nw.mk h fun b3 w h=> ?_
 have hfr2: ∀j,j<p2→g j=f j:=fun j hj=>hfr j (by omega)
 have hcol2:dH g 0 m=col:=by rw [←hcol];exact yG fun i hi=>hfr2 _ (by omega)
 refine ⟨fun y z w=> ∃j:Nat,z=(j:Int)∧j≤256∧y=(bG col j:Int)∧Hp E w (ag b3 (Kh (wR b3 m p2 q2 P d) A (dS (fun c=>if c<j then bG col c else 0) 256).toList 0 0 0)::Ar A g::ag b2 (.cells ⟨[.int .i64 (p2:Int),.int .i64 (q2:Int)]⟩ 146 (0,0))::ag b1 (.cells ⟨[.int .i64 ((0:Nat):Int),.int .i64 (m:Int)]⟩ 146 (0,0))::F),
  fun _ z _=>256 - z.toNat,⟨0,rfl,by omega,by rw [vw];rfl,h⟩,?_⟩
 rintro y z w ⟨j,rfl,hj,rfl,h⟩
 have hcl:bG col j≤col.length:=List.countP_le_length
 refine aa.dm (fun hlt=> ?_) (fun hge=> ?_)
 ·have hlt:j<256:=by omega
  have hs:=qA j col
  have hcl2:bG col (j+1)≤col.length:=List.countP_le_length
  refine ⟨by omega,by omega,?_⟩
  rw [Int.toNat_natCast,Nat.mul_one]
  (try simp only [af])
  refine L5 (b:=b3) (L:=(dS (fun c=>if c<j then bG col c else 0) 256).toList) (r:= [.int .i64 ((0:Nat):Int),.int .i64 ((0:Nat):Int),.int .i64 ((0:Nat):Int)]) h (by have:=dG (fun c=>if c<j then bG col c else 0) 256;simpa using by omega) rfl fun w h=> ?_
  have hset:(dS (fun c=>if c<j then bG col c else 0) 256).toList.set j (.int .i64 (bG col j:Int))=(dS (fun c=>if c<j+1 then bG col c else 0) 256).toList:=by
   rw [←Array.toList_setIfInBounds,nZ,jk (g:=fun c=>if c<j+1 then bG col c else 0) fun i _=>by
    unfold gy
    dsimp only
    by_cases e:i=j
    ·rw [if_pos e,if_pos (by omega),e]
    ·rw [if_neg e]
     by_cases hi:i<j
     ·rw [if_pos hi,if_pos (by omega)]
     ·rw [if_neg hi,if_neg (by omega)]]
  rw [hset] at h
  refine Ld.xt (b:=b1) h rfl (Ld.xt (b:=b2) h rfl ?_)
  (try simp only [])
  refine Ld.xb (b:=b1) h rfl ?_
  rw [j4 (by omega)]
  refine wJ (place:=m) (h.at 1) hr hcol2 hm (Nat.le_refl _) hlt fun w h=> ?_
  rw [List.take_of_length_le (by omega),ab (x:=(bG col j:Int)+(col.count j:Int)) (by omega),ab (x:=(j:Int)+1) (by omega)]
  exact ⟨⟨j+1,by omega,by omega,by omega,h.at 1⟩,by first|omega|(dsimp only;omega)⟩
 ·obtain rfl:j=256:=by omega
  rw [jk (g:=bG col) fun i hi=>by rw [if_pos hi]] at h
  exact hK b3 g w ⟨⟨hcol2,c1,c2,hP1,hP2,d1,by dsimp only;omega⟩,fun e=>(by cases e),fun _=>⟨hr,hm⟩⟩ hfr2 ((h.no 2).no 2)
end
end Go.Proofs.YtgglghjnakclmaaGreat
namespace Go.Proofs.YtgglghjnakclmaaGreat
open Go Go.Vc
set_option maxRecDepth 100000
theorem yT.ok (a:Int) (b:Int) (c:Int) (R:Int→Int→World→Prop) w (h:
 aR (fun (h:World)=>
 fx 3 h fun i j (k:Int) l=>
 aa (decide (k>0))
 (Cl Pg [kI,kI] iF ⟨[(ni b),(.int .u8 c),(.int .u8 k)]⟩ l fun (n:Int) (o:Int) m=>
 aa (decide (n≤a))
 (R k 0 m)
 (i (u8 (k - 1)) m∧j (u8 (k - 1)) m<j k l))
 (R 0 230 l)) fun d=>
 Cl Pg [kI,kI] ka ⟨[(ni b),(.int .u8 c)]⟩ w fun (f:Int) (g:Int) e=>
 aa (g !=0)
 (R 0 2 e)
 (aa (decide (a<1))
 (R 0 2 e)
 (aa (decide (a>1048576))
 (R 0 2 e)
 (d e)))):Cl Pg [(ak .u8),kI] lD ⟨[(ni a),(ni b),(.int .u8 c)]⟩ w R:=co Tryz.f83 [(2,[]),(12,[(6,(ak .u8))])] h
theorem vZ.ok (a:Int) (b:Int) (c:Int) (R:Sl→Int→World→Prop) w (h:
 Cl Pg [kM] mO ⟨[]⟩ w fun e d=>
 lr Pg (Instr.lookup 202 (.map e) (.agg ⟨[(.int .u8 b),(.int .u8 c)]⟩) true) [kV,kB] d fun g (h:Bool) f=>
 aa (!h)
 (R (⟨none,0,0⟩:Sl) 2 f)
 (aa (decide (a<1))
 (R (⟨none,0,0⟩:Sl) 2 f)
 (aa (decide (a>65536))
 (R (⟨none,0,0⟩:Sl) 2 f)
 (fj Pg g [kS] [(ni a)] f fun (j:Sl) i=>
 R j 0 i)))):Cl Pg [kS,kI] gq ⟨[(ni a),(.int .u8 b),(.int .u8 c)]⟩ w R:=co Tryz.f85 [] h
theorem xL.ok (a:Int) (b:Int) (R:Int→Int→World→Prop) w (h:
 Cl Pg [kI,kI] iF ⟨[(ni a),(.int .u8 b),(.int .u8 1)]⟩ w fun (d:Int) (e:Int) c=>
 R d e c):Cl Pg [kI,kI] ka ⟨[(ni a),(.int .u8 b)]⟩ w R:=co Tryz.f134 [] h
theorem zP.ok (a:Int) (b:Int) (c:Int) (R:Int→Int→World→Prop) w (h:
 Cl Pg [kS,kI] gq ⟨[(ni a),(.int .u8 b),(.int .u8 c)]⟩ w fun (e:Sl) (f:Int) d=>
 ec 0 0 d fun g h (i:Int) (j:Int) k=>
 aa (decide (j<(e.len:Int)))
 (aT e j 1 fun l=>
 Ld kI l k fun (m:Int)=>
 g (i64 (i+m)) (i64 (j+1)) k∧h (i64 (i+m)) (i64 (j+1)) k<h i j k)
 (R i f k)):Cl Pg [kI,kI] iF ⟨[(ni a),(.int .u8 b),(.int .u8 c)]⟩ w R:=co Tryz.f135 [(7,[(6,kI),(20,kI)])] h
theorem mj.ok (a:Int) (R:Sl→World→Prop) w (h:
 Nw 3 ⟨[(ni a)]⟩ w fun c b=>
 R (⟨some ⟨c,0,none⟩,1,1⟩:Sl) b):Cl Pg [kS] eO ⟨[(ni a)]⟩ w R:=co Tryz.f187 [] h
theorem sF.ok (a:Int) (R:Sl→World→Prop) w (h:
 Nw 3 ⟨[(ni a),(ni a),(ni (i64 ((4:Int)*(if (1024:Int)<(i64 (a+1)) then (1024:Int) else (i64 (a+1))))))]⟩ w fun c b=>
 R (⟨some ⟨c,0,none⟩,3,3⟩:Sl) b):Cl Pg [kS] kZ ⟨[(ni a)]⟩ w R:=co Tryz.f188 [] h
theorem r7.ok (a:Int) (R:Sl→World→Prop) w (h:
 0≤(13:Int)∧
 Nw 3 ⟨[(ni a),(ni (i64 ((1024:Int)*(bI .i64 a (13:Int)))))]⟩ w fun c b=>
 R (⟨some ⟨c,0,none⟩,2,2⟩:Sl) b):Cl Pg [kS] kX ⟨[(ni a)]⟩ w R:=co Tryz.f189 [] h
theorem su.ok (a:Int) (R:Sl→World→Prop) w (h:
 0≤(10:Int)∧
 Nw 3 ⟨[(ni a),(ni (i64 ((1024:Int)*(bI .i64 a (10:Int)))))]⟩ w fun c b=>
 R (⟨some ⟨c,0,none⟩,2,2⟩:Sl) b):Cl Pg [kS] k8 ⟨[(ni a)]⟩ w R:=co Tryz.f190 [] h
theorem sP.ok (a:Int) (R:Sl→World→Prop) w (h:
 Nw 3 ⟨[(ni a),(ni (i64 ((4:Int)*(i64 (a+1)))))]⟩ w fun c b=>
 R (⟨some ⟨c,0,none⟩,2,2⟩:Sl) b):Cl Pg [kS] kQ ⟨[(ni a)]⟩ w R:=co Tryz.f191 [] h
theorem jJ.ok (a:Int) (R:Int→Bool→World→Prop) w (h:
 aa (a==1)
 (R 8192 true w)
 (aa (a==2)
 (R 1024 true w)
 (R 0 false w))):Cl Pg [kI,kB] ie ⟨[(.int .u8 a)]⟩ w R:=co Tryz.f216 [] h
end Go.Proofs.YtgglghjnakclmaaGreat
namespace Go.Vc
open Go
def wX (P:Program) (ops:Array Oper) (S:World→Prop) (K:AF→World→Prop) (J:Array Bool→AF→World→Prop) (listed:Array Bool) (f:AF) (w:World):Prop:=
 match Region.ready .any ops listed with
 | []=>K f w
 |r::rs=>match (r::rs).find? (fun i=>(match ops[i]? with|some o=>dK P o.op|none=>false)&&Region.free .any ops listed i) with
  |some i=>match ops[i]? with
   |some o=>guarded ops o f
     (fun f=>jX P S f (fun v=>J (listed.setIfInBounds i true) (bo f o.dst v) w) o.op)
     (fun f=>J (listed.setIfInBounds i true) (bo f o.dst (some undef)) w)
   |none=>False
  |none=>qE (r::rs) fun i=>match ops[i]? with
   |some o=>guarded ops o f
     (fun f=>iZ P f o w fun v w'=>S w'∧J (listed.setIfInBounds i true) (bo f o.dst v) w')
     (fun f=>J (listed.setIfInBounds i true) (bo f o.dst (some undef)) w)
   |none=>False
theorem a6 {P:Program} {ops:Array Oper} {S:World→Prop} {K:AF→World→Prop} {n:Nat} {listed:Array Bool} {f:AF} {w:World} (h:wX P ops S K (az P ops S K n) listed f w):az P ops S K (n+1) listed f w:=h
noncomputable def qG:Code→List Bool→Code
 |c,[]=>c
 | .seq x _,false::l=>qG x l
 | .seq _ y,true::l=>qG y l
 |c,_=>c
noncomputable def Cy:Code→Array Oper
 | .region _ ops _=>ops
 |_=> #[]
def Cr (P:Program) (ops:Array Oper) (i:Nat):Bool:=match ops[i]? with|some o=>dK P o.op|none=>false
def jq (P:Program) (ops:Array Oper) (listed:Array Bool) (i:Nat):Bool:=Cr P ops i&&Region.free .any ops listed i
def aW (P:Program) (ops:Array Oper) (S:World→Prop) (J:Array Bool→AF→World→Prop) (listed:Array Bool) (f:AF) (w:World) (i:Nat):Prop:=match ops[i]? with
 |some o=>guarded ops o f
   (fun f=>iZ P f o w fun v w'=>S w'∧J (listed.setIfInBounds i true) (bo f o.dst v) w')
   (fun f=>J (listed.setIfInBounds i true) (bo f o.dst (some undef)) w)
 |none=>False
def fS (P:Program) (ops:Array Oper) (S:World→Prop) (J:Array Bool→AF→World→Prop) (listed:Array Bool) (f:AF) (w:World) (i:Nat):Prop:=match ops[i]? with
 |some o=>guarded ops o f
   (fun f=>jX P S f (fun v=>J (listed.setIfInBounds i true) (bo f o.dst v) w) o.op)
   (fun f=>J (listed.setIfInBounds i true) (bo f o.dst (some undef)) w)
 |none=>False
theorem AO {F:Nat→Prop}: ∀{l:List Nat},(∀i∈l,F i)→qE l F
 | [],_=>trivial
 | [i],h=>h i (by simp)
 |i::j::l,h=>⟨h i (by simp),AO fun k hk=>h k (List.mem_cons_of_mem _ hk)⟩
theorem sw {P:Program} {ops:Array Oper} {S:World→Prop} {K:AF→World→Prop} {J:Array Bool→AF→World→Prop} {listed:Array Bool} {f:AF} {w:World} {rs:List Nat}
  (hr:Region.ready .any ops listed=rs) (hn:rs≠ []) (hf:rs.find? (jq P ops listed)=none) (h: ∀i∈rs,aW P ops S J listed f w i):wX P ops S K J listed f w:=by
 unfold wX
 rw [hr]
 cases rs with
 |nil=>exact absurd rfl hn
 |cons r rs=>
  have hf':(r::rs).find? (fun i=>(match ops[i]? with|some o=>dK P o.op|none=>false)&&Region.free .any ops listed i)=none:=hf
  dsimp only
  rw [hf']
  exact AO h
theorem bw {P:Program} {ops:Array Oper} {S:World→Prop} {K:AF→World→Prop} {J:Array Bool→AF→World→Prop} {listed:Array Bool} {f:AF} {w:World} {rs:List Nat} {i:Nat}
  (hr:Region.ready .any ops listed=rs) (hf:rs.find? (jq P ops listed)=some i) (h:fS P ops S J listed f w i):wX P ops S K J listed f w:=by
 unfold wX
 rw [hr]
 cases rs with
 |nil=>cases hf
 |cons r rs=>
  have hf':(r::rs).find? (fun i=>(match ops[i]? with|some o=>dK P o.op|none=>false)&&Region.free .any ops listed i)=some i:=hf
  dsimp only
  rw [hf']
  exact h
end Go.Vc
namespace Go.Proofs.YtgglghjnakclmaaGreat
open Go Go.Vc
set_option maxRecDepth 100000
theorem zx.ok (a:(TT ch)) (b:Int) (R:(TT ch)→Bool→Int→World→Prop) w (h:
 Nw 100 ⟨[(ni a.1),(ni a.2.1),(ni a.2.2.1),(ni a.2.2.2.1)]⟩ w fun d c=>
 Nw 100 ⟨[(ni 0),(ni 0),(ni 0),(ni 0)]⟩ c fun f e=>
 aR (fun (n1:World)=>
 Ld (.st [.int .i64,.int .i64]) (Addr.add ⟨d,0,none⟩ 1) n1 fun o1=>
 Cl Pg [(.st [.int .i64,.int .i64]),kB,kB] fY ⟨[(.agg ⟨[(ni o1.1),(ni o1.2.1)]⟩),(.int .u8 b),(ni 65536)]⟩ n1 fun q1 (r1:Bool) (s1:Bool) p1=>
 Nw 98 ⟨[(ni 0),(ni 0)]⟩ p1 fun u1 t1=>
 ad ⟨u1,0,none⟩ [(ni q1.1),(ni q1.2.1)] 0 t1 fun v1=>
 aa (!s1)
 (Ld (.st ch) ⟨f,0,none⟩ v1 fun x1=>
 ad ⟨f,0,none⟩ [(ni x1.1),(ni x1.2.1),(ni x1.2.2.1),(ni x1.2.2.2.1)] 0 v1 fun y1=>
 Ld (.st ch) ⟨f,0,none⟩ y1 fun z1=>
 R z1 false 242 y1)
 (aa r1
 (Ld kI (Addr.add ⟨u1,0,none⟩ 0) v1 fun (a2:Int)=>
 ad ⟨f,0,none⟩ [(ni 4),(ni 0),(ni 0),(ni a2)] 0 v1 fun b2=>
 Ld (.st ch) ⟨f,0,none⟩ b2 fun c2=>
 R c2 true 0 b2)
 (Ld (.st [.int .i64,.int .i64]) ⟨u1,0,none⟩ v1 fun d2=>
 ad ⟨f,0,none⟩ [(ni 3),(ni d2.1),(ni d2.2.1),(ni 0)] 0 v1 fun e2=>
 Ld (.st ch) ⟨f,0,none⟩ e2 fun f2=>
 R f2 false 0 e2))) fun g=>
 aR (fun (m:Bool) (n:World)=>
 aa m
 (Ld (.st ch) ⟨f,0,none⟩ n fun o=>
 ad ⟨f,0,none⟩ [(ni o.1),(ni o.2.1),(ni o.2.2.1),(ni o.2.2.2.1)] 0 n fun p=>
 Ld (.st ch) ⟨f,0,none⟩ p fun q=>
 R q false 2 p)
 (Ld kI (Addr.add ⟨d,0,none⟩ 0) n fun (r:Int)=>
 aa (decide (r<3))
 (Ld kI (Addr.add ⟨d,0,none⟩ 0) n fun (s:Int)=>
 0≤(s:Int)∧(s:Int)<(((ByteArray.mk #[87,80,1])).size:Int)∧
 aa (b==(wh (ByteArray.mk #[87,80,1]) (s:Int).toNat))
 (Ld kI (Addr.add ⟨d,0,none⟩ 0) n fun (t:Int)=>
 ad ⟨f,0,none⟩ [(ni (i64 (t+1))),(ni 0),(ni 0),(ni 0)] 0 n fun u=>
 Ld (.st ch) ⟨f,0,none⟩ u fun v=>
 R v false 0 u)
 (Ld kI (Addr.add ⟨d,0,none⟩ 0) n fun (x:Int)=>
 aa (decide (x<2))
 (Ld (.st ch) ⟨f,0,none⟩ n fun y=>
 ad ⟨f,0,none⟩ [(ni y.1),(ni y.2.1),(ni y.2.2.1),(ni y.2.2.2.1)] 0 n fun z=>
 Ld (.st ch) ⟨f,0,none⟩ z fun a1=>
 R a1 false 240 z)
 (Ld kI (Addr.add ⟨d,0,none⟩ 0) n fun (b1:Int)=>
 aa (decide (b1<3))
 (Ld (.st ch) ⟨f,0,none⟩ n fun c1=>
 ad ⟨f,0,none⟩ [(ni c1.1),(ni c1.2.1),(ni c1.2.2.1),(ni c1.2.2.2.1)] 0 n fun d1=>
 Ld (.st ch) ⟨f,0,none⟩ d1 fun e1=>
 R e1 false 241 d1)
 (g n))))
 (Ld kI (Addr.add ⟨d,0,none⟩ 0) n fun (f1:Int)=>
 aa (decide (f1<2))
 (Ld (.st ch) ⟨f,0,none⟩ n fun g1=>
 ad ⟨f,0,none⟩ [(ni g1.1),(ni g1.2.1),(ni g1.2.2.1),(ni g1.2.2.2.1)] 0 n fun h1=>
 Ld (.st ch) ⟨f,0,none⟩ h1 fun i1=>
 R i1 false 240 h1)
 (Ld kI (Addr.add ⟨d,0,none⟩ 0) n fun (j1:Int)=>
 aa (decide (j1<3))
 (Ld (.st ch) ⟨f,0,none⟩ n fun k1=>
 ad ⟨f,0,none⟩ [(ni k1.1),(ni k1.2.1),(ni k1.2.2.1),(ni k1.2.2.2.1)] 0 n fun l1=>
 Ld (.st ch) ⟨f,0,none⟩ l1 fun m1=>
 R m1 false 241 l1)
 (g n))))) fun h=>
 Ld (.st ch) ⟨d,0,none⟩ e fun i=>
 Cl Pg [kB] kx ⟨[(.agg ⟨[(ni i.1),(ni i.2.1),(ni i.2.2.1),(ni i.2.2.2.1)]⟩)]⟩ e fun (k:Bool) j=>
 aa (!k)
 (h true j)
 (Ld kI (Addr.add ⟨d,0,none⟩ 0) j fun (l:Int)=>
 h (l==4) j)):Cl Pg [(.st ch),kB,kI] lu ⟨[(.agg ⟨[(ni a.1),(ni a.2.1),(ni a.2.2.1),(ni a.2.2.2.1)]⟩),(.int .u8 b)]⟩ w R:=co Tryz.f114 [(2,[]),(3,[(9,kB)])] h
theorem tS.ok (a:Int) (b:(TT aS)) (c:Int) (R:(TT aS)→Bool→Int→World→Prop) w (h:
 Nw 102 ⟨[(ni b.1),(ni b.2.1),(ni b.2.2.1),(ni b.2.2.2.1),(ni b.2.2.2.2.1),(.int .u32 b.2.2.2.2.2.1),(ni b.2.2.2.2.2.2.1)]⟩ w fun e d=>
 Nw 102 ⟨[(ni 0),(ni 0),(ni 0),(ni 0),(ni 0),(.int .u32 0),(ni 0)]⟩ d fun g f=>
 aw Pg (Instr.makeMap 245 none) kM f fun i h=>
 aw Pg (do Instr.mapUpdate 245 (.map i) (ni 0) (.func (.func 166) ⟨[]⟩ ⟨[]⟩);pure undef) kV h fun _ j=>
 aw Pg (do Instr.mapUpdate 245 (.map i) (ni 1) (.func (.func 167) ⟨[]⟩ ⟨[]⟩);pure undef) kV j fun _ k=>
 aw Pg (do Instr.mapUpdate 245 (.map i) (ni 2) (.func (.func 168) ⟨[]⟩ ⟨[]⟩);pure undef) kV k fun _ l=>
 aw Pg (do Instr.mapUpdate 245 (.map i) (ni 3) (.func (.func 169) ⟨[]⟩ ⟨[]⟩);pure undef) kV l fun _ m=>
 aw Pg (do Instr.mapUpdate 245 (.map i) (ni 5) (.func (.func 169) ⟨[]⟩ ⟨[]⟩);pure undef) kV m fun _ n=>
 Ld kI (Addr.add ⟨e,0,none⟩ 0) n fun (o:Int)=>
 aw Pg (Instr.lookup 245 (.map i) (ni o) false) kV n fun q p=>
 kN q fun r=>
 aa r
 (Ld (.st aS) ⟨g,0,none⟩ p fun s=>
 ad ⟨g,0,none⟩ [(ni s.1),(ni s.2.1),(ni s.2.2.1),(ni s.2.2.2.1),(ni s.2.2.2.2.1),(.int .u32 s.2.2.2.2.2.1),(ni s.2.2.2.2.2.2.1)] 0 p fun t=>
 Ld (.st aS) ⟨g,0,none⟩ t fun u=>
 R u false 2 t)
 (Ld (.st aS) ⟨e,0,none⟩ p fun v=>
 Cl Pg [kB] gY ⟨[(ni a),(.agg ⟨[(ni v.1),(ni v.2.1),(ni v.2.2.1),(ni v.2.2.2.1),(ni v.2.2.2.2.1),(.int .u32 v.2.2.2.2.2.1),(ni v.2.2.2.2.2.2.1)]⟩)]⟩ p fun (y:Bool) x=>
 aa (!y)
 (Ld (.st aS) ⟨g,0,none⟩ x fun z=>
 ad ⟨g,0,none⟩ [(ni z.1),(ni z.2.1),(ni z.2.2.1),(ni z.2.2.2.1),(ni z.2.2.2.2.1),(.int .u32 z.2.2.2.2.2.1),(ni z.2.2.2.2.2.2.1)] 0 x fun a1=>
 Ld (.st aS) ⟨g,0,none⟩ a1 fun b1=>
 R b1 false 2 a1)
 (Ld (.st aS) ⟨e,0,none⟩ x fun c1=>
 fj Pg q [(.st aS),kB] [(ni a),(.agg ⟨[(ni c1.1),(ni c1.2.1),(ni c1.2.2.1),(ni c1.2.2.2.1),(ni c1.2.2.2.2.1),(.int .u32 c1.2.2.2.2.2.1),(ni c1.2.2.2.2.2.2.1)]⟩),(.int .u8 c)] x fun e1 (f1:Bool) d1=>
 ad ⟨e,0,none⟩ [(ni e1.1),(ni e1.2.1),(ni e1.2.2.1),(ni e1.2.2.2.1),(ni e1.2.2.2.2.1),(.int .u32 e1.2.2.2.2.2.1),(ni e1.2.2.2.2.2.2.1)] 0 d1 fun g1=>
 aa (!f1)
 (Ld (.st aS) ⟨g,0,none⟩ g1 fun h1=>
 ad ⟨g,0,none⟩ [(ni h1.1),(ni h1.2.1),(ni h1.2.2.1),(ni h1.2.2.2.1),(ni h1.2.2.2.2.1),(.int .u32 h1.2.2.2.2.2.1),(ni h1.2.2.2.2.2.2.1)] 0 g1 fun i1=>
 Ld (.st aS) ⟨g,0,none⟩ i1 fun j1=>
 R j1 false 242 i1)
 (cP g1 fun k1 l1=>
 au (.st aS) ⟨e,0,none⟩ k1 fun m1=>
 au kI (Addr.add ⟨e,0,none⟩ 0) k1 fun (n1:Int)=>
 aa (n1==4)
 (ad ⟨g,0,none⟩ [(ni m1.1),(ni m1.2.1),(ni m1.2.2.1),(ni m1.2.2.2.1),(ni m1.2.2.2.2.1),(.int .u32 m1.2.2.2.2.2.1),(ni m1.2.2.2.2.2.2.1)] 0 l1 fun o1=>
 k1 o1∧
 Ld (.st aS) ⟨g,0,none⟩ o1 fun p1=>
 R p1 true 0 o1)
 (au kI (Addr.add ⟨e,0,none⟩ 0) k1 fun (q1:Int)=>
 ad ⟨g,0,none⟩ [(ni m1.1),(ni m1.2.1),(ni m1.2.2.1),(ni m1.2.2.2.1),(ni m1.2.2.2.2.1),(.int .u32 m1.2.2.2.2.2.1),(ni m1.2.2.2.2.2.2.1)] 0 l1 fun r1=>
 k1 r1∧
 Ld (.st aS) ⟨g,0,none⟩ r1 fun s1=>
 R s1 (q1==6) 0 r1))))):Cl Pg [(.st aS),kB,kI] dN ⟨[(ni a),(.agg ⟨[(ni b.1),(ni b.2.1),(ni b.2.2.1),(ni b.2.2.2.1),(ni b.2.2.2.2.1),(.int .u32 b.2.2.2.2.2.1),(ni b.2.2.2.2.2.2.1)]⟩),(.int .u8 c)]⟩ w R:=co Tryz.f116 [] h
theorem xq.ok (a:(TT ch)) (R:Bool→World→Prop) w (h:
 Nw 100 ⟨[(ni a.1),(ni a.2.1),(ni a.2.2.1),(ni a.2.2.2.1)]⟩ w fun c b=>
 Ld kI (Addr.add ⟨c,0,none⟩ 0) b fun (d:Int)=>
 aa (d==3)
 (Ld (.st [.int .i64,.int .i64]) (Addr.add ⟨c,0,none⟩ 1) b fun e=>
 Cl Pg [kB] fw ⟨[(.agg ⟨[(ni e.1),(ni e.2.1)]⟩),(ni 65536)]⟩ b fun (g:Bool) f=>
 aa g
 (Ld kI (Addr.add ⟨c,0,none⟩ 3) f fun (h:Int)=>
 R (h==0) f)
 (R false f))
 (Ld kI (Addr.add ⟨c,0,none⟩ 0) b fun (i:Int)=>
 aa (i==4)
 (Ld (.st [.int .i64,.int .i64]) (Addr.add ⟨c,0,none⟩ 1) b fun j=>
 aa (((j.1:Int)==(0:Int))&&((j.2.1:Int)==(0:Int)))
 (Ld kI (Addr.add ⟨c,0,none⟩ 3) b fun (k:Int)=>
 Cl Pg [kB] b9 ⟨[(ni k),(ni 1),(ni 65536)]⟩ b fun (m:Bool) l=>
 R m l)
 (R false b))
 (Ld kI (Addr.add ⟨c,0,none⟩ 0) b fun (n:Int)=>
 Cl Pg [kB] b9 ⟨[(ni n),(ni 0),(ni 3)]⟩ b fun (p:Bool) o=>
 aa p
 (Ld (.st ch) ⟨c,0,none⟩ o fun q=>
 Ld kI (Addr.add ⟨c,0,none⟩ 0) o fun (r:Int)=>
 R (((q.1:Int)==r)&&((((q.2.1:Int)==(0:Int))&&((q.2.2.1:Int)==(0:Int)))&&((q.2.2.2.1:Int)==(0:Int)))) o)
 (R false o)))):Cl Pg [kB] kx ⟨[(.agg ⟨[(ni a.1),(ni a.2.1),(ni a.2.2.1),(ni a.2.2.2.1)]⟩)]⟩ w R:=co Tryz.f164 [] h
theorem zF.ok (a:(TT [.int .i64,.int .i64])) (b:Int) (c:Int) (R:(TT [.int .i64,.int .i64])→Bool→Bool→World→Prop) w (h:
 Nw 98 ⟨[(ni a.1),(ni a.2.1)]⟩ w fun e d=>
 Nw 98 ⟨[(ni 0),(ni 0)]⟩ d fun g f=>
 Ld (.st [.int .i64,.int .i64]) ⟨e,0,none⟩ f fun h=>
 Cl Pg [(.st [.int .i64,.int .i64]),kB,kI] lI ⟨[(.agg ⟨[(ni h.1),(ni h.2.1)]⟩),(.int .u8 b)]⟩ f fun j (k:Bool) (l:Int) i=>
 ad ⟨g,0,none⟩ [(ni j.1),(ni j.2.1)] 0 i fun m=>
 Ld (.st [.int .i64,.int .i64]) ⟨g,0,none⟩ m fun n=>
 aa (l==0)
 (Ld kI (Addr.add ⟨g,0,none⟩ 0) m fun (o:Int)=>
 aa (decide (o≤c))
 (aa (!k)
 (ad ⟨g,0,none⟩ [(ni n.1),(ni n.2.1)] 0 m fun p=>
 Ld (.st [.int .i64,.int .i64]) ⟨g,0,none⟩ p fun q=>
 R q k true p)
 (Ld kI (Addr.add ⟨g,0,none⟩ 0) m fun (r:Int)=>
 ad ⟨g,0,none⟩ [(ni n.1),(ni n.2.1)] 0 m fun s=>
 Ld (.st [.int .i64,.int .i64]) ⟨g,0,none⟩ s fun t=>
 R t k (decide (r>0)) s))
 (ad ⟨g,0,none⟩ [(ni n.1),(ni n.2.1)] 0 m fun u=>
 Ld (.st [.int .i64,.int .i64]) ⟨g,0,none⟩ u fun v=>
 R v k false u))
 (ad ⟨g,0,none⟩ [(ni n.1),(ni n.2.1)] 0 m fun x=>
 Ld (.st [.int .i64,.int .i64]) ⟨g,0,none⟩ x fun y=>
 R y k false x)):Cl Pg [(.st [.int .i64,.int .i64]),kB,kB] fY ⟨[(.agg ⟨[(ni a.1),(ni a.2.1)]⟩),(.int .u8 b),(ni c)]⟩ w R:=co Tryz.f165 [] h
theorem zf.ok (a:Int) (b:(TT aS)) (c:Int) (R:(TT aS)→Bool→World→Prop) w (h:
 Nw 102 ⟨[(ni b.1),(ni b.2.1),(ni b.2.2.1),(ni b.2.2.2.1),(ni b.2.2.2.2.1),(.int .u32 b.2.2.2.2.2.1),(ni b.2.2.2.2.2.2.1)]⟩ w fun e d=>
 Nw 102 ⟨[(ni 0),(ni 0),(ni 0),(ni 0),(ni 0),(.int .u32 0),(ni 0)]⟩ d fun g f=>
 St (Addr.add ⟨e,0,none⟩ 0) (ni 1) f fun h=>
 aa (c==0)
 (St (Addr.add ⟨e,0,none⟩ 0) (ni 5) h fun i=>
 Ld (.st aS) ⟨e,0,none⟩ i fun j=>
 ad ⟨g,0,none⟩ [(ni j.1),(ni j.2.1),(ni j.2.2.1),(ni j.2.2.2.1),(ni j.2.2.2.2.1),(.int .u32 j.2.2.2.2.2.1),(ni j.2.2.2.2.2.2.1)] 0 i fun k=>
 Ld (.st aS) ⟨g,0,none⟩ k fun l=>
 R l (decide (c≤1)) k)
 (Ld (.st aS) ⟨e,0,none⟩ h fun m=>
 ad ⟨g,0,none⟩ [(ni m.1),(ni m.2.1),(ni m.2.2.1),(ni m.2.2.2.1),(ni m.2.2.2.2.1),(.int .u32 m.2.2.2.2.2.1),(ni m.2.2.2.2.2.2.1)] 0 h fun n=>
 Ld (.st aS) ⟨g,0,none⟩ n fun o=>
 R o (decide (c≤1)) n)):Cl Pg [(.st aS),kB] dI ⟨[(ni a),(.agg ⟨[(ni b.1),(ni b.2.1),(ni b.2.2.1),(ni b.2.2.2.1),(ni b.2.2.2.2.1),(.int .u32 b.2.2.2.2.2.1),(ni b.2.2.2.2.2.2.1)]⟩),(.int .u8 c)]⟩ w R:=co Tryz.f166 [] h
theorem zM.ok (a:Int) (b:(TT aS)) (c:Int) (R:(TT aS)→Bool→World→Prop) w (h:
 Nw 102 ⟨[(ni b.1),(ni b.2.1),(ni b.2.2.1),(ni b.2.2.2.1),(ni b.2.2.2.2.1),(.int .u32 b.2.2.2.2.2.1),(ni b.2.2.2.2.2.2.1)]⟩ w fun e d=>
 Nw 102 ⟨[(ni 0),(ni 0),(ni 0),(ni 0),(ni 0),(.int .u32 0),(ni 0)]⟩ d fun g f=>
 Ld (.st [.int .i64,.int .i64]) (Addr.add ⟨e,0,none⟩ 1) f fun h=>
 Cl Pg [(.st [.int .i64,.int .i64]),kB,kB] fY ⟨[(.agg ⟨[(ni h.1),(ni h.2.1)]⟩),(.int .u8 c),(ni a)]⟩ f fun j (k:Bool) (l:Bool) i=>
 Nw 98 ⟨[(ni 0),(ni 0)]⟩ i fun n m=>
 ad ⟨n,0,none⟩ [(ni j.1),(ni j.2.1)] 0 m fun o=>
 Ld (.st [.int .i64,.int .i64]) ⟨n,0,none⟩ o fun p=>
 ad (Addr.add ⟨e,0,none⟩ 1) [(ni p.1),(ni p.2.1)] 0 o fun q=>
 aa k
 (Ld kI (Addr.add ⟨n,0,none⟩ 0) q fun (r:Int)=>
 ad ⟨e,0,none⟩ [(ni 2),(ni 0),(ni 0),(ni r),(ni 0),(.int .u32 0),(ni 0)] 0 q fun s=>
 Ld (.st aS) ⟨e,0,none⟩ s fun t=>
 ad ⟨g,0,none⟩ [(ni t.1),(ni t.2.1),(ni t.2.2.1),(ni t.2.2.2.1),(ni t.2.2.2.2.1),(.int .u32 t.2.2.2.2.2.1),(ni t.2.2.2.2.2.2.1)] 0 s fun u=>
 Ld (.st aS) ⟨g,0,none⟩ u fun v=>
 R v l u)
 (Ld (.st aS) ⟨e,0,none⟩ q fun x=>
 ad ⟨g,0,none⟩ [(ni x.1),(ni x.2.1),(ni x.2.2.1),(ni x.2.2.2.1),(ni x.2.2.2.2.1),(.int .u32 x.2.2.2.2.2.1),(ni x.2.2.2.2.2.2.1)] 0 q fun y=>
 Ld (.st aS) ⟨g,0,none⟩ y fun z=>
 R z l y)):Cl Pg [(.st aS),kB] dF ⟨[(ni a),(.agg ⟨[(ni b.1),(ni b.2.1),(ni b.2.2.1),(ni b.2.2.2.1),(ni b.2.2.2.2.1),(.int .u32 b.2.2.2.2.2.1),(ni b.2.2.2.2.2.2.1)]⟩),(.int .u8 c)]⟩ w R:=co Tryz.f167 [] h
theorem xi.ok (a:Int) (b:(TT aS)) (c:Int) (R:(TT aS)→Bool→World→Prop) w (h:
 Nw 102 ⟨[(ni b.1),(ni b.2.1),(ni b.2.2.1),(ni b.2.2.2.1),(ni b.2.2.2.2.1),(.int .u32 b.2.2.2.2.2.1),(ni b.2.2.2.2.2.2.1)]⟩ w fun e d=>
 Nw 102 ⟨[(ni 0),(ni 0),(ni 0),(ni 0),(ni 0),(.int .u32 0),(ni 0)]⟩ d fun g f=>
 Ld (.st [.int .i64,.int .i64]) (Addr.add ⟨e,0,none⟩ 1) f fun h=>
 Ld kI ((Addr.add ⟨e,0,none⟩ 3).add 0) f fun (i:Int)=>
 Cl Pg [(.st [.int .i64,.int .i64]),kB,kB] fY ⟨[(.agg ⟨[(ni h.1),(ni h.2.1)]⟩),(.int .u8 c),(ni i)]⟩ f fun k (l:Bool) (m:Bool) j=>
 Nw 98 ⟨[(ni 0),(ni 0)]⟩ j fun o n=>
 ad ⟨o,0,none⟩ [(ni k.1),(ni k.2.1)] 0 n fun p=>
 Ld (.st [.int .i64,.int .i64]) ⟨o,0,none⟩ p fun q=>
 ad (Addr.add ⟨e,0,none⟩ 1) [(ni q.1),(ni q.2.1)] 0 p fun r=>
 aa l
 (Ld kI ((Addr.add ⟨e,0,none⟩ 3).add 0) r fun (s:Int)=>
 Ld kI (Addr.add ⟨o,0,none⟩ 0) r fun (t:Int)=>
 ad ⟨e,0,none⟩ [(ni 3),(ni 0),(ni 0),(ni s),(ni t),(.int .u32 0),(ni 0)] 0 r fun u=>
 Ld (.st aS) ⟨e,0,none⟩ u fun v=>
 ad ⟨g,0,none⟩ [(ni v.1),(ni v.2.1),(ni v.2.2.1),(ni v.2.2.2.1),(ni v.2.2.2.2.1),(.int .u32 v.2.2.2.2.2.1),(ni v.2.2.2.2.2.2.1)] 0 u fun x=>
 Ld (.st aS) ⟨g,0,none⟩ x fun y=>
 R y m x)
 (Ld (.st aS) ⟨e,0,none⟩ r fun z=>
 ad ⟨g,0,none⟩ [(ni z.1),(ni z.2.1),(ni z.2.2.1),(ni z.2.2.2.1),(ni z.2.2.2.2.1),(.int .u32 z.2.2.2.2.2.1),(ni z.2.2.2.2.2.2.1)] 0 r fun a1=>
 Ld (.st aS) ⟨g,0,none⟩ a1 fun b1=>
 R b1 m a1)):Cl Pg [(.st aS),kB] dn ⟨[(ni a),(.agg ⟨[(ni b.1),(ni b.2.1),(ni b.2.2.1),(ni b.2.2.2.1),(ni b.2.2.2.2.1),(.int .u32 b.2.2.2.2.2.1),(ni b.2.2.2.2.2.2.1)]⟩),(.int .u8 c)]⟩ w R:=co Tryz.f168 [] h
theorem BI.ok (a:Int) (b:(TT aS)) (c:Int) (R:(TT aS)→Bool→World→Prop) w (h:
 Nw 102 ⟨[(ni b.1),(ni b.2.1),(ni b.2.2.1),(ni b.2.2.2.1),(ni b.2.2.2.2.1),(.int .u32 b.2.2.2.2.2.1),(ni b.2.2.2.2.2.2.1)]⟩ w fun e d=>
 Nw 102 ⟨[(ni 0),(ni 0),(ni 0),(ni 0),(ni 0),(.int .u32 0),(ni 0)]⟩ d fun g f=>
 Ld (ak .u32) ((Addr.add ⟨e,0,none⟩ 3).add 2) f fun (h:Int)=>
 0≤(8:Int)∧
 St ((Addr.add ⟨e,0,none⟩ 3).add 2) (.int .u32 (jy .u32 (a8 .u32 h (8:Int)) (u32 c))) f fun i=>
 Ld kI (Addr.add ⟨e,0,none⟩ 6) i fun (j:Int)=>
 St (Addr.add ⟨e,0,none⟩ 6) (ni (i64 (j+1))) i fun k=>
 Ld kI (Addr.add ⟨e,0,none⟩ 6) k fun (l:Int)=>
 aa (l==4)
 (Ld kI (Addr.add ⟨e,0,none⟩ 0) k fun (m:Int)=>
 St (Addr.add ⟨e,0,none⟩ 0) (ni (i64 (m+1))) k fun n=>
 Ld (.st aS) ⟨e,0,none⟩ n fun o=>
 ad ⟨g,0,none⟩ [(ni o.1),(ni o.2.1),(ni o.2.2.1),(ni o.2.2.2.1),(ni o.2.2.2.2.1),(.int .u32 o.2.2.2.2.2.1),(ni o.2.2.2.2.2.2.1)] 0 n fun p=>
 Ld (.st aS) ⟨g,0,none⟩ p fun q=>
 R q true p)
 (Ld (.st aS) ⟨e,0,none⟩ k fun r=>
 ad ⟨g,0,none⟩ [(ni r.1),(ni r.2.1),(ni r.2.2.1),(ni r.2.2.2.1),(ni r.2.2.2.2.1),(.int .u32 r.2.2.2.2.2.1),(ni r.2.2.2.2.2.2.1)] 0 k fun s=>
 Ld (.st aS) ⟨g,0,none⟩ s fun t=>
 R t true s)):Cl Pg [(.st aS),kB] bS ⟨[(ni a),(.agg ⟨[(ni b.1),(ni b.2.1),(ni b.2.2.1),(ni b.2.2.2.1),(ni b.2.2.2.2.1),(.int .u32 b.2.2.2.2.2.1),(ni b.2.2.2.2.2.2.1)]⟩),(.int .u8 c)]⟩ w R:=co Tryz.f169 [] h
theorem r6.ok (a:Int) (b:(TT aS)) (R:Bool→World→Prop) w (h:
 Nw 102 ⟨[(ni b.1),(ni b.2.1),(ni b.2.2.1),(ni b.2.2.2.1),(ni b.2.2.2.2.1),(.int .u32 b.2.2.2.2.2.1),(ni b.2.2.2.2.2.2.1)]⟩ w fun d c=>
 Ld (.st [.int .i64,.int .i64,.int .u32]) (Addr.add ⟨d,0,none⟩ 3) c fun e=>
 Nw 25 ⟨[(ni 0),(ni 0),(.int .u32 0)]⟩ c fun g f=>
 ad ⟨g,0,none⟩ [(ni e.1),(ni e.2.1),(.int .u32 e.2.2.1)] 0 f fun h=>
 aR (fun (q:Bool) (r:World)=>
 Cl Pg [kB] b9 ⟨[(ni a),(ni 1),(ni 65536)]⟩ r fun (t:Bool) s=>
 aa (!t)
 (R false s)
 (Ld kI (Addr.add ⟨d,0,none⟩ 0) s fun (u:Int)=>
 aa (u==0)
 (Ld (.st aS) ⟨d,0,none⟩ s fun v=>
 R (((v.1:Int)==(0:Int))&&((((v.2.1:Int)==(0:Int))&&((v.2.2.1:Int)==(0:Int)))&&((((v.2.2.2.1:Int)==(0:Int))&&(((v.2.2.2.2.1:Int)==(0:Int))&&((v.2.2.2.2.2.1:Int)==(0:Int))))&&((v.2.2.2.2.2.2.1:Int)==(0:Int))))) s)
 (aa (u==1)
 (Ld (.st [.int .i64,.int .i64]) (Addr.add ⟨d,0,none⟩ 1) s fun x=>
 Cl Pg [kB] fw ⟨[(.agg ⟨[(ni x.1),(ni x.2.1)]⟩),(ni a)]⟩ s fun (z:Bool) y=>
 aa z
 (Ld (.st aS) ⟨d,0,none⟩ y fun a1=>
 Ld (.st [.int .i64,.int .i64]) (Addr.add ⟨d,0,none⟩ 1) y fun b1=>
 R (((a1.1:Int)==(1:Int))&&((((a1.2.1:Int)==(b1.1:Int))&&((a1.2.2.1:Int)==(b1.2.1:Int)))&&((((a1.2.2.2.1:Int)==(0:Int))&&(((a1.2.2.2.2.1:Int)==(0:Int))&&((a1.2.2.2.2.2.1:Int)==(0:Int))))&&((a1.2.2.2.2.2.2.1:Int)==(0:Int))))) y)
 (R false y))
 (aa (u==2)
 (Ld kI (Addr.add ⟨g,0,none⟩ 0) s fun (c1:Int)=>
 Cl Pg [kB] b9 ⟨[(ni c1),(ni 1),(ni a)]⟩ s fun (e1:Bool) d1=>
 aa e1
 (Ld (.st [.int .i64,.int .i64]) (Addr.add ⟨d,0,none⟩ 1) d1 fun f1=>
 Ld kI (Addr.add ⟨g,0,none⟩ 0) d1 fun (g1:Int)=>
 Cl Pg [kB] fw ⟨[(.agg ⟨[(ni f1.1),(ni f1.2.1)]⟩),(ni g1)]⟩ d1 fun (i1:Bool) h1=>
 aa i1
 (Ld (.st aS) ⟨d,0,none⟩ h1 fun j1=>
 Ld (.st [.int .i64,.int .i64]) (Addr.add ⟨d,0,none⟩ 1) h1 fun k1=>
 Ld kI (Addr.add ⟨g,0,none⟩ 0) h1 fun (l1:Int)=>
 R (((j1.1:Int)==(2:Int))&&((((j1.2.1:Int)==(k1.1:Int))&&((j1.2.2.1:Int)==(k1.2.1:Int)))&&((((j1.2.2.2.1:Int)==l1)&&(((j1.2.2.2.2.1:Int)==(0:Int))&&((j1.2.2.2.2.2.1:Int)==(0:Int))))&&((j1.2.2.2.2.2.2.1:Int)==(0:Int))))) h1)
 (R false h1))
 (R false d1))
 (aa (u==3)
 (aa q
 (Ld (ak .u32) (Addr.add ⟨g,0,none⟩ 2) s fun (m1:Int)=>
 Ld kI (Addr.add ⟨d,0,none⟩ 6) s fun (n1:Int)=>
 Cl Pg [kB] iA ⟨[(.int .u32 m1),(ni n1)]⟩ s fun (p1:Bool) o1=>
 aa p1
 (Ld (.st [.int .i64,.int .i64]) (Addr.add ⟨d,0,none⟩ 1) o1 fun q1=>
 R (((q1.1:Int)==(0:Int))&&((q1.2.1:Int)==(0:Int))) o1)
 (R false o1))
 (R false s))
 (aa (u==4)
 (aa q
 (Ld (.st aS) ⟨d,0,none⟩ s fun r1=>
 Ld (.st [.int .i64,.int .i64,.int .u32]) ⟨g,0,none⟩ s fun s1=>
 R (((r1.1:Int)==(4:Int))&&((((r1.2.1:Int)==(0:Int))&&((r1.2.2.1:Int)==(0:Int)))&&((((r1.2.2.2.1:Int)==(s1.1:Int))&&(((r1.2.2.2.2.1:Int)==(s1.2.1:Int))&&((r1.2.2.2.2.2.1:Int)==(s1.2.2.1:Int))))&&((r1.2.2.2.2.2.2.1:Int)==(4:Int))))) s)
 (R false s))
 (aa (u==5)
 (Ld (ak .u32) (Addr.add ⟨g,0,none⟩ 2) s fun (t1:Int)=>
 Ld kI (Addr.add ⟨d,0,none⟩ 6) s fun (u1:Int)=>
 Cl Pg [kB] iA ⟨[(.int .u32 t1),(ni u1)]⟩ s fun (x1:Bool) v1=>
 aa x1
 (Ld (.st aS) ⟨d,0,none⟩ v1 fun y1=>
 Ld (ak .u32) (Addr.add ⟨g,0,none⟩ 2) v1 fun (z1:Int)=>
 Ld kI (Addr.add ⟨d,0,none⟩ 6) v1 fun (a2:Int)=>
 R (((y1.1:Int)==(5:Int))&&((((y1.2.1:Int)==(0:Int))&&((y1.2.2.1:Int)==(0:Int)))&&((((y1.2.2.2.1:Int)==(0:Int))&&(((y1.2.2.2.2.1:Int)==(0:Int))&&((y1.2.2.2.2.2.1:Int)==z1)))&&((y1.2.2.2.2.2.2.1:Int)==a2)))) v1)
 (R false v1))
 (aa (u==6)
 (Ld (.st aS) ⟨d,0,none⟩ s fun b2=>
 Ld (ak .u32) (Addr.add ⟨g,0,none⟩ 2) s fun (c2:Int)=>
 R (((b2.1:Int)==(6:Int))&&((((b2.2.1:Int)==(0:Int))&&((b2.2.2.1:Int)==(0:Int)))&&((((b2.2.2.2.1:Int)==(0:Int))&&(((b2.2.2.2.2.1:Int)==(0:Int))&&((b2.2.2.2.2.2.1:Int)==c2)))&&((b2.2.2.2.2.2.2.1:Int)==(4:Int))))) s)
 (R false s))))))))) fun i=>
 Ld kI (Addr.add ⟨g,0,none⟩ 0) h fun (j:Int)=>
 Cl Pg [kB] b9 ⟨[(ni j),(ni 1),(ni a)]⟩ h fun (l:Bool) k=>
 aa l
 (Ld kI (Addr.add ⟨g,0,none⟩ 1) k fun (m:Int)=>
 Ld kI (Addr.add ⟨g,0,none⟩ 0) k fun (n:Int)=>
 Cl Pg [kB] b9 ⟨[(ni m),(ni 1),(ni n)]⟩ k fun (p:Bool) o=>
 i p o)
 (i false k)):Cl Pg [kB] gY ⟨[(ni a),(.agg ⟨[(ni b.1),(ni b.2.1),(ni b.2.2.1),(ni b.2.2.2.1),(ni b.2.2.2.2.1),(.int .u32 b.2.2.2.2.2.1),(ni b.2.2.2.2.2.2.1)]⟩)]⟩ w R:=co Tryz.f170 [(4,[(6,kB)])] h
theorem vX.ok (a:Int) (b:Int) (c:Int) (R:Bool→World→Prop) w (h:
 aa (decide (a≥b))
 (R (decide (a≤c)) w)
 (R false w)):Cl Pg [kB] b9 ⟨[(ni a),(ni b),(ni c)]⟩ w R:=co Tryz.f199 [] h
theorem yL.ok (a:(TT [.int .i64,.int .i64])) (b:Int) (R:Bool→World→Prop) w (h:
 Nw 98 ⟨[(ni a.1),(ni a.2.1)]⟩ w fun d c=>
 Ld (.st [.int .i64,.int .i64]) ⟨d,0,none⟩ c fun e=>
 Cl Pg [kB] hY ⟨[(.agg ⟨[(ni e.1),(ni e.2.1)]⟩)]⟩ c fun (g:Bool) f=>
 aa g
 (Ld kI (Addr.add ⟨d,0,none⟩ 0) f fun (h:Int)=>
 R (decide (h≤b)) f)
 (R false f)):Cl Pg [kB] fw ⟨[(.agg ⟨[(ni a.1),(ni a.2.1)]⟩),(ni b)]⟩ w R:=co Tryz.f228 [] h
theorem zI.ok (a:Int) (b:Int) (R:Bool→World→Prop) w (h:
 Cl Pg [kB] b9 ⟨[(ni b),(ni 0),(ni 3)]⟩ w fun (d:Bool) c=>
 aa d
 (0≤(i64 ((8:Int)*b))∧
 R ((bI .u64 (u64 a) (i64 ((8:Int)*b)))==0) c)
 (R false c)):Cl Pg [kB] iA ⟨[(.int .u32 a),(ni b)]⟩ w R:=co Tryz.f230 [] h
end Go.Proofs.YtgglghjnakclmaaGreat
namespace Go.Proofs.YtgglghjnakclmaaGreat
open Go Go.Vc
set_option maxRecDepth 100000
theorem zN.ok (a:(TT [.int .i64,.int .i64])) (b:Int) (R:(TT [.int .i64,.int .i64])→Bool→Int→World→Prop) w (h:
 Nw 98 ⟨[(ni a.1),(ni a.2.1)]⟩ w fun d c=>
 Nw 98 ⟨[(ni 0),(ni 0)]⟩ c fun f e=>
 Ld kI (Addr.add ⟨d,0,none⟩ 0) e fun (g:Int)=>
 0≤(7:Int)∧
 aR (fun (h1:World)=>
 Ld kI (Addr.add ⟨d,0,none⟩ 1) h1 fun (i1:Int)=>
 ad ⟨f,0,none⟩ [(ni (jy .i64 (a8 .i64 g (7:Int)) (i64 (dk .u8 b 127)))),(ni (i64 (i1+1)))] 0 h1 fun j1=>
 Ld (.st [.int .i64,.int .i64]) ⟨f,0,none⟩ j1 fun k1=>
 R k1 (decide (b<128)) 0 j1) fun h=>
 Ld (.st [.int .i64,.int .i64]) ⟨d,0,none⟩ e fun i=>
 Cl Pg [kB] hY ⟨[(.agg ⟨[(ni i.1),(ni i.2.1)]⟩)]⟩ e fun (k:Bool) j=>
 aa (!k)
 (Ld (.st [.int .i64,.int .i64]) ⟨f,0,none⟩ j fun l=>
 ad ⟨f,0,none⟩ [(ni l.1),(ni l.2.1)] 0 j fun m=>
 Ld (.st [.int .i64,.int .i64]) ⟨f,0,none⟩ m fun n=>
 R n false 2 m)
 (aa (b==128)
 (Ld kI (Addr.add ⟨d,0,none⟩ 1) j fun (o:Int)=>
 aa (o==0)
 (Ld (.st [.int .i64,.int .i64]) ⟨f,0,none⟩ j fun p=>
 ad ⟨f,0,none⟩ [(ni p.1),(ni p.2.1)] 0 j fun q=>
 Ld (.st [.int .i64,.int .i64]) ⟨f,0,none⟩ q fun r=>
 R r false 51 q)
 (aa (decide ((jy .i64 (a8 .i64 g (7:Int)) (i64 (dk .u8 b 127)))>2147483647))
 (Ld (.st [.int .i64,.int .i64]) ⟨f,0,none⟩ j fun s=>
 ad ⟨f,0,none⟩ [(ni s.1),(ni s.2.1)] 0 j fun t=>
 Ld (.st [.int .i64,.int .i64]) ⟨f,0,none⟩ t fun u=>
 R u false 52 t)
 (Ld kI (Addr.add ⟨d,0,none⟩ 1) j fun (v:Int)=>
 aa (v==4)
 (aa (decide (b≥128))
 (Ld (.st [.int .i64,.int .i64]) ⟨f,0,none⟩ j fun x=>
 ad ⟨f,0,none⟩ [(ni x.1),(ni x.2.1)] 0 j fun y=>
 Ld (.st [.int .i64,.int .i64]) ⟨f,0,none⟩ y fun z=>
 R z false 52 y)
 (h j))
 (h j))))
 (aa (decide ((jy .i64 (a8 .i64 g (7:Int)) (i64 (dk .u8 b 127)))>2147483647))
 (Ld (.st [.int .i64,.int .i64]) ⟨f,0,none⟩ j fun a1=>
 ad ⟨f,0,none⟩ [(ni a1.1),(ni a1.2.1)] 0 j fun b1=>
 Ld (.st [.int .i64,.int .i64]) ⟨f,0,none⟩ b1 fun c1=>
 R c1 false 52 b1)
 (Ld kI (Addr.add ⟨d,0,none⟩ 1) j fun (d1:Int)=>
 aa (d1==4)
 (aa (decide (b≥128))
 (Ld (.st [.int .i64,.int .i64]) ⟨f,0,none⟩ j fun e1=>
 ad ⟨f,0,none⟩ [(ni e1.1),(ni e1.2.1)] 0 j fun f1=>
 Ld (.st [.int .i64,.int .i64]) ⟨f,0,none⟩ f1 fun g1=>
 R g1 false 52 f1)
 (h j))
 (h j))))):Cl Pg [(.st [.int .i64,.int .i64]),kB,kI] lI ⟨[(.agg ⟨[(ni a.1),(ni a.2.1)]⟩),(.int .u8 b)]⟩ w R:=co Tryz.f229 [(4,[])] h
theorem wq.ok (a:(TT [.int .i64,.int .i64])) (R:Bool→World→Prop) w (h:
 Nw 98 ⟨[(ni a.1),(ni a.2.1)]⟩ w fun c b=>
 Ld kI (Addr.add ⟨c,0,none⟩ 1) b fun (d:Int)=>
 aa (decide (d<1))
 (Ld (.st [.int .i64,.int .i64]) ⟨c,0,none⟩ b fun e=>
 R (((e.1:Int)==(0:Int))&&((e.2.1:Int)==(0:Int))) b)
 (Ld kI (Addr.add ⟨c,0,none⟩ 1) b fun (f:Int)=>
 aa (decide (f>4))
 (Ld (.st [.int .i64,.int .i64]) ⟨c,0,none⟩ b fun g=>
 R (((g.1:Int)==(0:Int))&&((g.2.1:Int)==(0:Int))) b)
 (aU b fun h=>
 Ld kI (Addr.add ⟨c,0,none⟩ 0) h fun (i:Int)=>
 Ld kI (Addr.add ⟨c,0,none⟩ 1) h fun (j:Int)=>
 0≤(i64 ((7:Int)*(i64 (j - 1))))∧
 aa (decide (i≥(a8 .i64 (1:Int) (i64 ((7:Int)*(i64 (j - 1)))))))
 (Ld kI (Addr.add ⟨c,0,none⟩ 0) h fun (k:Int)=>
 Ld kI (Addr.add ⟨c,0,none⟩ 1) h fun (l:Int)=>
 0≤(i64 ((7:Int)*l))∧
 R (decide (k<(a8 .i64 (1:Int) (i64 ((7:Int)*l))))) h)
 (R false h)))):Cl Pg [kB] hY ⟨[(.agg ⟨[(ni a.1),(ni a.2.1)]⟩)]⟩ w R:=co Tryz.f289 [] h
end Go.Proofs.YtgglghjnakclmaaGreat
namespace Go.Srt
def vm (v:Nat):Nat:=if v=0 then 0 else if v<128 then 1 else if v<16384 then 2 else if v<2097152 then 3 else 4
theorem Ak {v c:Nat} (hv:v≤65536) (hc:128≤c) (hc2:c<256) (h0: ¬(v=0∧c=128)):vm v+1=vm (128*v+c % 128):=by
 unfold vm
 repeat' split
 all_goals omega
theorem sC {v:Nat} (hv:v≤65536):(v=0∧vm v=0)∨(1≤v∧v<128∧vm v=1)∨(128≤v∧v<16384∧vm v=2)∨(16384≤v∧v<2097152∧vm v=3):=by
 unfold vm
 repeat' split
 all_goals omega
theorem Ga {v:Nat} (hv:v≤65536):vm v≤3∧(vm v=0↔v=0):=by
 have:=sC hv
 omega
end Go.Srt
namespace Go.Vc
theorem Kj {v c:Nat} (hv:v≤65536) (hc:c<256):jy .i64 (a8 .i64 (v:Int) 7) (i64 (dk .u8 (c:Int) 127))=((128*v+c % 128:Nat):Int):=by
 have hmx:IntKind.max .i64=9223372036854775807:=rfl
 have hm8:IntKind.max .u8=255:=rfl
 have e1:a8 .i64 (v:Int) 7=((v*128:Nat):Int):=by
  have:=dg (k:= .i64) (a:=v) (b:=7) (by decide) (by rw [hmx];omega)
  simpa using this
 have e2:dk .u8 (c:Int) 127=((c % 128:Nat):Int):=by
  have:=mv (k:= .u8) (a:=c) (b:=127) (by rw [hm8];omega) (by rw [hm8];omega)
  rw [show c&&&127=c % 128 from Nat.and_two_pow_sub_one_eq_mod c 7] at this
  simpa using this
 have e3:v*128|||c % 128=128*v+c % 128:=by
  rw [Nat.mul_comm v 128]
  exact (Nat.two_pow_add_eq_or_of_lt (i:=7) (by omega) v).symm
 rw [e1,e2,ab (by omega),og (by rw [hmx];omega) (by rw [hmx];omega) (by rw [e3,hmx];omega),e3]
end Go.Vc
namespace Go.Proofs.YtgglghjnakclmaaGreat
open Go Go.Vc Go.Srt
section
variable {E w:World} {F:List HP}
theorem yu {v:Nat} {K:Bool→World→Prop} (h:Hp E w F) (hv:v≤65536) (hK: ∀w',Hp E w' F→K true w'):
  Cl Tryz.prog [kB] hY ⟨[.agg ⟨[.int .i64 (v:Int),.int .i64 (vm v:Int)]⟩]⟩ w K:=by
 refine wq.ok ((v:Int),(vm v:Int),()) _ _ ?_
 (try simp only [af,Nat.zero_add,Nat.add_zero])
 (with_reducible repeat first|refine Nw.mk h fun b w h=> ?_|refine Ld.xb h rfl ?_)
 rcases sC hv with ⟨h1,h2⟩|⟨h0,h1,h2⟩|⟨h0,h1,h2⟩|⟨h0,h1,h2⟩
 all_goals rw [h2] at h⊢
 ·subst h1
  (with_reducible repeat first|refine Ld.xt h rfl ?_|refine aa.yes ?_)
  exact hK _ h.tl
 all_goals
  (with_reducible repeat first|refine aU.mk h fun w h=> ?_|refine Ld.xb h rfl ?_|refine aa.no ?_|refine ⟨by first|omega|decide,?_⟩)
  refine aa.dt ?_ ?_
  ·first
   |rw [show a8 .i64 1 (i64 (7*i64 (((1:Nat):Int) - 1)))=1 by decide];omega
   |rw [show a8 .i64 1 (i64 (7*i64 (((2:Nat):Int) - 1)))=128 by decide];omega
   |rw [show a8 .i64 1 (i64 (7*i64 (((3:Nat):Int) - 1)))=16384 by decide];omega
  (with_reducible repeat first|refine Ld.xb h rfl ?_|refine ⟨by first|omega|decide,?_⟩)
  refine dx ?_ (hK _ h.tl)
  refine decide_eq_true ?_
  first
   |rw [show a8 .i64 1 (i64 (7*((1:Nat):Int)))=128 by decide];omega
   |rw [show a8 .i64 1 (i64 (7*((2:Nat):Int)))=16384 by decide];omega
   |rw [show a8 .i64 1 (i64 (7*((3:Nat):Int)))=2097152 by decide];omega
theorem G8 {v c:Nat} {K:Int×Int×Unit→Bool→Int→World→Prop} (h:Hp E w F) (hv:v≤65536) (hc:c<256)
  (hbad:v=0∧c=128→∀w',Hp E w' F→K (0,0,()) false 51 w')
  (hK: ¬(v=0∧c=128)→∀w',Hp E w' F→K (((128*v+c % 128:Nat):Int),((vm v+1:Nat):Int),()) (decide (c<128)) 0 w'):
  Cl Tryz.prog [.st [.int .i64,.int .i64],kB,kI] lI ⟨[.agg ⟨[.int .i64 (v:Int),.int .i64 (vm v:Int)]⟩,.int .u8 (c:Int)]⟩ w K:=by
 refine zN.ok ((v:Int),(vm v:Int),()) _ _ _ ?_
 (try simp only [aV,af,Nat.zero_add,Nat.add_zero])
 (with_reducible repeat first|refine Nw.mk h fun b w h=> ?_|refine Ld.xb h rfl ?_|refine Ld.xt h rfl ?_|refine ⟨by first|omega|decide,?_⟩)
 refine yu h hv fun w h=> ?_
 (try simp only [Bool.not_true,fl])
 rw [Kj hv hc]
 have hvm:=Ga hv
 have fin: ∀w,¬(v=0∧c=128)→Hp E w F→K (((128*v+c % 128:Nat):Int),i64 ((vm v:Int)+1),()) (decide ((c:Int)<128)) 0 w:=fun w hn h=>by
  have:=hK hn w h
  rw [ab (by omega)]
  rw [show ((vm v+1:Nat):Int)=(vm v:Int)+1 from rfl] at this
  rwa [show decide ((c:Int)<128)=decide (c<128) from decide_eq_decide.2 (by omega)]
 (first|refine aa.dm (fun hb=> ?_) (fun hb=> ?_)|refine aa.em (fun hb=> ?_) (fun hb=> ?_)|refine aa.nm (fun hb=> ?_) (fun hb=> ?_)|refine aa.mk (fun hb=> ?_) (fun hb=> ?_))
 ·(with_reducible refine Ld.xb h rfl ?_)
  (first|refine aa.dm (fun hb=> ?_) (fun hb=> ?_)|refine aa.em (fun hb=> ?_) (fun hb=> ?_)|refine aa.nm (fun hb=> ?_) (fun hb=> ?_)|refine aa.mk (fun hb=> ?_) (fun hb=> ?_))
  ·(with_reducible repeat first|refine Ld.xt h rfl ?_|refine ad.xw h rfl rfl fun w h=> ?_)
   exact hbad (by omega) _ h.tl
  ·(with_reducible repeat first|refine Ld.xb h rfl ?_|refine Ld.xt h rfl ?_|refine ad.xw h rfl rfl fun w h=> ?_|refine aa.no ?_)
   exact fin _ (by omega) h.tl
 ·(with_reducible repeat first|refine Ld.xb h rfl ?_|refine Ld.xt h rfl ?_|refine ad.xw h rfl rfl fun w h=> ?_|refine aa.no ?_)
  exact fin _ (by omega) h.tl
end
end Go.Proofs.YtgglghjnakclmaaGreat
namespace Go.Hd
open Go.Inc
def Lc (n:Nat):List Nat:=if _h:n=0 then [] else Lc (n/128)++ [128+n % 128]
termination_by n
decreasing_by omega
def Ma (n:Nat):List Nat:=Lc (n/128)++ [n % 128]
def grow (most v c:Nat):Option (Nat×Bool):=
 if v=0∧c=128 then none else
 if 128*v+c % 128≤most∧(c<128→0<128*v+c % 128) then some (128*v+c % 128,decide (c<128)) else none
theorem fC {most v c n:Nat} {d:Bool} (hc:c<256) (h:grow most v c=some (n,d)):n≤most∧0<n∧n=128*v+c % 128∧d=decide (c<128):=by
 unfold grow at h
 split at h
 ·cases h
 ·split at h
  ·rename_i h1 h2
   cases h
   refine ⟨h2.1,?_,rfl,rfl⟩
   by_cases hc:c<128
   ·exact h2.2 hc
   ·omega
  ·cases h
structure HS where
 at_:Nat
 v:Nat
deriving DecidableEq
def j9 (i:Nat):Nat:=if i=0 then 0x57 else if i=1 then 0x50 else 1
def aZ (s:HS) (c:Nat):tI HS Nat Nat:=
 if s.at_<3 then
  if c=j9 s.at_ then .more ⟨s.at_+1,0⟩ else .bad (if s.at_=2 then 241 else 240)
 else match grow 65536 s.v c with
  |none=> .bad 242
  |some (n,true)=> .fin n
  |some (n,false)=> .more ⟨3,n⟩
def LK (n:Nat):List Nat:= [0x57,0x50,1]++Ma n
structure MS where
 at_:Nat
 v:Nat
 M:Nat
 P:Nat
 sum:Nat
 many:Nat
deriving DecidableEq
inductive Mk where
 |aB (M P sum:Nat)|tail (sum:Nat)
deriving DecidableEq
def dM:MS:=⟨0,0,0,0,0,0⟩
def aG (n:Nat) (s:MS) (c:Nat):tI MS Mk Nat:=
 if s.at_=0 then
  if c=0 then .more ⟨5,0,0,0,0,0⟩ else if c=1 then .more ⟨1,0,0,0,0,0⟩ else .bad 242
 else if s.at_=1 then
  match grow n s.v c with
  |none=> .bad 242
  |some (m,true)=> .more ⟨2,0,m,0,0,0⟩
  |some (m,false)=> .more ⟨1,m,0,0,0,0⟩
 else if s.at_=2 then
  match grow s.M s.v c with
  |none=> .bad 242
  |some (p,true)=> .more ⟨3,0,s.M,p,0,0⟩
  |some (p,false)=> .more ⟨2,p,s.M,0,0,0⟩
 else if s.many=3 then
  if s.at_=3 then .fin (.aB s.M s.P (256*s.sum+c)) else .fin (.tail (256*s.sum+c))
 else .more {s with sum:=256*s.sum+c,many:=s.many+1}
end Go.Hd
