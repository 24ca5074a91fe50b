/- Part 2 of the texts below the card, joined. -/
import Derived.Test.YtbmegmbnlajbbaaGreatDoorProg
import Derived.Test.YtbmegmbnlajbbaaGreatDoorTCea
namespace Go.Proofs.YtbmegmbnlajbbaaGreatDoor
open Go Go.Fw Go.Proofs
set_option maxRecDepth 100000
noncomputable abbrev P:Program:=Tryz.prog
def qs:List FuncId:=[93,203,172,157,200,156,187]
theorem mixed:P.follows .mixedOrders=true:=by kernel_rfl
abbrev znl:FuncId:=9
abbrev zo2:FuncId:=12
abbrev z2l:FuncId:=13
abbrev zr1:FuncId:=14
abbrev zno:FuncId:=18
abbrev zjs:FuncId:=19
abbrev zu4:FuncId:=28
abbrev z2x:FuncId:=29
abbrev zh0:FuncId:=30
abbrev zne:FuncId:=31
abbrev zuh:FuncId:=32
abbrev znd:FuncId:=35
abbrev zem:FuncId:=36
abbrev zhn:FuncId:=39
abbrev zmp:FuncId:=40
abbrev zlu:FuncId:=41
abbrev zlv:FuncId:=42
abbrev ze1:FuncId:=43
abbrev zpy:FuncId:=51
abbrev zrp:FuncId:=54
abbrev zsg:FuncId:=55
abbrev zkg:FuncId:=56
abbrev zij:FuncId:=57
abbrev zvb:FuncId:=58
abbrev zmc:FuncId:=59
abbrev zfp:FuncId:=60
abbrev zi3:FuncId:=63
abbrev zei:FuncId:=69
abbrev zxz:FuncId:=70
abbrev zqj:FuncId:=71
abbrev zp2:FuncId:=72
abbrev zsv:FuncId:=73
abbrev zj7:FuncId:=74
abbrev zks:FuncId:=75
abbrev zi8:FuncId:=76
abbrev zjo:FuncId:=77
abbrev zkk:FuncId:=78
abbrev zez:FuncId:=79
abbrev z0t:FuncId:=81
abbrev zdm:FuncId:=82
abbrev zd5:FuncId:=83
abbrev zbb:FuncId:=84
abbrev zg9:FuncId:=85
abbrev zbx:FuncId:=86
abbrev zbk:FuncId:=87
abbrev zdq:FuncId:=88
abbrev zsp:FuncId:=89
abbrev z7t:FuncId:=90
abbrev zvl:FuncId:=91
abbrev zbw:FuncId:=92
abbrev zek:FuncId:=93
abbrev znv:FuncId:=94
abbrev zgz:FuncId:=95
abbrev zqi:FuncId:=96
abbrev zvw:FuncId:=100
abbrev z6e:FuncId:=103
abbrev zp6:FuncId:=105
abbrev zay:FuncId:=106
abbrev zn1:FuncId:=107
abbrev zn8:FuncId:=108
abbrev zc3:FuncId:=109
abbrev zhv:FuncId:=110
abbrev zm3:FuncId:=111
abbrev zoq:FuncId:=112
abbrev zeb:FuncId:=113
abbrev zq3:FuncId:=114
abbrev zc2:FuncId:=115
abbrev zj9:FuncId:=122
abbrev zjw:FuncId:=123
abbrev ztc:FuncId:=128
abbrev zyu:FuncId:=129
abbrev zm9:FuncId:=130
abbrev ztq:FuncId:=131
abbrev zxe:FuncId:=132
abbrev zej:FuncId:=133
abbrev zoc:FuncId:=134
abbrev zq6:FuncId:=135
abbrev zax:FuncId:=136
abbrev zu9:FuncId:=137
abbrev zuo:FuncId:=138
abbrev zqd:FuncId:=139
abbrev znq:FuncId:=140
abbrev zb9:FuncId:=141
abbrev zgv:FuncId:=142
abbrev zlt:FuncId:=143
abbrev zi0:FuncId:=144
abbrev zje:FuncId:=145
abbrev zxt:FuncId:=146
abbrev zb8:FuncId:=147
abbrev zmn:FuncId:=151
abbrev zh3:FuncId:=156
abbrev zlx:FuncId:=157
abbrev zol:FuncId:=158
abbrev zb7:FuncId:=159
abbrev zaw:FuncId:=162
abbrev ze0:FuncId:=163
abbrev zgl:FuncId:=164
abbrev zbp:FuncId:=165
abbrev ze6:FuncId:=166
abbrev zcr:FuncId:=167
abbrev zeq:FuncId:=168
abbrev zjc:FuncId:=169
abbrev zha:FuncId:=170
abbrev zk7:FuncId:=171
abbrev zvu:FuncId:=172
abbrev zn9:FuncId:=175
abbrev zfv:FuncId:=176
abbrev zkh:FuncId:=177
abbrev zkp:FuncId:=178
abbrev zhy:FuncId:=179
abbrev zpr:FuncId:=180
abbrev zcx:FuncId:=181
abbrev zhb:FuncId:=184
abbrev zcz:FuncId:=187
abbrev zhx:FuncId:=188
abbrev zqq:FuncId:=189
abbrev zgn:FuncId:=200
abbrev zcv:FuncId:=201
abbrev zgg:FuncId:=202
abbrev vg:FuncId:=203
abbrev zod:FuncId:=204
abbrev zc9:FuncId:=205
abbrev zhr:FuncId:=206
abbrev zqh:FuncId:=207
abbrev zef:FuncId:=216
abbrev ziz:FuncId:=222
abbrev zf8:FuncId:=223
abbrev zsj:FuncId:=224
abbrev zds:FuncId:=228
abbrev zb4:FuncId:=231
abbrev zfg:FuncId:=232
abbrev zni:FuncId:=233
abbrev zgq:FuncId:=234
abbrev zd9:FuncId:=235
abbrev zep:TypeId:=0
abbrev zco:TypeId:=3
abbrev qy:TypeId:=5
abbrev jy:TypeId:=9
abbrev zzd:TypeId:=22
abbrev zka:TypeId:=25
abbrev zf:TypeId:=30
abbrev zfq:TypeId:=31
abbrev ji:TypeId:=37
abbrev zib:TypeId:=39
abbrev zbh:TypeId:=44
abbrev zi:TypeId:=45
abbrev zmz:TypeId:=54
abbrev zgd:TypeId:=56
abbrev z2p:TypeId:=57
abbrev qj:TypeId:=59
abbrev zca:TypeId:=63
abbrev jg:TypeId:=84
abbrev zy:TypeId:=88
abbrev zaa:TypeId:=102
abbrev zil:TypeId:=104
abbrev za5:TypeId:=105
abbrev zab:TypeId:=108
abbrev jl:TypeId:=111
abbrev zdc:TypeId:=112
abbrev zh:TypeId:=114
abbrev zai:TypeId:=115
abbrev qm:TypeId:=117
abbrev zi7:TypeId:=129
abbrev zan:TypeId:=135
abbrev jw:TypeId:=136
abbrev ze5:TypeId:=138
abbrev zo:TypeId:=141
abbrev zac:TypeId:=142
abbrev jf:TypeId:=147
abbrev zd8:TypeId:=162
abbrev ztf:TypeId:=163
abbrev vw:TypeId:=164
abbrev zat:TypeId:=165
abbrev zbd:TypeId:=168
abbrev zdw:TypeId:=169
abbrev zcn:TypeId:=187
abbrev zy3:TypeId:=207
abbrev zyl:TypeId:=210
abbrev zto:TypeId:=227
abbrev zfk:TypeId:=247
abbrev zaj:TypeId:=249
abbrev zik:TypeId:=258
abbrev zy0:TypeId:=264
abbrev za6:TypeId:=266
abbrev zo9:TypeId:=267
abbrev zo3:TypeId:=269
abbrev zwn:TypeId:=286
abbrev zlq:TypeId:=303
def zso:Ann:=(.seq .leaf (.seq .leaf .leaf))
theorem qen:okC P qs Tryz.f93.ntmps ((Tryz.f93.body).getD .skip) zso=true:=by kernel_rfl
def zxv (x:Int) (n:Int) (R:Ending->World->Prop) (w:World):Prop:=
  z9z .u32 x n fun t7=>
  zqa .u64 32 n fun t10=>
  qj7 .u32 x t10 fun t11=>
  orI .u32 t7 t11 fun t12=>
  R (.returned (Value.int .u32 t12)) w
theorem qes (x:Int) (n:Int) (R:Ending->World->Prop) (w:World):tr P qs ((Tryz.f93.body).getD .skip) zso (zch 0 [(0,(Value.int .u32 x)),(0,(Value.int .u64 n))]) (zck P Tryz.f93.results.toList R) w=zxv x n R w:=by kernel_rfl
theorem qd7 {x:Int}{n:Int}{R:Ending->World->Prop}{w:World}(hT:zxv x n R w):qg P zek #[(Value.int .u32 x),(Value.int .u64 n)] w R:=
 zx (fn:=Tryz.f93) (c:=(Tryz.f93.body).getD .skip) (ann:=zso) (args:=[(0,(Value.int .u32 x)),(0,(Value.int .u64 n))]) (qs:=qs) mixed Tryz.func93 rfl (by kernel_rfl) (by kernel_rfl) qen ((qes x n R w).symm▸hT)
def zea:Ann:=(.seq .leaf (.seq .leaf (.seq .leaf .leaf)))
theorem zoi:okC P qs Tryz.f203.ntmps ((Tryz.f203.body).getD .skip) zea=true:=by kernel_rfl
def ze9 (x:Int) (k:Int) (R:Ending->World->Prop) (w:World):Prop:=
  cvI .u64 k fun t7=>
  qel .u64 t7 31 fun t8=>
  qj7 .u32 x t8 fun t11=>
  zqa .u64 32 t8 fun t14=>
  z9z .u32 x t14 fun t15=>
  orI .u32 t11 t15 fun t16=>
  R (.returned (Value.int .u32 t16)) w
theorem zn0 (x:Int) (k:Int) (R:Ending->World->Prop) (w:World):tr P qs ((Tryz.f203.body).getD .skip) zea (zch 0 [(0,(Value.int .u32 x)),(0,(Value.int .i64 k))]) (zck P Tryz.f203.results.toList R) w=ze9 x k R w:=by kernel_rfl
theorem znz {x:Int}{k:Int}{R:Ending->World->Prop}{w:World}(hT:ze9 x k R w):qg P vg #[(Value.int .u32 x),(Value.int .i64 k)] w R:=
 zx (fn:=Tryz.f203) (c:=(Tryz.f203.body).getD .skip) (ann:=zea) (args:=[(0,(Value.int .u32 x)),(0,(Value.int .i64 k))]) (qs:=qs) mixed Tryz.func203 rfl (by kernel_rfl) (by kernel_rfl) zoi ((zn0 x k R w).symm▸hT)
def zp4:Ann:=(.seq .leaf (.seq .leaf .leaf))
theorem z94:okC P qs Tryz.f172.ntmps ((Tryz.f172.body).getD .skip) zp4=true:=by kernel_rfl
def zvm (c:Int) (R:Ending->World->Prop) (w:World):Prop:=
  xq (decide (c>=97)) (
  xq (decide (c<=122)) (
  R (.returned (Value.bool true)) w) (
  xq (decide (c>=65)) (
  xq (decide (c<=90)) (
  R (.returned (Value.bool true)) w) (
  xq (decide (c>=48)) (
  xq (decide (c<=57)) (
  R (.returned (Value.bool true)) w) (
  xq (c==46) (
  R (.returned (Value.bool true)) w) (
  xq (c==95) (
  R (.returned (Value.bool true)) w) (
  R (.returned (Value.bool (c==45))) w)))) (
  xq (c==46) (
  R (.returned (Value.bool true)) w) (
  xq (c==95) (
  R (.returned (Value.bool true)) w) (
  R (.returned (Value.bool (c==45))) w))))) (
  xq (decide (c>=48)) (
  xq (decide (c<=57)) (
  R (.returned (Value.bool true)) w) (
  xq (c==46) (
  R (.returned (Value.bool true)) w) (
  xq (c==95) (
  R (.returned (Value.bool true)) w) (
  R (.returned (Value.bool (c==45))) w)))) (
  xq (c==46) (
  R (.returned (Value.bool true)) w) (
  xq (c==95) (
  R (.returned (Value.bool true)) w) (
  R (.returned (Value.bool (c==45))) w)))))) (
  xq (decide (c>=65)) (
  xq (decide (c<=90)) (
  R (.returned (Value.bool true)) w) (
  xq (decide (c>=48)) (
  xq (decide (c<=57)) (
  R (.returned (Value.bool true)) w) (
  xq (c==46) (
  R (.returned (Value.bool true)) w) (
  xq (c==95) (
  R (.returned (Value.bool true)) w) (
  R (.returned (Value.bool (c==45))) w)))) (
  xq (c==46) (
  R (.returned (Value.bool true)) w) (
  xq (c==95) (
  R (.returned (Value.bool true)) w) (
  R (.returned (Value.bool (c==45))) w))))) (
  xq (decide (c>=48)) (
  xq (decide (c<=57)) (
  R (.returned (Value.bool true)) w) (
  xq (c==46) (
  R (.returned (Value.bool true)) w) (
  xq (c==95) (
  R (.returned (Value.bool true)) w) (
  R (.returned (Value.bool (c==45))) w)))) (
  xq (c==46) (
  R (.returned (Value.bool true)) w) (
  xq (c==95) (
  R (.returned (Value.bool true)) w) (
  R (.returned (Value.bool (c==45))) w)))))
theorem qa5 (c:Int) (R:Ending->World->Prop) (w:World):tr P qs ((Tryz.f172.body).getD .skip) zp4 (zch 0 [(0,(Value.int .u8 c))]) (zck P Tryz.f172.results.toList R) w=zvm c R w:=by kernel_rfl
theorem qay {c:Int}{R:Ending->World->Prop}{w:World}(hT:zvm c R w):qg P zvu #[(Value.int .u8 c)] w R:=
 zx (fn:=Tryz.f172) (c:=(Tryz.f172.body).getD .skip) (ann:=zp4) (args:=[(0,(Value.int .u8 c))]) (qs:=qs) mixed Tryz.func172 rfl (by kernel_rfl) (by kernel_rfl) z94 ((qa5 c R w).symm▸hT)
def zmr:Ann:=(.seq .leaf (.join [] (.jblk [] (.join [] (.jblk [] (.jblk [] (.jblk [] (.join [] (.join [] (.seq .leaf (.cond .leaf .leaf)) (.join [] (.seq .leaf (.cond .leaf .leaf)) (.seq .leaf (.cond .leaf .leaf)))) .leaf)))) (.seq (.seq .leaf .leaf) .leaf))) (.seq .leaf .leaf)))
theorem z4n:okC P qs Tryz.f157.ntmps ((Tryz.f157.body).getD .skip) zmr=true:=by kernel_rfl
def zq2 (c:Int) (R:Ending->World->Prop) (w:World):Prop:=
  ku Unit (fun k=>
  ku Unit (fun k_1=>
  ku Unit (fun k_2=>
  ku Unit (fun k_3=>
  ku Unit (fun k_4=>
  ku Unit (fun k_5=>
  ku Unit (fun k_6=>
  ku Unit (fun k_7=>
  xq (c==46) (
  k_5 () w) (
  xq (c==95) (
  k_5 () w) (
  xq (c==45) (
  k_5 () w) (
  k_7 () w)))) (fun _ w_1=>
  ku Unit (fun k_8=>
  xq (decide (c>=48)) (
  xq (decide (c<=57)) (
  k_4 () w_1) (
  k_8 () w_1)) (
  k_8 () w_1)) (fun _ w_2=>
  xq (decide (c>=97)) (
  xq (decide (c<=122)) (
  k_3 () w_2) (
  k_6 () w_2)) (
  k_6 () w_2)))) (fun _ w_3=>
  k_1 () w_3)) (fun _ w_4=>
  k_4 () w_4)) (fun _ w_5=>
  k_3 () w_5)) (fun _ w_6=>
  k_2 () w_6)) (fun _ w_7=>
  R (.returned (Value.bool true)) w_7)) (fun _ w_8=>
  k () w_8)) (fun _ w_9=>
  xq (decide (c>=65)) (
  R (.returned (Value.bool (decide (c<=90)))) w_9) (
  R (.returned (Value.bool false)) w_9))
theorem z5v (c:Int) (R:Ending->World->Prop) (w:World):tr P qs ((Tryz.f157.body).getD .skip) zmr (zch 0 [(0,(Value.int .u8 c))]) (zck P Tryz.f157.results.toList R) w=zq2 c R w:=by kernel_rfl
theorem z5w {c:Int}{R:Ending->World->Prop}{w:World}(hT:zq2 c R w):qg P zlx #[(Value.int .u8 c)] w R:=
 zx (fn:=Tryz.f157) (c:=(Tryz.f157.body).getD .skip) (ann:=zmr) (args:=[(0,(Value.int .u8 c))]) (qs:=qs) mixed Tryz.func157 rfl (by kernel_rfl) (by kernel_rfl) z4n ((z5v c R w).symm▸hT)
def zhd:Ann:=(.seq .leaf (.seq .leaf .leaf))
theorem zul:okC P qs Tryz.f200.ntmps ((Tryz.f200.body).getD .skip) zhd=true:=by kernel_rfl
def zi1 (x:ByteArray) (R:Ending->World->Prop) (w:World):Prop:=
  R (.returned (Value.bool (!(x.toList==x.toList)))) w
theorem zvn (x:ByteArray) (R:Ending->World->Prop) (w:World):tr P qs ((Tryz.f200.body).getD .skip) zhd (zch 0 [(0,(Value.string x))]) (zck P Tryz.f200.results.toList R) w=zi1 x R w:=by kernel_rfl
theorem zuv {x:ByteArray}{R:Ending->World->Prop}{w:World}(hT:zi1 x R w):qg P zgn #[(Value.string x)] w R:=
 zx (fn:=Tryz.f200) (c:=(Tryz.f200.body).getD .skip) (ann:=zhd) (args:=[(0,(Value.string x))]) (qs:=qs) mixed Tryz.func200 rfl (by kernel_rfl) (by kernel_rfl) zul ((zvn x R w).symm▸hT)
def zgx:Ann:=(.seq .leaf (.seq .leaf .leaf))
theorem zt0:okC P qs Tryz.f156.ntmps ((Tryz.f156.body).getD .skip) zgx=true:=by kernel_rfl
def zh4 (s:ByteArray) (prefixv:ByteArray) (R:Ending->World->Prop) (w:World):Prop:=
  zjj P zcz #[(Value.string s),(Value.string prefixv)] [.bool] false w fun (t7:Bool)=>
  R (.returned (Value.bool t7)) w
theorem ztt (s:ByteArray) (prefixv:ByteArray) (R:Ending->World->Prop) (w:World):tr P qs ((Tryz.f156.body).getD .skip) zgx (zch 0 [(0,(Value.string s)),(0,(Value.string prefixv))]) (zck P Tryz.f156.results.toList R) w=zh4 s prefixv R w:=by kernel_rfl
theorem ztu {s:ByteArray}{prefixv:ByteArray}{R:Ending->World->Prop}{w:World}(hT:zh4 s prefixv R w):qg P zh3 #[(Value.string s),(Value.string prefixv)] w R:=
 zx (fn:=Tryz.f156) (c:=(Tryz.f156.body).getD .skip) (ann:=zgx) (args:=[(0,(Value.string s)),(0,(Value.string prefixv))]) (qs:=qs) mixed Tryz.func156 rfl (by kernel_rfl) (by kernel_rfl) zt0 ((ztt s prefixv R w).symm▸hT)
def zcs:Ann:=(.seq .leaf (.seq .leaf .leaf))
theorem zjl:okC P qs Tryz.f187.ntmps ((Tryz.f187.body).getD .skip) zcs=true:=by kernel_rfl
def zc0 (s:ByteArray) (prefixv:ByteArray) (R:Ending->World->Prop) (w:World):Prop:=
  xq (decide ((s.size:Int)>=(prefixv.size:Int))) (
  zbc P (Instr.sliceAt jy (Value.string s) none (some (Value.int .i64 (prefixv.size:Int))) none) .str w fun (t14:ByteArray)=>
  R (.returned (Value.bool (t14.toList==prefixv.toList))) w) (
  R (.returned (Value.bool false)) w)
theorem ziy (s:ByteArray) (prefixv:ByteArray) (R:Ending->World->Prop) (w:World):tr P qs ((Tryz.f187.body).getD .skip) zcs (zch 0 [(0,(Value.string s)),(0,(Value.string prefixv))]) (zck P Tryz.f187.results.toList R) w=zc0 s prefixv R w:=by kernel_rfl
theorem zis {s:ByteArray}{prefixv:ByteArray}{R:Ending->World->Prop}{w:World}(hT:zc0 s prefixv R w):qg P zcz #[(Value.string s),(Value.string prefixv)] w R:=
 zx (fn:=Tryz.f187) (c:=(Tryz.f187.body).getD .skip) (ann:=zcs) (args:=[(0,(Value.string s)),(0,(Value.string prefixv))]) (qs:=qs) mixed Tryz.func187 rfl (by kernel_rfl) (by kernel_rfl) zjl ((ziy s prefixv R w).symm▸hT)
def zuz:Ann:=(.seq .leaf (.seq .leaf (.seq .leaf (.seq (.blk (.loop [(3,.slc)] (.seq (.seq .leaf (.cond .leaf .leaf)) (.blk .leaf)))) (.seq .leaf (.seq (.seq .leaf (.blk (.loop [(3,.slc),(5,.int .i64)] (.seq (.seq .leaf (.cond .leaf .leaf)) (.seq (.blk .leaf) .leaf))))) (.seq .leaf (.seq .leaf (.seq (.seq .leaf (.blk (.loop [(8,.int .i64)] (.seq (.seq .leaf (.cond .leaf .leaf)) (.seq (.blk (.seq (.seq .leaf (.blk (.loop [(9,.int .i64)] (.seq (.seq .leaf (.cond .leaf .leaf)) (.join [] (.jblk [] (.seq (.seq .leaf (.cond (.seq .leaf (.seq (.seq .leaf (.blk (.loop [(10,.int .i64)] (.seq (.seq .leaf (.cond .leaf .leaf)) (.seq (.blk (.tree (.op 0 [] (.op 1 [] (.op 2 [] (.op 5 [] (.op 6 [] (.op 7 [] (.op 8 [] (.op 9 [] (.op 10 [] (.op 11 [] (.op 12 [] (.op 3 [] (.op 4 [] (.op 13 [] (.op 14 [] (.op 15 [] (.op 16 [] (.op 17 [] .done)))))))))))))))))))) .leaf))))) .leaf)) .leaf)) (.seq .leaf (.seq .leaf (.tree (.op 0 [] (.op 1 [] (.op 3 [] (.op 6 [] (.op 7 [] (.op 9 [] (.op 10 [] (.op 11 [] (.op 14 [] (.op 16 [] (.op 19 [] (.op 20 [] (.op 23 [] (.op 24 [] (.op 25 [] (.op 2 [] (.op 4 [] (.op 5 [] (.op 8 [] (.op 12 [] (.op 13 [] (.op 15 [] (.op 17 [] (.op 18 [] (.op 21 [] (.op 22 [] (.op 26 [] (.op 27 [] (.op 28 [] (.op 29 [] .done))))))))))))))))))))))))))))))))))) .leaf))))) (.seq .leaf (.seq (.seq .leaf (.blk (.loop [(14,.int .i64)] (.seq (.seq .leaf (.cond .leaf .leaf)) (.seq (.blk (.seq .leaf (.seq .leaf (.seq (.tree (.op 0 [] (.op 2 [] (.op 4 [] (.op 7 [] (.op 11 [] (.op 12 [] (.op 15 [] (.op 16 [] (.op 17 [] (.op 22 [] (.op 25 [] (.op 26 [] (.op 1 [] (.op 3 [] (.op 5 [] (.op 6 [] (.op 8 [] (.op 9 [] (.op 10 [] (.op 13 [] (.op 14 [] (.op 18 [] (.op 19 [] (.op 20 [] (.op 21 [] (.op 27 [] (.op 23 [1,13,18,27] (.op 24 [] (.op 28 [] (.op 29 [] .done))))))))))))))))))))))))))))))) (.seq (.tree (.op 0 [] (.op 2 [] (.op 5 [] (.op 8 [] (.op 9 [] (.op 12 [] (.op 13 [] (.op 17 [] (.op 19 [] (.op 1 [] (.op 3 [] (.op 4 [] (.op 6 [] (.op 7 [] (.op 10 [] (.op 11 [] (.op 14 [] (.op 15 [] (.op 16 [] (.op 18 [] (.op 20 [] (.op 21 [] (.op 22 [] (.op 23 [] (.op 24 [] .done)))))))))))))))))))))))))) (.seq (.seq .leaf (.blk (.loop [(19,.int .i64)] (.seq (.seq .leaf (.cond .leaf .leaf)) (.seq (.blk .leaf) .leaf))))) (.seq .leaf .leaf))))))) .leaf))))) (.seq .leaf (.blk (.loop [(20,.int .i64)] (.seq (.seq .leaf (.cond .leaf .leaf)) (.seq (.blk (.tree (.op 0 [] (.op 1 [] (.op 2 [] (.op 4 [] (.op 5 [] (.op 3 [] (.op 6 [] (.op 7 [] (.op 8 [] (.op 9 [] .done)))))))))))) .leaf))))))))) .leaf))))) (.seq .leaf (.seq (.seq .leaf (.blk (.loop [(22,.int .i64)] (.seq (.seq .leaf (.cond .leaf .leaf)) (.seq (.blk .leaf) .leaf))))) (.seq .leaf .leaf))))))))))))
theorem qg8:okC P qs Tryz.f40.ntmps ((Tryz.f40.body).getD .skip) zuz=true:=by kernel_rfl
def z3a (b:Option Addr) (b_l b_c:Nat) (R:Ending->World->Prop) (w:World):Prop:=
  zby (zc P zf) zf w fun b2 w_1=>
  za1 P (Instr.buildSlice zi 0 #[]) .slc w_1 fun (t23:(Option Addr×Nat×Nat)) w_2=>
  za1 P (Builtin.append_ #[zi,zi] zi #[(Value.slice t23.1 t23.2.1 t23.2.2),(Value.slice b b_l b_c)]) .slc w_2 fun (t25:(Option Addr×Nat×Nat)) w_3=>
  za1 P (Instr.buildSlice zi 1 #[(0,(Value.int .u8 128))]) .slc w_3 fun (t27:(Option Addr×Nat×Nat)) w_4=>
  za1 P (Builtin.append_ #[zi,zi] zi #[(Value.slice t25.1 t25.2.1 t25.2.2),(Value.slice t27.1 t27.2.1 t27.2.2)]) .slc w_4 fun (t28:(Option Addr×Nat×Nat)) w_5=>
  za7 (Option Addr×Nat×Nat) (fun s w_6 k=>
  qlr (s.2.1:Int) 64 fun t31=>
  xq (t31 != 56) (
  za1 P (Instr.buildSlice zi 1 #[(0,(Value.int .u8 0))]) .slc w_6 fun (t34:(Option Addr×Nat×Nat)) w_7=>
  za1 P (Builtin.append_ #[zi,zi] zi #[(Value.slice s.1 s.2.1 s.2.2),(Value.slice t34.1 t34.2.1 t34.2.2)]) .slc w_7 fun (t35:(Option Addr×Nat×Nat)) w_8=>
  k (t35.1,t35.2.1,t35.2.2) w_8) (
  cvI .u64 (b_l:Int) fun t38=>
  z3y .u64 t38 8 fun t39=>
  za7 ((Option Addr×Nat×Nat)×Int) (fun s_1 w_9 k_1=>
  xq (decide (s_1.2 < 8)) (
  z3y .i64 8 s_1.2 fun t47=>
  zqa .i64 56 t47 fun t48=>
  cvI .u64 t48 fun t49=>
  z9z .u64 t39 t49 fun t50=>
  cvI .u8 t50 fun t51=>
  za1 P (Instr.buildSlice zi 1 #[(0,(Value.int .u8 t51))]) .slc w_9 fun (t52:(Option Addr×Nat×Nat)) w_10=>
  za1 P (Builtin.append_ #[zi,zi] zi #[(Value.slice s_1.1.1 s_1.1.2.1 s_1.1.2.2),(Value.slice t52.1 t52.2.1 t52.2.2)]) .slc w_10 fun (t53:(Option Addr×Nat×Nat)) w_11=>
  zb6 .i64 s_1.2 1 fun t43=>
  k_1 ((t53.1,t53.2.1,t53.2.2),t43) w_11) (
  zbc P (Instr.build vw #[(0,(Value.int .u32 1779033703)),(1,(Value.int .u32 3144134277)),(2,(Value.int .u32 1013904242)),(3,(Value.int .u32 2773480762)),(4,(Value.int .u32 1359893119)),(5,(Value.int .u32 2600822924)),(6,(Value.int .u32 528734635)),(7,(Value.int .u32 1541459225))]) .any w_9 fun (t54:Value)=>
  zby (zc P vw) vw w_9 fun b6 w_12=>
  zcj P (storeVar vw (⟨b6,0,none⟩:Addr) t54) w_12 fun w_13=>
  zby (zc P zat) zat w_13 fun b7 w_14=>
  za7 Int (fun s_2 w_15 k_2=>
  xq (decide (s_2 < (s_1.1.2.1:Int))) (
  za7 Int (fun s_3 w_16 k_3=>
  xq (decide (s_3 < 64)) (
  ku Unit (fun k_4=>
  ku Unit (fun k_5=>
  xq (decide (s_3 < 16)) (
  ixR (⟨b7,0,none⟩:Addr) 64 1 s_3 fun t68=>
  stC t68 (Value.int .u32 0) w_16 fun w_17=>
  za7 Int (fun s_4 w_18 k_6=>
  xq (decide (s_4 < 4)) (
  zbs w_18 fun w_19=>
  ixR (⟨b7,0,none⟩:Addr) 64 1 s_3 fun t75=>
  z3y .i64 4 s_3 fun t81=>
  zb6 .i64 s_2 t81 fun t82=>
  zb6 .i64 t82 s_4 fun t84=>
  ixS s_1.1.1 s_1.1.2.1 1 t84 fun t85=>
  ld (.int .u32) t75 w_19 fun (t76:Int)=>
  qj7 .u32 t76 8 fun t77=>
  ld (.int .u8) t85 w_19 fun (t86:Int)=>
  cvI .u32 t86 fun t87=>
  orI .u32 t77 t87 fun t88=>
  ixR (⟨b7,0,none⟩:Addr) 64 1 s_3 fun t89=>
  stC t89 (Value.int .u32 t88) w_19 fun w_20=>
  zb6 .i64 s_4 1 fun t72=>
  k_6 t72 w_20) (
  k_5 () w_18)) 0 w_17) (
  zqa .i64 s_3 2 fun t91=>
  ixR (⟨b7,0,none⟩:Addr) 64 1 t91 fun t92=>
  ld (.int .u32) t92 w_16 fun (t93:Int)=>
  zqa .i64 s_3 15 fun t95=>
  ixR (⟨b7,0,none⟩:Addr) 64 1 t95 fun t96=>
  ld (.int .u32) t96 w_16 fun (t97:Int)=>
  zbs w_16 fun w_21=>
  z9z .u32 t93 10 fun t105=>
  zqa .i64 s_3 7 fun t108=>
  ixR (⟨b7,0,none⟩:Addr) 64 1 t108 fun t109=>
  z9z .u32 t97 3 fun t118=>
  zqa .i64 s_3 16 fun t122=>
  ixR (⟨b7,0,none⟩:Addr) 64 1 t122 fun t123=>
  zjj P zek #[(Value.int .u32 t93),(Value.int .u64 17)] [.int .u32] false w_21 fun (t100:Int)=>
  zjj P zek #[(Value.int .u32 t93),(Value.int .u64 19)] [.int .u32] false w_21 fun (t102:Int)=>
  zt2 .u32 t100 t102 fun t103=>
  zt2 .u32 t103 t105 fun t106=>
  ld (.int .u32) t109 w_21 fun (t110:Int)=>
  zb6 .u32 t106 t110 fun t111=>
  zjj P zek #[(Value.int .u32 t97),(Value.int .u64 7)] [.int .u32] false w_21 fun (t113:Int)=>
  zjj P zek #[(Value.int .u32 t97),(Value.int .u64 18)] [.int .u32] false w_21 fun (t115:Int)=>
  zt2 .u32 t113 t115 fun t116=>
  zt2 .u32 t116 t118 fun t119=>
  zb6 .u32 t111 t119 fun t120=>
  ld (.int .u32) t123 w_21 fun (t124:Int)=>
  zb6 .u32 t120 t124 fun t125=>
  ixR (⟨b7,0,none⟩:Addr) 64 1 s_3 fun t126=>
  stC t126 (Value.int .u32 t125) w_21 fun w_22=>
  k_5 () w_22)) (fun _ w_23=>
  k_4 () w_23)) (fun _ w_24=>
  zb6 .i64 s_3 1 fun t64=>
  k_3 t64 w_24)) (
  ldA P 8 (⟨b6,0,none⟩:Addr) w_16 fun t127=>
  zby (zc P vw) vw w_16 fun b13 w_25=>
  zcj P (storeVar vw (⟨b13,0,none⟩:Addr) (Value.agg t127)) w_25 fun w_26=>
  za7 Int (fun s_7 w_27 k_7=>
  xq (decide (s_7 < 64)) (
  ld (.int .u32) (⟨b13,4,none⟩:Addr) w_27 fun (t133:Int)=>
  ld (.int .u32) (⟨b13,0,none⟩:Addr) w_27 fun (t135:Int)=>
  zbs w_27 fun w_28=>
  zt2 .u32 4294967295 t133 fun t152=>
  ixR (⟨b7,0,none⟩:Addr) 64 1 s_7 fun t162=>
  ld (.int .u32) (⟨b13,7,none⟩:Addr) w_28 fun (t137:Int)=>
  zjj P zek #[(Value.int .u32 t133),(Value.int .u64 6)] [.int .u32] false w_28 fun (t139:Int)=>
  zjj P zek #[(Value.int .u32 t133),(Value.int .u64 11)] [.int .u32] false w_28 fun (t141:Int)=>
  zt2 .u32 t139 t141 fun t142=>
  zjj P zek #[(Value.int .u32 t133),(Value.int .u64 25)] [.int .u32] false w_28 fun (t144:Int)=>
  zt2 .u32 t142 t144 fun t145=>
  zb6 .u32 t137 t145 fun t146=>
  ld (.int .u32) (⟨b13,5,none⟩:Addr) w_28 fun (t149:Int)=>
  qel .u32 t133 t149 fun t150=>
  ld (.int .u32) (⟨b13,6,none⟩:Addr) w_28 fun (t154:Int)=>
  qel .u32 t152 t154 fun t155=>
  zt2 .u32 t150 t155 fun t156=>
  zb6 .u32 t146 t156 fun t157=>
  ld (.int .u32) t162 w_28 fun (t163:Int)=>
  xg P znv #[(Value.int .i64 s_7)] [.int .u32] false w_28 fun (t159:Int) w_29=>
  ((ld (.int .u32) t162 w_29 fun (t163_1:Int)=>
  (Value.int .u32 t163_1)=(Value.int .u32 t163)) /\
  ((ld (.int .u32) (⟨b13,6,none⟩:Addr) w_29 fun (t154_1:Int)=>
  (Value.int .u32 t154_1)=(Value.int .u32 t154)) /\
  ((ld (.int .u32) (⟨b13,5,none⟩:Addr) w_29 fun (t149_1:Int)=>
  (Value.int .u32 t149_1)=(Value.int .u32 t149)) /\
  ((ld (.int .u32) (⟨b13,7,none⟩:Addr) w_29 fun (t137_1:Int)=>
  (Value.int .u32 t137_1)=(Value.int .u32 t137)) /\
  zb6 .u32 t157 t159 fun t160=>
  zb6 .u32 t160 t163 fun t164=>
  zbs w_29 fun w_30=>
  zjj P zek #[(Value.int .u32 t135),(Value.int .u64 2)] [.int .u32] false w_30 fun (t166:Int)=>
  zjj P zek #[(Value.int .u32 t135),(Value.int .u64 13)] [.int .u32] false w_30 fun (t168:Int)=>
  zt2 .u32 t166 t168 fun t169=>
  zjj P zek #[(Value.int .u32 t135),(Value.int .u64 22)] [.int .u32] false w_30 fun (t171:Int)=>
  zt2 .u32 t169 t171 fun t172=>
  ld (.int .u32) (⟨b13,1,none⟩:Addr) w_30 fun (t175:Int)=>
  qel .u32 t135 t175 fun t176=>
  ld (.int .u32) (⟨b13,2,none⟩:Addr) w_30 fun (t179:Int)=>
  qel .u32 t135 t179 fun t180=>
  zt2 .u32 t176 t180 fun t181=>
  ld (.int .u32) (⟨b13,1,none⟩:Addr) w_30 fun (t183:Int)=>
  ld (.int .u32) (⟨b13,2,none⟩:Addr) w_30 fun (t185:Int)=>
  qel .u32 t183 t185 fun t186=>
  zt2 .u32 t181 t186 fun t187=>
  zb6 .u32 t172 t187 fun t188=>
  za7 Int (fun s_8 w_31 k_8=>
  xq (decide (s_8 > 0)) (
  zqa .i64 s_8 1 fun t195=>
  ixR (⟨b13,0,none⟩:Addr) 8 1 t195 fun t196=>
  ld (.int .u32) t196 w_31 fun (t197:Int)=>
  ixR (⟨b13,0,none⟩:Addr) 8 1 s_8 fun t198=>
  stC t198 (Value.int .u32 t197) w_31 fun w_32=>
  zqa .i64 s_8 1 fun t192=>
  k_8 t192 w_32) (
  ld (.int .u32) (⟨b13,4,none⟩:Addr) w_31 fun (t200:Int)=>
  zb6 .u32 t200 t164 fun t202=>
  stC (⟨b13,4,none⟩:Addr) (Value.int .u32 t202) w_31 fun w_33=>
  zb6 .u32 t164 t188 fun t206=>
  stC (⟨b13,0,none⟩:Addr) (Value.int .u32 t206) w_33 fun w_34=>
  zb6 .i64 s_7 1 fun t131=>
  k_7 t131 w_34)) 7 w_30))))) (
  za7 Int (fun s_9 w_35 k_9=>
  xq (decide (s_9 < 8)) (
  zbs w_35 fun w_36=>
  ixR (⟨b6,0,none⟩:Addr) 8 1 s_9 fun t214=>
  ixR (⟨b13,0,none⟩:Addr) 8 1 s_9 fun t217=>
  ld (.int .u32) t214 w_36 fun (t215:Int)=>
  ld (.int .u32) t217 w_36 fun (t218:Int)=>
  zb6 .u32 t215 t218 fun t219=>
  ixR (⟨b6,0,none⟩:Addr) 8 1 s_9 fun t220=>
  stC t220 (Value.int .u32 t219) w_36 fun w_37=>
  zb6 .i64 s_9 1 fun t211=>
  k_9 t211 w_37) (
  zb6 .i64 s_2 64 fun t60=>
  k_2 t60 w_35)) 0 w_27)) 0 w_26)) 0 w_15) (
  zby (zc P zf) zf w_15 fun b21 w_38=>
  za7 Int (fun s_10 w_39 k_10=>
  xq (decide (s_10 < 32)) (
  qom .i64 s_10 4 fun t227=>
  ixR (⟨b6,0,none⟩:Addr) 8 1 t227 fun t228=>
  ld (.int .u32) t228 w_39 fun (t229:Int)=>
  qlr s_10 4 fun t231=>
  z3y .i64 8 t231 fun t232=>
  zqa .i64 24 t232 fun t233=>
  cvI .u64 t233 fun t234=>
  z9z .u32 t229 t234 fun t235=>
  cvI .u8 t235 fun t236=>
  ixR (⟨b21,0,none⟩:Addr) 32 1 s_10 fun t237=>
  stC t237 (Value.int .u8 t236) w_39 fun w_40=>
  zb6 .i64 s_10 1 fun t224=>
  k_10 t224 w_40) (
  ldA P 32 (⟨b21,0,none⟩:Addr) w_39 fun t238=>
  zcj P (storeVar zf (⟨b2,0,none⟩:Addr) (Value.agg t238)) w_39 fun w_41=>
  ldA P 32 (⟨b2,0,none⟩:Addr) w_41 fun t2=>
  R (.returned (Value.agg t2)) w_41)) 0 w_38)) 0 w_14)) ((s.1,s.2.1,s.2.2),0) w_6)) (t28.1,t28.2.1,t28.2.2) w_5
theorem qhd (b:Option Addr) (b_l b_c:Nat) (R:Ending->World->Prop) (w:World):tr P qs ((Tryz.f40.body).getD .skip) zuz (zch 0 [(0,(Value.slice b b_l b_c))]) (zck P Tryz.f40.results.toList R) w=z3a b b_l b_c R w:=by kernel_rfl
theorem qhz {b:Option Addr}{b_l b_c:Nat}{R:Ending->World->Prop}{w:World}(hT:z3a b b_l b_c R w):qg P zmp #[(Value.slice b b_l b_c)] w R:=
 zx (fn:=Tryz.f40) (c:=(Tryz.f40.body).getD .skip) (ann:=zuz) (args:=[(0,(Value.slice b b_l b_c))]) (qs:=qs) mixed Tryz.func40 rfl (by kernel_rfl) (by kernel_rfl) qg8 ((qhd b b_l b_c R w).symm▸hT)
def zoz:Ann:=(.seq .leaf (.seq .leaf .leaf))
theorem z9e:okC P qs Tryz.f57.ntmps ((Tryz.f57.body).getD .skip) zoz=true:=by kernel_rfl
def zsd (names:Option Addr) (names_l names_c:Nat) (R:Ending->World->Prop) (w:World):Prop:=
  xg P zoq #[(Value.slice names names_l names_c),(Value.string (ByteArray.mk #[47]))] [.str] false w fun (t4:ByteArray) w_1=>
  qsx (ByteArray.mk #[47]) t4 fun t5=>
  R (.returned (Value.string t5)) w_1
theorem z8p (names:Option Addr) (names_l names_c:Nat) (R:Ending->World->Prop) (w:World):tr P qs ((Tryz.f57.body).getD .skip) zoz (zch 0 [(0,(Value.slice names names_l names_c))]) (zck P Tryz.f57.results.toList R) w=zsd names names_l names_c R w:=by kernel_rfl
theorem z8v {names:Option Addr}{names_l names_c:Nat}{R:Ending->World->Prop}{w:World}(hT:zsd names names_l names_c R w):qg P zij #[(Value.slice names names_l names_c)] w R:=
 zx (fn:=Tryz.f57) (c:=(Tryz.f57.body).getD .skip) (ann:=zoz) (args:=[(0,(Value.slice names names_l names_c))]) (qs:=qs) mixed Tryz.func57 rfl (by kernel_rfl) (by kernel_rfl) z9e ((z8p names names_l names_c R w).symm▸hT)
def zvf:Ann:=(.seq .leaf (.seq .leaf (.seq .leaf (.seq .leaf .leaf))))
theorem qgy:okC P qs Tryz.f78.ntmps ((Tryz.f78.body).getD .skip) zvf=true:=by kernel_rfl
def z2v (b:Option Addr) (b_l b_c:Nat) (R:Ending->World->Prop) (w:World):Prop:=
  zby (zc P zf) zf w fun b2 w_1=>
  xg P zxe #[] [.ptr] false w_1 fun (t4:(Option Addr)) w_2=>
  xg P zej #[(Value.pointer t4),(Value.slice b b_l b_c)] [] true w_2 fun (_:Unit) w_3=>
  xg P zoc #[(Value.pointer t4)] [.any] false w_3 fun (t9:Value) w_4=>
  zcj P (storeVar zf (⟨b2,0,none⟩:Addr) t9) w_4 fun w_5=>
  ldA P 32 (⟨b2,0,none⟩:Addr) w_5 fun t2=>
  R (.returned (Value.agg t2)) w_5
theorem qg3 (b:Option Addr) (b_l b_c:Nat) (R:Ending->World->Prop) (w:World):tr P qs ((Tryz.f78.body).getD .skip) zvf (zch 0 [(0,(Value.slice b b_l b_c))]) (zck P Tryz.f78.results.toList R) w=z2v b b_l b_c R w:=by kernel_rfl
theorem qg5 {b:Option Addr}{b_l b_c:Nat}{R:Ending->World->Prop}{w:World}(hT:z2v b b_l b_c R w):qg P zkk #[(Value.slice b b_l b_c)] w R:=
 zx (fn:=Tryz.f78) (c:=(Tryz.f78.body).getD .skip) (ann:=zvf) (args:=[(0,(Value.slice b b_l b_c))]) (qs:=qs) mixed Tryz.func78 rfl (by kernel_rfl) (by kernel_rfl) qgy ((qg3 b b_l b_c R w).symm▸hT)
def zky:Ann:=(.seq .leaf (.seq .leaf (.seq .leaf .leaf)))
theorem z06:okC P qs Tryz.f94.ntmps ((Tryz.f94.body).getD .skip) zky=true:=by kernel_rfl
def zox (t:Int) (R:Ending->World->Prop) (w:World):Prop:=
  zbc P (Instr.build zat #[(0,(Value.int .u32 1116352408)),(1,(Value.int .u32 1899447441)),(2,(Value.int .u32 3049323471)),(3,(Value.int .u32 3921009573)),(4,(Value.int .u32 961987163)),(5,(Value.int .u32 1508970993)),(6,(Value.int .u32 2453635748)),(7,(Value.int .u32 2870763221)),(8,(Value.int .u32 3624381080)),(9,(Value.int .u32 310598401)),(10,(Value.int .u32 607225278)),(11,(Value.int .u32 1426881987)),(12,(Value.int .u32 1925078388)),(13,(Value.int .u32 2162078206)),(14,(Value.int .u32 2614888103)),(15,(Value.int .u32 3248222580)),(16,(Value.int .u32 3835390401)),(17,(Value.int .u32 4022224774)),(18,(Value.int .u32 264347078)),(19,(Value.int .u32 604807628)),(20,(Value.int .u32 770255983)),(21,(Value.int .u32 1249150122)),(22,(Value.int .u32 1555081692)),(23,(Value.int .u32 1996064986)),(24,(Value.int .u32 2554220882)),(25,(Value.int .u32 2821834349)),(26,(Value.int .u32 2952996808)),(27,(Value.int .u32 3210313671)),(28,(Value.int .u32 3336571891)),(29,(Value.int .u32 3584528711)),(30,(Value.int .u32 113926993)),(31,(Value.int .u32 338241895)),(32,(Value.int .u32 666307205)),(33,(Value.int .u32 773529912)),(34,(Value.int .u32 1294757372)),(35,(Value.int .u32 1396182291)),(36,(Value.int .u32 1695183700)),(37,(Value.int .u32 1986661051)),(38,(Value.int .u32 2177026350)),(39,(Value.int .u32 2456956037)),(40,(Value.int .u32 2730485921)),(41,(Value.int .u32 2820302411)),(42,(Value.int .u32 3259730800)),(43,(Value.int .u32 3345764771)),(44,(Value.int .u32 3516065817)),(45,(Value.int .u32 3600352804)),(46,(Value.int .u32 4094571909)),(47,(Value.int .u32 275423344)),(48,(Value.int .u32 430227734)),(49,(Value.int .u32 506948616)),(50,(Value.int .u32 659060556)),(51,(Value.int .u32 883997877)),(52,(Value.int .u32 958139571)),(53,(Value.int .u32 1322822218)),(54,(Value.int .u32 1537002063)),(55,(Value.int .u32 1747873779)),(56,(Value.int .u32 1955562222)),(57,(Value.int .u32 2024104815)),(58,(Value.int .u32 2227730452)),(59,(Value.int .u32 2361852424)),(60,(Value.int .u32 2428436474)),(61,(Value.int .u32 2756734187)),(62,(Value.int .u32 3204031479)),(63,(Value.int .u32 3329325298))]) .any w fun (t4:Value)=>
  zby (zc P zat) zat w fun b3 w_1=>
  zcj P (storeVar zat (⟨b3,0,none⟩:Addr) t4) w_1 fun w_2=>
  ixR (⟨b3,0,none⟩:Addr) 64 1 t fun t6=>
  ld (.int .u32) t6 w_2 fun (t7:Int)=>
  R (.returned (Value.int .u32 t7)) w_2
theorem z2f (t:Int) (R:Ending->World->Prop) (w:World):tr P qs ((Tryz.f94.body).getD .skip) zky (zch 0 [(0,(Value.int .i64 t))]) (zck P Tryz.f94.results.toList R) w=zox t R w:=by kernel_rfl
theorem z1p {t:Int}{R:Ending->World->Prop}{w:World}(hT:zox t R w):qg P znv #[(Value.int .i64 t)] w R:=
 zx (fn:=Tryz.f94) (c:=(Tryz.f94.body).getD .skip) (ann:=zky) (args:=[(0,(Value.int .i64 t))]) (qs:=qs) mixed Tryz.func94 rfl (by kernel_rfl) (by kernel_rfl) z06 ((z2f t R w).symm▸hT)
def znb:Ann:=(.seq .leaf (.seq (.tree (.op 0 [] (.op 1 [] (.op 2 [] (.op 3 [] .done))))) .leaf))
theorem z4t:okC P qs Tryz.f100.ntmps ((Tryz.f100.body).getD .skip) znb=true:=by kernel_rfl
def zpq (a:Value) (b:Value) (R:Ending->World->Prop) (w:World):Prop:=
  zby (Value.cells a) zf w fun b2 w_1=>
  zby (Value.cells b) zf w_1 fun b3 w_2=>
  zbs w_2 fun w_3=>
  zbc P (Instr.sliceAt zf (Value.pointer (some (⟨b2,0,none⟩:Addr))) none none none) .slc w_3 fun (t5:(Option Addr×Nat×Nat))=>
  zbc P (Instr.sliceAt zf (Value.pointer (some (⟨b3,0,none⟩:Addr))) none none none) .slc w_3 fun (t6:(Option Addr×Nat×Nat))=>
  xg P zmn #[(Value.slice t5.1 t5.2.1 t5.2.2),(Value.slice t6.1 t6.2.1 t6.2.2)] [.int .i64] false w_3 fun (t7:Int) w_4=>
  R (.returned (Value.int .i64 t7)) w_4
theorem z5t (a:Value) (b:Value) (R:Ending->World->Prop) (w:World):tr P qs ((Tryz.f100.body).getD .skip) znb (zch 0 [(1,a),(1,b)]) (zck P Tryz.f100.results.toList R) w=zpq a b R w:=by kernel_rfl
theorem z5h {a:Value}{b:Value}{R:Ending->World->Prop}{w:World}(hT:zpq a b R w):qg P zvw #[a,b] w R:=
 zx (fn:=Tryz.f100) (c:=(Tryz.f100.body).getD .skip) (ann:=znb) (args:=[(1,a),(1,b)]) (qs:=qs) mixed Tryz.func100 rfl (by kernel_rfl) (by kernel_rfl) z4t ((z5t a b R w).symm▸hT)
def zm6:Ann2:=(.seq (.pure .leaf) (.seq (.pure (.seq .leaf (.cond (.seq .leaf .leaf) .leaf))) (.seq (.pure (.seq .leaf (.cond (.seq .leaf .leaf) .leaf))) (.seq (.pure (.seq .leaf (.blk (.loop [(15,.int .i64)] (.seq .leaf (.seq (.cond .leaf .leaf) (.join [] (.jblk [] (.seq .leaf (.seq .leaf (.cond (.seq .leaf .leaf) .leaf)))) .leaf))))))) (.seq (.pure .leaf) (.seq (.seq (.pure .leaf) (.blk (.rng [(32,.str)] true [] .leaf (.jblk [] (.jblk [] (.seq .leaf (.cond (.seq .leaf .leaf) (.seq .leaf (.cond .leaf (.seq .leaf (.cond .leaf .leaf))))))))))) (.pure (.seq (.seq .leaf (.cond (.seq .leaf .leaf) .leaf)) (.seq .leaf .leaf)))))))))
theorem z4j:qf2 P qs Tryz.f105.ntmps ((Tryz.f105.body).getD .skip) zm6=true:=by kernel_rfl
def zqn (s:ByteArray) (R:Ending->World->Prop) (w:World):Prop:=
  zby (zc P zai) zai w fun b2 w_1=>
  zby (zc P zfq) zfq w_1 fun b3 w_2=>
  xq (decide ((s.size:Int) > 256)) (
  stC (⟨b2,0,none⟩:Addr) (Value.slice none 0 0) w_2 fun w_3=>
  stC (⟨b3,0,none⟩:Addr) (Value.int .i64 2) w_3 fun w_4=>
  ld .slc (⟨b2,0,none⟩:Addr) w_4 fun (t2:(Option Addr×Nat×Nat))=>
  ld (.int .i64) (⟨b3,0,none⟩:Addr) w_4 fun (t3:Int)=>
  R (.returned (Value.tuple #[(Value.slice t2.1 t2.2.1 t2.2.2),(Value.int .i64 t3)])) w_4) (
  zjj P zh3 #[(Value.string s),(Value.string (ByteArray.mk #[47]))] [.bool] false w_2 fun (t11:Bool)=>
  xq (!t11) (
  stC (⟨b2,0,none⟩:Addr) (Value.slice none 0 0) w_2 fun w_5=>
  stC (⟨b3,0,none⟩:Addr) (Value.int .i64 40) w_5 fun w_6=>
  ld .slc (⟨b2,0,none⟩:Addr) w_6 fun (t2_1:(Option Addr×Nat×Nat))=>
  ld (.int .i64) (⟨b3,0,none⟩:Addr) w_6 fun (t3_1:Int)=>
  R (.returned (Value.tuple #[(Value.slice t2_1.1 t2_1.2.1 t2_1.2.2),(Value.int .i64 t3_1)])) w_6) (
  za7 Int (fun s_1 w_7 k=>
  xq (decide (s_1 < (s.size:Int))) (
  ku Unit (fun k_1=>
  ku Unit (fun k_2=>
  z3t s s_1 fun t20=>
  xq (t20 != 47) (
  z3t s s_1 fun t25=>
  zjj P zlx #[(Value.int .u8 t25)] [.bool] false w_7 fun (t26:Bool)=>
  xq (!t26) (
  stC (⟨b2,0,none⟩:Addr) (Value.slice none 0 0) w_7 fun w_8=>
  stC (⟨b3,0,none⟩:Addr) (Value.int .i64 40) w_8 fun w_9=>
  ld .slc (⟨b2,0,none⟩:Addr) w_9 fun (t2_2:(Option Addr×Nat×Nat))=>
  ld (.int .i64) (⟨b3,0,none⟩:Addr) w_9 fun (t3_2:Int)=>
  R (.returned (Value.tuple #[(Value.slice t2_2.1 t2_2.2.1 t2_2.2.2),(Value.int .i64 t3_2)])) w_9) (
  k_2 () w_7)) (
  k_2 () w_7)) (fun _ w_10=>
  k_1 () w_10)) (fun _ w_11=>
  zb6 .i64 s_1 1 fun t29=>
  k t29 w_11)) (
  zby (zc P zai) zai w_7 fun b5 w_12=>
  xg P zol #[(Value.string s)] [.any] false w_12 fun (t31:Value) w_13=>
  z90 P [.str] t31 w_13 (fun (x:ByteArray) w_14 beg kc kr _=>
  beg w_14 fun w_15=>
  ku Unit (fun k_3=>
  ku Unit (fun k_4=>
  xq (decide ((x.size:Int) > 16)) (
  stC (⟨b2,0,none⟩:Addr) (Value.slice none 0 0) w_15 fun w_16=>
  stC (⟨b3,0,none⟩:Addr) (Value.int .i64 41) w_16 fun w_17=>
  kr w_17) (
  xq (x.toList==(ByteArray.mk #[]).toList) (
  k_4 () w_15) (
  xq (x.toList==(ByteArray.mk #[46]).toList) (
  k_4 () w_15) (
  xq (x.toList==(ByteArray.mk #[46,46]).toList) (
  ld .slc (⟨b5,0,none⟩:Addr) w_15 fun (t51:(Option Addr×Nat×Nat))=>
  ld .slc (⟨b5,0,none⟩:Addr) w_15 fun (t52:(Option Addr×Nat×Nat))=>
  zqa .i64 (t52.2.1:Int) 1 fun t54=>
  zbc P (Builtin.max_ #[zco,zco] zco #[(Value.int .i64 t54),(Value.int .i64 0)]) (.int .i64) w_15 fun (t55:Int)=>
  zbc P (Instr.sliceAt zai (Value.slice t51.1 t51.2.1 t51.2.2) none (some (Value.int .i64 t55)) none) .slc w_15 fun (t56:(Option Addr×Nat×Nat))=>
  stC (⟨b5,0,none⟩:Addr) (Value.slice t56.1 t56.2.1 t56.2.2) w_15 fun w_18=>
  k_4 () w_18) (
  ld .slc (⟨b5,0,none⟩:Addr) w_15 fun (t33:(Option Addr×Nat×Nat))=>
  za1 P (Instr.buildSlice zai 1 #[(0,(Value.string x))]) .slc w_15 fun (t35:(Option Addr×Nat×Nat)) w_19=>
  za1 P (Builtin.append_ #[zai,zai] zai #[(Value.slice t33.1 t33.2.1 t33.2.2),(Value.slice t35.1 t35.2.1 t35.2.2)]) .slc w_19 fun (t36:(Option Addr×Nat×Nat)) w_20=>
  stC (⟨b5,0,none⟩:Addr) (Value.slice t36.1 t36.2.1 t36.2.2) w_20 fun w_21=>
  k_4 () w_21))))) (fun _ w_22=>
  k_3 () w_22)) (fun _ w_23=>
  kc w_23)) (fun D w_24=>
  ld .slc (⟨b5,0,none⟩:Addr) w_24 fun (t57:(Option Addr×Nat×Nat))=>
  xq (decide ((t57.2.1:Int) > 8)) (
  stC (⟨b2,0,none⟩:Addr) (Value.slice none 0 0) w_24 fun w_25=>
  stC (⟨b3,0,none⟩:Addr) (Value.int .i64 42) w_25 fun w_26=>
  (w_26.heap[D]?=some (.deferred (some []))/\∀ w_27,w_27=World.putObj w_26 D (.deferred none) ->
  ld .slc (⟨b2,0,none⟩:Addr) w_27 fun (t2_3:(Option Addr×Nat×Nat))=>
  ld (.int .i64) (⟨b3,0,none⟩:Addr) w_27 fun (t3_3:Int)=>
  R (.returned (Value.tuple #[(Value.slice t2_3.1 t2_3.2.1 t2_3.2.2),(Value.int .i64 t3_3)])) w_27)) (
  ld .slc (⟨b5,0,none⟩:Addr) w_24 fun (t60:(Option Addr×Nat×Nat))=>
  stC (⟨b2,0,none⟩:Addr) (Value.slice t60.1 t60.2.1 t60.2.2) w_24 fun w_28=>
  stC (⟨b3,0,none⟩:Addr) (Value.int .i64 0) w_28 fun w_29=>
  (w_29.heap[D]?=some (.deferred (some []))/\∀ w_30,w_30=World.putObj w_29 D (.deferred none) ->
  ld .slc (⟨b2,0,none⟩:Addr) w_30 fun (t2_4:(Option Addr×Nat×Nat))=>
  ld (.int .i64) (⟨b3,0,none⟩:Addr) w_30 fun (t3_4:Int)=>
  R (.returned (Value.tuple #[(Value.slice t2_4.1 t2_4.2.1 t2_4.2.2),(Value.int .i64 t3_4)])) w_30))) (fun D_1 w_31=>
  (w_31.heap[D_1]?=some (.deferred (some []))/\∀ w_32,w_32=World.putObj w_31 D_1 (.deferred none) ->
  ld .slc (⟨b2,0,none⟩:Addr) w_32 fun (t2_5:(Option Addr×Nat×Nat))=>
  ld (.int .i64) (⟨b3,0,none⟩:Addr) w_32 fun (t3_5:Int)=>
  R (.returned (Value.tuple #[(Value.slice t2_5.1 t2_5.2.1 t2_5.2.2),(Value.int .i64 t3_5)])) w_32)) (fun _ _ _=>False))) 0 w_2))
theorem z5x (s:ByteArray) (R:Ending->World->Prop) (w:World):tr2 P qs ((Tryz.f105.body).getD .skip) zm6 [] (zch 0 [(0,(Value.string s))]) (qju P Tryz.f105.results.toList R) w=zqn s R w:=by kernel_rfl
theorem z5d {s:ByteArray}{R:Ending->World->Prop}{w:World}(hT:zqn s R w):qg P zp6 #[(Value.string s)] w R:=
 qch (fn:=Tryz.f105) (c:=(Tryz.f105.body).getD .skip) (ann:=zm6) (args:=[(0,(Value.string s))]) (qs:=qs) mixed Tryz.func105 rfl (by kernel_rfl) (by kernel_rfl) z4j ((z5x s R w).symm▸hT)
def zj1:Ann:=(.seq .leaf (.seq .leaf .leaf))
theorem zzp:okC P qs Tryz.f111.ntmps ((Tryz.f111.body).getD .skip) zj1=true:=by kernel_rfl
def zmd (a:Option Addr) (a_l a_c:Nat) (b:Option Addr) (b_l b_c:Nat) (R:Ending->World->Prop) (w:World):Prop:=
  xg P zaw #[(Value.slice a a_l a_c),(Value.slice b b_l b_c),(Value.func (.func ze0) #[] #[])] [.int .i64] false w fun (t7:Int) w_1=>
  R (.returned (Value.int .i64 t7)) w_1
theorem zzn (a:Option Addr) (a_l a_c:Nat) (b:Option Addr) (b_l b_c:Nat) (R:Ending->World->Prop) (w:World):tr P qs ((Tryz.f111.body).getD .skip) zj1 (zch 0 [(0,(Value.slice a a_l a_c)),(0,(Value.slice b b_l b_c))]) (zck P Tryz.f111.results.toList R) w=zmd a a_l a_c b b_l b_c R w:=by kernel_rfl
theorem zz4 {a:Option Addr}{a_l a_c:Nat}{b:Option Addr}{b_l b_c:Nat}{R:Ending->World->Prop}{w:World}(hT:zmd a a_l a_c b b_l b_c R w):qg P zm3 #[(Value.slice a a_l a_c),(Value.slice b b_l b_c)] w R:=
 zx (fn:=Tryz.f111) (c:=(Tryz.f111.body).getD .skip) (ann:=zj1) (args:=[(0,(Value.slice a a_l a_c)),(0,(Value.slice b b_l b_c))]) (qs:=qs) mixed Tryz.func111 rfl (by kernel_rfl) (by kernel_rfl) zzp ((zzn a a_l a_c b b_l b_c R w).symm▸hT)
def zsh:Ann:=(.seq .leaf (.seq .leaf (.join [] (.seq .leaf (.jblk [] (.loop [(4,.int .i64)] (.join [] (.seq .leaf (.cond .leaf .leaf)) (.seq (.blk .leaf) .leaf))))) (.seq .leaf .leaf))))
theorem qea:okC P qs Tryz.f128.ntmps ((Tryz.f128.body).getD .skip) zsh=true:=by kernel_rfl
def zxj (b:Option Addr) (b_l b_c:Nat) (R:Ending->World->Prop) (w:World):Prop:=
  zby (zc P zf) zf w fun b2 w_1=>
  zby (zc P zf) zf w_1 fun b3 w_2=>
  ku Unit (fun k=>
  ku Unit (fun k_1=>
  za7 Int (fun s w_3 k_2=>
  ku Unit (fun k_3=>
  xq (decide (s < 32)) (
  xq (decide (s < (b_l:Int))) (
  k_3 () w_3) (
  k_1 () w_3)) (
  k_1 () w_3)) (fun _ w_4=>
  ixS b b_l 1 s fun t18=>
  ld (.int .u8) t18 w_4 fun (t19:Int)=>
  ixR (⟨b3,0,none⟩:Addr) 32 1 s fun t20=>
  stC t20 (Value.int .u8 t19) w_4 fun w_5=>
  zb6 .i64 s 1 fun t14=>
  k_2 t14 w_5)) 0 w_2) (fun _ w_6=>
  k () w_6)) (fun _ w_7=>
  ldA P 32 (⟨b3,0,none⟩:Addr) w_7 fun t21=>
  zcj P (storeVar zf (⟨b2,0,none⟩:Addr) (Value.agg t21)) w_7 fun w_8=>
  ldA P 32 (⟨b2,0,none⟩:Addr) w_8 fun t2=>
  R (.returned (Value.agg t2)) w_8)
theorem qdy (b:Option Addr) (b_l b_c:Nat) (R:Ending->World->Prop) (w:World):tr P qs ((Tryz.f128.body).getD .skip) zsh (zch 0 [(0,(Value.slice b b_l b_c))]) (zck P Tryz.f128.results.toList R) w=zxj b b_l b_c R w:=by kernel_rfl
theorem qep {b:Option Addr}{b_l b_c:Nat}{R:Ending->World->Prop}{w:World}(hT:zxj b b_l b_c R w):qg P ztc #[(Value.slice b b_l b_c)] w R:=
 zx (fn:=Tryz.f128) (c:=(Tryz.f128.body).getD .skip) (ann:=zsh) (args:=[(0,(Value.slice b b_l b_c))]) (qs:=qs) mixed Tryz.func128 rfl (by kernel_rfl) (by kernel_rfl) qea ((qdy b b_l b_c R w).symm▸hT)
def zro:Ann:=(.seq .leaf (.join [] (.seq .leaf (.cond (.seq .leaf .leaf) .leaf)) (.seq (.seq .leaf (.blk (.loop [(3,.int .i64)] (.seq (.seq .leaf (.cond .leaf .leaf)) (.seq (.blk (.seq .leaf (.cond (.seq .leaf .leaf) .leaf))) .leaf))))) (.seq .leaf .leaf))))
theorem qd9:okC P qs Tryz.f129.ntmps ((Tryz.f129.body).getD .skip) zro=true:=by kernel_rfl
def zxr (s:ByteArray) (R:Ending->World->Prop) (w:World):Prop:=
  ku Unit (fun k=>
  xq (decide ((s.size:Int) < 1)) (
  R (.returned (Value.bool false)) w) (
  xq (decide ((s.size:Int) > 16)) (
  R (.returned (Value.bool false)) w) (
  xq (s.toList==(ByteArray.mk #[46]).toList) (
  R (.returned (Value.bool false)) w) (
  xq (s.toList==(ByteArray.mk #[46,46]).toList) (
  R (.returned (Value.bool false)) w) (
  k () w))))) (fun _ w_1=>
  za7 Int (fun s_2 w_2 k_1=>
  xq (decide (s_2 < (s.size:Int))) (
  z3t s s_2 fun t28=>
  zjj P zvu #[(Value.int .u8 t28)] [.bool] false w_2 fun (t29:Bool)=>
  xq (!t29) (
  R (.returned (Value.bool false)) w_2) (
  zb6 .i64 s_2 1 fun t25=>
  k_1 t25 w_2)) (
  R (.returned (Value.bool true)) w_2)) 0 w_1)
theorem qee (s:ByteArray) (R:Ending->World->Prop) (w:World):tr P qs ((Tryz.f129.body).getD .skip) zro (zch 0 [(0,(Value.string s))]) (zck P Tryz.f129.results.toList R) w=zxr s R w:=by kernel_rfl
theorem qev {s:ByteArray}{R:Ending->World->Prop}{w:World}(hT:zxr s R w):qg P zyu #[(Value.string s)] w R:=
 zx (fn:=Tryz.f129) (c:=(Tryz.f129.body).getD .skip) (ann:=zro) (args:=[(0,(Value.string s))]) (qs:=qs) mixed Tryz.func129 rfl (by kernel_rfl) (by kernel_rfl) qd9 ((qee s R w).symm▸hT)
def zug:Ann:=(.seq .leaf (.seq .leaf .leaf))
theorem qg4:okC P qs Tryz.f132.ntmps ((Tryz.f132.body).getD .skip) zug=true:=by kernel_rfl
def z05  (R:Ending->World->Prop) (w:World):Prop:=
  zbc P (Instr.build vw #[(0,(Value.int .u32 1779033703)),(1,(Value.int .u32 3144134277)),(2,(Value.int .u32 1013904242)),(3,(Value.int .u32 2773480762)),(4,(Value.int .u32 1359893119)),(5,(Value.int .u32 2600822924)),(6,(Value.int .u32 528734635)),(7,(Value.int .u32 1541459225))]) .any w fun (t1:Value)=>
  zbc P (Instr.build za6 #[(0,t1)]) .any w fun (t2:Value)=>
  zby (Value.cells t2) za6 w fun b3 w_1=>
  R (.returned (Value.pointer (some (⟨b3,0,none⟩:Addr)))) w_1
theorem qgx  (R:Ending->World->Prop) (w:World):tr P qs ((Tryz.f132.body).getD .skip) zug (zch 0 []) (zck P Tryz.f132.results.toList R) w=z05  R w:=by kernel_rfl
theorem qha  {R:Ending->World->Prop}{w:World}(hT:z05  R w):qg P zxe #[] w R:=
 zx (fn:=Tryz.f132) (c:=(Tryz.f132.body).getD .skip) (ann:=zug) (args:=[]) (qs:=qs) mixed Tryz.func132 rfl (by kernel_rfl) (by kernel_rfl) qg4 ((qgx  R w).symm▸hT)
def zjh:Ann:=(.seq (.seq .leaf (.cond .leaf .leaf)) (.seq .leaf (.blk (.loop [(1,.slc)] (.seq (.seq .leaf (.cond .leaf .leaf)) (.jblk [(1,.slc)] (.seq (.tree (.op 0 [] (.op 1 [] (.op 2 [] (.op 3 [] (.op 4 [] (.op 5 [] (.op 8 [] (.op 6 [] (.op 7 [] (.op 9 [] (.op 10 [] .done)))))))))))) (.seq (.tree (.op 0 [] (.op 1 [] (.op 2 [] (.op 3 [] (.op 5 [] (.op 7 [] (.op 8 [] (.op 4 [] (.op 6 [] (.op 10 [] (.op 11 [] (.op 9 [] (.op 12 [9] (.op 13 [] .done))))))))))))))) (.seq .leaf (.cond (.seq .leaf .leaf) .leaf))))))))))
theorem zyw:okC P qs Tryz.f133.ntmps ((Tryz.f133.body).getD .skip) zjh=true:=by kernel_rfl
def zli (hv:Option Addr) (b:Option Addr) (b_l b_c:Nat) (R:Ending->World->Prop) (w:World):Prop:=
  xq (Option.isNone hv) (
  R (.returned (Value.tuple #[])) w) (
  zn hv fun p=>
  ld (.int .i64) (Addr.add p 73) w fun (t10:Int)=>
  zb6 .i64 t10 (b_l:Int) fun t13=>
  zn hv fun p_1=>
  stC (Addr.add p_1 73) (Value.int .i64 t13) w fun w_1=>
  za7 (Option Addr×Nat×Nat) (fun s w_2 k=>
  xq (decide ((s.2.1:Int) > 0)) (
  ku (Option Addr×Nat×Nat) (fun k_1=>
  zbs w_2 fun w_3=>
  zn hv fun p_2=>
  zn hv fun p_3=>
  ld (.int .i64) (Addr.add p_3 72) w_3 fun (t25:Int)=>
  zbc P (Instr.sliceAt zy0 (Value.pointer (some (Addr.add p_2 8))) (some (Value.int .i64 t25)) none none) .slc w_3 fun (t26:(Option Addr×Nat×Nat))=>
  za1 P (Builtin.copy_ #[zi,zi] zco #[(Value.slice t26.1 t26.2.1 t26.2.2),(Value.slice s.1 s.2.1 s.2.2)]) (.int .i64) w_3 fun (t28:Int) w_4=>
  zbs w_4 fun w_5=>
  zn hv fun p_4=>
  ld (.int .i64) (Addr.add p_4 72) w_5 fun (t33:Int)=>
  zb6 .i64 t33 t28 fun t35=>
  zn hv fun p_5=>
  zbc P (Instr.sliceAt zi (Value.slice s.1 s.2.1 s.2.2) (some (Value.int .i64 t28)) none none) .slc w_5 fun (t38:(Option Addr×Nat×Nat))=>
  stC (Addr.add p_5 72) (Value.int .i64 t35) w_5 fun w_6=>
  ((zbc P (Instr.sliceAt zi (Value.slice s.1 s.2.1 s.2.2) (some (Value.int .i64 t28)) none none) .slc w_6 fun (t38_1:(Option Addr×Nat×Nat))=>
  (Value.slice t38_1.1 t38_1.2.1 t38_1.2.2)=(Value.slice t38.1 t38.2.1 t38.2.2)) /\
  zn hv fun p_6=>
  ld (.int .i64) (Addr.add p_6 72) w_6 fun (t44:Int)=>
  xq (t44==64) (
  zn hv fun p_7=>
  zbc P (Instr.sliceAt zy0 (Value.pointer (some (Addr.add p_7 8))) none none none) .slc w_6 fun (t50:(Option Addr×Nat×Nat))=>
  xg P zn9 #[(Value.pointer hv),(Value.slice t50.1 t50.2.1 t50.2.2)] [] true w_6 fun (_:Unit) w_7=>
  zn hv fun p_8=>
  stC (Addr.add p_8 72) (Value.int .i64 0) w_7 fun w_8=>
  k_1 (t38.1,t38.2.1,t38.2.2) w_8) (
  k_1 (t38.1,t38.2.1,t38.2.2) w_6))) (fun s_1 w_9=>
  k (s_1.1,s_1.2.1,s_1.2.2) w_9)) (
  R (.returned (Value.tuple #[])) w_2)) (b,b_l,b_c) w_1)
theorem zyg (hv:Option Addr) (b:Option Addr) (b_l b_c:Nat) (R:Ending->World->Prop) (w:World):tr P qs ((Tryz.f133.body).getD .skip) zjh (zch 0 [(0,(Value.pointer hv)),(0,(Value.slice b b_l b_c))]) (zck P Tryz.f133.results.toList R) w=zli hv b b_l b_c R w:=by kernel_rfl
theorem zxs {hv:Option Addr}{b:Option Addr}{b_l b_c:Nat}{R:Ending->World->Prop}{w:World}(hT:zli hv b b_l b_c R w):qg P zej #[(Value.pointer hv),(Value.slice b b_l b_c)] w R:=
 zx (fn:=Tryz.f133) (c:=(Tryz.f133.body).getD .skip) (ann:=zjh) (args:=[(0,(Value.pointer hv)),(0,(Value.slice b b_l b_c))]) (qs:=qs) mixed Tryz.func133 rfl (by kernel_rfl) (by kernel_rfl) zyw ((zyg hv b b_l b_c R w).symm▸hT)
def zle:Ann:=(.seq .leaf (.join [(0,.ptr)] (.seq .leaf (.cond .leaf .leaf)) (.seq .leaf (.seq .leaf (.seq .leaf (.seq (.blk (.loop [] (.seq (.seq .leaf (.cond .leaf .leaf)) (.blk .leaf)))) (.seq .leaf (.seq (.seq .leaf (.blk (.loop [(27,.int .i64)] (.seq .leaf (.seq (.cond .leaf .leaf) (.seq (.blk (.seq .leaf .leaf)) .leaf)))))) (.seq .leaf (.seq .leaf (.seq (.seq .leaf (.blk (.loop [(43,.int .i64)] (.seq .leaf (.seq (.cond .leaf .leaf) (.seq (.blk (.seq .leaf .leaf)) .leaf)))))) (.seq .leaf .leaf))))))))))))
theorem z01:okC P qs Tryz.f134.ntmps ((Tryz.f134.body).getD .skip) zle=true:=by kernel_rfl
def zoe (hv:Option Addr) (R:Ending->World->Prop) (w:World):Prop:=
  zby (zc P zf) zf w fun b2 w_1=>
  ku (Option Addr) (fun k=>
  xq (Option.isNone hv) (
  xg P zxe #[] [.ptr] false w_1 fun (t12:(Option Addr)) w_2=>
  k t12 w_2) (
  k hv w_1)) (fun s w_3=>
  zn s fun p=>
  ldA P 74 p w_3 fun t15=>
  zby (zc P za6) za6 w_3 fun b3 w_4=>
  zcj P (storeVar za6 (⟨b3,0,none⟩:Addr) (Value.agg t15)) w_4 fun w_5=>
  ld (.int .i64) (⟨b3,73,none⟩:Addr) w_5 fun (t17:Int)=>
  cvI .u64 t17 fun t18=>
  z3y .u64 t18 8 fun t19=>
  za1 P (Instr.buildSlice zi 1 #[(0,(Value.int .u8 128))]) .slc w_5 fun (t20:(Option Addr×Nat×Nat)) w_6=>
  xg P zej #[(Value.pointer (some (⟨b3,0,none⟩:Addr))),(Value.slice t20.1 t20.2.1 t20.2.2)] [] true w_6 fun (_:Unit) w_7=>
  za7 Unit (fun _ w_8 k_1=>
  ld (.int .i64) (⟨b3,72,none⟩:Addr) w_8 fun (t23:Int)=>
  xq (t23 != 56) (
  za1 P (Instr.buildSlice zi 1 #[(0,(Value.int .u8 0))]) .slc w_8 fun (t25:(Option Addr×Nat×Nat)) w_9=>
  xg P zej #[(Value.pointer (some (⟨b3,0,none⟩:Addr))),(Value.slice t25.1 t25.2.1 t25.2.2)] [] true w_9 fun (_:Unit) w_10=>
  k_1 () w_10) (
  zby (zc P zo9) zo9 w_8 fun b5 w_11=>
  za7 Int (fun s_2 w_12 k_2=>
  xq (decide (s_2 < 8)) (
  z3y .i64 8 s_2 fun t33=>
  zqa .i64 56 t33 fun t34=>
  z9z .u64 t19 t34 fun t35=>
  cvI .u8 t35 fun t36=>
  ixR (⟨b5,0,none⟩:Addr) 8 1 s_2 fun t37=>
  stC t37 (Value.int .u8 t36) w_12 fun w_13=>
  zb6 .i64 s_2 1 fun t38=>
  k_2 t38 w_13) (
  zbc P (Instr.sliceAt zo9 (Value.pointer (some (⟨b5,0,none⟩:Addr))) none none none) .slc w_12 fun (t39:(Option Addr×Nat×Nat))=>
  xg P zej #[(Value.pointer (some (⟨b3,0,none⟩:Addr))),(Value.slice t39.1 t39.2.1 t39.2.2)] [] true w_12 fun (_:Unit) w_14=>
  zby (zc P zf) zf w_14 fun b7 w_15=>
  ldA P 8 (⟨b3,0,none⟩:Addr) w_15 fun t42=>
  za7 Int (fun s_3 w_16 k_3=>
  xq (decide (s_3 < 8)) (
  zbc P (Instr.index vw (Value.agg t42) (Value.int .i64 s_3)) (.int .u32) w_16 fun (t46:Int)=>
  z3y .i64 4 s_3 fun t48=>
  z3y .i64 4 s_3 fun t50=>
  zb6 .i64 t50 1 fun t51=>
  z3y .i64 4 s_3 fun t53=>
  zb6 .i64 t53 2 fun t54=>
  z3y .i64 4 s_3 fun t56=>
  zb6 .i64 t56 3 fun t57=>
  z9z .u32 t46 24 fun t59=>
  cvI .u8 t59 fun t60=>
  z9z .u32 t46 16 fun t62=>
  cvI .u8 t62 fun t63=>
  z9z .u32 t46 8 fun t65=>
  cvI .u8 t65 fun t66=>
  cvI .u8 t46 fun t68=>
  ixR (⟨b7,0,none⟩:Addr) 32 1 t48 fun t69=>
  stC t69 (Value.int .u8 t60) w_16 fun w_17=>
  ixR (⟨b7,0,none⟩:Addr) 32 1 t51 fun t70=>
  stC t70 (Value.int .u8 t63) w_17 fun w_18=>
  ixR (⟨b7,0,none⟩:Addr) 32 1 t54 fun t71=>
  stC t71 (Value.int .u8 t66) w_18 fun w_19=>
  ixR (⟨b7,0,none⟩:Addr) 32 1 t57 fun t72=>
  stC t72 (Value.int .u8 t68) w_19 fun w_20=>
  zb6 .i64 s_3 1 fun t73=>
  k_3 t73 w_20) (
  ldA P 32 (⟨b7,0,none⟩:Addr) w_16 fun t74=>
  zcj P (storeVar zf (⟨b2,0,none⟩:Addr) (Value.agg t74)) w_16 fun w_21=>
  ldA P 32 (⟨b2,0,none⟩:Addr) w_21 fun t2=>
  R (.returned (Value.agg t2)) w_21)) 0 w_15)) 0 w_11)) () w_7)
theorem z0p (hv:Option Addr) (R:Ending->World->Prop) (w:World):tr P qs ((Tryz.f134.body).getD .skip) zle (zch 0 [(0,(Value.pointer hv))]) (zck P Tryz.f134.results.toList R) w=zoe hv R w:=by kernel_rfl
theorem z1r {hv:Option Addr}{R:Ending->World->Prop}{w:World}(hT:zoe hv R w):qg P zoc #[(Value.pointer hv)] w R:=
 zx (fn:=Tryz.f134) (c:=(Tryz.f134.body).getD .skip) (ann:=zle) (args:=[(0,(Value.pointer hv))]) (qs:=qs) mixed Tryz.func134 rfl (by kernel_rfl) (by kernel_rfl) z01 ((z0p hv R w).symm▸hT)
def zma:Ann:=(.seq .leaf (.seq (.seq .leaf (.blk (.loop [(5,.int .i64)] (.seq (.seq .leaf (.cond .leaf .leaf)) (.seq (.blk (.seq (.seq (.tree (.op 0 [] (.op 1 [] (.op 3 [] (.op 4 [] (.op 2 [] (.op 5 [] (.op 6 [] .done)))))))) (.cond (.seq .leaf .leaf) .leaf)) (.seq (.tree (.op 0 [] (.op 1 [] (.op 3 [] (.op 4 [] (.op 2 [] (.op 5 [] (.op 6 [] .done)))))))) (.cond (.seq .leaf .leaf) .leaf)))) .leaf))))) (.seq .leaf .leaf)))
theorem z4f:okC P qs Tryz.f135.ntmps ((Tryz.f135.body).getD .skip) zma=true:=by kernel_rfl
def zql (a:Value) (b:Value) (R:Ending->World->Prop) (w:World):Prop:=
  zby (Value.cells a) zf w fun b2 w_1=>
  zby (Value.cells b) zf w_1 fun b3 w_2=>
  za7 Int (fun s w_3 k=>
  xq (decide (s < 32)) (
  zbs w_3 fun w_4=>
  ixR (⟨b2,0,none⟩:Addr) 32 1 s fun t11=>
  ixR (⟨b3,0,none⟩:Addr) 32 1 s fun t14=>
  ld (.int .u8) t11 w_4 fun (t12:Int)=>
  ld (.int .u8) t14 w_4 fun (t15:Int)=>
  xq (decide (t12 < t15)) (
  R (.returned (Value.int .i64 (-1))) w_4) (
  zbs w_4 fun w_5=>
  ixR (⟨b2,0,none⟩:Addr) 32 1 s fun t18=>
  ixR (⟨b3,0,none⟩:Addr) 32 1 s fun t21=>
  ld (.int .u8) t18 w_5 fun (t19:Int)=>
  ld (.int .u8) t21 w_5 fun (t22:Int)=>
  xq (decide (t19 > t22)) (
  R (.returned (Value.int .i64 1)) w_5) (
  zb6 .i64 s 1 fun t9=>
  k t9 w_5))) (
  R (.returned (Value.int .i64 0)) w_3)) 0 w_2
theorem z4x (a:Value) (b:Value) (R:Ending->World->Prop) (w:World):tr P qs ((Tryz.f135.body).getD .skip) zma (zch 0 [(1,a),(1,b)]) (zck P Tryz.f135.results.toList R) w=zql a b R w:=by kernel_rfl
theorem z5u {a:Value}{b:Value}{R:Ending->World->Prop}{w:World}(hT:zql a b R w):qg P zq6 #[a,b] w R:=
 zx (fn:=Tryz.f135) (c:=(Tryz.f135.body).getD .skip) (ann:=zma) (args:=[(1,a),(1,b)]) (qs:=qs) mixed Tryz.func135 rfl (by kernel_rfl) (by kernel_rfl) z4f ((z4x a b R w).symm▸hT)
def zkt:Ann:=(.seq .leaf (.seq .leaf .leaf))
theorem z2h:okC P qs Tryz.f158.ntmps ((Tryz.f158.body).getD .skip) zkt=true:=by kernel_rfl
def zok (s:ByteArray) (R:Ending->World->Prop) (w:World):Prop:=
  zby #[(Value.string s)] jy w fun b1 w_1=>
  zbc P (Instr.makeFunc (Go.Fn.func zhx) #[] #[(Value.pointer (some (⟨b1,0,none⟩:Addr)))]) .any w_1 fun (t3:Value)=>
  R (.returned t3) w_1
theorem z0s (s:ByteArray) (R:Ending->World->Prop) (w:World):tr P qs ((Tryz.f158.body).getD .skip) zkt (zch 0 [(0,(Value.string s))]) (zck P Tryz.f158.results.toList R) w=zok s R w:=by kernel_rfl
theorem z3m {s:ByteArray}{R:Ending->World->Prop}{w:World}(hT:zok s R w):qg P zol #[(Value.string s)] w R:=
 zx (fn:=Tryz.f158) (c:=(Tryz.f158.body).getD .skip) (ann:=zkt) (args:=[(0,(Value.string s))]) (qs:=qs) mixed Tryz.func158 rfl (by kernel_rfl) (by kernel_rfl) z2h ((z0s s R w).symm▸hT)
def zar:Ann:=(.seq .leaf (.seq (.seq .leaf (.blk (.loop [(13,.int .i64)] (.seq .leaf (.seq (.cond .leaf .leaf) (.seq (.blk (.seq .leaf (.seq (.seq .leaf (.cond (.seq .leaf .leaf) .leaf)) (.seq .leaf (.seq .leaf (.seq .leaf (.cond (.seq .leaf .leaf) .leaf))))))) .leaf)))))) (.seq (.seq .leaf (.cond (.seq .leaf .leaf) .leaf)) (.seq .leaf .leaf))))
theorem zdy:okC P qs Tryz.f162.ntmps ((Tryz.f162.body).getD .skip) zar=true:=by kernel_rfl
def zav (s1:Option Addr) (s1_l s1_c:Nat) (s2:Option Addr) (s2_l s2_c:Nat) (cmp:Value) (R:Ending->World->Prop) (w:World):Prop:=
  za7 Int (fun s w_1 k=>
  xq (decide (s < (s1_l:Int))) (
  ixS s1 s1_l 1 s fun t16=>
  ld .str t16 w_1 fun (t17:ByteArray)=>
  xq (decide (s>=(s2_l:Int))) (
  R (.returned (Value.int .i64 1)) w_1) (
  ixS s2 s2_l 1 s fun t24=>
  ld .str t24 w_1 fun (t25:ByteArray)=>
  zuk P cmp #[(Value.string t17),(Value.string t25)] [.int .i64] false w_1 fun (t29:Int) w_2=>
  xq (t29 != 0) (
  R (.returned (Value.int .i64 t29)) w_2) (
  zb6 .i64 s 1 fun t33=>
  k t33 w_2))) (
  xq (decide ((s1_l:Int) < (s2_l:Int))) (
  R (.returned (Value.int .i64 (-1))) w_1) (
  R (.returned (Value.int .i64 0)) w_1))) 0 w
theorem zd0 (s1:Option Addr) (s1_l s1_c:Nat) (s2:Option Addr) (s2_l s2_c:Nat) (cmp:Value) (R:Ending->World->Prop) (w:World):tr P qs ((Tryz.f162.body).getD .skip) zar (zch 0 [(0,(Value.slice s1 s1_l s1_c)),(0,(Value.slice s2 s2_l s2_c)),(1,cmp)]) (zck P Tryz.f162.results.toList R) w=zav s1 s1_l s1_c s2 s2_l s2_c cmp R w:=by kernel_rfl
theorem zd4 {s1:Option Addr}{s1_l s1_c:Nat}{s2:Option Addr}{s2_l s2_c:Nat}{cmp:Value}{R:Ending->World->Prop}{w:World}(hT:zav s1 s1_l s1_c s2 s2_l s2_c cmp R w):qg P zaw #[(Value.slice s1 s1_l s1_c),(Value.slice s2 s2_l s2_c),cmp] w R:=
 zx (fn:=Tryz.f162) (c:=(Tryz.f162.body).getD .skip) (ann:=zar) (args:=[(0,(Value.slice s1 s1_l s1_c)),(0,(Value.slice s2 s2_l s2_c)),(1,cmp)]) (qs:=qs) mixed Tryz.func162 rfl (by kernel_rfl) (by kernel_rfl) zdy ((zd0 s1 s1_l s1_c s2 s2_l s2_c cmp R w).symm▸hT)
def zgk:Ann:=(.seq .leaf (.seq .leaf (.seq .leaf (.seq (.seq .leaf (.cond (.seq (.seq .leaf (.cond (.seq .leaf .leaf) .leaf)) (.seq .leaf .leaf)) .leaf)) (.seq (.seq .leaf (.cond (.seq .leaf .leaf) .leaf)) (.seq (.seq .leaf (.cond (.seq .leaf .leaf) .leaf)) (.seq (.seq .leaf (.cond (.seq .leaf .leaf) .leaf)) (.seq .leaf .leaf))))))))
theorem zs9:okC P qs Tryz.f163.ntmps ((Tryz.f163.body).getD .skip) zgk=true:=by kernel_rfl
def zhk (x:ByteArray) (y:ByteArray) (R:Ending->World->Prop) (w:World):Prop:=
  zjj P zgn #[(Value.string x)] [.bool] false w fun (t8:Bool)=>
  zjj P zgn #[(Value.string y)] [.bool] false w fun (t10:Bool)=>
  xq t8 (
  xq t10 (
  R (.returned (Value.int .i64 0)) w) (
  R (.returned (Value.int .i64 (-1))) w)) (
  xq t10 (
  R (.returned (Value.int .i64 1)) w) (
  xq (Op.bytesLess x.toList y.toList) (
  R (.returned (Value.int .i64 (-1))) w) (
  xq (!((Op.bytesLess x.toList y.toList) || (x.toList==y.toList))) (
  R (.returned (Value.int .i64 1)) w) (
  R (.returned (Value.int .i64 0)) w))))
theorem zr4 (x:ByteArray) (y:ByteArray) (R:Ending->World->Prop) (w:World):tr P qs ((Tryz.f163.body).getD .skip) zgk (zch 0 [(0,(Value.string x)),(0,(Value.string y))]) (zck P Tryz.f163.results.toList R) w=zhk x y R w:=by kernel_rfl
theorem zr7 {x:ByteArray}{y:ByteArray}{R:Ending->World->Prop}{w:World}(hT:zhk x y R w):qg P ze0 #[(Value.string x),(Value.string y)] w R:=
 zx (fn:=Tryz.f163) (c:=(Tryz.f163.body).getD .skip) (ann:=zgk) (args:=[(0,(Value.string x)),(0,(Value.string y))]) (qs:=qs) mixed Tryz.func163 rfl (by kernel_rfl) (by kernel_rfl) zs9 ((zr4 x y R w).symm▸hT)
def zlj:Ann:=(.seq .leaf (.seq (.seq .leaf (.blk (.loop [(18,.int .i64)] (.seq .leaf (.seq (.cond .leaf .leaf) (.seq (.blk (.seq .leaf (.tree (.op 0 [] (.op 1 [] (.op 2 [] (.op 3 [] (.op 4 [] (.op 8 [] (.op 9 [] (.op 10 [] (.op 11 [] (.op 12 [] (.op 17 [] (.op 18 [] (.op 19 [] (.op 20 [] (.op 21 [] (.op 26 [] (.op 27 [] (.op 28 [] (.op 29 [] (.op 30 [] (.op 5 [] (.op 6 [] (.op 7 [] (.op 13 [] (.op 14 [] (.op 15 [] (.op 16 [] (.op 22 [] (.op 23 [] (.op 24 [] (.op 25 [] (.op 31 [] (.op 32 [] (.op 33 [] (.op 34 [] (.op 35 [] .done))))))))))))))))))))))))))))))))))))))) .leaf)))))) (.seq (.seq .leaf (.blk (.loop [(6,.int .i64)] (.seq (.seq .leaf (.cond .leaf .leaf)) (.seq (.blk (.seq (.tree (.op 0 [] (.op 1 [] (.op 2 [] (.op 4 [] (.op 5 [] (.op 6 [] (.op 3 [] (.op 8 [] (.op 7 [] (.op 9 [] .done))))))))))) (.seq .leaf (.seq .leaf (.tree (.op 0 [] (.op 1 [] (.op 2 [] (.op 3 [] (.op 4 [] (.op 7 [] (.op 9 [] (.op 10 [] (.op 11 [] (.op 5 [] (.op 6 [] (.op 8 [] (.op 12 [] (.op 13 [] (.op 14 [] (.op 15 [] .done))))))))))))))))))))) .leaf))))) (.seq .leaf (.seq (.seq .leaf (.blk (.loop [(104,.int .i64)] (.seq .leaf (.seq (.cond .leaf .leaf) (.seq (.blk (.seq .leaf (.seq (.tree (.op 0 [] (.op 3 [] (.op 7 [] (.op 1 [] (.op 2 [] (.op 4 [] (.op 5 [] (.op 6 [] (.op 8 [] (.op 9 [] (.op 10 [] (.op 11 [] .done))))))))))))) (.seq (.tree (.op 0 [] (.op 2 [] (.op 4 [] (.op 6 [] (.op 9 [] (.op 12 [] (.op 17 [] (.op 18 [] (.op 21 [] (.op 22 [] (.op 1 [] (.op 3 [] (.op 5 [] (.op 7 [] (.op 8 [] (.op 10 [] (.op 11 [] (.op 13 [] (.op 14 [] (.op 15 [] (.op 16 [] (.op 19 [] (.op 20 [] (.op 23 [] (.op 24 [] (.op 25 [] .done))))))))))))))))))))))))))) (.seq (.tree (.op 0 [] (.op 3 [] (.op 7 [] (.op 1 [] (.op 2 [] (.op 4 [] (.op 5 [] (.op 6 [] (.op 8 [] (.op 9 [] (.op 10 [] (.op 11 [] .done))))))))))))) (.seq .leaf .leaf)))))) .leaf)))))) (.seq .leaf (.blk (.loop [(194,.int .i64)] (.seq .leaf (.seq (.cond .leaf .leaf) (.seq (.blk (.seq .leaf (.tree (.op 0 [] (.op 1 [] (.op 2 [] (.op 3 [] (.op 4 [] (.op 6 [] (.op 7 [] (.op 10 [] (.op 11 [] (.op 5 [] (.op 8 [] (.op 9 [] (.op 12 [] (.op 13 [] .done))))))))))))))))) .leaf)))))))))))
theorem z3l:okC P qs Tryz.f175.ntmps ((Tryz.f175.body).getD .skip) zlj=true:=by kernel_rfl
def zon (hv:Option Addr) (b:Option Addr) (b_l b_c:Nat) (R:Ending->World->Prop) (w:World):Prop:=
  zby (zc P zat) zat w fun b4 w_1=>
  za7 Int (fun s w_2 k=>
  xq (decide (s < 16)) (
  zbs w_2 fun w_3=>
  z3y .i64 4 s fun t24=>
  ixS b b_l 1 t24 fun t25=>
  z3y .i64 4 s fun t31=>
  zb6 .i64 t31 1 fun t32=>
  ixS b b_l 1 t32 fun t33=>
  z3y .i64 4 s fun t40=>
  zb6 .i64 t40 2 fun t41=>
  ixS b b_l 1 t41 fun t42=>
  z3y .i64 4 s fun t49=>
  zb6 .i64 t49 3 fun t50=>
  ixS b b_l 1 t50 fun t51=>
  ld (.int .u8) t25 w_3 fun (t26:Int)=>
  cvI .u32 t26 fun t27=>
  qj7 .u32 t27 24 fun t28=>
  ld (.int .u8) t33 w_3 fun (t34:Int)=>
  cvI .u32 t34 fun t35=>
  qj7 .u32 t35 16 fun t36=>
  orI .u32 t28 t36 fun t37=>
  ld (.int .u8) t42 w_3 fun (t43:Int)=>
  cvI .u32 t43 fun t44=>
  qj7 .u32 t44 8 fun t45=>
  orI .u32 t37 t45 fun t46=>
  ld (.int .u8) t51 w_3 fun (t52:Int)=>
  cvI .u32 t52 fun t53=>
  orI .u32 t46 t53 fun t54=>
  ixR (⟨b4,0,none⟩:Addr) 64 1 s fun t55=>
  stC t55 (Value.int .u32 t54) w_3 fun w_4=>
  zb6 .i64 s 1 fun t56=>
  k t56 w_4) (
  za7 Int (fun s_1 w_5 k_1=>
  xq (decide (s_1 < 64)) (
  zbs w_5 fun w_6=>
  zqa .i64 s_1 2 fun t62=>
  ixR (⟨b4,0,none⟩:Addr) 64 1 t62 fun t63=>
  zqa .i64 s_1 15 fun t66=>
  ixR (⟨b4,0,none⟩:Addr) 64 1 t66 fun t67=>
  ld (.int .u32) t63 w_6 fun (t64:Int)=>
  ld (.int .u32) t67 w_6 fun (t68:Int)=>
  zjj P vg #[(Value.int .u32 t64),(Value.int .i64 (-17))] [.int .u32] false w_6 fun (t70:Int)=>
  zjj P vg #[(Value.int .u32 t64),(Value.int .i64 (-19))] [.int .u32] false w_6 fun (t72:Int)=>
  zt2 .u32 t70 t72 fun t73=>
  z9z .u32 t64 10 fun t75=>
  zt2 .u32 t73 t75 fun t76=>
  zjj P vg #[(Value.int .u32 t68),(Value.int .i64 (-7))] [.int .u32] false w_6 fun (t78:Int)=>
  zjj P vg #[(Value.int .u32 t68),(Value.int .i64 (-18))] [.int .u32] false w_6 fun (t80:Int)=>
  zt2 .u32 t78 t80 fun t81=>
  z9z .u32 t68 3 fun t83=>
  zt2 .u32 t81 t83 fun t84=>
  zbs w_6 fun w_7=>
  zqa .i64 s_1 7 fun t88=>
  ixR (⟨b4,0,none⟩:Addr) 64 1 t88 fun t89=>
  zqa .i64 s_1 16 fun t95=>
  ixR (⟨b4,0,none⟩:Addr) 64 1 t95 fun t96=>
  ld (.int .u32) t89 w_7 fun (t90:Int)=>
  zb6 .u32 t76 t90 fun t91=>
  zb6 .u32 t91 t84 fun t93=>
  ld (.int .u32) t96 w_7 fun (t97:Int)=>
  zb6 .u32 t93 t97 fun t98=>
  ixR (⟨b4,0,none⟩:Addr) 64 1 s_1 fun t99=>
  stC t99 (Value.int .u32 t98) w_7 fun w_8=>
  zb6 .i64 s_1 1 fun t60=>
  k_1 t60 w_8) (
  zn hv fun p=>
  ldA P 8 p w_5 fun t103=>
  zby (zc P vw) vw w_5 fun b11 w_9=>
  zcj P (storeVar vw (⟨b11,0,none⟩:Addr) (Value.agg t103)) w_9 fun w_10=>
  za7 Int (fun s_2 w_11 k_2=>
  xq (decide (s_2 < 64)) (
  zbs w_11 fun w_12=>
  ld (.int .u32) (⟨b11,4,none⟩:Addr) w_12 fun (t108:Int)=>
  zjj P vg #[(Value.int .u32 t108),(Value.int .i64 (-6))] [.int .u32] false w_12 fun (t109:Int)=>
  ld (.int .u32) (⟨b11,4,none⟩:Addr) w_12 fun (t111:Int)=>
  zjj P vg #[(Value.int .u32 t111),(Value.int .i64 (-11))] [.int .u32] false w_12 fun (t112:Int)=>
  zt2 .u32 t109 t112 fun t113=>
  ld (.int .u32) (⟨b11,4,none⟩:Addr) w_12 fun (t115:Int)=>
  zjj P vg #[(Value.int .u32 t115),(Value.int .i64 (-25))] [.int .u32] false w_12 fun (t116:Int)=>
  zt2 .u32 t113 t116 fun t117=>
  zbs w_12 fun w_13=>
  ixR (⟨0,0,none⟩:Addr) 64 1 s_2 fun t136=>
  ixR (⟨b4,0,none⟩:Addr) 64 1 s_2 fun t140=>
  ld (.int .u32) (⟨b11,7,none⟩:Addr) w_13 fun (t119:Int)=>
  zb6 .u32 t119 t117 fun t121=>
  ld (.int .u32) (⟨b11,4,none⟩:Addr) w_13 fun (t123:Int)=>
  ld (.int .u32) (⟨b11,5,none⟩:Addr) w_13 fun (t125:Int)=>
  qel .u32 t123 t125 fun t126=>
  ld (.int .u32) (⟨b11,4,none⟩:Addr) w_13 fun (t128:Int)=>
  zt2 .u32 (IntKind.max .u32) t128 fun t129=>
  ld (.int .u32) (⟨b11,6,none⟩:Addr) w_13 fun (t131:Int)=>
  qel .u32 t129 t131 fun t132=>
  zt2 .u32 t126 t132 fun t133=>
  zb6 .u32 t121 t133 fun t134=>
  ld (.int .u32) t136 w_13 fun (t137:Int)=>
  zb6 .u32 t134 t137 fun t138=>
  ld (.int .u32) t140 w_13 fun (t141:Int)=>
  zb6 .u32 t138 t141 fun t142=>
  zbs w_13 fun w_14=>
  ld (.int .u32) (⟨b11,0,none⟩:Addr) w_14 fun (t144:Int)=>
  zjj P vg #[(Value.int .u32 t144),(Value.int .i64 (-2))] [.int .u32] false w_14 fun (t145:Int)=>
  ld (.int .u32) (⟨b11,0,none⟩:Addr) w_14 fun (t147:Int)=>
  zjj P vg #[(Value.int .u32 t147),(Value.int .i64 (-13))] [.int .u32] false w_14 fun (t148:Int)=>
  zt2 .u32 t145 t148 fun t149=>
  ld (.int .u32) (⟨b11,0,none⟩:Addr) w_14 fun (t151:Int)=>
  zjj P vg #[(Value.int .u32 t151),(Value.int .i64 (-22))] [.int .u32] false w_14 fun (t152:Int)=>
  zt2 .u32 t149 t152 fun t153=>
  ld (.int .u32) (⟨b11,0,none⟩:Addr) w_14 fun (t156:Int)=>
  ld (.int .u32) (⟨b11,1,none⟩:Addr) w_14 fun (t158:Int)=>
  qel .u32 t156 t158 fun t159=>
  ld (.int .u32) (⟨b11,0,none⟩:Addr) w_14 fun (t161:Int)=>
  ld (.int .u32) (⟨b11,2,none⟩:Addr) w_14 fun (t163:Int)=>
  qel .u32 t161 t163 fun t164=>
  zt2 .u32 t159 t164 fun t165=>
  ld (.int .u32) (⟨b11,1,none⟩:Addr) w_14 fun (t167:Int)=>
  ld (.int .u32) (⟨b11,2,none⟩:Addr) w_14 fun (t169:Int)=>
  qel .u32 t167 t169 fun t170=>
  zt2 .u32 t165 t170 fun t171=>
  zb6 .u32 t153 t171 fun t172=>
  zb6 .u32 t142 t172 fun t175=>
  ld (.int .u32) (⟨b11,0,none⟩:Addr) w_14 fun (t177:Int)=>
  ld (.int .u32) (⟨b11,1,none⟩:Addr) w_14 fun (t179:Int)=>
  ld (.int .u32) (⟨b11,2,none⟩:Addr) w_14 fun (t181:Int)=>
  ld (.int .u32) (⟨b11,3,none⟩:Addr) w_14 fun (t183:Int)=>
  zb6 .u32 t183 t142 fun t185=>
  ld (.int .u32) (⟨b11,4,none⟩:Addr) w_14 fun (t187:Int)=>
  ld (.int .u32) (⟨b11,5,none⟩:Addr) w_14 fun (t189:Int)=>
  ld (.int .u32) (⟨b11,6,none⟩:Addr) w_14 fun (t191:Int)=>
  zbc P (Instr.build vw #[(0,(Value.int .u32 t175)),(1,(Value.int .u32 t177)),(2,(Value.int .u32 t179)),(3,(Value.int .u32 t181)),(4,(Value.int .u32 t185)),(5,(Value.int .u32 t187)),(6,(Value.int .u32 t189)),(7,(Value.int .u32 t191))]) .any w_14 fun (t192:Value)=>
  zcj P (storeVar vw (⟨b11,0,none⟩:Addr) t192) w_14 fun w_15=>
  zb6 .i64 s_2 1 fun t193=>
  k_2 t193 w_15) (
  za7 Int (fun s_3 w_16 k_3=>
  xq (decide (s_3 < 8)) (
  zbs w_16 fun w_17=>
  zn hv fun p_1=>
  ixR p_1 8 1 s_3 fun t201=>
  ixR (⟨b11,0,none⟩:Addr) 8 1 s_3 fun t204=>
  zn hv fun p_2=>
  ld (.int .u32) t201 w_17 fun (t202:Int)=>
  ld (.int .u32) t204 w_17 fun (t205:Int)=>
  zb6 .u32 t202 t205 fun t206=>
  ixR p_2 8 1 s_3 fun t209=>
  stC t209 (Value.int .u32 t206) w_17 fun w_18=>
  zb6 .i64 s_3 1 fun t210=>
  k_3 t210 w_18) (
  R (.returned (Value.tuple #[])) w_16)) 0 w_11)) 0 w_10)) 16 w_2)) 0 w_1
theorem z07 (hv:Option Addr) (b:Option Addr) (b_l b_c:Nat) (R:Ending->World->Prop) (w:World):tr P qs ((Tryz.f175.body).getD .skip) zlj (zch 0 [(0,(Value.pointer hv)),(0,(Value.slice b b_l b_c))]) (zck P Tryz.f175.results.toList R) w=zon hv b b_l b_c R w:=by kernel_rfl
theorem z08 {hv:Option Addr}{b:Option Addr}{b_l b_c:Nat}{R:Ending->World->Prop}{w:World}(hT:zon hv b b_l b_c R w):qg P zn9 #[(Value.pointer hv),(Value.slice b b_l b_c)] w R:=
 zx (fn:=Tryz.f175) (c:=(Tryz.f175.body).getD .skip) (ann:=zlj) (args:=[(0,(Value.pointer hv)),(0,(Value.slice b b_l b_c))]) (qs:=qs) mixed Tryz.func175 rfl (by kernel_rfl) (by kernel_rfl) z3l ((z07 hv b b_l b_c R w).symm▸hT)
def zjk:Ann:=(.blk (.loop [] (.seq (.seq .leaf (.cond .leaf .leaf)) (.blk (.seq .leaf (.seq (.seq .leaf (.cond .leaf .leaf)) .leaf))))))
theorem zyc:okC P qs Tryz.f188.ntmps ((Tryz.f188.body).getD .skip) zjk=true:=by kernel_rfl
def zlc (yield:Value) (c0:Option Addr) (R:Ending->World->Prop) (w:World):Prop:=
  za7 Unit (fun _ w_1 k=>
  zn c0 fun p=>
  ld .str p w_1 fun (t6:ByteArray)=>
  xq (!(t6.toList==(ByteArray.mk #[]).toList)) (
  zn c0 fun p_1=>
  ld .str p_1 w_1 fun (t9:ByteArray)=>
  xg P zqq #[(Value.string t9),(Value.string (ByteArray.mk #[47]))] [.str,.str,.bool] true w_1 fun (t10:(ByteArray×ByteArray×Bool)) w_2=>
  zuk P yield #[(Value.string t10.1)] [.bool] false w_2 fun (t16:Bool) w_3=>
  xq (!t16) (
  R (.returned (Value.tuple #[])) w_3) (
  zn c0 fun p_2=>
  stC p_2 (Value.string t10.2.1) w_3 fun w_4=>
  k () w_4)) (
  R (.returned (Value.tuple #[])) w_1)) () w
theorem zx4 (yield:Value) (c0:Option Addr) (R:Ending->World->Prop) (w:World):tr P qs ((Tryz.f188.body).getD .skip) zjk (zch 0 [(1,yield),(0,(Value.pointer c0))]) (zck P Tryz.f188.results.toList R) w=zlc yield c0 R w:=by kernel_rfl
theorem zxq {yield:Value}{c0:Option Addr}{R:Ending->World->Prop}{w:World}(hT:zlc yield c0 R w):qg P zhx #[yield,(Value.pointer c0)] w R:=
 zx (fn:=Tryz.f188) (c:=(Tryz.f188.body).getD .skip) (ann:=zjk) (args:=[(1,yield),(0,(Value.pointer c0))]) (qs:=qs) mixed Tryz.func188 rfl (by kernel_rfl) (by kernel_rfl) zyc ((zx4 yield c0 R w).symm▸hT)
def zms:Ann:=(.seq .leaf (.seq (.seq .leaf (.blk (.loop [(7,.int .i64)] (.seq .leaf (.seq (.cond .leaf .leaf) (.seq (.blk (.seq .leaf (.seq .leaf (.cond (.seq .leaf .leaf) .leaf)))) .leaf)))))) (.seq (.seq .leaf (.cond (.seq .leaf .leaf) .leaf)) (.seq .leaf .leaf))))
theorem z5a:okC P qs Tryz.f207.ntmps ((Tryz.f207.body).getD .skip) zms=true:=by kernel_rfl
def zqz (names:Option Addr) (names_l names_c:Nat) (R:Ending->World->Prop) (w:World):Prop:=
  za7 Int (fun s w_1 k=>
  xq (decide (s < (names_l:Int))) (
  ixS names names_l 1 s fun t9=>
  ld .str t9 w_1 fun (t10:ByteArray)=>
  xg P zsj #[(Value.string t10)] [.bool] false w_1 fun (t12:Bool) w_2=>
  xq (!t12) (
  R (.returned (Value.int .i64 41)) w_2) (
  zb6 .i64 s 1 fun t14=>
  k t14 w_2)) (
  xq (decide ((names_l:Int) > 8)) (
  R (.returned (Value.int .i64 42)) w_1) (
  R (.returned (Value.int .i64 0)) w_1))) 0 w
theorem z4d (names:Option Addr) (names_l names_c:Nat) (R:Ending->World->Prop) (w:World):tr P qs ((Tryz.f207.body).getD .skip) zms (zch 0 [(0,(Value.slice names names_l names_c))]) (zck P Tryz.f207.results.toList R) w=zqz names names_l names_c R w:=by kernel_rfl
theorem z4h {names:Option Addr}{names_l names_c:Nat}{R:Ending->World->Prop}{w:World}(hT:zqz names names_l names_c R w):qg P zqh #[(Value.slice names names_l names_c)] w R:=
 zx (fn:=Tryz.f207) (c:=(Tryz.f207.body).getD .skip) (ann:=zms) (args:=[(0,(Value.slice names names_l names_c))]) (qs:=qs) mixed Tryz.func207 rfl (by kernel_rfl) (by kernel_rfl) z5a ((z4d names names_l names_c R w).symm▸hT)
def zop:Ann:=(.seq .leaf (.join [] (.seq .leaf (.cond (.seq .leaf .leaf) .leaf)) (.seq (.seq .leaf (.blk (.loop [(21,.int .i64)] (.seq .leaf (.seq (.cond .leaf .leaf) (.seq (.blk (.seq .leaf (.seq .leaf (.cond (.seq .leaf .leaf) .leaf)))) .leaf)))))) (.seq .leaf .leaf))))
theorem z9r:okC P qs Tryz.f224.ntmps ((Tryz.f224.body).getD .skip) zop=true:=by kernel_rfl
def zs3 (s:ByteArray) (R:Ending->World->Prop) (w:World):Prop:=
  ku Unit (fun k=>
  xq (s.toList==(ByteArray.mk #[]).toList) (
  R (.returned (Value.bool false)) w) (
  xq (decide ((s.size:Int) > 16)) (
  R (.returned (Value.bool false)) w) (
  xq (s.toList==(ByteArray.mk #[46]).toList) (
  R (.returned (Value.bool false)) w) (
  xq (s.toList==(ByteArray.mk #[46,46]).toList) (
  R (.returned (Value.bool false)) w) (
  k () w))))) (fun _ w_1=>
  za7 Int (fun s_2 w_2 k_1=>
  xq (decide (s_2 < (s.size:Int))) (
  z3t s s_2 fun t26=>
  zjj P zlx #[(Value.int .u8 t26)] [.bool] false w_2 fun (t27:Bool)=>
  xq (!t27) (
  R (.returned (Value.bool false)) w_2) (
  zb6 .i64 s_2 1 fun t29=>
  k_1 t29 w_2)) (
  R (.returned (Value.bool true)) w_2)) 0 w_1)
theorem z9p (s:ByteArray) (R:Ending->World->Prop) (w:World):tr P qs ((Tryz.f224.body).getD .skip) zop (zch 0 [(0,(Value.string s))]) (zck P Tryz.f224.results.toList R) w=zs3 s R w:=by kernel_rfl
theorem z7l {s:ByteArray}{R:Ending->World->Prop}{w:World}(hT:zs3 s R w):qg P zsj #[(Value.string s)] w R:=
 zx (fn:=Tryz.f224) (c:=(Tryz.f224.body).getD .skip) (ann:=zop) (args:=[(0,(Value.string s))]) (qs:=qs) mixed Tryz.func224 rfl (by kernel_rfl) (by kernel_rfl) z9r ((z9p s R w).symm▸hT)
set_option maxRecDepth 100000
def zr6:Ann:=(.seq .leaf (.seq .leaf .leaf))
theorem qdt:okC P qs Tryz.f12.ntmps ((Tryz.f12.body).getD .skip) zr6=true:=by kernel_rfl
def zxl (quota:Int) (R:Ending->World->Prop) (w:World):Prop:=
  zbc P (Builtin.max_ #[zco,zco] zco #[(Value.int .i64 quota),(Value.int .i64 0)]) (.int .i64) w fun (t4:Int)=>
  za1 P (Instr.makeMap zaa none) .map w fun (t5:(Option Nat)) w_1=>
  zbc P (Instr.build zil #[(0,(Value.int .i64 t4)),(2,(Value.map t5))]) .any w_1 fun (t6:Value)=>
  zby (Value.cells t6) zil w_1 fun b7 w_2=>
  R (.returned (Value.pointer (some (⟨b7,0,none⟩:Addr)))) w_2
theorem qec (quota:Int) (R:Ending->World->Prop) (w:World):tr P qs ((Tryz.f12.body).getD .skip) zr6 (zch 0 [(0,(Value.int .i64 quota))]) (zck P Tryz.f12.results.toList R) w=zxl quota R w:=by kernel_rfl
theorem qdq {quota:Int}{R:Ending->World->Prop}{w:World}(hT:zxl quota R w):qg P zo2 #[(Value.int .i64 quota)] w R:=
 zx (fn:=Tryz.f12) (c:=(Tryz.f12.body).getD .skip) (ann:=zr6) (args:=[(0,(Value.int .i64 quota))]) (qs:=qs) mixed Tryz.func12 rfl (by kernel_rfl) (by kernel_rfl) qdt ((qec quota R w).symm▸hT)
def zhi:Ann:=(.seq .leaf (.seq (.seq .leaf (.cond (.seq .leaf .leaf) .leaf)) (.seq .leaf .leaf)))
theorem zvi:okC P qs Tryz.f18.ntmps ((Tryz.f18.body).getD .skip) zhi=true:=by kernel_rfl
def zi5 (s:Option Addr) (R:Ending->World->Prop) (w:World):Prop:=
  xq (Option.isNone s) (
  R (.returned (Value.int .i64 0)) w) (
  zn s fun p=>
  ld (.int .i64) (Addr.add p 1) w fun (t8:Int)=>
  R (.returned (Value.int .i64 t8)) w)
theorem zva (s:Option Addr) (R:Ending->World->Prop) (w:World):tr P qs ((Tryz.f18.body).getD .skip) zhi (zch 0 [(0,(Value.pointer s))]) (zck P Tryz.f18.results.toList R) w=zi5 s R w:=by kernel_rfl
theorem zu6 {s:Option Addr}{R:Ending->World->Prop}{w:World}(hT:zi5 s R w):qg P zno #[(Value.pointer s)] w R:=
 zx (fn:=Tryz.f18) (c:=(Tryz.f18.body).getD .skip) (ann:=zhi) (args:=[(0,(Value.pointer s))]) (qs:=qs) mixed Tryz.func18 rfl (by kernel_rfl) (by kernel_rfl) zvi ((zva s R w).symm▸hT)
def zja:Ann:=(.seq .leaf (.seq (.seq .leaf (.seq .leaf (.cond (.seq .leaf .leaf) .leaf))) (.seq .leaf .leaf)))
theorem zyk:okC P qs Tryz.f30.ntmps ((Tryz.f30.body).getD .skip) zja=true:=by kernel_rfl
def zkx (s:Option Addr) (b:Option Addr) (b_l b_c:Nat) (R:Ending->World->Prop) (w:World):Prop:=
  zby (zc P zf) zf w fun b4 w_1=>
  za1 P (Instr.buildSlice jl 1 #[(0,(Value.slice b b_l b_c))]) .slc w_1 fun (t9:(Option Addr×Nat×Nat)) w_2=>
  xg P zfp #[(Value.pointer s),(Value.slice t9.1 t9.2.1 t9.2.2)] [.int .i64] false w_2 fun (t10:Int) w_3=>
  xq (t10 != 0) (
  zbc P (Instr.build zf #[]) .any w_3 fun (t13:Value)=>
  zcj P (storeVar zf (⟨b4,0,none⟩:Addr) t13) w_3 fun w_4=>
  ldA P 32 (⟨b4,0,none⟩:Addr) w_4 fun t4=>
  R (.returned (Value.tuple #[(Value.agg t4),(Value.int .i64 t10)])) w_4) (
  xg P zkk #[(Value.slice b b_l b_c)] [.any] false w_3 fun (t16:Value) w_5=>
  zcj P (storeVar zf (⟨b4,0,none⟩:Addr) t16) w_5 fun w_6=>
  ldA P 32 (⟨b4,0,none⟩:Addr) w_6 fun t4_1=>
  R (.returned (Value.tuple #[(Value.agg t4_1),(Value.int .i64 0)])) w_6)
theorem zx9 (s:Option Addr) (b:Option Addr) (b_l b_c:Nat) (R:Ending->World->Prop) (w:World):tr P qs ((Tryz.f30.body).getD .skip) zja (zch 0 [(0,(Value.pointer s)),(0,(Value.slice b b_l b_c))]) (zck P Tryz.f30.results.toList R) w=zkx s b b_l b_c R w:=by kernel_rfl
theorem zym {s:Option Addr}{b:Option Addr}{b_l b_c:Nat}{R:Ending->World->Prop}{w:World}(hT:zkx s b b_l b_c R w):qg P zh0 #[(Value.pointer s),(Value.slice b b_l b_c)] w R:=
 zx (fn:=Tryz.f30) (c:=(Tryz.f30.body).getD .skip) (ann:=zja) (args:=[(0,(Value.pointer s)),(0,(Value.slice b b_l b_c))]) (qs:=qs) mixed Tryz.func30 rfl (by kernel_rfl) (by kernel_rfl) zyk ((zx9 s b b_l b_c R w).symm▸hT)
def zgr:Ann:=(.seq .leaf (.seq (.seq .leaf (.cond (.seq .leaf .leaf) .leaf)) (.seq .leaf (.seq .leaf (.seq (.seq .leaf (.blk (.loop [(6,.int .i64),(23,.int .i64)] (.seq .leaf (.seq (.cond .leaf .leaf) (.seq (.jblk [(6,.int .i64)] (.seq .leaf (.seq (.seq .leaf (.cond (.seq .leaf .leaf) .leaf)) (.seq .leaf (.seq (.seq .leaf (.seq .leaf (.cond .leaf .leaf))) (.seq (.tree (.op 0 [] (.op 2 [] (.op 1 [] (.op 3 [1] (.op 4 [] .done)))))) (.seq (.tree (.op 0 [] (.op 1 [] (.op 2 [] (.op 3 [] (.op 4 [] (.op 5 [] (.op 6 [] (.op 7 [] (.op 8 [] (.op 9 [] (.op 10 [] .done)))))))))))) (.seq .leaf (.cond .leaf .leaf))))))))) .leaf)))))) (.seq (.seq (.tree (.op 0 [] (.op 1 [] (.op 2 [] (.op 3 [] (.op 5 [] (.op 6 [] (.op 7 [] (.op 4 [] (.op 8 [] (.op 9 [] (.op 10 [] .done)))))))))))) (.cond (.seq .leaf .leaf) .leaf)) (.seq (.seq .leaf (.blk (.loop [] (.seq .leaf (.seq (.cond .leaf .leaf) (.jblk [] (.seq .leaf (.seq (.tree (.op 0 [] (.op 1 [] (.op 2 [] (.op 3 [] (.op 4 [] (.op 5 [] (.op 6 [] (.op 7 [] (.op 8 [] (.op 9 [] (.op 10 [] .done)))))))))))) (.join [] (.seq (.tree (.op 0 [] (.op 1 [] (.op 2 [] (.op 4 [] (.op 3 [4] (.op 5 [] (.op 6 [] .done)))))))) (.cond .leaf .leaf)) (.seq .leaf (.tree (.op 0 [] (.op 1 [] (.op 2 [] (.op 5 [] (.op 3 [] (.op 4 [] (.op 6 [] .done)))))))))))))))))) (.seq .leaf .leaf))))))))
theorem ztz:okC P qs Tryz.f60.ntmps ((Tryz.f60.body).getD .skip) zgr=true:=by kernel_rfl
def zh8 (s:Option Addr) (list:Option Addr) (list_l list_c:Nat) (R:Ending->World->Prop) (w:World):Prop:=
  xq (Option.isNone s) (
  R (.returned (Value.int .i64 7)) w) (
  za1 P (Instr.makeMap zaa none) .map w fun (t20:(Option Nat)) w_1=>
  za7 (Int×Int) (fun s_1 w_2 k=>
  xq (decide (s_1.2 < (list_l:Int))) (
  ku Int (fun k_1=>
  ixS list list_l 1 s_1.2 fun t25=>
  ld .slc t25 w_2 fun (t26:(Option Addr×Nat×Nat))=>
  xq (decide ((t26.2.1:Int) > 4096)) (
  R (.returned (Value.int .i64 2)) w_2) (
  xg P zkk #[(Value.slice t26.1 t26.2.1 t26.2.2)] [.any] false w_2 fun (t31:Value) w_3=>
  zby (zc P zf) zf w_3 fun b9 w_4=>
  zcj P (storeVar zf (⟨b9,0,none⟩:Addr) t31) w_4 fun w_5=>
  ldA P 32 (⟨b9,0,none⟩:Addr) w_5 fun t34=>
  qil P (Instr.lookup zaa (Value.map t20) (Value.agg t34) true) [.slc,.bool] w_5 fun (t35:((Option Addr×Nat×Nat)×Bool))=>
  xq t35.2 (
  k_1 s_1.1 w_5) (
  zbs w_5 fun w_6=>
  ldA P 32 (⟨b9,0,none⟩:Addr) w_6 fun t40=>
  xg P zc2 #[(Value.slice t26.1 t26.2.1 t26.2.2)] [.slc] false w_6 fun (t42:(Option Addr×Nat×Nat)) w_7=>
  ((ldA P 32 (⟨b9,0,none⟩:Addr) w_7 fun t40_1=>
  (Value.agg t40_1)=(Value.agg t40)) /\
  zcj P (Instr.mapUpdate zaa (Value.map t20) (Value.agg t40) (Value.slice t42.1 t42.2.1 t42.2.2)) w_7 fun w_8=>
  zbs w_8 fun w_9=>
  zn s fun p=>
  ld .map (Addr.add p 2) w_9 fun (t47:(Option Nat))=>
  ldA P 32 (⟨b9,0,none⟩:Addr) w_9 fun t48=>
  qil P (Instr.lookup zaa (Value.map t47) (Value.agg t48) true) [.slc,.bool] w_9 fun (t49:((Option Addr×Nat×Nat)×Bool))=>
  xq (!t49.2) (
  zb6 .i64 s_1.1 (t26.2.1:Int) fun t57=>
  k_1 t57 w_9) (
  k_1 s_1.1 w_9))))) (fun s_2 w_10=>
  zb6 .i64 s_1.2 1 fun t58=>
  k (s_2,t58) w_10)) (
  zbs w_2 fun w_11=>
  zn s fun p_1=>
  zn s fun p_2=>
  ld (.int .i64) p_1 w_11 fun (t63:Int)=>
  ld (.int .i64) (Addr.add p_2 1) w_11 fun (t67:Int)=>
  zqa .i64 t63 t67 fun t68=>
  xq (decide (s_1.1 > t68)) (
  R (.returned (Value.int .i64 3)) w_11) (
  za1 P (Instr.range zaa (Value.map t20)) .ptr w_11 fun (t71:(Option Addr)) w_12=>
  za7 Unit (fun _ w_13 k_2=>
  za1 P (Instr.next (Value.pointer t71) false zep) .any w_13 fun (t72:Value) w_14=>
  exV t72 0 .bool fun (t73:Bool)=>
  xq t73 (
  ku Unit (fun k_3=>
  zbc P (Instr.entry (Value.pointer t71)) .any w_14 fun (t74:Value)=>
  exV t74 0 .any fun (t75:Value)=>
  exV t74 1 .slc fun (t76:(Option Addr×Nat×Nat))=>
  zby (zc P zf) zf w_14 fun b14 w_15=>
  zcj P (storeVar zf (⟨b14,0,none⟩:Addr) t75) w_15 fun w_16=>
  zbs w_16 fun w_17=>
  zn s fun p_3=>
  ld .map (Addr.add p_3 2) w_17 fun (t81:(Option Nat))=>
  ldA P 32 (⟨b14,0,none⟩:Addr) w_17 fun t82=>
  qil P (Instr.lookup zaa (Value.map t81) (Value.agg t82) true) [.slc,.bool] w_17 fun (t83:((Option Addr×Nat×Nat)×Bool))=>
  ku Unit (fun k_4=>
  zbs w_17 fun w_18=>
  xq t83.2 (
  ldA P 32 (⟨b14,0,none⟩:Addr) w_18 fun t90=>
  xg P zkk #[(Value.slice t83.1.1 t83.1.2.1 t83.1.2.2)] [.any] false w_18 fun (t89:Value) w_19=>
  ((ldA P 32 (⟨b14,0,none⟩:Addr) w_19 fun t90_1=>
  (Value.agg t90_1)=(Value.agg t90)) /\
  zbc P (eqM .eql zf (.tmp 89) (.tmp 90) t89 (Value.agg t90)) .bool w_19 fun (t91:Bool)=>
  xq t91 (
  k_3 () w_19) (
  k_4 () w_19))) (
  ((undef=undef) /\
  k_4 () w_18))) (fun _ w_20=>
  zn s fun p_4=>
  ld (.int .i64) (Addr.add p_4 1) w_20 fun (t96:Int)=>
  zqa .i64 (t76.2.1:Int) (t83.1.2.1:Int) fun t101=>
  zb6 .i64 t96 t101 fun t102=>
  zn s fun p_5=>
  stC (Addr.add p_5 1) (Value.int .i64 t102) w_20 fun w_21=>
  zbs w_21 fun w_22=>
  zn s fun p_6=>
  ld .map (Addr.add p_6 2) w_22 fun (t108:(Option Nat))=>
  ldA P 32 (⟨b14,0,none⟩:Addr) w_22 fun t109=>
  zcj P (Instr.mapUpdate zaa (Value.map t108) (Value.agg t109) (Value.slice t76.1 t76.2.1 t76.2.2)) w_22 fun w_23=>
  k_3 () w_23)) (fun _ w_24=>
  k_2 () w_24)) (
  R (.returned (Value.int .i64 0)) w_14)) () w_12))) (0,0) w_1)
theorem ztv (s:Option Addr) (list:Option Addr) (list_l list_c:Nat) (R:Ending->World->Prop) (w:World):tr P qs ((Tryz.f60.body).getD .skip) zgr (zch 0 [(0,(Value.pointer s)),(0,(Value.slice list list_l list_c))]) (zck P Tryz.f60.results.toList R) w=zh8 s list list_l list_c R w:=by kernel_rfl
theorem ztx {s:Option Addr}{list:Option Addr}{list_l list_c:Nat}{R:Ending->World->Prop}{w:World}(hT:zh8 s list list_l list_c R w):qg P zfp #[(Value.pointer s),(Value.slice list list_l list_c)] w R:=
 zx (fn:=Tryz.f60) (c:=(Tryz.f60.body).getD .skip) (ann:=zgr) (args:=[(0,(Value.pointer s)),(0,(Value.slice list list_l list_c))]) (qs:=qs) mixed Tryz.func60 rfl (by kernel_rfl) (by kernel_rfl) ztz ((ztv s list list_l list_c R w).symm▸hT)
def ziw:Ann:=(.seq .leaf (.seq (.seq .leaf (.cond (.seq .leaf .leaf) .leaf)) (.seq (.tree (.op 0 [] (.op 1 [] (.op 2 [] (.op 3 [] (.op 4 [] (.op 5 [] (.op 6 [] (.op 7 [] (.op 8 [] (.op 9 [] (.op 10 [] .done)))))))))))) (.seq (.seq .leaf (.cond (.seq .leaf .leaf) .leaf)) (.seq (.seq (.tree (.op 0 [] (.op 2 [] (.op 1 [2] (.op 3 [] .done))))) (.cond (.seq .leaf .leaf) .leaf)) (.seq .leaf .leaf))))))
theorem zx1:okC P qs Tryz.f69.ntmps ((Tryz.f69.body).getD .skip) ziw=true:=by kernel_rfl
def zk2 (s:Option Addr) (d:Value) (R:Ending->World->Prop) (w:World):Prop:=
  zby (Value.cells d) zf w fun b3 w_1=>
  xq (Option.isNone s) (
  R (.returned (Value.tuple #[(Value.slice none 0 0),(Value.int .i64 7)])) w_1) (
  zbs w_1 fun w_2=>
  zn s fun p=>
  ld .map (Addr.add p 2) w_2 fun (t14:(Option Nat))=>
  ldA P 32 (⟨b3,0,none⟩:Addr) w_2 fun t15=>
  qil P (Instr.lookup zaa (Value.map t14) (Value.agg t15) true) [.slc,.bool] w_2 fun (t16:((Option Addr×Nat×Nat)×Bool))=>
  xq (!t16.2) (
  R (.returned (Value.tuple #[(Value.slice none 0 0),(Value.int .i64 50)])) w_2) (
  zbs w_2 fun w_3=>
  ldA P 32 (⟨b3,0,none⟩:Addr) w_3 fun t23=>
  xg P zkk #[(Value.slice t16.1.1 t16.1.2.1 t16.1.2.2)] [.any] false w_3 fun (t22:Value) w_4=>
  ((ldA P 32 (⟨b3,0,none⟩:Addr) w_4 fun t23_1=>
  (Value.agg t23_1)=(Value.agg t23)) /\
  zbc P (eqM .neq zf (.tmp 22) (.tmp 23) t22 (Value.agg t23)) .bool w_4 fun (t24:Bool)=>
  xq t24 (
  R (.returned (Value.tuple #[(Value.slice none 0 0),(Value.int .i64 51)])) w_4) (
  xg P zc2 #[(Value.slice t16.1.1 t16.1.2.1 t16.1.2.2)] [.slc] false w_4 fun (t26:(Option Addr×Nat×Nat)) w_5=>
  R (.returned (Value.tuple #[(Value.slice t26.1 t26.2.1 t26.2.2),(Value.int .i64 0)])) w_5))))
theorem zxn (s:Option Addr) (d:Value) (R:Ending->World->Prop) (w:World):tr P qs ((Tryz.f69.body).getD .skip) ziw (zch 0 [(0,(Value.pointer s)),(1,d)]) (zck P Tryz.f69.results.toList R) w=zk2 s d R w:=by kernel_rfl
theorem zyb {s:Option Addr}{d:Value}{R:Ending->World->Prop}{w:World}(hT:zk2 s d R w):qg P zei #[(Value.pointer s),d] w R:=
 zx (fn:=Tryz.f69) (c:=(Tryz.f69.body).getD .skip) (ann:=ziw) (args:=[(0,(Value.pointer s)),(1,d)]) (qs:=qs) mixed Tryz.func69 rfl (by kernel_rfl) (by kernel_rfl) zx1 ((zxn s d R w).symm▸hT)
def zif:Ann:=(.seq .leaf (.seq (.seq .leaf (.cond (.seq .leaf .leaf) .leaf)) (.seq (.tree (.op 0 [] (.op 1 [] (.op 2 [] (.op 3 [] (.op 4 [] (.op 5 [] (.op 6 [] (.op 7 [] (.op 8 [] (.op 9 [] (.op 10 [] .done)))))))))))) (.seq (.seq .leaf (.cond (.seq .leaf .leaf) .leaf)) (.seq .leaf (.seq (.tree (.op 0 [] (.op 1 [] (.op 2 [] (.op 3 [] (.op 4 [] (.op 5 [] .done))))))) (.seq .leaf .leaf)))))))
theorem zxc:okC P qs Tryz.f74.ntmps ((Tryz.f74.body).getD .skip) zif=true:=by kernel_rfl
def zjv (s:Option Addr) (d:Value) (R:Ending->World->Prop) (w:World):Prop:=
  zby (Value.cells d) zf w fun b3 w_1=>
  xq (Option.isNone s) (
  R (.returned (Value.int .i64 7)) w_1) (
  zbs w_1 fun w_2=>
  zn s fun p=>
  ld .map (Addr.add p 2) w_2 fun (t13:(Option Nat))=>
  ldA P 32 (⟨b3,0,none⟩:Addr) w_2 fun t14=>
  qil P (Instr.lookup zaa (Value.map t13) (Value.agg t14) true) [.slc,.bool] w_2 fun (t15:((Option Addr×Nat×Nat)×Bool))=>
  xq (!t15.2) (
  R (.returned (Value.int .i64 50)) w_2) (
  zn s fun p_1=>
  ld (.int .i64) (Addr.add p_1 1) w_2 fun (t23:Int)=>
  zqa .i64 t23 (t15.1.2.1:Int) fun t26=>
  zn s fun p_2=>
  stC (Addr.add p_2 1) (Value.int .i64 t26) w_2 fun w_3=>
  zbs w_3 fun w_4=>
  zn s fun p_3=>
  ld .map (Addr.add p_3 2) w_4 fun (t32:(Option Nat))=>
  ldA P 32 (⟨b3,0,none⟩:Addr) w_4 fun t33=>
  za1 P (Builtin.delete_ #[zaa,zf] zep #[(Value.map t32),(Value.agg t33)]) .any w_4 fun (_:Value) w_5=>
  R (.returned (Value.int .i64 0)) w_5))
theorem zxa (s:Option Addr) (d:Value) (R:Ending->World->Prop) (w:World):tr P qs ((Tryz.f74.body).getD .skip) zif (zch 0 [(0,(Value.pointer s)),(1,d)]) (zck P Tryz.f74.results.toList R) w=zjv s d R w:=by kernel_rfl
theorem zvz {s:Option Addr}{d:Value}{R:Ending->World->Prop}{w:World}(hT:zjv s d R w):qg P zj7 #[(Value.pointer s),d] w R:=
 zx (fn:=Tryz.f74) (c:=(Tryz.f74.body).getD .skip) (ann:=zif) (args:=[(0,(Value.pointer s)),(1,d)]) (qs:=qs) mixed Tryz.func74 rfl (by kernel_rfl) (by kernel_rfl) zxc ((zxa s d R w).symm▸hT)
def zhf:Ann:=(.seq .leaf (.seq (.seq .leaf (.cond (.seq .leaf .leaf) .leaf)) (.seq (.tree (.op 0 [] (.op 1 [] (.op 2 [] (.op 3 [] (.op 4 [] (.op 5 [] (.op 6 [] (.op 7 [] (.op 8 [] (.op 9 [] (.op 10 [] .done)))))))))))) (.seq (.seq .leaf (.cond (.seq .leaf .leaf) .leaf)) (.join [] (.seq .leaf (.cond (.seq .leaf .leaf) .leaf)) (.seq .leaf (.seq .leaf .leaf)))))))
theorem zvs:okC P qs Tryz.f76.ntmps ((Tryz.f76.body).getD .skip) zhf=true:=by kernel_rfl
def zi2 (s:Option Addr) (d:Value) (atv:Int) (turn:Int) (R:Ending->World->Prop) (w:World):Prop:=
  zby (Value.cells d) zf w fun b5 w_1=>
  xq (Option.isNone s) (
  R (.returned (Value.int .i64 7)) w_1) (
  zbs w_1 fun w_2=>
  zn s fun p=>
  ld .map (Addr.add p 2) w_2 fun (t17:(Option Nat))=>
  ldA P 32 (⟨b5,0,none⟩:Addr) w_2 fun t18=>
  qil P (Instr.lookup zaa (Value.map t17) (Value.agg t18) true) [.slc,.bool] w_2 fun (t19:((Option Addr×Nat×Nat)×Bool))=>
  xq (!t19.2) (
  R (.returned (Value.int .i64 50)) w_2) (
  ku Unit (fun k=>
  xq (decide (atv < 0)) (
  R (.returned (Value.int .i64 1)) w_2) (
  xq (decide (atv>=(t19.1.2.1:Int))) (
  R (.returned (Value.int .i64 1)) w_2) (
  xq (turn==0) (
  R (.returned (Value.int .i64 1)) w_2) (
  k () w_2)))) (fun _ w_3=>
  ixS t19.1.1 t19.1.2.1 1 atv fun t38=>
  ld (.int .u8) t38 w_3 fun (t39:Int)=>
  zt2 .u8 t39 turn fun t41=>
  ixS t19.1.1 t19.1.2.1 1 atv fun t42=>
  stC t42 (Value.int .u8 t41) w_3 fun w_4=>
  R (.returned (Value.int .i64 0)) w_4)))
theorem zvg (s:Option Addr) (d:Value) (atv:Int) (turn:Int) (R:Ending->World->Prop) (w:World):tr P qs ((Tryz.f76.body).getD .skip) zhf (zch 0 [(0,(Value.pointer s)),(1,d),(0,(Value.int .i64 atv)),(0,(Value.int .u8 turn))]) (zck P Tryz.f76.results.toList R) w=zi2 s d atv turn R w:=by kernel_rfl
theorem zu3 {s:Option Addr}{d:Value}{atv:Int}{turn:Int}{R:Ending->World->Prop}{w:World}(hT:zi2 s d atv turn R w):qg P zi8 #[(Value.pointer s),d,(Value.int .i64 atv),(Value.int .u8 turn)] w R:=
 zx (fn:=Tryz.f76) (c:=(Tryz.f76.body).getD .skip) (ann:=zhf) (args:=[(0,(Value.pointer s)),(1,d),(0,(Value.int .i64 atv)),(0,(Value.int .u8 turn))]) (qs:=qs) mixed Tryz.func76 rfl (by kernel_rfl) (by kernel_rfl) zvs ((zvg s d atv turn R w).symm▸hT)
def zbm:Ann:=(.seq .leaf (.seq .leaf .leaf))
theorem zf9:okC P qs Tryz.f92.ntmps ((Tryz.f92.body).getD .skip) zbm=true:=by kernel_rfl
def zbu (s:Option Addr) (s_l s_c:Nat) (v:Value) (R:Ending->World->Prop) (w:World):Prop:=
  zby (Value.cells v) zf w fun b3 w_1=>
  ldA P 32 (⟨b3,0,none⟩:Addr) w_1 fun t6=>
  xg P zb8 #[(Value.slice s s_l s_c),(Value.agg t6)] [.int .i64] false w_1 fun (t7:Int) w_2=>
  R (.returned (Value.bool (decide (t7>=0)))) w_2
theorem zf7 (s:Option Addr) (s_l s_c:Nat) (v:Value) (R:Ending->World->Prop) (w:World):tr P qs ((Tryz.f92.body).getD .skip) zbm (zch 0 [(0,(Value.slice s s_l s_c)),(1,v)]) (zck P Tryz.f92.results.toList R) w=zbu s s_l s_c v R w:=by kernel_rfl
theorem zgb {s:Option Addr}{s_l s_c:Nat}{v:Value}{R:Ending->World->Prop}{w:World}(hT:zbu s s_l s_c v R w):qg P zbw #[(Value.slice s s_l s_c),v] w R:=
 zx (fn:=Tryz.f92) (c:=(Tryz.f92.body).getD .skip) (ann:=zbm) (args:=[(0,(Value.slice s s_l s_c)),(1,v)]) (qs:=qs) mixed Tryz.func92 rfl (by kernel_rfl) (by kernel_rfl) zf9 ((zf7 s s_l s_c v R w).symm▸hT)
def zdr:Ann:=(.seq .leaf (.seq (.seq .leaf (.cond (.seq .leaf .leaf) .leaf)) (.seq .leaf .leaf)))
theorem zmj:okC P qs Tryz.f115.ntmps ((Tryz.f115.body).getD .skip) zdr=true:=by kernel_rfl
def zeg (s:Option Addr) (s_l s_c:Nat) (R:Ending->World->Prop) (w:World):Prop:=
  xq (Option.isNone s) (
  R (.returned (Value.slice none 0 0)) w) (
  za1 P (Instr.buildSlice zi 0 #[]) .slc w fun (t5:(Option Addr×Nat×Nat)) w_1=>
  za1 P (Builtin.append_ #[zi,zi] zi #[(Value.slice t5.1 t5.2.1 t5.2.2),(Value.slice s s_l s_c)]) .slc w_1 fun (t7:(Option Addr×Nat×Nat)) w_2=>
  R (.returned (Value.slice t7.1 t7.2.1 t7.2.2)) w_2)
theorem zm5 (s:Option Addr) (s_l s_c:Nat) (R:Ending->World->Prop) (w:World):tr P qs ((Tryz.f115.body).getD .skip) zdr (zch 0 [(0,(Value.slice s s_l s_c))]) (zck P Tryz.f115.results.toList R) w=zeg s s_l s_c R w:=by kernel_rfl
theorem zl4 {s:Option Addr}{s_l s_c:Nat}{R:Ending->World->Prop}{w:World}(hT:zeg s s_l s_c R w):qg P zc2 #[(Value.slice s s_l s_c)] w R:=
 zx (fn:=Tryz.f115) (c:=(Tryz.f115.body).getD .skip) (ann:=zdr) (args:=[(0,(Value.slice s s_l s_c))]) (qs:=qs) mixed Tryz.func115 rfl (by kernel_rfl) (by kernel_rfl) zmj ((zm5 s s_l s_c R w).symm▸hT)
def zb3:Ann:=(.seq .leaf (.seq (.seq .leaf (.blk (.loop [(8,.int .i64)] (.seq .leaf (.seq (.cond .leaf .leaf) (.seq (.blk (.seq .leaf (.seq (.tree (.op 1 [] (.op 2 [] (.op 3 [] (.op 0 [] (.op 4 [] (.op 5 [] .done))))))) (.cond (.seq .leaf .leaf) .leaf)))) .leaf)))))) (.seq .leaf .leaf)))
theorem zg1:okC P qs Tryz.f147.ntmps ((Tryz.f147.body).getD .skip) zb3=true:=by kernel_rfl
def zcb (s:Option Addr) (s_l s_c:Nat) (v:Value) (R:Ending->World->Prop) (w:World):Prop:=
  zby (Value.cells v) zf w fun b3 w_1=>
  za7 Int (fun s_1 w_2 k=>
  xq (decide (s_1 < (s_l:Int))) (
  zbs w_2 fun w_3=>
  ixS s s_l 32 s_1 fun t14=>
  ldA P 32 (⟨b3,0,none⟩:Addr) w_3 fun t11=>
  ldA P 32 t14 w_3 fun t15=>
  zbc P (eqM .eql zf (.tmp 11) (.tmp 15) (Value.agg t11) (Value.agg t15)) .bool w_3 fun (t16:Bool)=>
  xq t16 (
  R (.returned (Value.int .i64 s_1)) w_3) (
  zb6 .i64 s_1 1 fun t18=>
  k t18 w_3)) (
  R (.returned (Value.int .i64 (-1))) w_2)) 0 w_1
theorem zg6 (s:Option Addr) (s_l s_c:Nat) (v:Value) (R:Ending->World->Prop) (w:World):tr P qs ((Tryz.f147.body).getD .skip) zb3 (zch 0 [(0,(Value.slice s s_l s_c)),(1,v)]) (zck P Tryz.f147.results.toList R) w=zcb s s_l s_c v R w:=by kernel_rfl
theorem zgw {s:Option Addr}{s_l s_c:Nat}{v:Value}{R:Ending->World->Prop}{w:World}(hT:zcb s s_l s_c v R w):qg P zb8 #[(Value.slice s s_l s_c),v] w R:=
 zx (fn:=Tryz.f147) (c:=(Tryz.f147.body).getD .skip) (ann:=zb3) (args:=[(0,(Value.slice s s_l s_c)),(1,v)]) (qs:=qs) mixed Tryz.func147 rfl (by kernel_rfl) (by kernel_rfl) zg1 ((zg6 s s_l s_c v R w).symm▸hT)
def zjq:Ann:=(.seq .leaf (.seq .leaf .leaf))
theorem zzx:okC P qs Tryz.f151.ntmps ((Tryz.f151.body).getD .skip) zjq=true:=by kernel_rfl
def zmw (a:Option Addr) (a_l a_c:Nat) (b:Option Addr) (b_l b_c:Nat) (R:Ending->World->Prop) (w:World):Prop:=
  xg P zhb #[(Value.slice a a_l a_c),(Value.slice b b_l b_c)] [.int .i64] false w fun (t7:Int) w_1=>
  R (.returned (Value.int .i64 t7)) w_1
theorem zzu (a:Option Addr) (a_l a_c:Nat) (b:Option Addr) (b_l b_c:Nat) (R:Ending->World->Prop) (w:World):tr P qs ((Tryz.f151.body).getD .skip) zjq (zch 0 [(0,(Value.slice a a_l a_c)),(0,(Value.slice b b_l b_c))]) (zck P Tryz.f151.results.toList R) w=zmw a a_l a_c b b_l b_c R w:=by kernel_rfl
theorem zz1 {a:Option Addr}{a_l a_c:Nat}{b:Option Addr}{b_l b_c:Nat}{R:Ending->World->Prop}{w:World}(hT:zmw a a_l a_c b b_l b_c R w):qg P zmn #[(Value.slice a a_l a_c),(Value.slice b b_l b_c)] w R:=
 zx (fn:=Tryz.f151) (c:=(Tryz.f151.body).getD .skip) (ann:=zjq) (args:=[(0,(Value.slice a a_l a_c)),(0,(Value.slice b b_l b_c))]) (qs:=qs) mixed Tryz.func151 rfl (by kernel_rfl) (by kernel_rfl) zzx ((zzu a a_l a_c b b_l b_c R w).symm▸hT)
theorem znj {e:Array Value->Sem Value}(he:Extern.find Tryz.f184=some e) (args:Array Value) (w:World):(callFunc zhb args).run P w=((e args).run P w).andThen fun v w1=>.ok (.value v) w1:=
 Go.run_callFunc_extern Tryz.func184 (by kernel_rfl) (by kernel_rfl) (by kernel_rfl) he args w
set_option maxRecDepth 100000
def zvt:Ann:=(.seq .leaf (.seq .leaf .leaf))
theorem qg1:okC P qs Tryz.f13.ntmps ((Tryz.f13.body).getD .skip) zvt=true:=by kernel_rfl
def z2j (quota:Int) (R:Ending->World->Prop) (w:World):Prop:=
  zbc P (Builtin.max_ #[zco,zco] zco #[(Value.int .i64 quota),(Value.int .i64 0)]) (.int .i64) w fun (t4:Int)=>
  zbc P (Instr.build zib #[(0,(Value.int .i64 t4))]) .any w fun (t5:Value)=>
  zby (Value.cells t5) zib w fun b6 w_1=>
  R (.returned (Value.pointer (some (⟨b6,0,none⟩:Addr)))) w_1
theorem qhq (quota:Int) (R:Ending->World->Prop) (w:World):tr P qs ((Tryz.f13.body).getD .skip) zvt (zch 0 [(0,(Value.int .i64 quota))]) (zck P Tryz.f13.results.toList R) w=z2j quota R w:=by kernel_rfl
theorem qie {quota:Int}{R:Ending->World->Prop}{w:World}(hT:z2j quota R w):qg P z2l #[(Value.int .i64 quota)] w R:=
 zx (fn:=Tryz.f13) (c:=(Tryz.f13.body).getD .skip) (ann:=zvt) (args:=[(0,(Value.int .i64 quota))]) (qs:=qs) mixed Tryz.func13 rfl (by kernel_rfl) (by kernel_rfl) qg1 ((qhq quota R w).symm▸hT)
def zie:Ann:=(.seq .leaf (.seq .leaf (.seq (.seq .leaf (.blk (.loop [(3,.int .i64),(4,.int .i64)] (.seq (.seq .leaf (.cond .leaf .leaf)) (.seq (.blk .leaf) .leaf))))) (.seq .leaf .leaf))))
theorem zwq:okC P qs Tryz.f19.ntmps ((Tryz.f19.body).getD .skip) zie=true:=by kernel_rfl
def zj3 (s:Option Addr) (R:Ending->World->Prop) (w:World):Prop:=
  za7 (Int×Int) (fun s_1 w_1 k=>
  zn s fun p=>
  ld .slc (Addr.add p 1) w_1 fun (t9:(Option Addr×Nat×Nat))=>
  xq (decide (s_1.2 < (t9.2.1:Int))) (
  zn s fun p_1=>
  ld .slc (Addr.add p_1 1) w_1 fun (t18:(Option Addr×Nat×Nat))=>
  ixS t18.1 t18.2.1 33 s_1.2 fun t20=>
  ld .slc (Addr.add t20 32) w_1 fun (t22:(Option Addr×Nat×Nat))=>
  zb6 .i64 s_1.1 (t22.2.1:Int) fun t24=>
  zb6 .i64 s_1.2 1 fun t13=>
  k (t24,t13) w_1) (
  R (.returned (Value.int .i64 s_1.1)) w_1)) (0,0) w
theorem zwc (s:Option Addr) (R:Ending->World->Prop) (w:World):tr P qs ((Tryz.f19.body).getD .skip) zie (zch 0 [(0,(Value.pointer s))]) (zck P Tryz.f19.results.toList R) w=zj3 s R w:=by kernel_rfl
theorem zwg {s:Option Addr}{R:Ending->World->Prop}{w:World}(hT:zj3 s R w):qg P zjs #[(Value.pointer s)] w R:=
 zx (fn:=Tryz.f19) (c:=(Tryz.f19.body).getD .skip) (ann:=zie) (args:=[(0,(Value.pointer s))]) (qs:=qs) mixed Tryz.func19 rfl (by kernel_rfl) (by kernel_rfl) zwq ((zwc s R w).symm▸hT)
def zjx:Ann:=(.seq .leaf (.seq .leaf (.seq (.seq .leaf (.cond (.seq .leaf .leaf) .leaf)) (.seq .leaf .leaf))))
theorem zzj:okC P qs Tryz.f31.ntmps ((Tryz.f31.body).getD .skip) zjx=true:=by kernel_rfl
def zl3 (s:Option Addr) (b:Option Addr) (b_l b_c:Nat) (R:Ending->World->Prop) (w:World):Prop:=
  zby (zc P zf) zf w fun b4 w_1=>
  za1 P (Instr.buildSlice jl 1 #[(0,(Value.slice b b_l b_c))]) .slc w_1 fun (t9:(Option Addr×Nat×Nat)) w_2=>
  xg P zi3 #[(Value.pointer s),(Value.slice t9.1 t9.2.1 t9.2.2)] [.int .i64] false w_2 fun (t10:Int) w_3=>
  xq (t10 != 0) (
  zbc P (Instr.build zf #[]) .any w_3 fun (t13:Value)=>
  zcj P (storeVar zf (⟨b4,0,none⟩:Addr) t13) w_3 fun w_4=>
  ldA P 32 (⟨b4,0,none⟩:Addr) w_4 fun t4=>
  R (.returned (Value.tuple #[(Value.agg t4),(Value.int .i64 t10)])) w_4) (
  xg P zmp #[(Value.slice b b_l b_c)] [.any] false w_3 fun (t16:Value) w_5=>
  zcj P (storeVar zf (⟨b4,0,none⟩:Addr) t16) w_5 fun w_6=>
  ldA P 32 (⟨b4,0,none⟩:Addr) w_6 fun t4_1=>
  R (.returned (Value.tuple #[(Value.agg t4_1),(Value.int .i64 0)])) w_6)
theorem zz5 (s:Option Addr) (b:Option Addr) (b_l b_c:Nat) (R:Ending->World->Prop) (w:World):tr P qs ((Tryz.f31.body).getD .skip) zjx (zch 0 [(0,(Value.pointer s)),(0,(Value.slice b b_l b_c))]) (zck P Tryz.f31.results.toList R) w=zl3 s b b_l b_c R w:=by kernel_rfl
theorem zzw {s:Option Addr}{b:Option Addr}{b_l b_c:Nat}{R:Ending->World->Prop}{w:World}(hT:zl3 s b b_l b_c R w):qg P zne #[(Value.pointer s),(Value.slice b b_l b_c)] w R:=
 zx (fn:=Tryz.f31) (c:=(Tryz.f31.body).getD .skip) (ann:=zjx) (args:=[(0,(Value.pointer s)),(0,(Value.slice b b_l b_c))]) (qs:=qs) mixed Tryz.func31 rfl (by kernel_rfl) (by kernel_rfl) zzj ((zz5 s b b_l b_c R w).symm▸hT)
def zj2:Ann:=(.seq .leaf (.seq .leaf (.seq (.seq .leaf (.cond (.seq .leaf .leaf) .leaf)) (.seq (.seq (.tree (.op 0 [] (.op 1 [] (.op 2 [] (.op 4 [] (.op 3 [] (.op 5 [] (.op 6 [] (.op 7 [] (.op 9 [] (.op 8 [9] (.op 10 [] .done)))))))))))) (.cond (.seq .leaf .leaf) .leaf)) (.seq .leaf .leaf)))))
theorem zz8:okC P qs Tryz.f35.ntmps ((Tryz.f35.body).getD .skip) zj2=true:=by kernel_rfl
def zmk (s:Option Addr) (d:Value) (R:Ending->World->Prop) (w:World):Prop:=
  zby (Value.cells d) zf w fun b3 w_1=>
  ldA P 32 (⟨b3,0,none⟩:Addr) w_1 fun t10=>
  xg P zdm #[(Value.pointer s),(Value.agg t10)] [.int .i64,.bool] true w_1 fun (t11:(Int×Bool)) w_2=>
  xq (!t11.2) (
  R (.returned (Value.tuple #[(Value.slice none 0 0),(Value.int .i64 50)])) w_2) (
  zbs w_2 fun w_3=>
  zn s fun p=>
  ld .slc (Addr.add p 1) w_3 fun (t19:(Option Addr×Nat×Nat))=>
  ixS t19.1 t19.2.1 33 t11.1 fun t21=>
  ld .slc (Addr.add t21 32) w_3 fun (t23:(Option Addr×Nat×Nat))=>
  ldA P 32 (⟨b3,0,none⟩:Addr) w_3 fun t25=>
  xg P zmp #[(Value.slice t23.1 t23.2.1 t23.2.2)] [.any] false w_3 fun (t24:Value) w_4=>
  ((ldA P 32 (⟨b3,0,none⟩:Addr) w_4 fun t25_1=>
  (Value.agg t25_1)=(Value.agg t25)) /\
  zbc P (eqM .neq zf (.tmp 24) (.tmp 25) t24 (Value.agg t25)) .bool w_4 fun (t26:Bool)=>
  xq t26 (
  R (.returned (Value.tuple #[(Value.slice none 0 0),(Value.int .i64 51)])) w_4) (
  za1 P (Instr.buildSlice zi 0 #[]) .slc w_4 fun (t27:(Option Addr×Nat×Nat)) w_5=>
  zn s fun p_1=>
  ld .slc (Addr.add p_1 1) w_5 fun (t31:(Option Addr×Nat×Nat))=>
  ixS t31.1 t31.2.1 33 t11.1 fun t33=>
  ld .slc (Addr.add t33 32) w_5 fun (t35:(Option Addr×Nat×Nat))=>
  za1 P (Builtin.append_ #[zi,zi] zi #[(Value.slice t27.1 t27.2.1 t27.2.2),(Value.slice t35.1 t35.2.1 t35.2.2)]) .slc w_5 fun (t36:(Option Addr×Nat×Nat)) w_6=>
  R (.returned (Value.tuple #[(Value.slice t36.1 t36.2.1 t36.2.2),(Value.int .i64 0)])) w_6)))
theorem zzy (s:Option Addr) (d:Value) (R:Ending->World->Prop) (w:World):tr P qs ((Tryz.f35.body).getD .skip) zj2 (zch 0 [(0,(Value.pointer s)),(1,d)]) (zck P Tryz.f35.results.toList R) w=zmk s d R w:=by kernel_rfl
theorem zzo {s:Option Addr}{d:Value}{R:Ending->World->Prop}{w:World}(hT:zmk s d R w):qg P znd #[(Value.pointer s),d] w R:=
 zx (fn:=Tryz.f35) (c:=(Tryz.f35.body).getD .skip) (ann:=zj2) (args:=[(0,(Value.pointer s)),(1,d)]) (qs:=qs) mixed Tryz.func35 rfl (by kernel_rfl) (by kernel_rfl) zz8 ((zzy s d R w).symm▸hT)
def zhl:Ann:=(.seq .leaf (.seq (.seq .leaf (.blk (.loop [(5,.int .i64)] (.seq (.seq .leaf (.cond .leaf .leaf)) (.seq (.blk (.seq .leaf (.cond (.seq .leaf .leaf) .leaf))) .leaf))))) (.seq .leaf (.seq (.seq .leaf (.blk (.loop [(7,.int .i64)] (.seq (.seq .leaf (.cond .leaf .leaf)) (.join [] (.jblk [] (.seq .leaf (.seq .leaf (.seq .leaf (.cond (.seq .leaf (.seq (.tree (.op 0 [] (.op 3 [] (.op 4 [] (.op 5 [] (.op 1 [] (.op 6 [] (.op 2 [1,6] (.op 7 [1] (.op 8 [] (.op 9 [] (.op 10 [] (.op 11 [] .done))))))))))))) .leaf)) (.seq (.tree (.op 0 [] (.op 1 [] (.op 2 [] (.op 4 [] (.op 3 [] (.op 5 [] (.op 6 [] (.op 7 [] (.op 9 [] (.op 8 [9] (.op 10 [] .done)))))))))))) (.cond (.tree (.op 0 [] (.op 1 [] (.op 2 [] (.op 4 [] (.op 6 [] (.op 7 [] (.op 8 [] (.op 3 [] (.op 9 [] (.op 5 [3,9] (.op 10 [3] (.op 11 [] (.op 12 [] (.op 13 [] .done))))))))))))))) .leaf))))))) .leaf))))) (.seq (.seq (.tree (.op 0 [] (.op 1 [] (.op 3 [] (.op 4 [] (.op 5 [] (.op 7 [] (.op 6 [] (.op 2 [6] (.op 8 [6] (.op 9 [] (.op 10 [] .done)))))))))))) (.cond (.seq .leaf .leaf) .leaf)) (.seq .leaf (.seq .leaf .leaf)))))))
theorem zu8:okC P qs Tryz.f63.ntmps ((Tryz.f63.body).getD .skip) zhl=true:=by kernel_rfl
def zir (s:Option Addr) (list:Option Addr) (list_l list_c:Nat) (R:Ending->World->Prop) (w:World):Prop:=
  za7 Int (fun s_1 w_1 k=>
  xq (decide (s_1 < (list_l:Int))) (
  ixS list list_l 1 s_1 fun t20=>
  ld .slc t20 w_1 fun (t21:(Option Addr×Nat×Nat))=>
  xq (decide ((t21.2.1:Int) > 4096)) (
  R (.returned (Value.int .i64 2)) w_1) (
  zb6 .i64 s_1 1 fun t17=>
  k t17 w_1)) (
  xg P zj9 #[(Value.pointer s)] [.ptr] false w_1 fun (t25:(Option Addr)) w_2=>
  za7 Int (fun s_2 w_3 k_1=>
  xq (decide (s_2 < (list_l:Int))) (
  ku Unit (fun k_2=>
  ku Unit (fun k_3=>
  ixS list list_l 1 s_2 fun t34=>
  ld .slc t34 w_3 fun (t35:(Option Addr×Nat×Nat))=>
  xg P zmp #[(Value.slice t35.1 t35.2.1 t35.2.2)] [.any] false w_3 fun (t36:Value) w_4=>
  zby (zc P zf) zf w_4 fun b8 w_5=>
  zcj P (storeVar zf (⟨b8,0,none⟩:Addr) t36) w_5 fun w_6=>
  ldA P 32 (⟨b8,0,none⟩:Addr) w_6 fun t39=>
  xg P zdm #[(Value.pointer t25),(Value.agg t39)] [.int .i64,.bool] true w_6 fun (t40:(Int×Bool)) w_7=>
  xq (!t40.2) (
  za1 P (Instr.buildSlice ji 0 #[]) .slc w_7 fun (t45:(Option Addr×Nat×Nat)) w_8=>
  zn t25 fun p=>
  ld .slc (Addr.add p 1) w_8 fun (t49:(Option Addr×Nat×Nat))=>
  zbc P (Instr.sliceAt ji (Value.slice t49.1 t49.2.1 t49.2.2) none (some (Value.int .i64 t40.1)) none) .slc w_8 fun (t51:(Option Addr×Nat×Nat))=>
  za1 P (Builtin.append_ #[ji,ji] ji #[(Value.slice t45.1 t45.2.1 t45.2.2),(Value.slice t51.1 t51.2.1 t51.2.2)]) .slc w_8 fun (t52:(Option Addr×Nat×Nat)) w_9=>
  zbs w_9 fun w_10=>
  ixS list list_l 1 s_2 fun t58=>
  ldA P 32 (⟨b8,0,none⟩:Addr) w_10 fun t54=>
  ld .slc t58 w_10 fun (t59:(Option Addr×Nat×Nat))=>
  za1 P (Instr.buildSlice zi 0 #[]) .slc w_10 fun (t55:(Option Addr×Nat×Nat)) w_11=>
  ((ld .slc t58 w_11 fun (t59_1:(Option Addr×Nat×Nat))=>
  (Value.slice t59_1.1 t59_1.2.1 t59_1.2.2)=(Value.slice t59.1 t59.2.1 t59.2.2)) /\
  ((ldA P 32 (⟨b8,0,none⟩:Addr) w_11 fun t54_1=>
  (Value.agg t54_1)=(Value.agg t54)) /\
  za1 P (Builtin.append_ #[zi,zi] zi #[(Value.slice t55.1 t55.2.1 t55.2.2),(Value.slice t59.1 t59.2.1 t59.2.2)]) .slc w_11 fun (t60:(Option Addr×Nat×Nat)) w_12=>
  ((ldA P 32 (⟨b8,0,none⟩:Addr) w_12 fun t54_2=>
  (Value.agg t54_2)=(Value.agg t54)) /\
  zbc P (Instr.build zca #[(0,(Value.agg t54)),(1,(Value.slice t60.1 t60.2.1 t60.2.2))]) .any w_12 fun (t61:Value)=>
  za1 P (Instr.buildSlice ji 1 #[(0,t61)]) .slc w_12 fun (t62:(Option Addr×Nat×Nat)) w_13=>
  za1 P (Builtin.append_ #[ji,ji] ji #[(Value.slice t52.1 t52.2.1 t52.2.2),(Value.slice t62.1 t62.2.1 t62.2.2)]) .slc w_13 fun (t63:(Option Addr×Nat×Nat)) w_14=>
  zn t25 fun p_1=>
  ld .slc (Addr.add p_1 1) w_14 fun (t69:(Option Addr×Nat×Nat))=>
  zbc P (Instr.sliceAt ji (Value.slice t69.1 t69.2.1 t69.2.2) (some (Value.int .i64 t40.1)) none none) .slc w_14 fun (t71:(Option Addr×Nat×Nat))=>
  za1 P (Builtin.append_ #[ji,ji] ji #[(Value.slice t63.1 t63.2.1 t63.2.2),(Value.slice t71.1 t71.2.1 t71.2.2)]) .slc w_14 fun (t72:(Option Addr×Nat×Nat)) w_15=>
  zn t25 fun p_2=>
  stC (Addr.add p_2 1) (Value.slice t72.1 t72.2.1 t72.2.2) w_15 fun w_16=>
  k_3 () w_16)))) (
  zbs w_7 fun w_17=>
  zn t25 fun p_3=>
  ld .slc (Addr.add p_3 1) w_17 fun (t78:(Option Addr×Nat×Nat))=>
  ixS t78.1 t78.2.1 33 t40.1 fun t80=>
  ld .slc (Addr.add t80 32) w_17 fun (t82:(Option Addr×Nat×Nat))=>
  ldA P 32 (⟨b8,0,none⟩:Addr) w_17 fun t84=>
  xg P zmp #[(Value.slice t82.1 t82.2.1 t82.2.2)] [.any] false w_17 fun (t83:Value) w_18=>
  ((ldA P 32 (⟨b8,0,none⟩:Addr) w_18 fun t84_1=>
  (Value.agg t84_1)=(Value.agg t84)) /\
  zbc P (eqM .neq zf (.tmp 83) (.tmp 84) t83 (Value.agg t84)) .bool w_18 fun (t85:Bool)=>
  xq t85 (
  zbs w_18 fun w_19=>
  zn t25 fun p_4=>
  ixS list list_l 1 s_2 fun t94=>
  ld .slc (Addr.add p_4 1) w_19 fun (t89:(Option Addr×Nat×Nat))=>
  ld .slc t94 w_19 fun (t95:(Option Addr×Nat×Nat))=>
  za1 P (Instr.buildSlice zi 0 #[]) .slc w_19 fun (t91:(Option Addr×Nat×Nat)) w_20=>
  ((ld .slc t94 w_20 fun (t95_1:(Option Addr×Nat×Nat))=>
  (Value.slice t95_1.1 t95_1.2.1 t95_1.2.2)=(Value.slice t95.1 t95.2.1 t95.2.2)) /\
  ((ld .slc (Addr.add p_4 1) w_20 fun (t89_1:(Option Addr×Nat×Nat))=>
  (Value.slice t89_1.1 t89_1.2.1 t89_1.2.2)=(Value.slice t89.1 t89.2.1 t89.2.2)) /\
  za1 P (Builtin.append_ #[zi,zi] zi #[(Value.slice t91.1 t91.2.1 t91.2.2),(Value.slice t95.1 t95.2.1 t95.2.2)]) .slc w_20 fun (t96:(Option Addr×Nat×Nat)) w_21=>
  ((ld .slc (Addr.add p_4 1) w_21 fun (t89_2:(Option Addr×Nat×Nat))=>
  (Value.slice t89_2.1 t89_2.2.1 t89_2.2.2)=(Value.slice t89.1 t89.2.1 t89.2.2)) /\
  ixS t89.1 t89.2.1 33 t40.1 fun t97=>
  stC (Addr.add t97 32) (Value.slice t96.1 t96.2.1 t96.2.2) w_21 fun w_22=>
  k_3 () w_22)))) (
  k_3 () w_18)))) (fun _ w_23=>
  k_2 () w_23)) (fun _ w_24=>
  zb6 .i64 s_2 1 fun t31=>
  k_1 t31 w_24)) (
  zbs w_3 fun w_25=>
  zn s fun p_5=>
  ld (.int .i64) p_5 w_25 fun (t105:Int)=>
  xg P zjw #[(Value.pointer t25),(Value.pointer s)] [.int .i64] false w_25 fun (t101:Int) w_26=>
  ((ld (.int .i64) p_5 w_26 fun (t105_1:Int)=>
  (Value.int .i64 t105_1)=(Value.int .i64 t105)) /\
  xg P zjs #[(Value.pointer s)] [.int .i64] false w_26 fun (t107:Int) w_27=>
  ((ld (.int .i64) p_5 w_27 fun (t105_2:Int)=>
  (Value.int .i64 t105_2)=(Value.int .i64 t105)) /\
  zqa .i64 t105 t107 fun t108=>
  xq (decide (t101 > t108)) (
  R (.returned (Value.int .i64 3)) w_27) (
  zn t25 fun p_6=>
  ld .slc (Addr.add p_6 1) w_27 fun (t114:(Option Addr×Nat×Nat))=>
  zn s fun p_7=>
  stC (Addr.add p_7 1) (Value.slice t114.1 t114.2.1 t114.2.2) w_27 fun w_28=>
  R (.returned (Value.int .i64 0)) w_28))))) 0 w_2)) 0 w
theorem zvv (s:Option Addr) (list:Option Addr) (list_l list_c:Nat) (R:Ending->World->Prop) (w:World):tr P qs ((Tryz.f63.body).getD .skip) zhl (zch 0 [(0,(Value.pointer s)),(0,(Value.slice list list_l list_c))]) (zck P Tryz.f63.results.toList R) w=zir s list list_l list_c R w:=by kernel_rfl
theorem zvj {s:Option Addr}{list:Option Addr}{list_l list_c:Nat}{R:Ending->World->Prop}{w:World}(hT:zir s list list_l list_c R w):qg P zi3 #[(Value.pointer s),(Value.slice list list_l list_c)] w R:=
 zx (fn:=Tryz.f63) (c:=(Tryz.f63.body).getD .skip) (ann:=zhl) (args:=[(0,(Value.pointer s)),(0,(Value.slice list list_l list_c))]) (qs:=qs) mixed Tryz.func63 rfl (by kernel_rfl) (by kernel_rfl) zu8 ((zvv s list list_l list_c R w).symm▸hT)
def ziu:Ann:=(.seq .leaf (.seq .leaf (.seq (.seq .leaf (.cond (.seq .leaf .leaf) .leaf)) (.seq (.tree (.op 0 [] (.op 2 [] (.op 3 [] (.op 4 [] (.op 6 [] (.op 9 [] (.op 10 [] (.op 11 [] (.op 13 [] (.op 14 [] (.op 5 [] (.op 7 [] (.op 12 [] (.op 15 [] (.op 1 [5,7,12,15] (.op 8 [12,15] (.op 16 [] (.op 17 [] (.op 18 [] (.op 19 [] .done))))))))))))))))))))) (.seq .leaf .leaf)))))
theorem zyo:okC P qs Tryz.f75.ntmps ((Tryz.f75.body).getD .skip) ziu=true:=by kernel_rfl
def zku (s:Option Addr) (d:Value) (R:Ending->World->Prop) (w:World):Prop:=
  zby (Value.cells d) zf w fun b3 w_1=>
  ldA P 32 (⟨b3,0,none⟩:Addr) w_1 fun t9=>
  xg P zdm #[(Value.pointer s),(Value.agg t9)] [.int .i64,.bool] true w_1 fun (t10:(Int×Bool)) w_2=>
  xq (!t10.2) (
  R (.returned (Value.int .i64 50)) w_2) (
  zbs w_2 fun w_3=>
  zn s fun p=>
  zn s fun p_1=>
  zb6 .i64 t10.1 1 fun t29=>
  ld .slc (Addr.add p 1) w_3 fun (t20:(Option Addr×Nat×Nat))=>
  zbc P (Instr.sliceAt ji (Value.slice t20.1 t20.2.1 t20.2.2) none (some (Value.int .i64 t10.1)) none) .slc w_3 fun (t22:(Option Addr×Nat×Nat))=>
  ld .slc (Addr.add p_1 1) w_3 fun (t27:(Option Addr×Nat×Nat))=>
  zbc P (Instr.sliceAt ji (Value.slice t27.1 t27.2.1 t27.2.2) (some (Value.int .i64 t29)) none none) .slc w_3 fun (t30:(Option Addr×Nat×Nat))=>
  za1 P (Instr.buildSlice ji 0 #[]) .slc w_3 fun (t16:(Option Addr×Nat×Nat)) w_4=>
  ((zbc P (Instr.sliceAt ji (Value.slice t27.1 t27.2.1 t27.2.2) (some (Value.int .i64 t29)) none none) .slc w_4 fun (t30_1:(Option Addr×Nat×Nat))=>
  (Value.slice t30_1.1 t30_1.2.1 t30_1.2.2)=(Value.slice t30.1 t30.2.1 t30.2.2)) /\
  ((ld .slc (Addr.add p_1 1) w_4 fun (t27_1:(Option Addr×Nat×Nat))=>
  (Value.slice t27_1.1 t27_1.2.1 t27_1.2.2)=(Value.slice t27.1 t27.2.1 t27.2.2)) /\
  ((zbc P (Instr.sliceAt ji (Value.slice t20.1 t20.2.1 t20.2.2) none (some (Value.int .i64 t10.1)) none) .slc w_4 fun (t22_1:(Option Addr×Nat×Nat))=>
  (Value.slice t22_1.1 t22_1.2.1 t22_1.2.2)=(Value.slice t22.1 t22.2.1 t22.2.2)) /\
  ((ld .slc (Addr.add p 1) w_4 fun (t20_1:(Option Addr×Nat×Nat))=>
  (Value.slice t20_1.1 t20_1.2.1 t20_1.2.2)=(Value.slice t20.1 t20.2.1 t20.2.2)) /\
  za1 P (Builtin.append_ #[ji,ji] ji #[(Value.slice t16.1 t16.2.1 t16.2.2),(Value.slice t22.1 t22.2.1 t22.2.2)]) .slc w_4 fun (t23:(Option Addr×Nat×Nat)) w_5=>
  ((zbc P (Instr.sliceAt ji (Value.slice t27.1 t27.2.1 t27.2.2) (some (Value.int .i64 t29)) none none) .slc w_5 fun (t30_2:(Option Addr×Nat×Nat))=>
  (Value.slice t30_2.1 t30_2.2.1 t30_2.2.2)=(Value.slice t30.1 t30.2.1 t30.2.2)) /\
  ((ld .slc (Addr.add p_1 1) w_5 fun (t27_2:(Option Addr×Nat×Nat))=>
  (Value.slice t27_2.1 t27_2.2.1 t27_2.2.2)=(Value.slice t27.1 t27.2.1 t27.2.2)) /\
  za1 P (Builtin.append_ #[ji,ji] ji #[(Value.slice t23.1 t23.2.1 t23.2.2),(Value.slice t30.1 t30.2.1 t30.2.2)]) .slc w_5 fun (t31:(Option Addr×Nat×Nat)) w_6=>
  zn s fun p_2=>
  stC (Addr.add p_2 1) (Value.slice t31.1 t31.2.1 t31.2.2) w_6 fun w_7=>
  R (.returned (Value.int .i64 0)) w_7)))))))
theorem zya (s:Option Addr) (d:Value) (R:Ending->World->Prop) (w:World):tr P qs ((Tryz.f75.body).getD .skip) ziu (zch 0 [(0,(Value.pointer s)),(1,d)]) (zck P Tryz.f75.results.toList R) w=zku s d R w:=by kernel_rfl
theorem zx2 {s:Option Addr}{d:Value}{R:Ending->World->Prop}{w:World}(hT:zku s d R w):qg P zks #[(Value.pointer s),d] w R:=
 zx (fn:=Tryz.f75) (c:=(Tryz.f75.body).getD .skip) (ann:=ziu) (args:=[(0,(Value.pointer s)),(1,d)]) (qs:=qs) mixed Tryz.func75 rfl (by kernel_rfl) (by kernel_rfl) zyo ((zya s d R w).symm▸hT)
def zh9:Ann:=(.seq .leaf (.seq .leaf (.seq (.seq .leaf (.cond (.seq .leaf .leaf) .leaf)) (.join [] (.seq .leaf (.cond (.seq .leaf .leaf) .leaf)) (.seq .leaf (.seq .leaf .leaf))))))
theorem zwb:okC P qs Tryz.f77.ntmps ((Tryz.f77.body).getD .skip) zh9=true:=by kernel_rfl
def zj8 (s:Option Addr) (d:Value) (atv:Int) (turn:Int) (R:Ending->World->Prop) (w:World):Prop:=
  zby (Value.cells d) zf w fun b5 w_1=>
  ldA P 32 (⟨b5,0,none⟩:Addr) w_1 fun t13=>
  xg P zdm #[(Value.pointer s),(Value.agg t13)] [.int .i64,.bool] true w_1 fun (t14:(Int×Bool)) w_2=>
  xq (!t14.2) (
  R (.returned (Value.int .i64 50)) w_2) (
  ku Unit (fun k=>
  xq (decide (atv < 0)) (
  R (.returned (Value.int .i64 1)) w_2) (
  zn s fun p=>
  ld .slc (Addr.add p 1) w_2 fun (t26:(Option Addr×Nat×Nat))=>
  ixS t26.1 t26.2.1 33 t14.1 fun t28=>
  ld .slc (Addr.add t28 32) w_2 fun (t30:(Option Addr×Nat×Nat))=>
  xq (decide (atv>=(t30.2.1:Int))) (
  R (.returned (Value.int .i64 1)) w_2) (
  xq (turn==0) (
  R (.returned (Value.int .i64 1)) w_2) (
  k () w_2)))) (fun _ w_3=>
  zn s fun p_1=>
  ld .slc (Addr.add p_1 1) w_3 fun (t41:(Option Addr×Nat×Nat))=>
  ixS t41.1 t41.2.1 33 t14.1 fun t43=>
  ld .slc (Addr.add t43 32) w_3 fun (t45:(Option Addr×Nat×Nat))=>
  ixS t45.1 t45.2.1 1 atv fun t47=>
  ld (.int .u8) t47 w_3 fun (t48:Int)=>
  zt2 .u8 t48 turn fun t50=>
  ixS t45.1 t45.2.1 1 atv fun t51=>
  stC t51 (Value.int .u8 t50) w_3 fun w_4=>
  R (.returned (Value.int .i64 0)) w_4))
theorem zwh (s:Option Addr) (d:Value) (atv:Int) (turn:Int) (R:Ending->World->Prop) (w:World):tr P qs ((Tryz.f77.body).getD .skip) zh9 (zch 0 [(0,(Value.pointer s)),(1,d),(0,(Value.int .i64 atv)),(0,(Value.int .u8 turn))]) (zck P Tryz.f77.results.toList R) w=zj8 s d atv turn R w:=by kernel_rfl
theorem zv9 {s:Option Addr}{d:Value}{atv:Int}{turn:Int}{R:Ending->World->Prop}{w:World}(hT:zj8 s d atv turn R w):qg P zjo #[(Value.pointer s),d,(Value.int .i64 atv),(Value.int .u8 turn)] w R:=
 zx (fn:=Tryz.f77) (c:=(Tryz.f77.body).getD .skip) (ann:=zh9) (args:=[(0,(Value.pointer s)),(1,d),(0,(Value.int .i64 atv)),(0,(Value.int .u8 turn))]) (qs:=qs) mixed Tryz.func77 rfl (by kernel_rfl) (by kernel_rfl) zwb ((zwh s d atv turn R w).symm▸hT)
def zi4:Ann:=(.seq .leaf (.seq .leaf (.seq (.jblk [(6,.int .i64)] (.loop [(6,.int .i64)] (.join [] (.seq (.tree (.op 0 [] (.op 1 [] (.op 2 [] (.op 3 [] (.op 4 [] (.op 5 [] (.op 6 [] (.op 7 [] (.op 8 [] (.op 9 [] (.op 10 [] (.op 12 [] (.op 11 [] (.op 13 [] (.op 14 [] (.op 15 [] (.op 16 [] (.op 17 [] (.op 18 [] (.op 19 [] .done))))))))))))))))))))) (.cond .leaf .leaf)) (.blk .leaf)))) (.seq (.tree (.op 0 [] (.op 1 [] (.op 2 [] (.op 3 [] (.op 4 [] (.op 5 [] (.op 6 [] (.op 7 [] (.op 8 [] (.op 9 [] (.op 10 [] (.op 11 [] (.op 13 [] (.op 20 [] (.op 12 [] (.op 14 [] (.op 15 [] (.op 16 [] (.op 17 [] (.op 18 [] (.op 19 [] (.op 21 [] .done))))))))))))))))))))))) .leaf))))
theorem zyj:okC P qs Tryz.f82.ntmps ((Tryz.f82.body).getD .skip) zi4=true:=by kernel_rfl
def zkw (s:Option Addr) (d:Value) (R:Ending->World->Prop) (w:World):Prop:=
  zby (Value.cells d) zf w fun b3 w_1=>
  ku Int (fun k=>
  za7 Int (fun s_1 w_2 k_1=>
  ku Unit (fun k_2=>
  zbs w_2 fun w_3=>
  zn s fun p=>
  ld .slc (Addr.add p 1) w_3 fun (t11:(Option Addr×Nat×Nat))=>
  xq (decide (s_1 < (t11.2.1:Int))) (
  zn s fun p_1=>
  ld .slc (Addr.add p_1 1) w_3 fun (t18:(Option Addr×Nat×Nat))=>
  ixS t18.1 t18.2.1 33 s_1 fun t20=>
  ldA P 32 t20 w_3 fun t22=>
  ldA P 32 (⟨b3,0,none⟩:Addr) w_3 fun t23=>
  xg P zq6 #[(Value.agg t22),(Value.agg t23)] [.int .i64] false w_3 fun (t24:Int) w_4=>
  xq (decide (t24 < 0)) (
  k_2 () w_4) (
  k s_1 w_4)) (
  k s_1 w_3)) (fun _ w_5=>
  zb6 .i64 s_1 1 fun t28=>
  k_1 t28 w_5)) 0 w_1) (fun s_3 w_6=>
  zbs w_6 fun w_7=>
  zn s fun p_2=>
  ld .slc (Addr.add p_2 1) w_7 fun (t34:(Option Addr×Nat×Nat))=>
  xq (decide (s_3 < (t34.2.1:Int))) (
  zn s fun p_3=>
  ld .slc (Addr.add p_3 1) w_7 fun (t41:(Option Addr×Nat×Nat))=>
  ixS t41.1 t41.2.1 33 s_3 fun t43=>
  ldA P 32 t43 w_7 fun t45=>
  ldA P 32 (⟨b3,0,none⟩:Addr) w_7 fun t46=>
  zbc P (eqM .eql zf (.tmp 45) (.tmp 46) (Value.agg t45) (Value.agg t46)) .bool w_7 fun (t47:Bool)=>
  R (.returned (Value.tuple #[(Value.int .i64 s_3),(Value.bool t47)])) w_7) (
  R (.returned (Value.tuple #[(Value.int .i64 s_3),(Value.bool false)])) w_7))
theorem zx7 (s:Option Addr) (d:Value) (R:Ending->World->Prop) (w:World):tr P qs ((Tryz.f82.body).getD .skip) zi4 (zch 0 [(0,(Value.pointer s)),(1,d)]) (zck P Tryz.f82.results.toList R) w=zkw s d R w:=by kernel_rfl
theorem zxm {s:Option Addr}{d:Value}{R:Ending->World->Prop}{w:World}(hT:zkw s d R w):qg P zdm #[(Value.pointer s),d] w R:=
 zx (fn:=Tryz.f82) (c:=(Tryz.f82.body).getD .skip) (ann:=zi4) (args:=[(0,(Value.pointer s)),(1,d)]) (qs:=qs) mixed Tryz.func82 rfl (by kernel_rfl) (by kernel_rfl) zyj ((zx7 s d R w).symm▸hT)
def zh6:Ann:=(.seq .leaf (.seq .leaf (.seq (.seq .leaf (.blk (.loop [(4,.int .i64)] (.seq (.seq .leaf (.cond .leaf .leaf)) (.seq (.blk (.tree (.op 0 [] (.op 1 [] (.op 2 [] (.op 3 [] (.op 5 [] (.op 6 [] (.op 7 [] (.op 9 [] (.op 14 [] (.op 15 [] (.op 16 [] (.op 18 [] (.op 4 [] (.op 8 [] (.op 10 [] (.op 11 [] (.op 12 [] (.op 17 [] (.op 19 [] (.op 20 [] (.op 21 [] (.op 13 [4,8,12,17,21] (.op 22 [4,8,12] (.op 23 [] (.op 24 [4] (.op 25 [] (.op 26 [] (.op 27 [] (.op 28 [] .done))))))))))))))))))))))))))))))) .leaf))))) (.seq .leaf .leaf))))
theorem zwo:okC P qs Tryz.f122.ntmps ((Tryz.f122.body).getD .skip) zh6=true:=by kernel_rfl
def zjy (s:Option Addr) (R:Ending->World->Prop) (w:World):Prop:=
  zn s fun p=>
  ld (.int .i64) p w fun (t8:Int)=>
  zbc P (Instr.build zib #[(0,(Value.int .i64 t8))]) .any w fun (t9:Value)=>
  zby (Value.cells t9) zib w fun b10 w_1=>
  za7 Int (fun s_1 w_2 k=>
  zn s fun p_1=>
  ld .slc (Addr.add p_1 1) w_2 fun (t15:(Option Addr×Nat×Nat))=>
  xq (decide (s_1 < (t15.2.1:Int))) (
  zbs w_2 fun w_3=>
  zn s fun p_2=>
  zn s fun p_3=>
  ld .slc (⟨b10,1,none⟩:Addr) w_3 fun (t24:(Option Addr×Nat×Nat))=>
  ld .slc (Addr.add p_2 1) w_3 fun (t28:(Option Addr×Nat×Nat))=>
  ixS t28.1 t28.2.1 33 s_1 fun t30=>
  ldA P 32 t30 w_3 fun t32=>
  ld .slc (Addr.add p_3 1) w_3 fun (t37:(Option Addr×Nat×Nat))=>
  ixS t37.1 t37.2.1 33 s_1 fun t39=>
  ld .slc (Addr.add t39 32) w_3 fun (t41:(Option Addr×Nat×Nat))=>
  za1 P (Instr.buildSlice zi 0 #[]) .slc w_3 fun (t33:(Option Addr×Nat×Nat)) w_4=>
  ((ld .slc (Addr.add t39 32) w_4 fun (t41_1:(Option Addr×Nat×Nat))=>
  (Value.slice t41_1.1 t41_1.2.1 t41_1.2.2)=(Value.slice t41.1 t41.2.1 t41.2.2)) /\
  ((ld .slc (Addr.add p_3 1) w_4 fun (t37_1:(Option Addr×Nat×Nat))=>
  (Value.slice t37_1.1 t37_1.2.1 t37_1.2.2)=(Value.slice t37.1 t37.2.1 t37.2.2)) /\
  ((ldA P 32 t30 w_4 fun t32_1=>
  (Value.agg t32_1)=(Value.agg t32)) /\
  ((ld .slc (Addr.add p_2 1) w_4 fun (t28_1:(Option Addr×Nat×Nat))=>
  (Value.slice t28_1.1 t28_1.2.1 t28_1.2.2)=(Value.slice t28.1 t28.2.1 t28.2.2)) /\
  ((ld .slc (⟨b10,1,none⟩:Addr) w_4 fun (t24_1:(Option Addr×Nat×Nat))=>
  (Value.slice t24_1.1 t24_1.2.1 t24_1.2.2)=(Value.slice t24.1 t24.2.1 t24.2.2)) /\
  za1 P (Builtin.append_ #[zi,zi] zi #[(Value.slice t33.1 t33.2.1 t33.2.2),(Value.slice t41.1 t41.2.1 t41.2.2)]) .slc w_4 fun (t42:(Option Addr×Nat×Nat)) w_5=>
  ((ldA P 32 t30 w_5 fun t32_2=>
  (Value.agg t32_2)=(Value.agg t32)) /\
  ((ld .slc (Addr.add p_2 1) w_5 fun (t28_2:(Option Addr×Nat×Nat))=>
  (Value.slice t28_2.1 t28_2.2.1 t28_2.2.2)=(Value.slice t28.1 t28.2.1 t28.2.2)) /\
  ((ld .slc (⟨b10,1,none⟩:Addr) w_5 fun (t24_2:(Option Addr×Nat×Nat))=>
  (Value.slice t24_2.1 t24_2.2.1 t24_2.2.2)=(Value.slice t24.1 t24.2.1 t24.2.2)) /\
  zbc P (Instr.build zca #[(0,(Value.agg t32)),(1,(Value.slice t42.1 t42.2.1 t42.2.2))]) .any w_5 fun (t43:Value)=>
  za1 P (Instr.buildSlice ji 1 #[(0,t43)]) .slc w_5 fun (t44:(Option Addr×Nat×Nat)) w_6=>
  ((ld .slc (⟨b10,1,none⟩:Addr) w_6 fun (t24_3:(Option Addr×Nat×Nat))=>
  (Value.slice t24_3.1 t24_3.2.1 t24_3.2.2)=(Value.slice t24.1 t24.2.1 t24.2.2)) /\
  za1 P (Builtin.append_ #[ji,ji] ji #[(Value.slice t24.1 t24.2.1 t24.2.2),(Value.slice t44.1 t44.2.1 t44.2.2)]) .slc w_6 fun (t45:(Option Addr×Nat×Nat)) w_7=>
  stC (⟨b10,1,none⟩:Addr) (Value.slice t45.1 t45.2.1 t45.2.2) w_7 fun w_8=>
  zb6 .i64 s_1 1 fun t19=>
  k t19 w_8)))))))))) (
  R (.returned (Value.pointer (some (⟨b10,0,none⟩:Addr)))) w_2)) 0 w_1
theorem zwu (s:Option Addr) (R:Ending->World->Prop) (w:World):tr P qs ((Tryz.f122.body).getD .skip) zh6 (zch 0 [(0,(Value.pointer s))]) (zck P Tryz.f122.results.toList R) w=zjy s R w:=by kernel_rfl
theorem zw3 {s:Option Addr}{R:Ending->World->Prop}{w:World}(hT:zjy s R w):qg P zj9 #[(Value.pointer s)] w R:=
 zx (fn:=Tryz.f122) (c:=(Tryz.f122.body).getD .skip) (ann:=zh6) (args:=[(0,(Value.pointer s))]) (qs:=qs) mixed Tryz.func122 rfl (by kernel_rfl) (by kernel_rfl) zwo ((zwu s R w).symm▸hT)
def zh7:Ann:=(.seq .leaf (.seq .leaf (.seq (.seq .leaf (.blk (.loop [(5,.int .i64),(6,.int .i64)] (.seq (.seq .leaf (.cond .leaf .leaf)) (.seq (.jblk [(5,.int .i64)] (.seq .leaf (.seq .leaf (.cond .leaf .leaf)))) .leaf))))) (.seq .leaf .leaf))))
theorem zw1:okC P qs Tryz.f123.ntmps ((Tryz.f123.body).getD .skip) zh7=true:=by kernel_rfl
def zj4 (s:Option Addr) (o:Option Addr) (R:Ending->World->Prop) (w:World):Prop:=
  za7 (Int×Int) (fun s_1 w_1 k=>
  zn s fun p=>
  ld .slc (Addr.add p 1) w_1 fun (t13:(Option Addr×Nat×Nat))=>
  xq (decide (s_1.2 < (t13.2.1:Int))) (
  ku Int (fun k_1=>
  zn s fun p_1=>
  ld .slc (Addr.add p_1 1) w_1 fun (t23:(Option Addr×Nat×Nat))=>
  ixS t23.1 t23.2.1 33 s_1.2 fun t25=>
  ldA P 32 t25 w_1 fun t27=>
  xg P zdm #[(Value.pointer o),(Value.agg t27)] [.int .i64,.bool] true w_1 fun (t28:(Int×Bool)) w_2=>
  xq (!t28.2) (
  zn s fun p_2=>
  ld .slc (Addr.add p_2 1) w_2 fun (t37:(Option Addr×Nat×Nat))=>
  ixS t37.1 t37.2.1 33 s_1.2 fun t39=>
  ld .slc (Addr.add t39 32) w_2 fun (t41:(Option Addr×Nat×Nat))=>
  zb6 .i64 s_1.1 (t41.2.1:Int) fun t43=>
  k_1 t43 w_2) (
  k_1 s_1.1 w_2)) (fun s_2 w_3=>
  zb6 .i64 s_1.2 1 fun t17=>
  k (s_2,t17) w_3)) (
  R (.returned (Value.int .i64 s_1.1)) w_1)) (0,0) w
theorem zwa (s:Option Addr) (o:Option Addr) (R:Ending->World->Prop) (w:World):tr P qs ((Tryz.f123.body).getD .skip) zh7 (zch 0 [(0,(Value.pointer s)),(0,(Value.pointer o))]) (zck P Tryz.f123.results.toList R) w=zj4 s o R w:=by kernel_rfl
theorem zw7 {s:Option Addr}{o:Option Addr}{R:Ending->World->Prop}{w:World}(hT:zj4 s o R w):qg P zjw #[(Value.pointer s),(Value.pointer o)] w R:=
 zx (fn:=Tryz.f123) (c:=(Tryz.f123.body).getD .skip) (ann:=zh7) (args:=[(0,(Value.pointer s)),(0,(Value.pointer o))]) (qs:=qs) mixed Tryz.func123 rfl (by kernel_rfl) (by kernel_rfl) zw1 ((zwa s o R w).symm▸hT)
def zlb:Ann:=(.seq (.seq .leaf (.cond .leaf .leaf)) (.seq (.blk (.loop [(1,.int .u64)] (.seq (.seq .leaf (.cond .leaf .leaf)) (.seq (.blk .leaf) .leaf)))) .leaf))
theorem z2u:okC P qs Tryz.f168.ntmps ((Tryz.f168.body).getD .skip) zlb=true:=by kernel_rfl
def zn3 (o:Option Addr) (n:Int) (R:Ending->World->Prop) (w:World):Prop:=
  xq (Option.isNone o) (
  R (.returned (Value.tuple #[])) w) (
  za7 Int (fun s w_1 k=>
  xq (decide (s > 127)) (
  zn o fun p=>
  ld .slc p w_1 fun (t14:(Option Addr×Nat×Nat))=>
  cvI .u8 s fun t16=>
  orI .u8 t16 128 fun t17=>
  za1 P (Instr.buildSlice zi 1 #[(0,(Value.int .u8 t17))]) .slc w_1 fun (t18:(Option Addr×Nat×Nat)) w_2=>
  za1 P (Builtin.append_ #[zi,zi] zi #[(Value.slice t14.1 t14.2.1 t14.2.2),(Value.slice t18.1 t18.2.1 t18.2.2)]) .slc w_2 fun (t19:(Option Addr×Nat×Nat)) w_3=>
  zn o fun p_1=>
  stC p_1 (Value.slice t19.1 t19.2.1 t19.2.2) w_3 fun w_4=>
  z9z .u64 s 7 fun t9=>
  k t9 w_4) (
  zn o fun p_2=>
  ld .slc p_2 w_1 fun (t26:(Option Addr×Nat×Nat))=>
  cvI .u8 s fun t28=>
  za1 P (Instr.buildSlice zi 1 #[(0,(Value.int .u8 t28))]) .slc w_1 fun (t29:(Option Addr×Nat×Nat)) w_5=>
  za1 P (Builtin.append_ #[zi,zi] zi #[(Value.slice t26.1 t26.2.1 t26.2.2),(Value.slice t29.1 t29.2.1 t29.2.2)]) .slc w_5 fun (t30:(Option Addr×Nat×Nat)) w_6=>
  zn o fun p_3=>
  stC p_3 (Value.slice t30.1 t30.2.1 t30.2.2) w_6 fun w_7=>
  R (.returned (Value.tuple #[])) w_7)) n w)
theorem z1f (o:Option Addr) (n:Int) (R:Ending->World->Prop) (w:World):tr P qs ((Tryz.f168.body).getD .skip) zlb (zch 0 [(0,(Value.pointer o)),(0,(Value.int .u64 n))]) (zck P Tryz.f168.results.toList R) w=zn3 o n R w:=by kernel_rfl
theorem z0o {o:Option Addr}{n:Int}{R:Ending->World->Prop}{w:World}(hT:zn3 o n R w):qg P zeq #[(Value.pointer o),(Value.int .u64 n)] w R:=
 zx (fn:=Tryz.f168) (c:=(Tryz.f168.body).getD .skip) (ann:=zlb) (args:=[(0,(Value.pointer o)),(0,(Value.int .u64 n))]) (qs:=qs) mixed Tryz.func168 rfl (by kernel_rfl) (by kernel_rfl) z2u ((z1f o n R w).symm▸hT)
def zj5:Ann:=(.seq (.seq .leaf (.cond .leaf .leaf)) (.seq .leaf .leaf))
theorem zzs:okC P qs Tryz.f169.ntmps ((Tryz.f169.body).getD .skip) zj5=true:=by kernel_rfl
def zmb (o:Option Addr) (s:ByteArray) (R:Ending->World->Prop) (w:World):Prop:=
  xq (Option.isNone o) (
  R (.returned (Value.tuple #[])) w) (
  cvI .u64 (s.size:Int) fun t9=>
  xg P zeq #[(Value.pointer o),(Value.int .u64 t9)] [] true w fun (_:Unit) w_1=>
  zn o fun p=>
  ld .slc p w_1 fun (t15:(Option Addr×Nat×Nat))=>
  za1 P (Builtin.append_ #[zi,jy] zi #[(Value.slice t15.1 t15.2.1 t15.2.2),(Value.string s)]) .slc w_1 fun (t17:(Option Addr×Nat×Nat)) w_2=>
  zn o fun p_1=>
  stC p_1 (Value.slice t17.1 t17.2.1 t17.2.2) w_2 fun w_3=>
  R (.returned (Value.tuple #[])) w_3)
theorem zz6 (o:Option Addr) (s:ByteArray) (R:Ending->World->Prop) (w:World):tr P qs ((Tryz.f169.body).getD .skip) zj5 (zch 0 [(0,(Value.pointer o)),(0,(Value.string s))]) (zck P Tryz.f169.results.toList R) w=zmb o s R w:=by kernel_rfl
theorem zzl {o:Option Addr}{s:ByteArray}{R:Ending->World->Prop}{w:World}(hT:zmb o s R w):qg P zjc #[(Value.pointer o),(Value.string s)] w R:=
 zx (fn:=Tryz.f169) (c:=(Tryz.f169.body).getD .skip) (ann:=zj5) (args:=[(0,(Value.pointer o)),(0,(Value.string s))]) (qs:=qs) mixed Tryz.func169 rfl (by kernel_rfl) (by kernel_rfl) zzs ((zz6 o s R w).symm▸hT)
def zic:Ann:=(.seq .leaf (.seq .leaf (.cond (.tree (.op 0 [] (.op 1 [] (.op 2 [] (.op 3 [] (.op 4 [] (.op 5 [] (.op 6 [] (.op 7 [] (.op 8 [] (.op 9 [] .done))))))))))) .leaf)))
theorem zv0:okC P qs Tryz.f170.ntmps ((Tryz.f170.body).getD .skip) zic=true:=by kernel_rfl
def zj6 (o:Option Addr) (d:Value) (R:Ending->World->Prop) (w:World):Prop:=
  zby (Value.cells d) zf w fun b3 w_1=>
  xq (!(Option.isNone o)) (
  zbs w_1 fun w_2=>
  zn o fun p=>
  ld .slc p w_2 fun (t10:(Option Addr×Nat×Nat))=>
  zbc P (Instr.sliceAt zf (Value.pointer (some (⟨b3,0,none⟩:Addr))) none none none) .slc w_2 fun (t11:(Option Addr×Nat×Nat))=>
  za1 P (Builtin.append_ #[zi,zi] zi #[(Value.slice t10.1 t10.2.1 t10.2.2),(Value.slice t11.1 t11.2.1 t11.2.2)]) .slc w_2 fun (t12:(Option Addr×Nat×Nat)) w_3=>
  zn o fun p_1=>
  stC p_1 (Value.slice t12.1 t12.2.1 t12.2.2) w_3 fun w_4=>
  R (.returned (Value.tuple #[])) w_4) (
  R (.returned (Value.tuple #[])) w_1)
theorem zvy (o:Option Addr) (d:Value) (R:Ending->World->Prop) (w:World):tr P qs ((Tryz.f170.body).getD .skip) zic (zch 0 [(0,(Value.pointer o)),(1,d)]) (zck P Tryz.f170.results.toList R) w=zj6 o d R w:=by kernel_rfl
theorem zv5 {o:Option Addr}{d:Value}{R:Ending->World->Prop}{w:World}(hT:zj6 o d R w):qg P zha #[(Value.pointer o),d] w R:=
 zx (fn:=Tryz.f170) (c:=(Tryz.f170.body).getD .skip) (ann:=zic) (args:=[(0,(Value.pointer o)),(1,d)]) (qs:=qs) mixed Tryz.func170 rfl (by kernel_rfl) (by kernel_rfl) zv0 ((zvy o d R w).symm▸hT)
def zjg:Ann:=(.seq .leaf (.seq (.seq .leaf (.cond (.seq .leaf .leaf) .leaf)) (.seq .leaf .leaf)))
theorem zyi:okC P qs Tryz.f171.ntmps ((Tryz.f171.body).getD .skip) zjg=true:=by kernel_rfl
def zkz (o:Option Addr) (R:Ending->World->Prop) (w:World):Prop:=
  xq (Option.isNone o) (
  R (.returned (Value.slice none 0 0)) w) (
  zn o fun p=>
  ld .slc p w fun (t8:(Option Addr×Nat×Nat))=>
  za1 P (Builtin.append_ #[zi,zi] zi #[(Value.slice none 0 0),(Value.slice t8.1 t8.2.1 t8.2.2)]) .slc w fun (t9:(Option Addr×Nat×Nat)) w_1=>
  R (.returned (Value.slice t9.1 t9.2.1 t9.2.2)) w_1)
theorem zyr (o:Option Addr) (R:Ending->World->Prop) (w:World):tr P qs ((Tryz.f171.body).getD .skip) zjg (zch 0 [(0,(Value.pointer o))]) (zck P Tryz.f171.results.toList R) w=zkz o R w:=by kernel_rfl
theorem zxy {o:Option Addr}{R:Ending->World->Prop}{w:World}(hT:zkz o R w):qg P zk7 #[(Value.pointer o)] w R:=
 zx (fn:=Tryz.f171) (c:=(Tryz.f171.body).getD .skip) (ann:=zjg) (args:=[(0,(Value.pointer o))]) (qs:=qs) mixed Tryz.func171 rfl (by kernel_rfl) (by kernel_rfl) zyi ((zyr o R w).symm▸hT)
set_option maxRecDepth 100000
def zk3:Ann:=(.seq .leaf (.seq (.seq .leaf (.blk (.seq .leaf (.cond (.seq .leaf .leaf) (.seq .leaf (.cond (.seq .leaf .leaf) .leaf)))))) (.seq .leaf (.join [(5,.int .i64)] (.seq .leaf (.cond (.join [] (.seq .leaf (.cond .leaf .leaf)) .leaf) .leaf)) (.seq (.seq .leaf (.blk (.loop [(5,.int .i64),(41,.int .i64)] (.seq .leaf (.seq (.cond .leaf .leaf) (.seq (.jblk [(5,.int .i64)] (.seq .leaf (.join [] (.seq .leaf (.cond .leaf .leaf)) .leaf))) .leaf)))))) (.seq .leaf (.seq .leaf (.seq .leaf (.seq (.seq .leaf (.blk (.loop [(65,.int .i64)] (.seq .leaf (.seq (.cond .leaf .leaf) (.seq (.blk (.seq .leaf (.seq .leaf .leaf))) .leaf)))))) (.seq .leaf .leaf))))))))))
theorem z03:okC P qs Tryz.f112.ntmps ((Tryz.f112.body).getD .skip) zk3=true:=by kernel_rfl
def zos (elems:Option Addr) (elems_l elems_c:Nat) (sep:ByteArray) (R:Ending->World->Prop) (w:World):Prop:=
  xq ((elems_l:Int)==0) (
  R (.returned (Value.string (ByteArray.mk #[]))) w) (
  xq ((elems_l:Int)==1) (
  ixS elems elems_l 1 0 fun t18=>
  ld .str t18 w fun (t19:ByteArray)=>
  R (.returned (Value.string t19)) w) (
  ku Int (fun k=>
  xq (decide ((sep.size:Int) > 0)) (
  ku Unit (fun k_1=>
  zqa .i64 (elems_l:Int) 1 fun t27=>
  qom .i64 9223372036854775807 t27 fun t28=>
  xq (decide ((sep.size:Int)>=t28)) (
  zbc P (Instr.makeInterface jy (Value.string (ByteArray.mk #[115,116,114,105,110,103,115,58,32,74,111,105,110,32,111,117,116,112,117,116,32,108,101,110,103,116,104,32,111,118,101,114,102,108,111,119]))) .any w fun (_:Value)=>
  False) (
  k_1 () w)) (fun _ w_1=>
  zqa .i64 (elems_l:Int) 1 fun t36=>
  z3y .i64 (sep.size:Int) t36 fun t37=>
  zb6 .i64 0 t37 fun t38=>
  k t38 w_1)) (
  k 0 w)) (fun s_1 w_2=>
  za7 (Int×Int) (fun s_2 w_3 k_2=>
  xq (decide (s_2.2 < (elems_l:Int))) (
  ku Int (fun k_3=>
  ixS elems elems_l 1 s_2.2 fun t43=>
  ld .str t43 w_3 fun (t44:ByteArray)=>
  ku Unit (fun k_4=>
  zqa .i64 9223372036854775807 s_2.1 fun t48=>
  xq (decide ((t44.size:Int) > t48)) (
  zbc P (Instr.makeInterface jy (Value.string (ByteArray.mk #[115,116,114,105,110,103,115,58,32,74,111,105,110,32,111,117,116,112,117,116,32,108,101,110,103,116,104,32,111,118,101,114,102,108,111,119]))) .any w_3 fun (_:Value)=>
  False) (
  k_4 () w_3)) (fun _ w_4=>
  zb6 .i64 s_2.1 (t44.size:Int) fun t54=>
  k_3 t54 w_4)) (fun s_4 w_5=>
  zb6 .i64 s_2.2 1 fun t55=>
  k_2 (s_4,t55) w_5)) (
  zby (zc P zaj) zaj w_3 fun b8 w_6=>
  xg P zgl #[(Value.pointer (some (⟨b8,0,none⟩:Addr))),(Value.int .i64 s_2.1)] [] true w_6 fun (_:Unit) w_7=>
  ixS elems elems_l 1 0 fun t59=>
  ld .str t59 w_7 fun (t60:ByteArray)=>
  xg P zbp #[(Value.pointer (some (⟨b8,0,none⟩:Addr))),(Value.string t60)] [.int .i64,.any] true w_7 fun (_:(Int×Value)) w_8=>
  zbc P (Instr.sliceAt zai (Value.slice elems elems_l elems_c) (some (Value.int .i64 1)) none none) .slc w_8 fun (t63:(Option Addr×Nat×Nat))=>
  za7 Int (fun s_5 w_9 k_5=>
  xq (decide (s_5 < (t63.2.1:Int))) (
  ixS t63.1 t63.2.1 1 s_5 fun t67=>
  ld .str t67 w_9 fun (t68:ByteArray)=>
  xg P zbp #[(Value.pointer (some (⟨b8,0,none⟩:Addr))),(Value.string sep)] [.int .i64,.any] true w_9 fun (_:(Int×Value)) w_10=>
  xg P zbp #[(Value.pointer (some (⟨b8,0,none⟩:Addr))),(Value.string t68)] [.int .i64,.any] true w_10 fun (_:(Int×Value)) w_11=>
  zb6 .i64 s_5 1 fun t73=>
  k_5 t73 w_11) (
  xg P ze6 #[(Value.pointer (some (⟨b8,0,none⟩:Addr)))] [.str] false w_9 fun (t74:ByteArray) w_12=>
  R (.returned (Value.string t74)) w_12)) 0 w_8)) (s_1,0) w_2)))
theorem z1c (elems:Option Addr) (elems_l elems_c:Nat) (sep:ByteArray) (R:Ending->World->Prop) (w:World):tr P qs ((Tryz.f112.body).getD .skip) zk3 (zch 0 [(0,(Value.slice elems elems_l elems_c)),(0,(Value.string sep))]) (zck P Tryz.f112.results.toList R) w=zos elems elems_l elems_c sep R w:=by kernel_rfl
theorem z0r {elems:Option Addr}{elems_l elems_c:Nat}{sep:ByteArray}{R:Ending->World->Prop}{w:World}(hT:zos elems elems_l elems_c sep R w):qg P zoq #[(Value.slice elems elems_l elems_c),(Value.string sep)] w R:=
 zx (fn:=Tryz.f112) (c:=(Tryz.f112.body).getD .skip) (ann:=zk3) (args:=[(0,(Value.slice elems elems_l elems_c)),(0,(Value.string sep))]) (qs:=qs) mixed Tryz.func112 rfl (by kernel_rfl) (by kernel_rfl) z03 ((z1c elems elems_l elems_c sep R w).symm▸hT)
def zfb:Ann:=(.seq .leaf (.join [] (.seq .leaf (.cond .leaf .leaf)) (.seq (.tree (.op 0 [] (.op 1 [] (.op 2 [] (.op 5 [] (.op 6 [] (.op 7 [] (.op 11 [] (.op 3 [] (.op 4 [] (.op 8 [] (.op 9 [] (.op 10 [] (.op 12 [] .done)))))))))))))) (.cond .leaf .leaf))))
theorem zra:okC P qs Tryz.f164.ntmps ((Tryz.f164.body).getD .skip) zfb=true:=by kernel_rfl
def zge (b:Option Addr) (n:Int) (R:Ending->World->Prop) (w:World):Prop:=
  xg P zcv #[(Value.pointer b)] [] true w fun (_:Unit) w_1=>
  ku Unit (fun k=>
  xq (decide (n < 0)) (
  zbc P (Instr.makeInterface jy (Value.string (ByteArray.mk #[115,116,114,105,110,103,115,46,66,117,105,108,100,101,114,46,71,114,111,119,58,32,110,101,103,97,116,105,118,101,32,99,111,117,110,116]))) .any w_1 fun (_:Value)=>
  False) (
  k () w_1)) (fun _ w_2=>
  zbs w_2 fun w_3=>
  zn b fun p=>
  zn b fun p_1=>
  ld .slc (Addr.add p 1) w_3 fun (t12:(Option Addr×Nat×Nat))=>
  zbc P (Builtin.cap_ #[zi] zco #[(Value.slice t12.1 t12.2.1 t12.2.2)]) (.int .i64) w_3 fun (t13:Int)=>
  ld .slc (Addr.add p_1 1) w_3 fun (t17:(Option Addr×Nat×Nat))=>
  zqa .i64 t13 (t17.2.1:Int) fun t19=>
  xq (decide (t19 < n)) (
  xg P zgg #[(Value.pointer b),(Value.int .i64 n)] [] true w_3 fun (_:Unit) w_4=>
  R (.returned (Value.tuple #[])) w_4) (
  R (.returned (Value.tuple #[])) w_3))
theorem zqr (b:Option Addr) (n:Int) (R:Ending->World->Prop) (w:World):tr P qs ((Tryz.f164.body).getD .skip) zfb (zch 0 [(0,(Value.pointer b)),(0,(Value.int .i64 n))]) (zck P Tryz.f164.results.toList R) w=zge b n R w:=by kernel_rfl
theorem zqc {b:Option Addr}{n:Int}{R:Ending->World->Prop}{w:World}(hT:zge b n R w):qg P zgl #[(Value.pointer b),(Value.int .i64 n)] w R:=
 zx (fn:=Tryz.f164) (c:=(Tryz.f164.body).getD .skip) (ann:=zfb) (args:=[(0,(Value.pointer b)),(0,(Value.int .i64 n))]) (qs:=qs) mixed Tryz.func164 rfl (by kernel_rfl) (by kernel_rfl) zra ((zqr b n R w).symm▸hT)
def zc7:Ann:=(.seq .leaf (.seq .leaf (.seq .leaf (.seq .leaf .leaf))))
theorem zkl:okC P qs Tryz.f165.ntmps ((Tryz.f165.body).getD .skip) zc7=true:=by kernel_rfl
def zdn (b:Option Addr) (s:ByteArray) (R:Ending->World->Prop) (w:World):Prop:=
  xg P zcv #[(Value.pointer b)] [] true w fun (_:Unit) w_1=>
  zn b fun p=>
  ld .slc (Addr.add p 1) w_1 fun (t12:(Option Addr×Nat×Nat))=>
  za1 P (Builtin.append_ #[zi,jy] zi #[(Value.slice t12.1 t12.2.1 t12.2.2),(Value.string s)]) .slc w_1 fun (t14:(Option Addr×Nat×Nat)) w_2=>
  zn b fun p_1=>
  stC (Addr.add p_1 1) (Value.slice t14.1 t14.2.1 t14.2.2) w_2 fun w_3=>
  R (.returned (Value.tuple #[(Value.int .i64 (s.size:Int)),Value.nilIface])) w_3
theorem zkm (b:Option Addr) (s:ByteArray) (R:Ending->World->Prop) (w:World):tr P qs ((Tryz.f165.body).getD .skip) zc7 (zch 0 [(0,(Value.pointer b)),(0,(Value.string s))]) (zck P Tryz.f165.results.toList R) w=zdn b s R w:=by kernel_rfl
theorem zkn {b:Option Addr}{s:ByteArray}{R:Ending->World->Prop}{w:World}(hT:zdn b s R w):qg P zbp #[(Value.pointer b),(Value.string s)] w R:=
 zx (fn:=Tryz.f165) (c:=(Tryz.f165.body).getD .skip) (ann:=zc7) (args:=[(0,(Value.pointer b)),(0,(Value.string s))]) (qs:=qs) mixed Tryz.func165 rfl (by kernel_rfl) (by kernel_rfl) zkl ((zkm b s R w).symm▸hT)
def zee:Ann:=(.seq .leaf (.seq (.tree (.op 0 [] (.op 1 [] (.op 2 [] (.op 5 [] (.op 6 [] (.op 7 [] (.op 3 [] (.op 8 [] (.op 9 [] (.op 4 [8] (.op 10 [] (.op 11 [] .done))))))))))))) .leaf))
theorem zow:okC P qs Tryz.f166.ntmps ((Tryz.f166.body).getD .skip) zee=true:=by kernel_rfl
def ze2 (b:Option Addr) (R:Ending->World->Prop) (w:World):Prop:=
  zbs w fun w_1=>
  zn b fun p=>
  zn b fun p_1=>
  ld .slc (Addr.add p 1) w_1 fun (t6:(Option Addr×Nat×Nat))=>
  ld .slc (Addr.add p_1 1) w_1 fun (t11:(Option Addr×Nat×Nat))=>
  za1 P (Builtin.unsafeSliceData_ #[zi] zwn #[(Value.slice t6.1 t6.2.1 t6.2.2)]) .ptr w_1 fun (t7:(Option Addr)) w_2=>
  ((ld .slc (Addr.add p_1 1) w_2 fun (t11_1:(Option Addr×Nat×Nat))=>
  (Value.slice t11_1.1 t11_1.2.1 t11_1.2.2)=(Value.slice t11.1 t11.2.1 t11.2.2)) /\
  za1 P (Builtin.unsafeString_ #[zwn,zco] jy #[(Value.pointer t7),(Value.int .i64 (t11.2.1:Int))]) .str w_2 fun (t13:ByteArray) w_3=>
  R (.returned (Value.string t13)) w_3)
theorem zo0 (b:Option Addr) (R:Ending->World->Prop) (w:World):tr P qs ((Tryz.f166.body).getD .skip) zee (zch 0 [(0,(Value.pointer b))]) (zck P Tryz.f166.results.toList R) w=ze2 b R w:=by kernel_rfl
theorem zof {b:Option Addr}{R:Ending->World->Prop}{w:World}(hT:ze2 b R w):qg P ze6 #[(Value.pointer b)] w R:=
 zx (fn:=Tryz.f166) (c:=(Tryz.f166.body).getD .skip) (ann:=zee) (args:=[(0,(Value.pointer b))]) (qs:=qs) mixed Tryz.func166 rfl (by kernel_rfl) (by kernel_rfl) zow ((zo0 b R w).symm▸hT)
def zna:Ann:=(.seq .leaf (.seq .leaf .leaf))
theorem z5p:okC P qs Tryz.f189.ntmps ((Tryz.f189.body).getD .skip) zna=true:=by kernel_rfl
def zqw (s:ByteArray) (sep:ByteArray) (R:Ending->World->Prop) (w:World):Prop:=
  xg P zef #[(Value.string s),(Value.string sep)] [.str,.str,.bool] true w fun (t9:(ByteArray×ByteArray×Bool)) w_1=>
  R (.returned (Value.tuple #[(Value.string t9.1),(Value.string t9.2.1),(Value.bool t9.2.2)])) w_1
theorem z4r (s:ByteArray) (sep:ByteArray) (R:Ending->World->Prop) (w:World):tr P qs ((Tryz.f189.body).getD .skip) zna (zch 0 [(0,(Value.string s)),(0,(Value.string sep))]) (zck P Tryz.f189.results.toList R) w=zqw s sep R w:=by kernel_rfl
theorem z5s {s:ByteArray}{sep:ByteArray}{R:Ending->World->Prop}{w:World}(hT:zqw s sep R w):qg P zqq #[(Value.string s),(Value.string sep)] w R:=
 zx (fn:=Tryz.f189) (c:=(Tryz.f189.body).getD .skip) (ann:=zna) (args:=[(0,(Value.string s)),(0,(Value.string sep))]) (qs:=qs) mixed Tryz.func189 rfl (by kernel_rfl) (by kernel_rfl) z5p ((z4r s sep R w).symm▸hT)
def zdl:Ann:=(.seq .leaf (.cond .leaf (.seq .leaf (.cond .leaf .leaf))))
theorem zlw:okC P qs Tryz.f201.ntmps ((Tryz.f201.body).getD .skip) zdl=true:=by kernel_rfl
def zd6 (b:Option Addr) (R:Ending->World->Prop) (w:World):Prop:=
  zn b fun p=>
  ld .ptr p w fun (t5:(Option Addr))=>
  xq (Option.isNone t5) (
  za1 P (convert zfk zlq (Value.pointer b)) .any w fun (t9:Value) w_1=>
  xg P ziz #[t9] [.any] false w_1 fun (t10:Value) w_2=>
  za1 P (convert zlq zfk t10) .ptr w_2 fun (t11:(Option Addr)) w_3=>
  zn b fun p_1=>
  stC p_1 (Value.pointer t11) w_3 fun w_4=>
  R (.returned (Value.tuple #[])) w_4) (
  zn b fun p_2=>
  ld .ptr p_2 w fun (t17:(Option Addr))=>
  zbc P (eqM .neq zfk (.tmp 17) (.tmp 18) (Value.pointer t17) (Value.pointer b)) .bool w fun (t19:Bool)=>
  xq t19 (
  False) (
  R (.returned (Value.tuple #[])) w))
theorem zl0 (b:Option Addr) (R:Ending->World->Prop) (w:World):tr P qs ((Tryz.f201.body).getD .skip) zdl (zch 0 [(0,(Value.pointer b))]) (zck P Tryz.f201.results.toList R) w=zd6 b R w:=by kernel_rfl
theorem zl1 {b:Option Addr}{R:Ending->World->Prop}{w:World}(hT:zd6 b R w):qg P zcv #[(Value.pointer b)] w R:=
 zx (fn:=Tryz.f201) (c:=(Tryz.f201.body).getD .skip) (ann:=zdl) (args:=[(0,(Value.pointer b))]) (qs:=qs) mixed Tryz.func201 rfl (by kernel_rfl) (by kernel_rfl) zlw ((zl0 b R w).symm▸hT)
def ze7:Ann:=(.seq (.tree (.op 0 [] (.op 1 [] (.op 2 [] (.op 6 [] (.op 9 [] (.op 10 [] (.op 11 [] (.op 3 [] (.op 4 [] (.op 5 [] (.op 7 [] (.op 12 [] (.op 13 [] (.op 8 [12] (.op 14 [] (.op 15 [] .done))))))))))))))))) (.seq .leaf .leaf))
theorem zq9:okC P qs Tryz.f202.ntmps ((Tryz.f202.body).getD .skip) ze7=true:=by kernel_rfl
def zgj (b:Option Addr) (n:Int) (R:Ending->World->Prop) (w:World):Prop:=
  zbs w fun w_1=>
  zn b fun p=>
  zn b fun p_1=>
  ld .slc (Addr.add p 1) w_1 fun (t8:(Option Addr×Nat×Nat))=>
  zbc P (Builtin.cap_ #[zi] zco #[(Value.slice t8.1 t8.2.1 t8.2.2)]) (.int .i64) w_1 fun (t9:Int)=>
  z3y .i64 2 t9 fun t10=>
  zb6 .i64 t10 n fun t12=>
  ld .slc (Addr.add p_1 1) w_1 fun (t17:(Option Addr×Nat×Nat))=>
  xg P zf8 #[(Value.int .i64 t12)] [.slc] false w_1 fun (t13:(Option Addr×Nat×Nat)) w_2=>
  ((ld .slc (Addr.add p_1 1) w_2 fun (t17_1:(Option Addr×Nat×Nat))=>
  (Value.slice t17_1.1 t17_1.2.1 t17_1.2.2)=(Value.slice t17.1 t17.2.1 t17.2.2)) /\
  zbc P (Instr.sliceAt zi (Value.slice t13.1 t13.2.1 t13.2.2) none (some (Value.int .i64 (t17.2.1:Int))) none) .slc w_2 fun (t19:(Option Addr×Nat×Nat))=>
  zn b fun p_2=>
  ld .slc (Addr.add p_2 1) w_2 fun (t24:(Option Addr×Nat×Nat))=>
  za1 P (Builtin.copy_ #[zi,zi] zco #[(Value.slice t19.1 t19.2.1 t19.2.2),(Value.slice t24.1 t24.2.1 t24.2.2)]) (.int .i64) w_2 fun (_:Int) w_3=>
  zn b fun p_3=>
  stC (Addr.add p_3 1) (Value.slice t19.1 t19.2.1 t19.2.2) w_3 fun w_4=>
  R (.returned (Value.tuple #[])) w_4)
theorem zp8 (b:Option Addr) (n:Int) (R:Ending->World->Prop) (w:World):tr P qs ((Tryz.f202.body).getD .skip) ze7 (zch 0 [(0,(Value.pointer b)),(0,(Value.int .i64 n))]) (zck P Tryz.f202.results.toList R) w=zgj b n R w:=by kernel_rfl
theorem zpv {b:Option Addr}{n:Int}{R:Ending->World->Prop}{w:World}(hT:zgj b n R w):qg P zgg #[(Value.pointer b),(Value.int .i64 n)] w R:=
 zx (fn:=Tryz.f202) (c:=(Tryz.f202.body).getD .skip) (ann:=ze7) (args:=[(0,(Value.pointer b)),(0,(Value.int .i64 n))]) (qs:=qs) mixed Tryz.func202 rfl (by kernel_rfl) (by kernel_rfl) zq9 ((zp8 b n R w).symm▸hT)
def zdx:Ann:=(.seq .leaf (.seq (.seq .leaf (.seq .leaf (.cond (.seq (.tree (.op 0 [] (.op 1 [] (.op 3 [] (.op 4 [] (.op 5 [] (.op 6 [] (.op 7 [] (.op 2 [] (.op 9 [] (.op 8 [] (.op 10 [] (.op 11 [] .done))))))))))))) .leaf) .leaf))) (.seq .leaf .leaf)))
theorem zml:okC P qs Tryz.f216.ntmps ((Tryz.f216.body).getD .skip) zdx=true:=by kernel_rfl
def zec (s:ByteArray) (sep:ByteArray) (R:Ending->World->Prop) (w:World):Prop:=
  xg P zds #[(Value.string s),(Value.string sep)] [.int .i64] false w fun (t10:Int) w_1=>
  xq (decide (t10>=0)) (
  zbs w_1 fun w_2=>
  zb6 .i64 t10 (sep.size:Int) fun t20=>
  zbc P (Instr.sliceAt jy (Value.string s) none (some (Value.int .i64 t10)) none) .str w_2 fun (t15:ByteArray)=>
  zbc P (Instr.sliceAt jy (Value.string s) (some (Value.int .i64 t20)) none none) .str w_2 fun (t21:ByteArray)=>
  R (.returned (Value.tuple #[(Value.string t15),(Value.string t21),(Value.bool true)])) w_2) (
  R (.returned (Value.tuple #[(Value.string s),(Value.string (ByteArray.mk #[])),(Value.bool false)])) w_1)
theorem zm7 (s:ByteArray) (sep:ByteArray) (R:Ending->World->Prop) (w:World):tr P qs ((Tryz.f216.body).getD .skip) zdx (zch 0 [(0,(Value.string s)),(0,(Value.string sep))]) (zck P Tryz.f216.results.toList R) w=zec s sep R w:=by kernel_rfl
theorem zm0 {s:ByteArray}{sep:ByteArray}{R:Ending->World->Prop}{w:World}(hT:zec s sep R w):qg P zef #[(Value.string s),(Value.string sep)] w R:=
 zx (fn:=Tryz.f216) (c:=(Tryz.f216.body).getD .skip) (ann:=zdx) (args:=[(0,(Value.string s)),(0,(Value.string sep))]) (qs:=qs) mixed Tryz.func216 rfl (by kernel_rfl) (by kernel_rfl) zml ((zm7 s sep R w).symm▸hT)
theorem zp3 {e:Array Value->Sem Value}(he:Extern.find Tryz.f222=some e) (args:Array Value) (w:World):(callFunc ziz args).run P w=((e args).run P w).andThen fun v w1=>.ok (.value v) w1:=
 Go.run_callFunc_extern Tryz.func222 (by kernel_rfl) (by kernel_rfl) (by kernel_rfl) he args w
theorem zk5 {e:Array Value->Sem Value}(he:Extern.find Tryz.f223=some e) (args:Array Value) (w:World):(callFunc zf8 args).run P w=((e args).run P w).andThen fun v w1=>.ok (.value v) w1:=
 Go.run_callFunc_extern Tryz.func223 (by kernel_rfl) (by kernel_rfl) (by kernel_rfl) he args w
def zdg:Ann:=(.seq .leaf (.seq .leaf (.join [] (.jblk [] (.seq .leaf (.cond (.seq .leaf .leaf) (.seq .leaf (.cond (.seq .leaf .leaf) (.seq .leaf (.cond (.seq .leaf .leaf) (.seq .leaf (.cond (.seq .leaf .leaf) .leaf))))))))) (.seq .leaf (.seq .leaf (.seq .leaf (.seq .leaf (.seq .leaf (.seq (.blk (.loop [(8,.int .i64),(10,.int .i64)] (.seq (.seq .leaf (.cond .leaf .leaf)) (.jblk [(8,.int .i64),(10,.int .i64)] (.join [(8,.int .i64)] (.seq .leaf (.cond (.seq .leaf (.seq (.seq .leaf (.cond (.seq .leaf .leaf) .leaf)) .leaf)) .leaf)) (.join [] (.seq .leaf (.cond (.seq .leaf .leaf) .leaf)) (.seq .leaf (.seq .leaf (.join [(107,.bool)] .leaf (.cond (.seq .leaf (.seq (.seq .leaf (.cond (.seq .leaf .leaf) .leaf)) (.seq .leaf .leaf))) (.seq .leaf (.cond (.seq .leaf (.seq (.seq .leaf (.cond (.seq .leaf .leaf) .leaf)) (.seq .leaf .leaf))) .leaf)))))))))))) (.seq .leaf .leaf))))))))))
theorem zkr:okC P qs Tryz.f228.ntmps ((Tryz.f228.body).getD .skip) zdg=true:=by kernel_rfl
def zdz (s:ByteArray) (substr:ByteArray) (R:Ending->World->Prop) (w:World):Prop:=
  ku Unit (fun k=>
  ku Unit (fun k_1=>
  xq ((substr.size:Int)==0) (
  R (.returned (Value.int .i64 0)) w) (
  xq (substr.toList==s.toList) (
  R (.returned (Value.int .i64 0)) w) (
  xq ((substr.size:Int)==1) (
  z3t substr 0 fun t29=>
  xg P zb4 #[(Value.string s),(Value.int .u8 t29)] [.int .i64] false w fun (t30:Int) w_1=>
  R (.returned (Value.int .i64 t30)) w_1) (
  xq (decide ((substr.size:Int)>=(s.size:Int))) (
  R (.returned (Value.int .i64 (-1))) w) (
  ld (.int .i64) (⟨1,0,none⟩:Addr) w fun (t38:Int)=>
  xq (decide ((substr.size:Int)<=t38)) (
  xq (decide ((s.size:Int)<=64)) (
  xg P zfg #[(Value.string s),(Value.string substr)] [.int .i64] false w fun (t47:Int) w_2=>
  R (.returned (Value.int .i64 t47)) w_2) (
  k_1 () w)) (
  k_1 () w)))))) (fun _ w_3=>
  k () w_3)) (fun _ w_4=>
  z3t substr 0 fun t49=>
  z3t substr 1 fun t51=>
  zqa .i64 (s.size:Int) (substr.size:Int) fun t55=>
  zb6 .i64 t55 1 fun t56=>
  za7 (Int×Int) (fun s_3 w_5 k_2=>
  xq (decide (s_3.1 < t56)) (
  ku (Int×Int) (fun k_3=>
  ku Int (fun k_4=>
  z3t s s_3.1 fun t62=>
  xq (t62 != t49) (
  zb6 .i64 s_3.1 1 fun t67=>
  zbc P (Instr.sliceAt jy (Value.string s) (some (Value.int .i64 t67)) (some (Value.int .i64 t56)) none) .str w_5 fun (t69:ByteArray)=>
  xg P zb4 #[(Value.string t69),(Value.int .u8 t49)] [.int .i64] false w_5 fun (t71:Int) w_6=>
  xq (decide (t71 < 0)) (
  R (.returned (Value.int .i64 (-1))) w_6) (
  zb6 .i64 t71 1 fun t76=>
  zb6 .i64 s_3.1 t76 fun t77=>
  k_4 t77 w_6)) (
  k_4 s_3.1 w_5)) (fun s_4 w_7=>
  ku Unit (fun k_5=>
  zb6 .i64 s_4 1 fun t80=>
  z3t s t80 fun t81=>
  xq (t81==t51) (
  zb6 .i64 s_4 (substr.size:Int) fun t89=>
  zbc P (Instr.sliceAt jy (Value.string s) (some (Value.int .i64 s_4)) (some (Value.int .i64 t89)) none) .str w_7 fun (t90:ByteArray)=>
  xq (t90.toList==substr.toList) (
  R (.returned (Value.int .i64 s_4)) w_7) (
  k_5 () w_7)) (
  k_5 () w_7)) (fun _ w_8=>
  zb6 .i64 s_4 1 fun t96=>
  zb6 .i64 s_3.2 1 fun t98=>
  ku Bool (fun k_6=>
  ld (.int .i64) (⟨1,0,none⟩:Addr) w_8 fun (t100:Int)=>
  xq (decide ((substr.size:Int)<=t100)) (
  xg P zni #[(Value.int .i64 t96)] [.int .i64] false w_8 fun (t105:Int) w_9=>
  k_6 (decide (t98 > t105)) w_9) (
  k_6 false w_8)) (fun s_6 w_10=>
  xq s_6 (
  zbc P (Instr.sliceAt jy (Value.string s) (some (Value.int .i64 t96)) none none) .str w_10 fun (t110:ByteArray)=>
  xg P zfg #[(Value.string t110),(Value.string substr)] [.int .i64] false w_10 fun (t112:Int) w_11=>
  xq (decide (t112>=0)) (
  zb6 .i64 t112 t96 fun t117=>
  R (.returned (Value.int .i64 t117)) w_11) (
  R (.returned (Value.int .i64 (-1))) w_11)) (
  ld (.int .i64) (⟨1,0,none⟩:Addr) w_10 fun (t119:Int)=>
  xq (decide ((substr.size:Int) > t119)) (
  z9z .i64 t96 4 fun t124=>
  zb6 .i64 4 t124 fun t125=>
  xq (decide (t98>=t125)) (
  xq (decide (t96 < t56)) (
  zbc P (Instr.sliceAt jy (Value.string s) (some (Value.int .i64 t96)) none none) .str w_10 fun (t135:ByteArray)=>
  xg P zgq #[(Value.string t135),(Value.string substr)] [.int .i64] false w_10 fun (t137:Int) w_12=>
  xq (decide (t137 < 0)) (
  R (.returned (Value.int .i64 (-1))) w_12) (
  zb6 .i64 t96 t137 fun t142=>
  R (.returned (Value.int .i64 t142)) w_12)) (
  k_3 (t96,t98) w_10)) (
  k_3 (t96,t98) w_10)) (
  k_3 (t96,t98) w_10)))))) (fun s_7 w_13=>
  k_2 (s_7.1,s_7.2) w_13)) (
  R (.returned (Value.int .i64 (-1))) w_5)) (0,0) w_4)
theorem zlp (s:ByteArray) (substr:ByteArray) (R:Ending->World->Prop) (w:World):tr P qs ((Tryz.f228.body).getD .skip) zdg (zch 0 [(0,(Value.string s)),(0,(Value.string substr))]) (zck P Tryz.f228.results.toList R) w=zdz s substr R w:=by kernel_rfl
theorem zll {s:ByteArray}{substr:ByteArray}{R:Ending->World->Prop}{w:World}(hT:zdz s substr R w):qg P zds #[(Value.string s),(Value.string substr)] w R:=
 zx (fn:=Tryz.f228) (c:=(Tryz.f228.body).getD .skip) (ann:=zdg) (args:=[(0,(Value.string s)),(0,(Value.string substr))]) (qs:=qs) mixed Tryz.func228 rfl (by kernel_rfl) (by kernel_rfl) zkr ((zlp s substr R w).symm▸hT)
def zct:Ann:=(.seq .leaf (.seq .leaf .leaf))
theorem ziv:okC P qs Tryz.f231.ntmps ((Tryz.f231.body).getD .skip) zct=true:=by kernel_rfl
def zc1 (s:ByteArray) (c:Int) (R:Ending->World->Prop) (w:World):Prop:=
  xg P zd9 #[(Value.string s),(Value.int .u8 c)] [.int .i64] false w fun (t7:Int) w_1=>
  R (.returned (Value.int .i64 t7)) w_1
theorem ziq (s:ByteArray) (c:Int) (R:Ending->World->Prop) (w:World):tr P qs ((Tryz.f231.body).getD .skip) zct (zch 0 [(0,(Value.string s)),(0,(Value.int .u8 c))]) (zck P Tryz.f231.results.toList R) w=zc1 s c R w:=by kernel_rfl
theorem zjd {s:ByteArray}{c:Int}{R:Ending->World->Prop}{w:World}(hT:zc1 s c R w):qg P zb4 #[(Value.string s),(Value.int .u8 c)] w R:=
 zx (fn:=Tryz.f231) (c:=(Tryz.f231.body).getD .skip) (ann:=zct) (args:=[(0,(Value.string s)),(0,(Value.int .u8 c))]) (qs:=qs) mixed Tryz.func231 rfl (by kernel_rfl) (by kernel_rfl) ziv ((ziq s c R w).symm▸hT)
theorem zin {e:Array Value->Sem Value}(he:Extern.find Tryz.f235=some e) (args:Array Value) (w:World):(callFunc zd9 args).run P w=((e args).run P w).andThen fun v w1=>.ok (.value v) w1:=
 Go.run_callFunc_extern Tryz.func235 (by kernel_rfl) (by kernel_rfl) (by kernel_rfl) he args w
end Go.Proofs.YtbmegmbnlajbbaaGreatDoor
