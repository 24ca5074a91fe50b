/- Part 2 of the texts below the card, joined. -/
import Derived.Test.YthaaekcaaecdeaaGreatDoorProg
import Derived.Test.YthaaekcaaecdeaaGreatDoorTUna
namespace Go.Proofs.YthaaekcaaecdeaaGreatDoor
open Go Go.Fw Go.Proofs
set_option maxRecDepth 100000
noncomputable abbrev P:Program:=Tryz.prog
def qs:List FuncId:=[169,131,181,130,182,241,215]
theorem mixed:P.follows .mixedOrders=true:=by kernel_rfl
theorem fnT {f:FuncId}{fn:Func}(ann:Ann){vs:List Value}{w:World}{R:Ending->World->Prop}{T:Prop}(hf:P.funcs[f]?=some fn) (hT:T) (hb:fn.body=some (fn.body.getD .skip):=by rfl) (hn:(fn.name== "runtime.NumGoroutine")=false:=by kernel_rfl) (hl:Nat.ble (vs.map fun v=>((0:Nat),v)).length fn.ntmps=true:=by kernel_rfl) (hok:okC P qs fn.ntmps (fn.body.getD .skip) ann=true:=by kernel_rfl) (he:tr P qs (fn.body.getD .skip) ann (qel 0 (vs.map fun v=>((0:Nat),v))) (qj4 P fn.results.toList R) w=T:=by kernel_rfl):qj P f vs.toArray w R:=by
 have h:=qen (qs:=qs) (args:=vs.map fun v=>((0:Nat),v)) mixed hf hb hn hl hok (he.symm▸hT)
 rwa [List.map_map,show ((fun x:EV=>x.2)∘fun v:Value=>((0:Nat),v))=id from rfl,List.map_id] at h
theorem fnU {f:FuncId}{fn:Func}(ann:Ann2){vs:List Value}{w:World}{R:Ending->World->Prop}{T:Prop}(hf:P.funcs[f]?=some fn) (hT:T) (hb:fn.body=some (fn.body.getD .skip):=by rfl) (hn:(fn.name== "runtime.NumGoroutine")=false:=by kernel_rfl) (hl:Nat.ble (vs.map fun v=>((0:Nat),v)).length fn.ntmps=true:=by kernel_rfl) (hok:z9a P qs fn.ntmps (fn.body.getD .skip) ann=true:=by kernel_rfl) (he:tr2 P qs (fn.body.getD .skip) ann [] (qel 0 (vs.map fun v=>((0:Nat),v))) (qej P fn.results.toList R) w=T:=by kernel_rfl):qj P f vs.toArray w R:=by
 have h:=z92 (qs:=qs) (args:=vs.map fun v=>((0:Nat),v)) mixed hf hb hn hl hok (he.symm▸hT)
 rwa [List.map_map,show ((fun x:EV=>x.2)∘fun v:Value=>((0:Nat),v))=id from rfl,List.map_id] at h
abbrev zpl:FuncId:=3
abbrev zqk:FuncId:=5
abbrev zou:FuncId:=6
abbrev zmk:FuncId:=7
abbrev zkq:FuncId:=8
abbrev zev:FuncId:=9
abbrev zda:FuncId:=10
abbrev zkx:FuncId:=11
abbrev zd1:FuncId:=12
abbrev zbj:FuncId:=13
abbrev zdk:FuncId:=14
abbrev zgo:FuncId:=15
abbrev zti:FuncId:=27
abbrev zcr:FuncId:=28
abbrev znv:FuncId:=29
abbrev zoa:FuncId:=30
abbrev zin:FuncId:=31
abbrev vk:FuncId:=32
abbrev zpy:FuncId:=33
abbrev zjz:FuncId:=34
abbrev zgr:FuncId:=35
abbrev zcs:FuncId:=36
abbrev zqh:FuncId:=37
abbrev zgi:FuncId:=38
abbrev zp3:FuncId:=39
abbrev zuy:FuncId:=40
abbrev zwt:FuncId:=41
abbrev zfh:FuncId:=42
abbrev zfg:FuncId:=43
abbrev zh0:FuncId:=44
abbrev zhy:FuncId:=45
abbrev zey:FuncId:=46
abbrev zd6:FuncId:=54
abbrev zhm:FuncId:=55
abbrev zi1:FuncId:=58
abbrev zlu:FuncId:=59
abbrev zmt:FuncId:=61
abbrev zvw:FuncId:=62
abbrev zby:FuncId:=63
abbrev zv2:FuncId:=64
abbrev zhf:FuncId:=65
abbrev zio:FuncId:=66
abbrev zc5:FuncId:=67
abbrev zc4:FuncId:=68
abbrev zft:FuncId:=69
abbrev zbw:FuncId:=70
abbrev zas:FuncId:=71
abbrev zle:FuncId:=72
abbrev zlh:FuncId:=73
abbrev zco:FuncId:=74
abbrev zgc:FuncId:=75
abbrev zk4:FuncId:=76
abbrev zdv:FuncId:=77
abbrev zmz:FuncId:=78
abbrev zcj:FuncId:=79
abbrev zax:FuncId:=80
abbrev zia:FuncId:=81
abbrev zcb:FuncId:=82
abbrev zqf:FuncId:=83
abbrev zhx:FuncId:=84
abbrev zth:FuncId:=85
abbrev zf8:FuncId:=86
abbrev zhe:FuncId:=87
abbrev zc3:FuncId:=88
abbrev zd5:FuncId:=89
abbrev zdp:FuncId:=90
abbrev zme:FuncId:=91
abbrev zhg:FuncId:=92
abbrev za8:FuncId:=93
abbrev zd3:FuncId:=94
abbrev zno:FuncId:=95
abbrev zsj:FuncId:=96
abbrev zqe:FuncId:=104
abbrev zir:FuncId:=107
abbrev zes:FuncId:=108
abbrev zmr:FuncId:=109
abbrev zrn:FuncId:=110
abbrev zdw:FuncId:=111
abbrev zlc:FuncId:=112
abbrev zmw:FuncId:=113
abbrev zid:FuncId:=114
abbrev zk1:FuncId:=115
abbrev zor:FuncId:=116
abbrev zkt:FuncId:=117
abbrev zol:FuncId:=118
abbrev zdh:FuncId:=119
abbrev zjt:FuncId:=123
abbrev zml:FuncId:=124
abbrev zcz:FuncId:=125
abbrev zao:FuncId:=128
abbrev zef:FuncId:=129
abbrev zdl:FuncId:=130
abbrev zjo:FuncId:=131
abbrev zld:FuncId:=132
abbrev zbn:FuncId:=133
abbrev zfe:FuncId:=135
abbrev zaw:FuncId:=136
abbrev zb0:FuncId:=137
abbrev zb4:FuncId:=138
abbrev zkz:FuncId:=139
abbrev zfy:FuncId:=140
abbrev ztl:FuncId:=141
abbrev zi8:FuncId:=142
abbrev zmn:FuncId:=143
abbrev zb9:FuncId:=144
abbrev zmf:FuncId:=145
abbrev zjk:FuncId:=146
abbrev zbb:FuncId:=147
abbrev zgd:FuncId:=148
abbrev zu7:FuncId:=149
abbrev zil:FuncId:=150
abbrev zfw:FuncId:=151
abbrev zsx:FuncId:=152
abbrev zhw:FuncId:=153
abbrev zfx:FuncId:=154
abbrev zik:FuncId:=155
abbrev zrj:FuncId:=156
abbrev ze3:FuncId:=157
abbrev zdy:FuncId:=158
abbrev zd9:FuncId:=159
abbrev zbc:FuncId:=160
abbrev zcf:FuncId:=161
abbrev ze5:FuncId:=162
abbrev zwi:FuncId:=163
abbrev zk8:FuncId:=165
abbrev zcv:FuncId:=166
abbrev zga:FuncId:=167
abbrev zla:FuncId:=168
abbrev zp4:FuncId:=169
abbrev zfj:FuncId:=181
abbrev zbg:FuncId:=182
abbrev zgh:FuncId:=183
abbrev zm2:FuncId:=184
abbrev zcd:FuncId:=193
abbrev zfd:FuncId:=194
abbrev ziu:FuncId:=195
abbrev zmv:FuncId:=196
abbrev zp7:FuncId:=197
abbrev zb7:FuncId:=198
abbrev zjq:FuncId:=199
abbrev zfp:FuncId:=200
abbrev zoc:FuncId:=201
abbrev zkk:FuncId:=203
abbrev zuh:FuncId:=204
abbrev ziz:FuncId:=205
abbrev zku:FuncId:=210
abbrev zhs:FuncId:=211
abbrev zen:FuncId:=212
abbrev zaa:FuncId:=215
abbrev zdu:FuncId:=222
abbrev zha:FuncId:=226
abbrev ze9:FuncId:=227
abbrev zgk:FuncId:=228
abbrev zdc:FuncId:=245
abbrev zbh:FuncId:=252
abbrev zel:FuncId:=253
abbrev zkm:FuncId:=254
abbrev zfl:FuncId:=255
abbrev zdn:FuncId:=257
abbrev zg2:FuncId:=273
abbrev zeg:FuncId:=283
abbrev zcl:FuncId:=290
abbrev zd4:FuncId:=292
abbrev zcy:FuncId:=293
abbrev zbk:TypeId:=0
abbrev zav:TypeId:=3
abbrev z1v:TypeId:=4
abbrev zac:TypeId:=5
abbrev qx:TypeId:=9
abbrev qgs:TypeId:=20
abbrev jk:TypeId:=23
abbrev jd:TypeId:=28
abbrev zf:TypeId:=32
abbrev jq:TypeId:=35
abbrev zx:TypeId:=39
abbrev zq:TypeId:=41
abbrev zfo:TypeId:=43
abbrev qm:TypeId:=47
abbrev xk:TypeId:=68
abbrev zn:TypeId:=77
abbrev zfc:TypeId:=78
abbrev zdd:TypeId:=79
abbrev zgs:TypeId:=81
abbrev zl:TypeId:=84
abbrev zak:TypeId:=85
abbrev zg1:TypeId:=87
abbrev je:TypeId:=88
abbrev zbl:TypeId:=90
abbrev zaz:TypeId:=91
abbrev zab:TypeId:=94
abbrev zai:TypeId:=97
abbrev zcx:TypeId:=98
abbrev za6:TypeId:=99
abbrev zu:TypeId:=101
abbrev xq:TypeId:=103
abbrev jl:TypeId:=105
abbrev zfq:TypeId:=111
abbrev zcw:TypeId:=113
abbrev zca:TypeId:=117
abbrev jv:TypeId:=122
abbrev zmy:TypeId:=124
abbrev zi:TypeId:=126
abbrev zg0:TypeId:=145
abbrev zdm:TypeId:=147
abbrev zgn:TypeId:=153
abbrev zb2:TypeId:=168
abbrev zbu:TypeId:=188
abbrev zer:TypeId:=190
abbrev zi4:TypeId:=191
abbrev zal:TypeId:=194
abbrev zv4:TypeId:=212
abbrev zch:TypeId:=227
abbrev zqc:TypeId:=231
abbrev zeu:TypeId:=246
abbrev ku:TypeId:=248
abbrev zo:TypeId:=262
abbrev qo:TypeId:=263
abbrev zoq:TypeId:=265
abbrev za9:TypeId:=274
abbrev zhk:TypeId:=279
abbrev zg5:TypeId:=282
abbrev zkl:TypeId:=284
abbrev zlr:TypeId:=293
abbrev zm6:TypeId:=298
abbrev zcg:TypeId:=299
abbrev ztf:TypeId:=300
abbrev za0:TypeId:=302
abbrev zl4:TypeId:=303
abbrev zsc:TypeId:=321
abbrev zfr:TypeId:=337
def zrx (c:Int) (R:Ending->World->Prop) (w:World):Prop:=
  joinP Unit (fun k=>
  joinP Unit (fun k_1=>
  joinP Unit (fun k_2=>
  joinP Unit (fun k_3=>
  joinP Unit (fun k_4=>
  joinP Unit (fun k_5=>
  joinP Unit (fun k_6=>
  joinP Unit (fun k_7=>
  qw (c==46) (
  k_5 () w) (
  qw (c==95) (
  k_5 () w) (
  qw (c==45) (
  k_5 () w) (
  k_7 () w)))) (fun _ w_1=>
  joinP Unit (fun k_8=>
  qw (decide (c>=48)) (
  qw (decide (c<=57)) (
  k_4 () w_1) (
  k_8 () w_1)) (
  k_8 () w_1)) (fun _ w_2=>
  qw (decide (c>=97)) (
  qw (decide (c<=122)) (
  k_3 () w_2) (
  k_6 () w_2)) (
  k_6 () w_2)))) (fun _ w_3=>
  k_1 () w_3)) (fun _ w_4=>
  k_4 () w_4)) (fun _ w_5=>
  k_3 () w_5)) (fun _ w_6=>
  k_2 () w_6)) (fun _ w_7=>
  R (.returned (Value.bool true)) w_7)) (fun _ w_8=>
  k () w_8)) (fun _ w_9=>
  qw (decide (c>=65)) (
  R (.returned (Value.bool (decide (c<=90)))) w_9) (
  R (.returned (Value.bool false)) w_9))
theorem zxo {c:Int}{R:Ending->World->Prop}{w:World}(hT:zrx c R w):qj P zjo #[(Value.int .u8 c)] w R:=
 fnT (.seq .leaf (.join [] (.jblk [] (.join [] (.jblk [] (.jblk [] (.jblk [] (.join [] (.join [] (.seq .leaf (.cond .leaf .leaf)) (.join [] (.seq .leaf (.cond .leaf .leaf)) (.seq .leaf (.cond .leaf .leaf)))) .leaf)))) (.seq (.seq .leaf .leaf) .leaf))) (.seq .leaf .leaf))) Tryz.func131 hT
def zw2 (c:Int) (R:Ending->World->Prop) (w:World):Prop:=
  qw (decide (c>=97)) (
  qw (decide (c<=122)) (
  R (.returned (Value.bool true)) w) (
  qw (decide (c>=65)) (
  qw (decide (c<=90)) (
  R (.returned (Value.bool true)) w) (
  qw (decide (c>=48)) (
  qw (decide (c<=57)) (
  R (.returned (Value.bool true)) w) (
  qw (c==46) (
  R (.returned (Value.bool true)) w) (
  qw (c==95) (
  R (.returned (Value.bool true)) w) (
  R (.returned (Value.bool (c==45))) w)))) (
  qw (c==46) (
  R (.returned (Value.bool true)) w) (
  qw (c==95) (
  R (.returned (Value.bool true)) w) (
  R (.returned (Value.bool (c==45))) w))))) (
  qw (decide (c>=48)) (
  qw (decide (c<=57)) (
  R (.returned (Value.bool true)) w) (
  qw (c==46) (
  R (.returned (Value.bool true)) w) (
  qw (c==95) (
  R (.returned (Value.bool true)) w) (
  R (.returned (Value.bool (c==45))) w)))) (
  qw (c==46) (
  R (.returned (Value.bool true)) w) (
  qw (c==95) (
  R (.returned (Value.bool true)) w) (
  R (.returned (Value.bool (c==45))) w)))))) (
  qw (decide (c>=65)) (
  qw (decide (c<=90)) (
  R (.returned (Value.bool true)) w) (
  qw (decide (c>=48)) (
  qw (decide (c<=57)) (
  R (.returned (Value.bool true)) w) (
  qw (c==46) (
  R (.returned (Value.bool true)) w) (
  qw (c==95) (
  R (.returned (Value.bool true)) w) (
  R (.returned (Value.bool (c==45))) w)))) (
  qw (c==46) (
  R (.returned (Value.bool true)) w) (
  qw (c==95) (
  R (.returned (Value.bool true)) w) (
  R (.returned (Value.bool (c==45))) w))))) (
  qw (decide (c>=48)) (
  qw (decide (c<=57)) (
  R (.returned (Value.bool true)) w) (
  qw (c==46) (
  R (.returned (Value.bool true)) w) (
  qw (c==95) (
  R (.returned (Value.bool true)) w) (
  R (.returned (Value.bool (c==45))) w)))) (
  qw (c==46) (
  R (.returned (Value.bool true)) w) (
  qw (c==95) (
  R (.returned (Value.bool true)) w) (
  R (.returned (Value.bool (c==45))) w)))))
theorem z3d {c:Int}{R:Ending->World->Prop}{w:World}(hT:zw2 c R w):qj P zp4 #[(Value.int .u8 c)] w R:=
 fnT (.seq .leaf (.seq .leaf .leaf)) Tryz.func169 hT
def zky (x:ByteArray) (R:Ending->World->Prop) (w:World):Prop:=
  R (.returned (Value.bool (!(x.toList==x.toList)))) w
theorem zqg {x:ByteArray}{R:Ending->World->Prop}{w:World}(hT:zky x R w):qj P zfj #[(Value.string x)] w R:=
 fnT (.seq .leaf (.seq .leaf .leaf)) Tryz.func181 hT
def zgq (s:ByteArray) (prefixv:ByteArray) (R:Ending->World->Prop) (w:World):Prop:=
  zlp P zbg #[(Value.string s),(Value.string prefixv)] [.bool] false w fun (t7:Bool)=>
  R (.returned (Value.bool t7)) w
theorem zji {s:ByteArray}{prefixv:ByteArray}{R:Ending->World->Prop}{w:World}(hT:zgq s prefixv R w):qj P zdl #[(Value.string s),(Value.string prefixv)] w R:=
 fnT (.seq .leaf (.seq .leaf .leaf)) Tryz.func130 hT
def zci (s:ByteArray) (prefixv:ByteArray) (R:Ending->World->Prop) (w:World):Prop:=
  qw (decide ((s.size:Int)>=(prefixv.size:Int))) (
  zad P (Instr.sliceAt qx (Value.string s) none (some (Value.int .i64 (prefixv.size:Int))) none) .str w fun (t14:ByteArray)=>
  R (.returned (Value.bool (t14.toList==prefixv.toList))) w) (
  R (.returned (Value.bool false)) w)
theorem zd0 {s:ByteArray}{prefixv:ByteArray}{R:Ending->World->Prop}{w:World}(hT:zci s prefixv R w):qj P zbg #[(Value.string s),(Value.string prefixv)] w R:=
 fnT (.seq .leaf (.seq .leaf .leaf)) Tryz.func182 hT
def ztz (s:ByteArray) (R:Ending->World->Prop) (w:World):Prop:=
  joinP Unit (fun k=>
  qw (s.toList==(ByteArray.mk #[]).toList) (
  R (.returned (Value.bool false)) w) (
  qw (decide ((s.size:Int) > 16)) (
  R (.returned (Value.bool false)) w) (
  qw (s.toList==(ByteArray.mk #[46]).toList) (
  R (.returned (Value.bool false)) w) (
  qw (s.toList==(ByteArray.mk #[46,46]).toList) (
  R (.returned (Value.bool false)) w) (
  k () w))))) (fun _ w_1=>
  za4 Int (fun s_2 w_2 k_1=>
  qw (decide (s_2 < (s.size:Int))) (
  zra s s_2 fun t26=>
  zlp P zjo #[(Value.int .u8 t26)] [.bool] false w_2 fun (t27:Bool)=>
  qw (!t27) (
  R (.returned (Value.bool false)) w_2) (
  zbz .i64 s_2 1 fun t29=>
  k_1 t29 w_2)) (
  R (.returned (Value.bool true)) w_2)) 0 w_1)
theorem zz7 {s:ByteArray}{R:Ending->World->Prop}{w:World}(hT:ztz s R w):qj P zno #[(Value.string s)] w R:=
 fnT (.seq .leaf (.join [] (.seq .leaf (.cond (.seq .leaf .leaf) .leaf)) (.seq (.seq .leaf (.blk (.loop [(21,.int .i64)] (.seq .leaf (.seq (.cond .leaf .leaf) (.seq (.blk (.seq .leaf (.seq .leaf (.cond (.seq .leaf .leaf) .leaf)))) .leaf)))))) (.seq .leaf .leaf)))) Tryz.func95 hT
def zqp (names:Option Addr) (names_l jm:Nat) (R:Ending->World->Prop) (w:World):Prop:=
  za4 Int (fun s w_1 k=>
  qw (decide (s < (names_l:Int))) (
  ixS names names_l 1 s fun t9=>
  ld .str t9 w_1 fun (t10:ByteArray)=>
  ql P zno #[(Value.string t10)] [.bool] false w_1 fun (t12:Bool) w_2=>
  qw (!t12) (
  R (.returned (Value.int .i64 41)) w_2) (
  zbz .i64 s 1 fun t14=>
  k t14 w_2)) (
  qw (decide ((names_l:Int) > 8)) (
  R (.returned (Value.int .i64 42)) w_1) (
  R (.returned (Value.int .i64 0)) w_1))) 0 w
theorem zxi {names:Option Addr}{names_l jm:Nat}{R:Ending->World->Prop}{w:World}(hT:zqp names names_l jm R w):qj P zh0 #[(Value.slice names names_l jm)] w R:=
 fnT (.seq .leaf (.seq (.seq .leaf (.blk (.loop [(7,.int .i64)] (.seq .leaf (.seq (.cond .leaf .leaf) (.seq (.blk (.seq .leaf (.seq .leaf (.cond (.seq .leaf .leaf) .leaf)))) .leaf)))))) (.seq (.seq .leaf (.cond (.seq .leaf .leaf) .leaf)) (.seq .leaf .leaf)))) Tryz.func44 hT
def zek (s1:Option Addr) (s1_l s1_c:Nat) (s2:Option Addr) (s2_l s2_c:Nat) (R:Ending->World->Prop) (w:World):Prop:=
  qw ((s1_l:Int) != (s2_l:Int)) (
  R (.returned (Value.bool false)) w) (
  za4 Int (fun s w_1 k=>
  qw (decide (s < (s1_l:Int))) (
  za5 w_1 fun w_2=>
  ixS s1 s1_l 1 s fun t18=>
  ixS s2 s2_l 1 s fun t22=>
  ld .str t18 w_2 fun (t19:ByteArray)=>
  ld .str t22 w_2 fun (t23:ByteArray)=>
  qw (!(t19.toList==t23.toList)) (
  R (.returned (Value.bool false)) w_2) (
  zbz .i64 s 1 fun t25=>
  k t25 w_2)) (
  R (.returned (Value.bool true)) w_1)) 0 w)
theorem zic {s1:Option Addr}{s1_l s1_c:Nat}{s2:Option Addr}{s2_l s2_c:Nat}{R:Ending->World->Prop}{w:World}(hT:zek s1 s1_l s1_c s2 s2_l s2_c R w):qj P zcz #[(Value.slice s1 s1_l s1_c),(Value.slice s2 s2_l s2_c)] w R:=
 fnT (.seq .leaf (.seq (.seq .leaf (.cond (.seq .leaf .leaf) .leaf)) (.seq (.seq .leaf (.blk (.loop [(13,.int .i64)] (.seq .leaf (.seq (.cond .leaf .leaf) (.seq (.blk (.seq .leaf (.seq (.tree (.op 0 [] (.op 1 [] (.op 2 [] (.op 4 [] (.op 5 [] (.op 6 [] (.op 3 [] (.op 7 [] (.op 8 [] .done)))))))))) (.cond (.seq .leaf .leaf) .leaf)))) .leaf)))))) (.seq .leaf .leaf)))) Tryz.func125 hT
def zph (path:Option Addr) (path_l path_c:Nat) (of:Option Addr) (of_l of_c:Nat) (R:Ending->World->Prop) (w:World):Prop:=
  qw (decide ((path_l:Int)>=(of_l:Int))) (
  zad P (Instr.sliceAt zx (Value.slice path path_l path_c) none (some (Value.int .i64 (of_l:Int))) none) .slc w fun (t14:(Option Addr×Nat×Nat))=>
  ql P zcz #[(Value.slice t14.1 t14.2.1 t14.2.2),(Value.slice of of_l of_c)] [.bool] false w fun (t16:Bool) w_1=>
  R (.returned (Value.bool t16)) w_1) (
  R (.returned (Value.bool false)) w)
theorem zwo {path:Option Addr}{path_l path_c:Nat}{of:Option Addr}{of_l of_c:Nat}{R:Ending->World->Prop}{w:World}(hT:zph path path_l path_c of of_l of_c R w):qj P zio #[(Value.slice path path_l path_c),(Value.slice of of_l of_c)] w R:=
 fnT (.seq .leaf (.seq .leaf .leaf)) Tryz.func66 hT
def zjg (x:ByteArray) (y:ByteArray) (R:Ending->World->Prop) (w:World):Prop:=
  zlp P zfj #[(Value.string x)] [.bool] false w fun (t8:Bool)=>
  zlp P zfj #[(Value.string y)] [.bool] false w fun (t10:Bool)=>
  qw t8 (
  qw t10 (
  R (.returned (Value.int .i64 0)) w) (
  R (.returned (Value.int .i64 (-1))) w)) (
  qw t10 (
  R (.returned (Value.int .i64 1)) w) (
  qw (Op.bytesLess x.toList y.toList) (
  R (.returned (Value.int .i64 (-1))) w) (
  qw (!((Op.bytesLess x.toList y.toList) || (x.toList==y.toList))) (
  R (.returned (Value.int .i64 1)) w) (
  R (.returned (Value.int .i64 0)) w))))
theorem znx {x:ByteArray}{y:ByteArray}{R:Ending->World->Prop}{w:World}(hT:zjg x y R w):qj P zef #[(Value.string x),(Value.string y)] w R:=
 fnT (.seq .leaf (.seq .leaf (.seq .leaf (.seq (.seq .leaf (.cond (.seq (.seq .leaf (.cond (.seq .leaf .leaf) .leaf)) (.seq .leaf .leaf)) .leaf)) (.seq (.seq .leaf (.cond (.seq .leaf .leaf) .leaf)) (.seq (.seq .leaf (.cond (.seq .leaf .leaf) .leaf)) (.seq (.seq .leaf (.cond (.seq .leaf .leaf) .leaf)) (.seq .leaf .leaf)))))))) Tryz.func129 hT
def zbf (s1:Option Addr) (s1_l s1_c:Nat) (s2:Option Addr) (s2_l s2_c:Nat) (cmp:Value) (R:Ending->World->Prop) (w:World):Prop:=
  za4 Int (fun s w_1 k=>
  qw (decide (s < (s1_l:Int))) (
  ixS s1 s1_l 1 s fun t16=>
  ld .str t16 w_1 fun (t17:ByteArray)=>
  qw (decide (s>=(s2_l:Int))) (
  R (.returned (Value.int .i64 1)) w_1) (
  ixS s2 s2_l 1 s fun t24=>
  ld .str t24 w_1 fun (t25:ByteArray)=>
  zp1 P cmp #[(Value.string t17),(Value.string t25)] [.int .i64] false w_1 fun (t29:Int) w_2=>
  qw (t29 != 0) (
  R (.returned (Value.int .i64 t29)) w_2) (
  zbz .i64 s 1 fun t33=>
  k t33 w_2))) (
  qw (decide ((s1_l:Int) < (s2_l:Int))) (
  R (.returned (Value.int .i64 (-1))) w_1) (
  R (.returned (Value.int .i64 0)) w_1))) 0 w
theorem zdg {s1:Option Addr}{s1_l s1_c:Nat}{s2:Option Addr}{s2_l s2_c:Nat}{cmp:Value}{R:Ending->World->Prop}{w:World}(hT:zbf s1 s1_l s1_c s2 s2_l s2_c cmp R w):qj P zao #[(Value.slice s1 s1_l s1_c),(Value.slice s2 s2_l s2_c),cmp] w R:=
 fnT (.seq .leaf (.seq (.seq .leaf (.blk (.loop [(13,.int .i64)] (.seq .leaf (.seq (.cond .leaf .leaf) (.seq (.blk (.seq .leaf (.seq (.seq .leaf (.cond (.seq .leaf .leaf) .leaf)) (.seq .leaf (.seq .leaf (.seq .leaf (.cond (.seq .leaf .leaf) .leaf))))))) .leaf)))))) (.seq (.seq .leaf (.cond (.seq .leaf .leaf) .leaf)) (.seq .leaf .leaf)))) Tryz.func128 hT
def zoj (a:Option Addr) (a_l a_c:Nat) (b:Option Addr) (b_l b_c:Nat) (R:Ending->World->Prop) (w:World):Prop:=
  ql P zao #[(Value.slice a a_l a_c),(Value.slice b b_l b_c),(Value.func (.func zef) #[] #[])] [.int .i64] false w fun (t7:Int) w_1=>
  R (.returned (Value.int .i64 t7)) w_1
theorem zui {a:Option Addr}{a_l a_c:Nat}{b:Option Addr}{b_l b_c:Nat}{R:Ending->World->Prop}{w:World}(hT:zoj a a_l a_c b b_l b_c R w):qj P zft #[(Value.slice a a_l a_c),(Value.slice b b_l b_c)] w R:=
 fnT (.seq .leaf (.seq .leaf .leaf)) Tryz.func69 hT
def zna (yield:Value) (c0:Option Addr) (R:Ending->World->Prop) (w:World):Prop:=
  za4 Unit (fun _ w_1 k=>
  qg c0 fun p=>
  ld .str p w_1 fun (t6:ByteArray)=>
  qw (!(t6.toList==(ByteArray.mk #[]).toList)) (
  qg c0 fun p_1=>
  ld .str p_1 w_1 fun (t9:ByteArray)=>
  ql P zm2 #[(Value.string t9),(Value.string (ByteArray.mk #[47]))] [.str,.str,.bool] true w_1 fun (t10:(ByteArray×ByteArray×Bool)) w_2=>
  zp1 P yield #[(Value.string t10.1)] [.bool] false w_2 fun (t16:Bool) w_3=>
  qw (!t16) (
  R (.returned (Value.tuple #[])) w_3) (
  qg c0 fun p_2=>
  stC p_2 (Value.string t10.2.1) w_3 fun w_4=>
  k () w_4)) (
  R (.returned (Value.tuple #[])) w_1)) () w
theorem ztc {yield:Value}{c0:Option Addr}{R:Ending->World->Prop}{w:World}(hT:zna yield c0 R w):qj P zgh #[yield,(Value.pointer c0)] w R:=
 fnT (.blk (.loop [] (.seq (.seq .leaf (.cond .leaf .leaf)) (.blk (.seq .leaf (.seq (.seq .leaf (.cond .leaf .leaf)) .leaf)))))) Tryz.func183 hT
def zpm (s:ByteArray) (R:Ending->World->Prop) (w:World):Prop:=
  zat #[(Value.string s)] qx w fun b1 w_1=>
  zad P (Instr.makeFunc (Go.Fn.func zgh) #[] #[(Value.pointer (some (⟨b1,0,none⟩:Addr)))]) .any w_1 fun (t3:Value)=>
  R (.returned t3) w_1
theorem zw9 {s:ByteArray}{R:Ending->World->Prop}{w:World}(hT:zpm s R w):qj P zld #[(Value.string s)] w R:=
 fnT (.seq .leaf (.seq .leaf .leaf)) Tryz.func132 hT
def zqo (s:ByteArray) (R:Ending->World->Prop) (w:World):Prop:=
  zat (zc P zx) zx w fun b2 w_1=>
  zat (zc P jd) jd w_1 fun b3 w_2=>
  qw (decide ((s.size:Int) > 256)) (
  stC (⟨b2,0,none⟩:Addr) (Value.slice none 0 0) w_2 fun w_3=>
  stC (⟨b3,0,none⟩:Addr) (Value.int .i64 2) w_3 fun w_4=>
  ld .slc (⟨b2,0,none⟩:Addr) w_4 fun (t2:(Option Addr×Nat×Nat))=>
  ld (.int .i64) (⟨b3,0,none⟩:Addr) w_4 fun (t3:Int)=>
  R (.returned (Value.tuple #[(Value.slice t2.1 t2.2.1 t2.2.2),(Value.int .i64 t3)])) w_4) (
  zlp P zdl #[(Value.string s),(Value.string (ByteArray.mk #[47]))] [.bool] false w_2 fun (t11:Bool)=>
  qw (!t11) (
  stC (⟨b2,0,none⟩:Addr) (Value.slice none 0 0) w_2 fun w_5=>
  stC (⟨b3,0,none⟩:Addr) (Value.int .i64 40) w_5 fun w_6=>
  ld .slc (⟨b2,0,none⟩:Addr) w_6 fun (t2_1:(Option Addr×Nat×Nat))=>
  ld (.int .i64) (⟨b3,0,none⟩:Addr) w_6 fun (t3_1:Int)=>
  R (.returned (Value.tuple #[(Value.slice t2_1.1 t2_1.2.1 t2_1.2.2),(Value.int .i64 t3_1)])) w_6) (
  za4 Int (fun s_1 w_7 k=>
  qw (decide (s_1 < (s.size:Int))) (
  joinP Unit (fun k_1=>
  joinP Unit (fun k_2=>
  zra s s_1 fun t20=>
  qw (t20 != 47) (
  zra s s_1 fun t25=>
  zlp P zjo #[(Value.int .u8 t25)] [.bool] false w_7 fun (t26:Bool)=>
  qw (!t26) (
  stC (⟨b2,0,none⟩:Addr) (Value.slice none 0 0) w_7 fun w_8=>
  stC (⟨b3,0,none⟩:Addr) (Value.int .i64 40) w_8 fun w_9=>
  ld .slc (⟨b2,0,none⟩:Addr) w_9 fun (t2_2:(Option Addr×Nat×Nat))=>
  ld (.int .i64) (⟨b3,0,none⟩:Addr) w_9 fun (t3_2:Int)=>
  R (.returned (Value.tuple #[(Value.slice t2_2.1 t2_2.2.1 t2_2.2.2),(Value.int .i64 t3_2)])) w_9) (
  k_2 () w_7)) (
  k_2 () w_7)) (fun _ w_10=>
  k_1 () w_10)) (fun _ w_11=>
  zbz .i64 s_1 1 fun t29=>
  k t29 w_11)) (
  zat (zc P zx) zx w_7 fun b5 w_12=>
  ql P zld #[(Value.string s)] [.any] false w_12 fun (t31:Value) w_13=>
  z04 P [.str] t31 w_13 (fun (x:ByteArray) w_14 beg kc kr _=>
  beg w_14 fun w_15=>
  joinP Unit (fun k_3=>
  joinP Unit (fun k_4=>
  qw (decide ((x.size:Int) > 16)) (
  stC (⟨b2,0,none⟩:Addr) (Value.slice none 0 0) w_15 fun w_16=>
  stC (⟨b3,0,none⟩:Addr) (Value.int .i64 41) w_16 fun w_17=>
  kr w_17) (
  qw (x.toList==(ByteArray.mk #[]).toList) (
  k_4 () w_15) (
  qw (x.toList==(ByteArray.mk #[46]).toList) (
  k_4 () w_15) (
  qw (x.toList==(ByteArray.mk #[46,46]).toList) (
  ld .slc (⟨b5,0,none⟩:Addr) w_15 fun (t51:(Option Addr×Nat×Nat))=>
  ld .slc (⟨b5,0,none⟩:Addr) w_15 fun (t52:(Option Addr×Nat×Nat))=>
  zo5 .i64 (t52.2.1:Int) 1 fun t54=>
  zad P (Builtin.max_ #[zav,zav] zav #[(Value.int .i64 t54),(Value.int .i64 0)]) (.int .i64) w_15 fun (t55:Int)=>
  zad P (Instr.sliceAt zx (Value.slice t51.1 t51.2.1 t51.2.2) none (some (Value.int .i64 t55)) none) .slc w_15 fun (t56:(Option Addr×Nat×Nat))=>
  stC (⟨b5,0,none⟩:Addr) (Value.slice t56.1 t56.2.1 t56.2.2) w_15 fun w_18=>
  k_4 () w_18) (
  ld .slc (⟨b5,0,none⟩:Addr) w_15 fun (t33:(Option Addr×Nat×Nat))=>
  za2 P (Instr.buildSlice zx 1 #[(0,(Value.string x))]) .slc w_15 fun (t35:(Option Addr×Nat×Nat)) w_19=>
  za2 P (Builtin.append_ #[zx,zx] zx #[(Value.slice t33.1 t33.2.1 t33.2.2),(Value.slice t35.1 t35.2.1 t35.2.2)]) .slc w_19 fun (t36:(Option Addr×Nat×Nat)) w_20=>
  stC (⟨b5,0,none⟩:Addr) (Value.slice t36.1 t36.2.1 t36.2.2) w_20 fun w_21=>
  k_4 () w_21))))) (fun _ w_22=>
  k_3 () w_22)) (fun _ w_23=>
  kc w_23)) (fun D w_24=>
  ld .slc (⟨b5,0,none⟩:Addr) w_24 fun (t57:(Option Addr×Nat×Nat))=>
  qw (decide ((t57.2.1:Int) > 8)) (
  stC (⟨b2,0,none⟩:Addr) (Value.slice none 0 0) w_24 fun w_25=>
  stC (⟨b3,0,none⟩:Addr) (Value.int .i64 42) w_25 fun w_26=>
  (w_26.heap[D]?=some (.deferred (some []))/\∀ w_27,w_27=World.putObj w_26 D (.deferred none) ->
  ld .slc (⟨b2,0,none⟩:Addr) w_27 fun (t2_3:(Option Addr×Nat×Nat))=>
  ld (.int .i64) (⟨b3,0,none⟩:Addr) w_27 fun (t3_3:Int)=>
  R (.returned (Value.tuple #[(Value.slice t2_3.1 t2_3.2.1 t2_3.2.2),(Value.int .i64 t3_3)])) w_27)) (
  ld .slc (⟨b5,0,none⟩:Addr) w_24 fun (t60:(Option Addr×Nat×Nat))=>
  stC (⟨b2,0,none⟩:Addr) (Value.slice t60.1 t60.2.1 t60.2.2) w_24 fun w_28=>
  stC (⟨b3,0,none⟩:Addr) (Value.int .i64 0) w_28 fun w_29=>
  (w_29.heap[D]?=some (.deferred (some []))/\∀ w_30,w_30=World.putObj w_29 D (.deferred none) ->
  ld .slc (⟨b2,0,none⟩:Addr) w_30 fun (t2_4:(Option Addr×Nat×Nat))=>
  ld (.int .i64) (⟨b3,0,none⟩:Addr) w_30 fun (t3_4:Int)=>
  R (.returned (Value.tuple #[(Value.slice t2_4.1 t2_4.2.1 t2_4.2.2),(Value.int .i64 t3_4)])) w_30))) (fun D_1 w_31=>
  (w_31.heap[D_1]?=some (.deferred (some []))/\∀ w_32,w_32=World.putObj w_31 D_1 (.deferred none) ->
  ld .slc (⟨b2,0,none⟩:Addr) w_32 fun (t2_5:(Option Addr×Nat×Nat))=>
  ld (.int .i64) (⟨b3,0,none⟩:Addr) w_32 fun (t3_5:Int)=>
  R (.returned (Value.tuple #[(Value.slice t2_5.1 t2_5.2.1 t2_5.2.2),(Value.int .i64 t3_5)])) w_32)) (fun _ _ _=>False))) 0 w_2))
theorem zxy {s:ByteArray}{R:Ending->World->Prop}{w:World}(hT:zqo s R w):qj P zbw #[(Value.string s)] w R:=
 fnU (.seq (.pure .leaf) (.seq (.pure (.seq .leaf (.cond (.seq .leaf .leaf) .leaf))) (.seq (.pure (.seq .leaf (.cond (.seq .leaf .leaf) .leaf))) (.seq (.pure (.seq .leaf (.blk (.loop [(15,.int .i64)] (.seq .leaf (.seq (.cond .leaf .leaf) (.join [] (.jblk [] (.seq .leaf (.seq .leaf (.cond (.seq .leaf .leaf) .leaf)))) .leaf))))))) (.seq (.pure .leaf) (.seq (.seq (.pure .leaf) (.blk (.rng [(32,.str)] true [] .leaf (.jblk [] (.jblk [] (.seq .leaf (.cond (.seq .leaf .leaf) (.seq .leaf (.cond .leaf (.seq .leaf (.cond .leaf .leaf))))))))))) (.pure (.seq (.seq .leaf (.cond (.seq .leaf .leaf) .leaf)) (.seq .leaf .leaf))))))))) Tryz.func70 hT
def zt6 (names:Option Addr) (names_l jm:Nat) (R:Ending->World->Prop) (w:World):Prop:=
  ql P zk4 #[(Value.slice names names_l jm),(Value.string (ByteArray.mk #[47]))] [.str] false w fun (t4:ByteArray) w_1=>
  qd4 (ByteArray.mk #[47]) t4 fun t5=>
  R (.returned (Value.string t5)) w_1
theorem zzh {names:Option Addr}{names_l jm:Nat}{R:Ending->World->Prop}{w:World}(hT:zt6 names names_l jm R w):qj P vk #[(Value.slice names names_l jm)] w R:=
 fnT (.seq .leaf (.seq .leaf .leaf)) Tryz.func32 hT
def zu9 (s:ByteArray) (R:Ending->World->Prop) (w:World):Prop:=
  qw (decide ((s.size:Int) > 256)) (
  R (.returned (Value.tuple #[(Value.slice none 0 0),(Value.int .i64 2)])) w) (
  joinP Unit (fun k=>
  qw ((s.size:Int)==0) (
  R (.returned (Value.tuple #[(Value.slice none 0 0),(Value.int .i64 40)])) w) (
  zra s 0 fun t17=>
  qw (t17 != 47) (
  R (.returned (Value.tuple #[(Value.slice none 0 0),(Value.int .i64 40)])) w) (
  k () w))) (fun _ w_1=>
  za4 Int (fun s_2 w_2 k_1=>
  qw (decide (s_2 < (s.size:Int))) (
  joinP Unit (fun k_2=>
  joinP Unit (fun k_3=>
  zra s s_2 fun t28=>
  qw (t28 != 47) (
  zra s s_2 fun t33=>
  zlp P zp4 #[(Value.int .u8 t33)] [.bool] false w_2 fun (t34:Bool)=>
  qw (!t34) (
  R (.returned (Value.tuple #[(Value.slice none 0 0),(Value.int .i64 40)])) w_2) (
  k_3 () w_2)) (
  k_3 () w_2)) (fun _ w_3=>
  k_2 () w_3)) (fun _ w_4=>
  zbz .i64 s_2 1 fun t25=>
  k_1 t25 w_4)) (
  za4 ((Option Addr×Nat×Nat)×Int×Int) (fun s_5 w_5 k_4=>
  qw (decide (s_5.2.2<=(s.size:Int))) (
  joinP ((Option Addr×Nat×Nat)×Int) (fun k_5=>
  joinP Unit (fun k_6=>
  qw (decide (s_5.2.2 < (s.size:Int))) (
  zra s s_5.2.2 fun t50=>
  qw (t50 != 47) (
  k_5 ((s_5.1.1,s_5.1.2.1,s_5.1.2.2),s_5.2.1) w_5) (
  k_6 () w_5)) (
  k_6 () w_5)) (fun _ w_6=>
  zad P (Instr.sliceAt qx (Value.string s) (some (Value.int .i64 s_5.2.1)) (some (Value.int .i64 s_5.2.2)) none) .str w_6 fun (t56:ByteArray)=>
  zbz .i64 s_5.2.2 1 fun t58=>
  qw (decide ((t56.size:Int) > 16)) (
  R (.returned (Value.tuple #[(Value.slice none 0 0),(Value.int .i64 41)])) w_6) (
  joinP (Option Addr×Nat×Nat) (fun k_7=>
  qw (t56.toList==(ByteArray.mk #[46,46]).toList) (
  qw (decide ((s_5.1.2.1:Int) > 0)) (
  za2 P (Instr.buildSlice zx 0 #[]) .slc w_6 fun (t69:(Option Addr×Nat×Nat)) w_7=>
  zo5 .i64 (s_5.1.2.1:Int) 1 fun t73=>
  zad P (Instr.sliceAt zx (Value.slice s_5.1.1 s_5.1.2.1 s_5.1.2.2) none (some (Value.int .i64 t73)) none) .slc w_7 fun (t74:(Option Addr×Nat×Nat))=>
  za2 P (Builtin.append_ #[zx,zx] zx #[(Value.slice t69.1 t69.2.1 t69.2.2),(Value.slice t74.1 t74.2.1 t74.2.2)]) .slc w_7 fun (t75:(Option Addr×Nat×Nat)) w_8=>
  k_7 (t75.1,t75.2.1,t75.2.2) w_8) (
  k_7 (s_5.1.1,s_5.1.2.1,s_5.1.2.2) w_6)) (
  k_7 (s_5.1.1,s_5.1.2.1,s_5.1.2.2) w_6)) (fun s_7 w_9=>
  qw (!(t56.toList==(ByteArray.mk #[]).toList)) (
  qw (!(t56.toList==(ByteArray.mk #[46]).toList)) (
  qw (!(t56.toList==(ByteArray.mk #[46,46]).toList)) (
  za2 P (Instr.buildSlice zx 1 #[(0,(Value.string t56))]) .slc w_9 fun (t88:(Option Addr×Nat×Nat)) w_10=>
  za2 P (Builtin.append_ #[zx,zx] zx #[(Value.slice s_7.1 s_7.2.1 s_7.2.2),(Value.slice t88.1 t88.2.1 t88.2.2)]) .slc w_10 fun (t89:(Option Addr×Nat×Nat)) w_11=>
  k_5 ((t89.1,t89.2.1,t89.2.2),t58) w_11) (
  k_5 ((s_7.1,s_7.2.1,s_7.2.2),t58) w_9)) (
  k_5 ((s_7.1,s_7.2.1,s_7.2.2),t58) w_9)) (
  k_5 ((s_7.1,s_7.2.1,s_7.2.2),t58) w_9))))) (fun s_8 w_12=>
  zbz .i64 s_5.2.2 1 fun t42=>
  k_4 ((s_8.1.1,s_8.1.2.1,s_8.1.2.2),s_8.2,t42) w_12)) (
  qw (decide ((s_5.1.2.1:Int) > 8)) (
  R (.returned (Value.tuple #[(Value.slice none 0 0),(Value.int .i64 42)])) w_5) (
  R (.returned (Value.tuple #[(Value.slice s_5.1.1 s_5.1.2.1 s_5.1.2.2),(Value.int .i64 0)])) w_5))) ((none,0,0),1,1) w_2)) 0 w_1))
theorem z0w {s:ByteArray}{R:Ending->World->Prop}{w:World}(hT:zu9 s R w):qj P zmw #[(Value.string s)] w R:=
 fnT (.seq .leaf (.seq (.seq .leaf (.cond (.seq .leaf .leaf) .leaf)) (.join [] (.seq .leaf (.cond (.seq .leaf .leaf) .leaf)) (.seq (.seq .leaf (.blk (.loop [(4,.int .i64)] (.seq (.seq .leaf (.cond .leaf .leaf)) (.join [] (.jblk [] (.seq .leaf (.cond (.seq .leaf .leaf) .leaf))) .leaf))))) (.seq .leaf (.seq .leaf (.seq (.seq .leaf (.blk (.loop [(5,.slc),(6,.int .i64),(7,.int .i64)] (.seq (.seq .leaf (.cond .leaf .leaf)) (.seq (.jblk [(5,.slc),(6,.int .i64)] (.join [] (.seq .leaf (.cond .leaf .leaf)) (.seq .leaf (.seq .leaf (.seq (.seq .leaf (.cond (.seq .leaf .leaf) .leaf)) (.join [(5,.slc)] (.seq .leaf (.cond .leaf .leaf)) (.seq .leaf (.cond .leaf .leaf)))))))) .leaf))))) (.seq (.seq .leaf (.cond (.seq .leaf .leaf) .leaf)) (.seq .leaf .leaf))))))))) Tryz.func113 hT
def zys (names:Option Addr) (names_l jm:Nat) (R:Ending->World->Prop) (w:World):Prop:=
  qw ((names_l:Int)==0) (
  R (.returned (Value.string (ByteArray.mk #[47]))) w) (
  za4 (ByteArray×Int) (fun s w_1 k=>
  qw (decide (s.2 < (names_l:Int))) (
  qd4 s.1 (ByteArray.mk #[47]) fun t15=>
  ixS names names_l 1 s.2 fun t18=>
  ld .str t18 w_1 fun (t19:ByteArray)=>
  qd4 t15 t19 fun t20=>
  zbz .i64 s.2 1 fun t13=>
  k (t20,t13) w_1) (
  R (.returned (Value.string s.1)) w_1)) ((ByteArray.mk #[]),0) w)
theorem z4u {names:Option Addr}{names_l jm:Nat}{R:Ending->World->Prop}{w:World}(hT:zys names names_l jm R w):qj P zor #[(Value.slice names names_l jm)] w R:=
 fnT (.seq .leaf (.seq (.seq .leaf (.cond (.seq .leaf .leaf) .leaf)) (.seq .leaf (.seq (.seq .leaf (.blk (.loop [(3,.str),(4,.int .i64)] (.seq (.seq .leaf (.cond .leaf .leaf)) (.seq (.blk .leaf) .leaf))))) (.seq .leaf .leaf))))) Tryz.func116 hT
def zqs (a:Option Addr) (a_l a_c:Nat) (b:Option Addr) (b_l b_c:Nat) (R:Ending->World->Prop) (w:World):Prop:=
  joinP Unit (fun k=>
  joinP Unit (fun k_1=>
  za4 Int (fun s w_1 k_2=>
  joinP Unit (fun k_3=>
  qw (decide (s < (a_l:Int))) (
  qw (decide (s < (b_l:Int))) (
  k_3 () w_1) (
  k_1 () w_1)) (
  k_1 () w_1)) (fun _ w_2=>
  za5 w_2 fun w_3=>
  ixS a a_l 1 s fun t20=>
  ixS b b_l 1 s fun t24=>
  ld .str t20 w_3 fun (t21:ByteArray)=>
  ld .str t24 w_3 fun (t25:ByteArray)=>
  qw (Op.bytesLess t21.toList t25.toList) (
  R (.returned (Value.int .i64 (-1))) w_3) (
  za5 w_3 fun w_4=>
  ixS a a_l 1 s fun t29=>
  ixS b b_l 1 s fun t33=>
  ld .str t29 w_4 fun (t30:ByteArray)=>
  ld .str t33 w_4 fun (t34:ByteArray)=>
  qw (!((Op.bytesLess t30.toList t34.toList) || (t30.toList==t34.toList))) (
  R (.returned (Value.int .i64 1)) w_4) (
  zbz .i64 s 1 fun t17=>
  k_2 t17 w_4)))) 0 w) (fun _ w_5=>
  k () w_5)) (fun _ w_6=>
  qw (decide ((a_l:Int) < (b_l:Int))) (
  R (.returned (Value.int .i64 (-1))) w_6) (
  qw (decide ((a_l:Int) > (b_l:Int))) (
  R (.returned (Value.int .i64 1)) w_6) (
  R (.returned (Value.int .i64 0)) w_6)))
theorem zxj {a:Option Addr}{a_l a_c:Nat}{b:Option Addr}{b_l b_c:Nat}{R:Ending->World->Prop}{w:World}(hT:zqs a a_l a_c b b_l b_c R w):qj P zjt #[(Value.slice a a_l a_c),(Value.slice b b_l b_c)] w R:=
 fnT (.seq .leaf (.join [] (.seq .leaf (.jblk [] (.loop [(5,.int .i64)] (.join [] (.seq .leaf (.cond .leaf .leaf)) (.seq (.blk (.seq (.seq (.tree (.op 0 [] (.op 1 [] (.op 2 [] (.op 4 [] (.op 5 [] (.op 6 [] (.op 3 [] (.op 7 [] (.op 8 [] .done)))))))))) (.cond (.seq .leaf .leaf) .leaf)) (.seq (.tree (.op 0 [] (.op 1 [] (.op 2 [] (.op 4 [] (.op 5 [] (.op 6 [] (.op 3 [] (.op 7 [] (.op 8 [] .done)))))))))) (.cond (.seq .leaf .leaf) .leaf)))) .leaf))))) (.seq (.seq .leaf (.cond (.seq .leaf .leaf) .leaf)) (.seq (.seq .leaf (.cond (.seq .leaf .leaf) .leaf)) (.seq .leaf .leaf))))) Tryz.func123 hT
def ztn (path:Option Addr) (path_l path_c:Nat) (of:Option Addr) (of_l of_c:Nat) (R:Ending->World->Prop) (w:World):Prop:=
  qw (decide ((path_l:Int) < (of_l:Int))) (
  R (.returned (Value.bool false)) w) (
  za4 Int (fun s w_1 k=>
  qw (decide (s < (of_l:Int))) (
  za5 w_1 fun w_2=>
  ixS path path_l 1 s fun t19=>
  ixS of of_l 1 s fun t23=>
  ld .str t19 w_2 fun (t20:ByteArray)=>
  ld .str t23 w_2 fun (t24:ByteArray)=>
  qw (!(t20.toList==t24.toList)) (
  R (.returned (Value.bool false)) w_2) (
  zbz .i64 s 1 fun t16=>
  k t16 w_2)) (
  R (.returned (Value.bool true)) w_1)) 0 w)
theorem zzq {path:Option Addr}{path_l path_c:Nat}{of:Option Addr}{of_l of_c:Nat}{R:Ending->World->Prop}{w:World}(hT:ztn path path_l path_c of of_l of_c R w):qj P zk1 #[(Value.slice path path_l path_c),(Value.slice of of_l of_c)] w R:=
 fnT (.seq .leaf (.seq (.seq .leaf (.cond (.seq .leaf .leaf) .leaf)) (.seq (.seq .leaf (.blk (.loop [(5,.int .i64)] (.seq (.seq .leaf (.cond .leaf .leaf)) (.seq (.blk (.seq (.tree (.op 0 [] (.op 1 [] (.op 2 [] (.op 4 [] (.op 5 [] (.op 6 [] (.op 3 [] (.op 7 [] (.op 8 [] .done)))))))))) (.cond (.seq .leaf .leaf) .leaf))) .leaf))))) (.seq .leaf .leaf)))) Tryz.func115 hT
def zvp (path:ByteArray) (R:Ending->World->Prop) (w:World):Prop:=
  ql P zmw #[(Value.string path)] [.slc,.int .i64] true w fun (t7:((Option Addr×Nat×Nat)×Int)) w_1=>
  R (.returned (Value.slice t7.1.1 t7.1.2.1 t7.1.2.2)) w_1
theorem z2g {path:ByteArray}{R:Ending->World->Prop}{w:World}(hT:zvp path R w):qj P zml #[(Value.string path)] w R:=
 fnT (.seq .leaf (.seq .leaf (.seq .leaf .leaf))) Tryz.func124 hT
def zq4 (path:ByteArray) (R:Ending->World->Prop) (w:World):Prop:=
  ql P zbw #[(Value.string path)] [.slc,.int .i64] true w fun (t7:((Option Addr×Nat×Nat)×Int)) w_1=>
  R (.returned (Value.slice t7.1.1 t7.1.2.1 t7.1.2.2)) w_1
theorem zxh {path:ByteArray}{R:Ending->World->Prop}{w:World}(hT:zq4 path R w):qj P zhf #[(Value.string path)] w R:=
 fnT (.seq .leaf (.seq .leaf (.seq .leaf .leaf))) Tryz.func65 hT
def zq0 (s:ByteArray) (R:Ending->World->Prop) (w:World):Prop:=
  ql P zbw #[(Value.string s)] [.slc,.int .i64] true w fun (t8:((Option Addr×Nat×Nat)×Int)) w_1=>
  qw (t8.2 != 0) (
  R (.returned (Value.tuple #[(Value.string (ByteArray.mk #[])),(Value.int .i64 t8.2)])) w_1) (
  ql P vk #[(Value.slice t8.1.1 t8.1.2.1 t8.1.2.2)] [.str] false w_1 fun (t15:ByteArray) w_2=>
  R (.returned (Value.tuple #[(Value.string t15),(Value.int .i64 0)])) w_2)
theorem zxw {s:ByteArray}{R:Ending->World->Prop}{w:World}(hT:zq0 s R w):qj P zhw #[(Value.string s)] w R:=
 fnT (.seq .leaf (.seq .leaf (.seq (.seq .leaf (.cond (.seq .leaf .leaf) .leaf)) (.seq .leaf .leaf)))) Tryz.func153 hT
set_option maxRecDepth 100000
def zwh (nodes:Int) (bytes:Int) (R:Ending->World->Prop) (w:World):Prop:=
  joinP Unit (fun k=>
  qw (decide (nodes < 0)) (
  R (.returned (Value.tuple #[(Value.pointer none),(Value.int .i64 1)])) w) (
  qw (decide (nodes > 128)) (
  R (.returned (Value.tuple #[(Value.pointer none),(Value.int .i64 1)])) w) (
  qw (decide (bytes < 0)) (
  R (.returned (Value.tuple #[(Value.pointer none),(Value.int .i64 1)])) w) (
  qw (decide (bytes > 8192)) (
  R (.returned (Value.tuple #[(Value.pointer none),(Value.int .i64 1)])) w) (
  k () w))))) (fun _ w_1=>
  za2 P (Instr.makeMap je none) .map w_1 fun (t22:(Option Nat)) w_2=>
  zad P (Instr.build zbl #[(0,(Value.int .i64 nodes)),(1,(Value.int .i64 bytes)),(3,(Value.map t22))]) .any w_2 fun (t23:Value)=>
  zat (Value.cells t23) zbl w_2 fun b24 w_3=>
  R (.returned (Value.tuple #[(Value.pointer (some (⟨b24,0,none⟩:Addr))),(Value.int .i64 0)])) w_3)
theorem z16 {nodes:Int}{bytes:Int}{R:Ending->World->Prop}{w:World}(hT:zwh nodes bytes R w):qj P zmk #[(Value.int .i64 nodes),(Value.int .i64 bytes)] w R:=
 fnT (.seq .leaf (.join [] (.seq .leaf (.cond (.seq .leaf .leaf) .leaf)) (.seq .leaf .leaf))) Tryz.func7 hT
def z3f (nodes:Int) (bytes:Int) (R:Ending->World->Prop) (w:World):Prop:=
  joinP Unit (fun k=>
  qw (decide (nodes < 0)) (
  R (.returned (Value.tuple #[(Value.pointer none),(Value.int .i64 1)])) w) (
  qw (decide (bytes < 0)) (
  R (.returned (Value.tuple #[(Value.pointer none),(Value.int .i64 1)])) w) (
  qw (decide (nodes > 128)) (
  R (.returned (Value.tuple #[(Value.pointer none),(Value.int .i64 1)])) w) (
  qw (decide (bytes > 8192)) (
  R (.returned (Value.tuple #[(Value.pointer none),(Value.int .i64 1)])) w) (
  k () w))))) (fun _ w_1=>
  zad P (Instr.build zqc #[(0,(Value.int .i64 nodes)),(1,(Value.int .i64 bytes))]) .any w_1 fun (t22:Value)=>
  zat (Value.cells t22) zqc w_1 fun b23 w_2=>
  R (.returned (Value.tuple #[(Value.pointer (some (⟨b23,0,none⟩:Addr))),(Value.int .i64 0)])) w_2)
theorem z7s {nodes:Int}{bytes:Int}{R:Ending->World->Prop}{w:World}(hT:z3f nodes bytes R w):qj P zvw #[(Value.int .i64 nodes),(Value.int .i64 bytes)] w R:=
 fnT (.seq .leaf (.join [] (.seq .leaf (.cond (.seq .leaf .leaf) .leaf)) (.seq .leaf .leaf))) Tryz.func62 hT
def zlv (u:Option Addr) (names:Option Addr) (names_l jm:Nat) (R:Ending->World->Prop) (w:World):Prop:=
  zat (zc P zl) zl w fun b4 w_1=>
  joinP Unit (fun k=>
  qw (Option.isNone u) (
  zad P (Instr.build zl #[]) .any w_1 fun (t20:Value)=>
  zah P (storeVar zl (⟨b4,0,none⟩:Addr) t20) w_1 fun w_2=>
  ldA P 4 (⟨b4,0,none⟩:Addr) w_2 fun t4=>
  R (.returned (Value.tuple #[(Value.agg t4),(Value.bool false)])) w_2) (
  qw ((names_l:Int)==0) (
  zad P (Instr.build zl #[]) .any w_1 fun (t20_1:Value)=>
  zah P (storeVar zl (⟨b4,0,none⟩:Addr) t20_1) w_1 fun w_3=>
  ldA P 4 (⟨b4,0,none⟩:Addr) w_3 fun t4_1=>
  R (.returned (Value.tuple #[(Value.agg t4_1),(Value.bool false)])) w_3) (
  ql P zh0 #[(Value.slice names names_l jm)] [.int .i64] false w_1 fun (t17:Int) w_4=>
  qw (t17 != 0) (
  zad P (Instr.build zl #[]) .any w_4 fun (t20_2:Value)=>
  zah P (storeVar zl (⟨b4,0,none⟩:Addr) t20_2) w_4 fun w_5=>
  ldA P 4 (⟨b4,0,none⟩:Addr) w_5 fun t4_2=>
  R (.returned (Value.tuple #[(Value.agg t4_2),(Value.bool false)])) w_5) (
  k () w_4)))) (fun _ w_6=>
  za5 w_6 fun w_7=>
  qg u fun p=>
  ld .map (Addr.add p 3) w_7 fun (t25:(Option Nat))=>
  ((ql P vk #[(Value.slice names names_l jm)] [.str] false w_7 fun (t27:ByteArray) w_8=>
  ((ld .map (Addr.add p 3) w_8 fun (t25_1:(Option Nat))=>
  (Value.map t25_1)=(Value.map t25)) /\
  zoy P (Instr.lookup je (Value.map t25) (Value.string t27) true) [.any,.bool] w_8 fun (t28:(Value×Bool))=>
  zat (zc P zl) zl w_8 fun b6 w_9=>
  ((zoy P (Instr.lookup je (Value.map t25) (Value.string t27) true) [.any,.bool] w_9 fun (t28_1:(Value×Bool))=>
  (Value.tuple #[t28_1.1,(Value.bool t28_1.2)])=(Value.tuple #[t28.1,(Value.bool t28.2)])) /\
  ((ld .map (Addr.add p 3) w_9 fun (t25_2:(Option Nat))=>
  (Value.map t25_2)=(Value.map t25)) /\
  zah P (storeVar zl (⟨b6,0,none⟩:Addr) t28.1) w_9 fun w_10=>
  ldA P 4 (⟨b6,0,none⟩:Addr) w_10 fun t31=>
  zah P (storeVar zl (⟨b4,0,none⟩:Addr) (Value.agg t31)) w_10 fun w_11=>
  ldA P 4 (⟨b4,0,none⟩:Addr) w_11 fun t4_3=>
  R (.returned (Value.tuple #[(Value.agg t4_3),(Value.bool t28.2)])) w_11)))) /\
  (zat (zc P zl) zl w_7 fun b6_1 w_12=>
  ((ld .map (Addr.add p 3) w_12 fun (t25_3:(Option Nat))=>
  (Value.map t25_3)=(Value.map t25)) /\
  ql P vk #[(Value.slice names names_l jm)] [.str] false w_12 fun (t27_1:ByteArray) w_13=>
  ((ld .map (Addr.add p 3) w_13 fun (t25_4:(Option Nat))=>
  (Value.map t25_4)=(Value.map t25)) /\
  zoy P (Instr.lookup je (Value.map t25) (Value.string t27_1) true) [.any,.bool] w_13 fun (t28_2:(Value×Bool))=>
  zah P (storeVar zl (⟨b6_1,0,none⟩:Addr) t28_2.1) w_13 fun w_14=>
  ldA P 4 (⟨b6_1,0,none⟩:Addr) w_14 fun t31_1=>
  zah P (storeVar zl (⟨b4,0,none⟩:Addr) (Value.agg t31_1)) w_14 fun w_15=>
  ldA P 4 (⟨b4,0,none⟩:Addr) w_15 fun t4_4=>
  R (.returned (Value.tuple #[(Value.agg t4_4),(Value.bool t28_2.2)])) w_15)))))
theorem zrd {u:Option Addr}{names:Option Addr}{names_l jm:Nat}{R:Ending->World->Prop}{w:World}(hT:zlv u names names_l jm R w):qj P zdh #[(Value.pointer u),(Value.slice names names_l jm)] w R:=
 fnT (.seq .leaf (.join [] (.seq .leaf (.cond (.seq .leaf .leaf) .leaf)) (.seq (.tree (.op 0 [] (.op 1 [] (.op 2 [] (.op 4 [] (.op 3 [] (.or (.op 5 [3] (.op 6 [] (.op 7 [] (.op 8 [] (.op 9 [] (.op 10 [3,6] (.op 11 [] (.op 12 [] .done)))))))) (.op 10 [3] (.op 5 [3] (.op 6 [] (.op 7 [] (.op 8 [] (.op 9 [] (.op 11 [] (.op 12 [] .done))))))))))))))) (.seq .leaf .leaf)))) Tryz.func119 hT
def zj7 (u:Option Addr) (of:Option Addr) (of_l of_c:Nat) (R:Ending->World->Prop) (w:World):Prop:=
  qw (Option.isNone u) (
  R (.returned (Value.slice none 0 0)) w) (
  qg u fun p=>
  ld .map (Addr.add p 3) w fun (t14:(Option Nat))=>
  za2 P (Instr.range je (Value.map t14)) .ptr w fun (t15:(Option Addr)) w_1=>
  za4 (Option Addr×Nat×Nat) (fun s w_2 k=>
  za2 P (Instr.next (Value.pointer t15) false zbk) .any w_2 fun (t16:Value) w_3=>
  exV t16 0 .bool fun (t17:Bool)=>
  qw t17 (
  joinP (Option Addr×Nat×Nat) (fun k_1=>
  zad P (Instr.entry (Value.pointer t15)) .any w_3 fun (t18:Value)=>
  exV t18 0 .str fun (t19:ByteArray)=>
  exV t18 1 .any fun (t20:Value)=>
  zat (zc P zl) zl w_3 fun b7 w_4=>
  zah P (storeVar zl (⟨b7,0,none⟩:Addr) t20) w_4 fun w_5=>
  ql P zhf #[(Value.string t19)] [.slc] false w_5 fun (t22:(Option Addr×Nat×Nat)) w_6=>
  qw (decide ((t22.2.1:Int) > (of_l:Int))) (
  ql P zio #[(Value.slice t22.1 t22.2.1 t22.2.2),(Value.slice of of_l of_c)] [.bool] false w_6 fun (t31:Bool) w_7=>
  qw t31 (
  ldA P 4 (⟨b7,0,none⟩:Addr) w_7 fun t34=>
  za2 P (Instr.buildSlice zdd 1 #[(0,(Value.agg t34))]) .slc w_7 fun (t35:(Option Addr×Nat×Nat)) w_8=>
  za2 P (Builtin.append_ #[zdd,zdd] zdd #[(Value.slice s.1 s.2.1 s.2.2),(Value.slice t35.1 t35.2.1 t35.2.2)]) .slc w_8 fun (t36:(Option Addr×Nat×Nat)) w_9=>
  k_1 (t36.1,t36.2.1,t36.2.2) w_9) (
  k_1 (s.1,s.2.1,s.2.2) w_7)) (
  k_1 (s.1,s.2.1,s.2.2) w_6)) (fun s_1 w_10=>
  k (s_1.1,s_1.2.1,s_1.2.2) w_10)) (
  ql P zc5 #[(Value.slice s.1 s.2.1 s.2.2),(Value.func (.func zc4) #[] #[])] [] true w_3 fun (_:Unit) w_11=>
  R (.returned (Value.slice s.1 s.2.1 s.2.2)) w_11)) (none,0,0) w_1)
theorem zo4 {u:Option Addr}{of:Option Addr}{of_l of_c:Nat}{R:Ending->World->Prop}{w:World}(hT:zj7 u of of_l of_c R w):qj P zcr #[(Value.pointer u),(Value.slice of of_l of_c)] w R:=
 fnT (.seq .leaf (.seq (.seq .leaf (.cond (.seq .leaf .leaf) .leaf)) (.seq .leaf (.seq (.seq .leaf (.blk (.loop [(5,.slc)] (.seq .leaf (.seq (.cond .leaf .leaf) (.jblk [(5,.slc)] (.seq .leaf (.seq .leaf (.seq .leaf (.cond .leaf .leaf)))))))))) (.seq .leaf (.seq .leaf .leaf)))))) Tryz.func28 hT
def zkp (u:Option Addr) (names:Option Addr) (names_l jm:Nat) (R:Ending->World->Prop) (w:World):Prop:=
  ql P zcr #[(Value.pointer u),(Value.slice names names_l jm)] [.slc] false w fun (t12:(Option Addr×Nat×Nat)) w_1=>
  joinP (Option Addr×Nat×Nat) (fun k=>
  ql P zdh #[(Value.pointer u),(Value.slice names names_l jm)] [.any,.bool] true w_1 fun (t16:(Value×Bool)) w_2=>
  zat (zc P zl) zl w_2 fun b6 w_3=>
  zah P (storeVar zl (⟨b6,0,none⟩:Addr) t16.1) w_3 fun w_4=>
  qw t16.2 (
  ldA P 4 (⟨b6,0,none⟩:Addr) w_4 fun t21=>
  za2 P (Instr.buildSlice zdd 1 #[(0,(Value.agg t21))]) .slc w_4 fun (t22:(Option Addr×Nat×Nat)) w_5=>
  za2 P (Builtin.append_ #[zdd,zdd] zdd #[(Value.slice t12.1 t12.2.1 t12.2.2),(Value.slice t22.1 t22.2.1 t22.2.2)]) .slc w_5 fun (t23:(Option Addr×Nat×Nat)) w_6=>
  k (t23.1,t23.2.1,t23.2.2) w_6) (
  k (t12.1,t12.2.1,t12.2.2) w_4)) (fun s w_7=>
  za4 Int (fun s_1 w_8 k_1=>
  qw (decide (s_1 < (s.2.1:Int))) (
  ixS s.1 s.2.1 4 s_1 fun t28=>
  ldA P 4 t28 w_8 fun t29=>
  zat (zc P zl) zl w_8 fun b9 w_9=>
  zah P (storeVar zl (⟨b9,0,none⟩:Addr) (Value.agg t29)) w_9 fun w_10=>
  za5 w_10 fun w_11=>
  qg u fun p=>
  ld (.int .i64) (Addr.add p 2) w_11 fun (t33:Int)=>
  ld .str (⟨b9,3,none⟩:Addr) w_11 fun (t35:ByteArray)=>
  zo5 .i64 t33 (t35.size:Int) fun t37=>
  qg u fun p_1=>
  stC (Addr.add p_1 2) (Value.int .i64 t37) w_11 fun w_12=>
  za5 w_12 fun w_13=>
  qg u fun p_2=>
  ld .map (Addr.add p_2 3) w_13 fun (t43:(Option Nat))=>
  ld .str (⟨b9,0,none⟩:Addr) w_13 fun (t45:ByteArray)=>
  za2 P (Builtin.delete_ #[je,qx] zbk #[(Value.map t43),(Value.string t45)]) .any w_13 fun (_:Value) w_14=>
  zbz .i64 s_1 1 fun t46=>
  k_1 t46 w_14) (
  R (.returned (Value.int .i64 (s.2.1:Int))) w_8)) 0 w_7)
theorem zql {u:Option Addr}{names:Option Addr}{names_l jm:Nat}{R:Ending->World->Prop}{w:World}(hT:zkp u names names_l jm R w):qj P zhs #[(Value.pointer u),(Value.slice names names_l jm)] w R:=
 fnT (.seq .leaf (.seq .leaf (.join [(5,.slc)] (.seq .leaf (.seq .leaf (.cond .leaf .leaf))) (.seq (.seq .leaf (.blk (.loop [(26,.int .i64)] (.seq .leaf (.seq (.cond .leaf .leaf) (.seq (.blk (.seq .leaf (.seq (.tree (.op 0 [] (.op 1 [] (.op 2 [] (.op 4 [] (.op 3 [] (.op 5 [] (.op 6 [] (.op 7 [] (.op 8 [] (.op 9 [] (.op 10 [] .done)))))))))))) (.tree (.op 0 [] (.op 1 [] (.op 2 [] (.op 4 [] (.op 3 [] (.op 5 [] (.op 6 [] .done))))))))))) .leaf)))))) (.seq .leaf .leaf))))) Tryz.func211 hT
def zj1 (u:Option Addr) (R:Ending->World->Prop) (w:World):Prop:=
  qw (Option.isNone u) (
  R (.returned (Value.pointer none)) w) (
  qg u fun p=>
  ldA P 4 p w fun t8=>
  zat (zc P zbl) zbl w fun b3 w_1=>
  zah P (storeVar zbl (⟨b3,0,none⟩:Addr) (Value.agg t8)) w_1 fun w_2=>
  qg u fun p_1=>
  ld .map (Addr.add p_1 3) w_2 fun (t12:(Option Nat))=>
  ql P zax #[(Value.map t12)] [.map] false w_2 fun (t13:(Option Nat)) w_3=>
  stC (⟨b3,3,none⟩:Addr) (Value.map t13) w_3 fun w_4=>
  R (.returned (Value.pointer (some (⟨b3,0,none⟩:Addr)))) w_4)
theorem zo1 {u:Option Addr}{R:Ending->World->Prop}{w:World}(hT:zj1 u R w):qj P zcs #[(Value.pointer u)] w R:=
 fnT (.seq .leaf (.seq (.seq .leaf (.cond (.seq .leaf .leaf) .leaf)) (.seq .leaf (.seq .leaf (.seq .leaf .leaf))))) Tryz.func36 hT
def zly (u:Option Addr) (i:Value) (R:Ending->World->Prop) (w:World):Prop:=
  zat (Value.cells i) zl w fun b3 w_1=>
  qw (Option.isNone u) (
  R (.returned (Value.int .i64 7)) w_1) (
  ld .str (⟨b3,0,none⟩:Addr) w_1 fun (t17:ByteArray)=>
  ql P zbw #[(Value.string t17)] [.slc,.int .i64] true w_1 fun (t18:((Option Addr×Nat×Nat)×Int)) w_2=>
  qw (t18.2 != 0) (
  R (.returned (Value.int .i64 t18.2)) w_2) (
  qw ((t18.1.2.1:Int)==0) (
  R (.returned (Value.int .i64 132)) w_2) (
  ldA P 4 (⟨b3,0,none⟩:Addr) w_2 fun t27=>
  ql P zol #[(Value.agg t27)] [.int .i64] false w_2 fun (t28:Int) w_3=>
  qw (t28 != 0) (
  R (.returned (Value.int .i64 t28)) w_3) (
  joinP Unit (fun k=>
  zo5 .i64 (t18.1.2.1:Int) 1 fun t35=>
  zad P (Instr.sliceAt zx (Value.slice t18.1.1 t18.1.2.1 t18.1.2.2) none (some (Value.int .i64 t35)) none) .slc w_3 fun (t36:(Option Addr×Nat×Nat))=>
  qw (decide ((t36.2.1:Int) > 0)) (
  ql P zdh #[(Value.pointer u),(Value.slice t36.1 t36.2.1 t36.2.2)] [.any,.bool] true w_3 fun (t43:(Value×Bool)) w_4=>
  zat (zc P zl) zl w_4 fun b9 w_5=>
  zah P (storeVar zl (⟨b9,0,none⟩:Addr) t43.1) w_5 fun w_6=>
  qw (!t43.2) (
  R (.returned (Value.int .i64 4)) w_6) (
  ld (.int .i64) (⟨b9,1,none⟩:Addr) w_6 fun (t51:Int)=>
  qw (t51 != 2) (
  R (.returned (Value.int .i64 70)) w_6) (
  k () w_6))) (
  k () w_3)) (fun _ w_7=>
  ql P vk #[(Value.slice t18.1.1 t18.1.2.1 t18.1.2.2)] [.str] false w_7 fun (t54:ByteArray) w_8=>
  stC (⟨b3,0,none⟩:Addr) (Value.string t54) w_8 fun w_9=>
  za5 w_9 fun w_10=>
  qg u fun p=>
  ld .map (Addr.add p 3) w_10 fun (t60:(Option Nat))=>
  ld .str (⟨b3,0,none⟩:Addr) w_10 fun (t62:ByteArray)=>
  zoy P (Instr.lookup je (Value.map t60) (Value.string t62) true) [.any,.bool] w_10 fun (t63:(Value×Bool))=>
  zat (zc P zl) zl w_10 fun b11 w_11=>
  ((zoy P (Instr.lookup je (Value.map t60) (Value.string t62) true) [.any,.bool] w_11 fun (t63_1:(Value×Bool))=>
  (Value.tuple #[t63_1.1,(Value.bool t63_1.2)])=(Value.tuple #[t63.1,(Value.bool t63.2)])) /\
  ((ld .str (⟨b3,0,none⟩:Addr) w_11 fun (t62_1:ByteArray)=>
  (Value.string t62_1)=(Value.string t62)) /\
  ((ld .map (Addr.add p 3) w_11 fun (t60_1:(Option Nat))=>
  (Value.map t60_1)=(Value.map t60)) /\
  zah P (storeVar zl (⟨b11,0,none⟩:Addr) t63.1) w_11 fun w_12=>
  joinP Unit (fun k_1=>
  joinP Unit (fun k_2=>
  ld (.int .i64) (⟨b3,1,none⟩:Addr) w_12 fun (t68:Int)=>
  qw (t68 != 2) (
  ql P zcr #[(Value.pointer u),(Value.slice t18.1.1 t18.1.2.1 t18.1.2.2)] [.slc] false w_12 fun (t73:(Option Addr×Nat×Nat)) w_13=>
  qw (decide ((t73.2.1:Int) > 0)) (
  R (.returned (Value.int .i64 130)) w_13) (
  qw (!t63.2) (
  qg u fun p_1=>
  ld .map (Addr.add p_1 3) w_13 fun (t84:(Option Nat))=>
  zad P (Builtin.len_ #[je] zav #[(Value.map t84)]) (.int .i64) w_13 fun (t85:Int)=>
  qw (t85==1024) (
  R (.returned (Value.int .i64 8)) w_13) (
  k_2 () w_13)) (
  k_2 () w_13))) (
  qw (!t63.2) (
  qg u fun p_2=>
  ld .map (Addr.add p_2 3) w_12 fun (t84_1:(Option Nat))=>
  zad P (Builtin.len_ #[je] zav #[(Value.map t84_1)]) (.int .i64) w_12 fun (t85_1:Int)=>
  qw (t85_1==1024) (
  R (.returned (Value.int .i64 8)) w_12) (
  k_2 () w_12)) (
  k_2 () w_12))) (fun _ w_14=>
  k_1 () w_14)) (fun _ w_15=>
  za5 w_15 fun w_16=>
  qg u fun p_3=>
  ld (.int .i64) (Addr.add p_3 2) w_16 fun (t91:Int)=>
  ld .str (⟨b3,3,none⟩:Addr) w_16 fun (t93:ByteArray)=>
  ld .str (⟨b11,3,none⟩:Addr) w_16 fun (t96:ByteArray)=>
  zo5 .i64 (t93.size:Int) (t96.size:Int) fun t98=>
  zbz .i64 t91 t98 fun t99=>
  qg u fun p_4=>
  stC (Addr.add p_4 2) (Value.int .i64 t99) w_16 fun w_17=>
  za5 w_17 fun w_18=>
  qg u fun p_5=>
  ld .map (Addr.add p_5 3) w_18 fun (t105:(Option Nat))=>
  ld .str (⟨b3,0,none⟩:Addr) w_18 fun (t107:ByteArray)=>
  ldA P 4 (⟨b3,0,none⟩:Addr) w_18 fun t108=>
  zah P (Instr.mapUpdate je (Value.map t105) (Value.string t107) (Value.agg t108)) w_18 fun w_19=>
  R (.returned (Value.int .i64 0)) w_19)))))))))
theorem zr1 {u:Option Addr}{i:Value}{R:Ending->World->Prop}{w:World}(hT:zly u i R w):qj P zby #[(Value.pointer u),i] w R:=
 fnT (.seq .leaf (.seq (.seq .leaf (.cond (.seq .leaf .leaf) .leaf)) (.seq .leaf (.seq (.seq .leaf (.cond (.seq .leaf .leaf) .leaf)) (.seq (.seq .leaf (.cond (.seq .leaf .leaf) .leaf)) (.seq (.seq .leaf (.seq .leaf (.cond (.seq .leaf .leaf) .leaf))) (.join [] (.seq .leaf (.seq .leaf (.cond (.seq .leaf (.blk (.seq .leaf (.cond (.seq .leaf .leaf) (.seq .leaf (.cond (.seq .leaf .leaf) .leaf)))))) .leaf))) (.seq .leaf (.seq (.tree (.op 0 [] (.op 1 [] (.op 2 [] (.op 4 [] (.op 3 [] (.op 5 [] (.op 6 [] (.op 7 [] (.op 8 [] (.op 9 [] (.op 10 [3,5,6] (.op 11 [] (.op 12 [] .done)))))))))))))) (.join [] (.jblk [] (.seq .leaf (.cond (.seq .leaf .leaf) (.seq .leaf (.cond (.seq .leaf .leaf) .leaf))))) (.seq (.tree (.op 0 [] (.op 1 [] (.op 2 [] (.op 4 [] (.op 7 [] (.op 3 [] (.op 5 [] (.op 6 [] (.op 8 [] (.op 9 [] (.op 10 [] (.op 11 [] (.op 12 [] (.op 13 [] (.op 14 [] .done)))))))))))))))) (.seq (.tree (.op 0 [] (.op 1 [] (.op 2 [] (.op 4 [] (.op 3 [] (.op 5 [] (.op 6 [] (.op 7 [] .done))))))))) (.seq .leaf .leaf))))))))))))) Tryz.func63 hT
def zkv (u:Option Addr) (R:Ending->World->Prop) (w:World):Prop:=
  za5 w fun w_1=>
  qw (!(Option.isNone u)) (
  qg u fun p=>
  qg u fun p_1=>
  ld .map (Addr.add p 3) w_1 fun (t9:(Option Nat))=>
  zad P (Builtin.len_ #[je] zav #[(Value.map t9)]) (.int .i64) w_1 fun (t10:Int)=>
  ld (.int .i64) p_1 w_1 fun (t14:Int)=>
  qw (decide (t10 > t14)) (
  R (.returned (Value.bool true)) w_1) (
  qg u fun p_2=>
  qg u fun p_3=>
  ld (.int .i64) (Addr.add p_2 2) w_1 fun (t20:Int)=>
  ld (.int .i64) (Addr.add p_3 1) w_1 fun (t24:Int)=>
  R (.returned (Value.bool (decide (t20 > t24)))) w_1)) (
  R (.returned (Value.bool false)) w_1)
theorem zpw {u:Option Addr}{R:Ending->World->Prop}{w:World}(hT:zkv u R w):qj P zhe #[(Value.pointer u)] w R:=
 fnT (.seq .leaf (.seq (.tree (.op 0 [] (.op 1 [] (.op 2 [] (.op 3 [] (.op 4 [] (.op 5 [] (.op 8 [] (.op 9 [] (.op 10 [] (.op 6 [] (.op 7 [] (.op 11 [] (.op 12 [] (.op 13 [] (.op 14 [] (.op 15 [] (.op 16 [] (.op 18 [] (.op 19 [] (.op 20 [] (.op 17 [] (.op 21 [] (.op 22 [] (.op 23 [] (.op 24 [] (.op 25 [] .done))))))))))))))))))))))))))) .leaf)) Tryz.func87 hT
def ziy (a:Value) (b:Value) (R:Ending->World->Prop) (w:World):Prop:=
  zat (Value.cells a) zl w fun b2 w_1=>
  zat (Value.cells b) zl w_1 fun b3 w_2=>
  za5 w_2 fun w_3=>
  ld .str (⟨b2,0,none⟩:Addr) w_3 fun (t6:ByteArray)=>
  ld .str (⟨b3,0,none⟩:Addr) w_3 fun (t9:ByteArray)=>
  ql P zhf #[(Value.string t6)] [.slc] false w_3 fun (t7:(Option Addr×Nat×Nat)) w_4=>
  ((ld .str (⟨b3,0,none⟩:Addr) w_4 fun (t9_1:ByteArray)=>
  (Value.string t9_1)=(Value.string t9)) /\
  ql P zhf #[(Value.string t9)] [.slc] false w_4 fun (t10:(Option Addr×Nat×Nat)) w_5=>
  ql P zft #[(Value.slice t7.1 t7.2.1 t7.2.2),(Value.slice t10.1 t10.2.1 t10.2.2)] [.int .i64] false w_5 fun (t11:Int) w_6=>
  R (.returned (Value.int .i64 t11)) w_6)
theorem znj {a:Value}{b:Value}{R:Ending->World->Prop}{w:World}(hT:ziy a b R w):qj P zc4 #[a,b] w R:=
 fnT (.seq .leaf (.seq (.tree (.op 0 [] (.op 3 [] (.op 1 [] (.op 4 [] (.op 2 [4] (.op 5 [] (.op 6 [] (.op 7 [] .done))))))))) .leaf)) Tryz.func68 hT
def zbs (m:Option Nat) (R:Ending->World->Prop) (w:World):Prop:=
  zad P (eqM .eql je (.tmp 3) (.const (Value.map none)) (Value.map m) (Value.map none)) .bool w fun (t4:Bool)=>
  qw t4 (
  R (.returned (Value.map none)) w) (
  zad P (Instr.makeInterface je (Value.map m)) .any w fun (t6:Value)=>
  ql P ztl #[t6] [.any] false w fun (t7:Value) w_1=>
  zad P (Instr.typeAssert t7 qgs je false) .map w_1 fun (t8:(Option Nat))=>
  R (.returned (Value.map t8)) w_1)
theorem zdq {m:Option Nat}{R:Ending->World->Prop}{w:World}(hT:zbs m R w):qj P zax #[(Value.map m)] w R:=
 fnT (.seq .leaf (.seq (.seq .leaf (.cond (.seq .leaf .leaf) .leaf)) (.seq .leaf .leaf))) Tryz.func80 hT
def zt0 (i:Value) (R:Ending->World->Prop) (w:World):Prop:=
  zat (Value.cells i) zl w fun b1 w_1=>
  ld (.int .i64) (⟨b1,1,none⟩:Addr) w_1 fun (t4:Int)=>
  joinP Unit (fun k=>
  joinP Unit (fun k_1=>
  joinP Unit (fun k_2=>
  qw (t4==3) (
  ld .bool (⟨b1,2,none⟩:Addr) w_1 fun (t12:Bool)=>
  qw t12 (
  R (.returned (Value.int .i64 1)) w_1) (
  k_2 () w_1)) (
  qw (t4==2) (
  k_2 () w_1) (
  qw (t4==1) (
  ld .bool (⟨b1,2,none⟩:Addr) w_1 fun (t17:Bool)=>
  qw t17 (
  R (.returned (Value.int .i64 1)) w_1) (
  ld .str (⟨b1,3,none⟩:Addr) w_1 fun (t19:ByteArray)=>
  qw (decide ((t19.size:Int) > 1024)) (
  R (.returned (Value.int .i64 134)) w_1) (
  k () w_1))) (
  R (.returned (Value.int .i64 100)) w_1)))) (fun _ w_2=>
  k_1 () w_2)) (fun _ w_3=>
  ld .str (⟨b1,3,none⟩:Addr) w_3 fun (t14:ByteArray)=>
  qw (!(t14.toList==(ByteArray.mk #[]).toList)) (
  R (.returned (Value.int .i64 1)) w_3) (
  k () w_3))) (fun _ w_4=>
  R (.returned (Value.int .i64 0)) w_4)
theorem zzm {i:Value}{R:Ending->World->Prop}{w:World}(hT:zt0 i R w):qj P zol #[i] w R:=
 fnT (.seq .leaf (.seq (.seq .leaf (.jblk [] (.seq (.blk (.seq (.blk (.join [] (.jblk [] (.seq (.blk (.seq (.seq (.seq .leaf (.cond .leaf .leaf)) (.seq (.seq .leaf (.cond .leaf .leaf)) (.seq .leaf (.cond .leaf .leaf)))) .leaf)) (.seq .leaf (.cond (.seq .leaf .leaf) .leaf)))) (.seq (.seq .leaf (.cond (.seq .leaf .leaf) .leaf)) .leaf))) (.seq (.seq (.seq .leaf (.cond (.seq .leaf .leaf) .leaf)) (.seq .leaf (.cond (.seq .leaf .leaf) .leaf))) .leaf))) (.seq (.seq .leaf .leaf) .leaf)))) (.seq .leaf .leaf))) Tryz.func118 hT
theorem z2p {e:Array Value->Sem Value}(he:Extern.find Tryz.f141=some e) (args:Array Value) (w:World):(callFunc ztl args).run P w=((e args).run P w).andThen fun v w1=>.ok (.value v) w1:=
 Go.run_callFunc_extern Tryz.func141 (by kernel_rfl) (by kernel_rfl) (by kernel_rfl) he args w
def zo8 (o:Option Addr) (n:Int) (R:Ending->World->Prop) (w:World):Prop:=
  qw (Option.isNone o) (
  R (.returned (Value.tuple #[])) w) (
  za4 Int (fun s w_1 k=>
  qw (decide (s > 127)) (
  qg o fun p=>
  ld .slc p w_1 fun (t14:(Option Addr×Nat×Nat))=>
  cvI .u8 s fun t16=>
  orI .u8 t16 128 fun t17=>
  za2 P (Instr.buildSlice xk 1 #[(0,(Value.int .u8 t17))]) .slc w_1 fun (t18:(Option Addr×Nat×Nat)) w_2=>
  za2 P (Builtin.append_ #[xk,xk] xk #[(Value.slice t14.1 t14.2.1 t14.2.2),(Value.slice t18.1 t18.2.1 t18.2.2)]) .slc w_2 fun (t19:(Option Addr×Nat×Nat)) w_3=>
  qg o fun p_1=>
  stC p_1 (Value.slice t19.1 t19.2.1 t19.2.2) w_3 fun w_4=>
  z7c .u64 s 7 fun t9=>
  k t9 w_4) (
  qg o fun p_2=>
  ld .slc p_2 w_1 fun (t26:(Option Addr×Nat×Nat))=>
  cvI .u8 s fun t28=>
  za2 P (Instr.buildSlice xk 1 #[(0,(Value.int .u8 t28))]) .slc w_1 fun (t29:(Option Addr×Nat×Nat)) w_5=>
  za2 P (Builtin.append_ #[xk,xk] xk #[(Value.slice t26.1 t26.2.1 t26.2.2),(Value.slice t29.1 t29.2.1 t29.2.2)]) .slc w_5 fun (t30:(Option Addr×Nat×Nat)) w_6=>
  qg o fun p_3=>
  stC p_3 (Value.slice t30.1 t30.2.1 t30.2.2) w_6 fun w_7=>
  R (.returned (Value.tuple #[])) w_7)) n w)
theorem zu5 {o:Option Addr}{n:Int}{R:Ending->World->Prop}{w:World}(hT:zo8 o n R w):qj P zd6 #[(Value.pointer o),(Value.int .u64 n)] w R:=
 fnT (.seq (.seq .leaf (.cond .leaf .leaf)) (.seq (.blk (.loop [(1,.int .u64)] (.seq (.seq .leaf (.cond .leaf .leaf)) (.seq (.blk .leaf) .leaf)))) .leaf)) Tryz.func54 hT
def zn3 (o:Option Addr) (s:ByteArray) (R:Ending->World->Prop) (w:World):Prop:=
  qw (Option.isNone o) (
  R (.returned (Value.tuple #[])) w) (
  cvI .u64 (s.size:Int) fun t9=>
  ql P zd6 #[(Value.pointer o),(Value.int .u64 t9)] [] true w fun (_:Unit) w_1=>
  qg o fun p=>
  ld .slc p w_1 fun (t15:(Option Addr×Nat×Nat))=>
  za2 P (Builtin.append_ #[xk,qx] xk #[(Value.slice t15.1 t15.2.1 t15.2.2),(Value.string s)]) .slc w_1 fun (t17:(Option Addr×Nat×Nat)) w_2=>
  qg o fun p_1=>
  stC p_1 (Value.slice t17.1 t17.2.1 t17.2.2) w_2 fun w_3=>
  R (.returned (Value.tuple #[])) w_3)
theorem zua {o:Option Addr}{s:ByteArray}{R:Ending->World->Prop}{w:World}(hT:zn3 o s R w):qj P zhm #[(Value.pointer o),(Value.string s)] w R:=
 fnT (.seq (.seq .leaf (.cond .leaf .leaf)) (.seq .leaf .leaf)) Tryz.func55 hT
def znf (o:Option Addr) (R:Ending->World->Prop) (w:World):Prop:=
  qw (Option.isNone o) (
  R (.returned (Value.slice none 0 0)) w) (
  qg o fun p=>
  ld .slc p w fun (t8:(Option Addr×Nat×Nat))=>
  za2 P (Builtin.append_ #[xk,xk] xk #[(Value.slice none 0 0),(Value.slice t8.1 t8.2.1 t8.2.2)]) .slc w fun (t9:(Option Addr×Nat×Nat)) w_1=>
  R (.returned (Value.slice t9.1 t9.2.1 t9.2.2)) w_1)
theorem ztb {o:Option Addr}{R:Ending->World->Prop}{w:World}(hT:znf o R w):qj P zi1 #[(Value.pointer o)] w R:=
 fnT (.seq .leaf (.seq (.seq .leaf (.cond (.seq .leaf .leaf) .leaf)) (.seq .leaf .leaf))) Tryz.func58 hT
def zv9 (b:Option Addr) (b_l b_c:Nat) (R:Ending->World->Prop) (w:World):Prop:=
  za2 P (Builtin.append_ #[xk,xk] xk #[(Value.slice none 0 0),(Value.slice b b_l b_c)]) .slc w fun (t4:(Option Addr×Nat×Nat)) w_1=>
  zad P (Instr.build zlr #[(0,(Value.slice t4.1 t4.2.1 t4.2.2))]) .any w_1 fun (t5:Value)=>
  zat (Value.cells t5) zlr w_1 fun b6 w_2=>
  R (.returned (Value.pointer (some (⟨b6,0,none⟩:Addr)))) w_2
theorem z1p {b:Option Addr}{b_l b_c:Nat}{R:Ending->World->Prop}{w:World}(hT:zv9 b b_l b_c R w):qj P zqe #[(Value.slice b b_l b_c)] w R:=
 fnT (.seq .leaf (.seq .leaf .leaf)) Tryz.func104 hT
def zqu (i:Option Addr) (R:Ending->World->Prop) (w:World):Prop:=
  za4 (Int×Int) (fun s w_1 k=>
  joinP Int (fun k_1=>
  ql P zk8 #[(Value.pointer i)] [.int .u8,.bool] true w_1 fun (t11:(Int×Bool)) w_2=>
  qw (!t11.2) (
  R (.returned (Value.int .u64 0)) w_2) (
  joinP Unit (fun k_2=>
  qw (s.2==9) (
  qw (decide (t11.1 > 1)) (
  ql P zcv #[(Value.pointer i),(Value.int .i64 21)] [] true w_2 fun (_:Unit) w_3=>
  R (.returned (Value.int .u64 0)) w_3) (
  qw (decide (s.2 > 0)) (
  qw (t11.1==0) (
  ql P zcv #[(Value.pointer i),(Value.int .i64 21)] [] true w_2 fun (_:Unit) w_4=>
  R (.returned (Value.int .u64 0)) w_4) (
  k_2 () w_2)) (
  k_2 () w_2))) (
  qw (decide (s.2 > 0)) (
  qw (t11.1==0) (
  ql P zcv #[(Value.pointer i),(Value.int .i64 21)] [] true w_2 fun (_:Unit) w_5=>
  R (.returned (Value.int .u64 0)) w_5) (
  k_2 () w_2)) (
  k_2 () w_2))) (fun _ w_6=>
  qcp .u8 t11.1 127 fun t34=>
  cvI .u64 t34 fun t35=>
  z0k .i64 7 s.2 fun t37=>
  qfj .u64 t35 t37 fun t38=>
  orI .u64 s.1 t38 fun t39=>
  qw (decide (t11.1 < 128)) (
  R (.returned (Value.int .u64 t39)) w_6) (
  k_1 t39 w_6)))) (fun s_2 w_7=>
  zbz .i64 s.2 1 fun t8=>
  k (s_2,t8) w_7)) (0,0) w
theorem zxu {i:Option Addr}{R:Ending->World->Prop}{w:World}(hT:zqu i R w):qj P zes #[(Value.pointer i)] w R:=
 fnT (.seq .leaf (.seq .leaf (.seq .leaf (.blk (.loop [(3,.int .u64),(4,.int .i64)] (.seq (.jblk [(3,.int .u64)] (.seq .leaf (.seq (.seq .leaf (.cond (.seq .leaf .leaf) .leaf)) (.join [] (.seq .leaf (.cond (.seq .leaf (.seq .leaf .leaf)) .leaf)) (.seq .leaf (.seq .leaf (.cond (.seq .leaf .leaf) .leaf))))))) .leaf)))))) Tryz.func108 hT
def zpk (i:Option Addr) (most:Int) (R:Ending->World->Prop) (w:World):Prop:=
  ql P zes #[(Value.pointer i)] [.int .u64] false w fun (t7:Int) w_1=>
  joinP Unit (fun k=>
  qw (Option.isNone i) (
  R (.returned (Value.string (ByteArray.mk #[]))) w_1) (
  qg i fun p=>
  ld (.int .i64) (Addr.add p 1) w_1 fun (t14:Int)=>
  qw (t14 != 0) (
  R (.returned (Value.string (ByteArray.mk #[]))) w_1) (
  k () w_1))) (fun _ w_2=>
  zad P (Builtin.max_ #[zav,zav] zav #[(Value.int .i64 most),(Value.int .i64 0)]) (.int .i64) w_2 fun (t19:Int)=>
  cvI .u64 t19 fun t20=>
  qw (decide (t7 > t20)) (
  ql P zcv #[(Value.pointer i),(Value.int .i64 2)] [] true w_2 fun (_:Unit) w_3=>
  R (.returned (Value.string (ByteArray.mk #[]))) w_3) (
  cvI .i64 t7 fun t26=>
  ql P zga #[(Value.pointer i),(Value.int .i64 t26)] [.slc] false w_2 fun (t27:(Option Addr×Nat×Nat)) w_4=>
  zad P (convert xk qx (Value.slice t27.1 t27.2.1 t27.2.2)) .str w_4 fun (t28:ByteArray)=>
  R (.returned (Value.string t28)) w_4))
theorem zuu {i:Option Addr}{most:Int}{R:Ending->World->Prop}{w:World}(hT:zpk i most R w):qj P zir #[(Value.pointer i),(Value.int .i64 most)] w R:=
 fnT (.seq .leaf (.seq .leaf (.join [] (.seq .leaf (.cond (.seq .leaf .leaf) .leaf)) (.seq (.seq .leaf (.cond (.seq .leaf (.seq .leaf .leaf)) .leaf)) (.seq .leaf .leaf))))) Tryz.func107 hT
def zqy (i:Option Addr) (R:Ending->World->Prop) (w:World):Prop:=
  qw (!(Option.isNone i)) (
  qg i fun p=>
  ld (.int .i64) (Addr.add p 1) w fun (t9:Int)=>
  qw (t9==0) (
  qg i fun p_1=>
  ld .slc p_1 w fun (t16:(Option Addr×Nat×Nat))=>
  R (.returned (Value.bool ((t16.2.1:Int)==0))) w) (
  R (.returned (Value.bool false)) w)) (
  R (.returned (Value.bool false)) w)
theorem zx2 {i:Option Addr}{R:Ending->World->Prop}{w:World}(hT:zqy i R w):qj P zmr #[(Value.pointer i)] w R:=
 fnT (.seq .leaf (.seq .leaf .leaf)) Tryz.func109 hT
def zpi (i:Option Addr) (R:Ending->World->Prop) (w:World):Prop:=
  joinP Unit (fun k=>
  qw (Option.isNone i) (
  R (.returned (Value.tuple #[(Value.int .u8 0),(Value.bool false)])) w) (
  qg i fun p=>
  ld (.int .i64) (Addr.add p 1) w fun (t11:Int)=>
  qw (t11 != 0) (
  R (.returned (Value.tuple #[(Value.int .u8 0),(Value.bool false)])) w) (
  k () w))) (fun _ w_1=>
  qg i fun p_1=>
  ld .slc p_1 w_1 fun (t17:(Option Addr×Nat×Nat))=>
  qw ((t17.2.1:Int)==0) (
  ql P zcv #[(Value.pointer i),(Value.int .i64 20)] [] true w_1 fun (_:Unit) w_2=>
  R (.returned (Value.tuple #[(Value.int .u8 0),(Value.bool false)])) w_2) (
  qg i fun p_2=>
  ld .slc p_2 w_1 fun (t25:(Option Addr×Nat×Nat))=>
  ixS t25.1 t25.2.1 1 0 fun t26=>
  ld (.int .u8) t26 w_1 fun (t27:Int)=>
  qg i fun p_3=>
  ld .slc p_3 w_1 fun (t32:(Option Addr×Nat×Nat))=>
  zad P (Instr.sliceAt xk (Value.slice t32.1 t32.2.1 t32.2.2) (some (Value.int .i64 1)) none none) .slc w_1 fun (t33:(Option Addr×Nat×Nat))=>
  qg i fun p_4=>
  stC p_4 (Value.slice t33.1 t33.2.1 t33.2.2) w_1 fun w_3=>
  R (.returned (Value.tuple #[(Value.int .u8 t27),(Value.bool true)])) w_3))
theorem zvu {i:Option Addr}{R:Ending->World->Prop}{w:World}(hT:zpi i R w):qj P zk8 #[(Value.pointer i)] w R:=
 fnT (.seq .leaf (.join [] (.seq .leaf (.cond (.seq .leaf .leaf) .leaf)) (.seq (.seq .leaf (.cond (.seq .leaf (.seq .leaf .leaf)) .leaf)) (.seq .leaf (.seq .leaf (.seq .leaf .leaf)))))) Tryz.func165 hT
def zpa (i:Option Addr) (e:Int) (R:Ending->World->Prop) (w:World):Prop:=
  qg i fun p=>
  stC p (Value.slice none 0 0) w fun w_1=>
  qg i fun p_1=>
  stC (Addr.add p_1 1) (Value.int .i64 e) w_1 fun w_2=>
  R (.returned (Value.tuple #[])) w_2
theorem zux {i:Option Addr}{e:Int}{R:Ending->World->Prop}{w:World}(hT:zpa i e R w):qj P zcv #[(Value.pointer i),(Value.int .i64 e)] w R:=
 fnT .leaf Tryz.func166 hT
def zk6 (i:Option Addr) (n:Int) (R:Ending->World->Prop) (w:World):Prop:=
  joinP Unit (fun k=>
  qw (Option.isNone i) (
  R (.returned (Value.slice none 0 0)) w) (
  qg i fun p=>
  ld (.int .i64) (Addr.add p 1) w fun (t12:Int)=>
  qw (t12 != 0) (
  R (.returned (Value.slice none 0 0)) w) (
  k () w))) (fun _ w_1=>
  qg i fun p_1=>
  ld .slc p_1 w_1 fun (t19:(Option Addr×Nat×Nat))=>
  qw (decide (n > (t19.2.1:Int))) (
  ql P zcv #[(Value.pointer i),(Value.int .i64 20)] [] true w_1 fun (_:Unit) w_2=>
  R (.returned (Value.slice none 0 0)) w_2) (
  qg i fun p_2=>
  ld .slc p_2 w_1 fun (t27:(Option Addr×Nat×Nat))=>
  zad P (Instr.sliceAt xk (Value.slice t27.1 t27.2.1 t27.2.2) none (some (Value.int .i64 n)) none) .slc w_1 fun (t29:(Option Addr×Nat×Nat))=>
  qg i fun p_3=>
  ld .slc p_3 w_1 fun (t34:(Option Addr×Nat×Nat))=>
  zad P (Instr.sliceAt xk (Value.slice t34.1 t34.2.1 t34.2.2) (some (Value.int .i64 n)) none none) .slc w_1 fun (t36:(Option Addr×Nat×Nat))=>
  qg i fun p_4=>
  stC p_4 (Value.slice t36.1 t36.2.1 t36.2.2) w_1 fun w_3=>
  R (.returned (Value.slice t29.1 t29.2.1 t29.2.2)) w_3))
theorem zn7 {i:Option Addr}{n:Int}{R:Ending->World->Prop}{w:World}(hT:zk6 i n R w):qj P zga #[(Value.pointer i),(Value.int .i64 n)] w R:=
 fnT (.seq .leaf (.join [] (.seq .leaf (.cond (.seq .leaf .leaf) .leaf)) (.seq (.seq .leaf (.cond (.seq .leaf (.seq .leaf .leaf)) .leaf)) (.seq .leaf (.seq .leaf (.seq .leaf .leaf)))))) Tryz.func167 hT
set_option maxRecDepth 100000
def zpd (elems:Option Addr) (elems_l elems_c:Nat) (sep:ByteArray) (R:Ending->World->Prop) (w:World):Prop:=
  qw ((elems_l:Int)==0) (
  R (.returned (Value.string (ByteArray.mk #[]))) w) (
  qw ((elems_l:Int)==1) (
  ixS elems elems_l 1 0 fun t18=>
  ld .str t18 w fun (t19:ByteArray)=>
  R (.returned (Value.string t19)) w) (
  joinP Int (fun k=>
  qw (decide ((sep.size:Int) > 0)) (
  joinP Unit (fun k_1=>
  zo5 .i64 (elems_l:Int) 1 fun t27=>
  qj9 .i64 9223372036854775807 t27 fun t28=>
  qw (decide ((sep.size:Int)>=t28)) (
  zad P (Instr.makeInterface qx (Value.string (ByteArray.mk #[115,116,114,105,110,103,115,58,32,74,111,105,110,32,111,117,116,112,117,116,32,108,101,110,103,116,104,32,111,118,101,114,102,108,111,119]))) .any w fun (_:Value)=>
  False) (
  k_1 () w)) (fun _ w_1=>
  zo5 .i64 (elems_l:Int) 1 fun t36=>
  z0k .i64 (sep.size:Int) t36 fun t37=>
  zbz .i64 0 t37 fun t38=>
  k t38 w_1)) (
  k 0 w)) (fun s_1 w_2=>
  za4 (Int×Int) (fun s_2 w_3 k_2=>
  qw (decide (s_2.2 < (elems_l:Int))) (
  joinP Int (fun k_3=>
  ixS elems elems_l 1 s_2.2 fun t43=>
  ld .str t43 w_3 fun (t44:ByteArray)=>
  joinP Unit (fun k_4=>
  zo5 .i64 9223372036854775807 s_2.1 fun t48=>
  qw (decide ((t44.size:Int) > t48)) (
  zad P (Instr.makeInterface qx (Value.string (ByteArray.mk #[115,116,114,105,110,103,115,58,32,74,111,105,110,32,111,117,116,112,117,116,32,108,101,110,103,116,104,32,111,118,101,114,102,108,111,119]))) .any w_3 fun (_:Value)=>
  False) (
  k_4 () w_3)) (fun _ w_4=>
  zbz .i64 s_2.1 (t44.size:Int) fun t54=>
  k_3 t54 w_4)) (fun s_4 w_5=>
  zbz .i64 s_2.2 1 fun t55=>
  k_2 (s_4,t55) w_5)) (
  zat (zc P ku) ku w_3 fun b8 w_6=>
  ql P zfe #[(Value.pointer (some (⟨b8,0,none⟩:Addr))),(Value.int .i64 s_2.1)] [] true w_6 fun (_:Unit) w_7=>
  ixS elems elems_l 1 0 fun t59=>
  ld .str t59 w_7 fun (t60:ByteArray)=>
  ql P zaw #[(Value.pointer (some (⟨b8,0,none⟩:Addr))),(Value.string t60)] [.int .i64,.any] true w_7 fun (_:(Int×Value)) w_8=>
  zad P (Instr.sliceAt zx (Value.slice elems elems_l elems_c) (some (Value.int .i64 1)) none none) .slc w_8 fun (t63:(Option Addr×Nat×Nat))=>
  za4 Int (fun s_5 w_9 k_5=>
  qw (decide (s_5 < (t63.2.1:Int))) (
  ixS t63.1 t63.2.1 1 s_5 fun t67=>
  ld .str t67 w_9 fun (t68:ByteArray)=>
  ql P zaw #[(Value.pointer (some (⟨b8,0,none⟩:Addr))),(Value.string sep)] [.int .i64,.any] true w_9 fun (_:(Int×Value)) w_10=>
  ql P zaw #[(Value.pointer (some (⟨b8,0,none⟩:Addr))),(Value.string t68)] [.int .i64,.any] true w_10 fun (_:(Int×Value)) w_11=>
  zbz .i64 s_5 1 fun t73=>
  k_5 t73 w_11) (
  ql P zb0 #[(Value.pointer (some (⟨b8,0,none⟩:Addr)))] [.str] false w_9 fun (t74:ByteArray) w_12=>
  R (.returned (Value.string t74)) w_12)) 0 w_8)) (s_1,0) w_2)))
theorem zwm {elems:Option Addr}{elems_l elems_c:Nat}{sep:ByteArray}{R:Ending->World->Prop}{w:World}(hT:zpd elems elems_l elems_c sep R w):qj P zk4 #[(Value.slice elems elems_l elems_c),(Value.string sep)] w R:=
 fnT (.seq .leaf (.seq (.seq .leaf (.blk (.seq .leaf (.cond (.seq .leaf .leaf) (.seq .leaf (.cond (.seq .leaf .leaf) .leaf)))))) (.seq .leaf (.join [(5,.int .i64)] (.seq .leaf (.cond (.join [] (.seq .leaf (.cond .leaf .leaf)) .leaf) .leaf)) (.seq (.seq .leaf (.blk (.loop [(5,.int .i64),(41,.int .i64)] (.seq .leaf (.seq (.cond .leaf .leaf) (.seq (.jblk [(5,.int .i64)] (.seq .leaf (.join [] (.seq .leaf (.cond .leaf .leaf)) .leaf))) .leaf)))))) (.seq .leaf (.seq .leaf (.seq .leaf (.seq (.seq .leaf (.blk (.loop [(65,.int .i64)] (.seq .leaf (.seq (.cond .leaf .leaf) (.seq (.blk (.seq .leaf (.seq .leaf .leaf))) .leaf)))))) (.seq .leaf .leaf)))))))))) Tryz.func76 hT
def zh6 (b:Option Addr) (n:Int) (R:Ending->World->Prop) (w:World):Prop:=
  ql P zcd #[(Value.pointer b)] [] true w fun (_:Unit) w_1=>
  joinP Unit (fun k=>
  qw (decide (n < 0)) (
  zad P (Instr.makeInterface qx (Value.string (ByteArray.mk #[115,116,114,105,110,103,115,46,66,117,105,108,100,101,114,46,71,114,111,119,58,32,110,101,103,97,116,105,118,101,32,99,111,117,110,116]))) .any w_1 fun (_:Value)=>
  False) (
  k () w_1)) (fun _ w_2=>
  za5 w_2 fun w_3=>
  qg b fun p=>
  qg b fun p_1=>
  ld .slc (Addr.add p 1) w_3 fun (t12:(Option Addr×Nat×Nat))=>
  zad P (Builtin.cap_ #[xk] zav #[(Value.slice t12.1 t12.2.1 t12.2.2)]) (.int .i64) w_3 fun (t13:Int)=>
  ld .slc (Addr.add p_1 1) w_3 fun (t17:(Option Addr×Nat×Nat))=>
  zo5 .i64 t13 (t17.2.1:Int) fun t19=>
  qw (decide (t19 < n)) (
  ql P zfd #[(Value.pointer b),(Value.int .i64 n)] [] true w_3 fun (_:Unit) w_4=>
  R (.returned (Value.tuple #[])) w_4) (
  R (.returned (Value.tuple #[])) w_3))
theorem zmj {b:Option Addr}{n:Int}{R:Ending->World->Prop}{w:World}(hT:zh6 b n R w):qj P zfe #[(Value.pointer b),(Value.int .i64 n)] w R:=
 fnT (.seq .leaf (.join [] (.seq .leaf (.cond .leaf .leaf)) (.seq (.tree (.op 0 [] (.op 1 [] (.op 2 [] (.op 5 [] (.op 6 [] (.op 7 [] (.op 11 [] (.op 3 [] (.op 4 [] (.op 8 [] (.op 9 [] (.op 10 [] (.op 12 [] .done)))))))))))))) (.cond .leaf .leaf)))) Tryz.func135 hT
def ze8 (b:Option Addr) (s:ByteArray) (R:Ending->World->Prop) (w:World):Prop:=
  ql P zcd #[(Value.pointer b)] [] true w fun (_:Unit) w_1=>
  qg b fun p=>
  ld .slc (Addr.add p 1) w_1 fun (t12:(Option Addr×Nat×Nat))=>
  za2 P (Builtin.append_ #[xk,qx] xk #[(Value.slice t12.1 t12.2.1 t12.2.2),(Value.string s)]) .slc w_1 fun (t14:(Option Addr×Nat×Nat)) w_2=>
  qg b fun p_1=>
  stC (Addr.add p_1 1) (Value.slice t14.1 t14.2.1 t14.2.2) w_2 fun w_3=>
  R (.returned (Value.tuple #[(Value.int .i64 (s.size:Int)),Value.nilIface])) w_3
theorem ziw {b:Option Addr}{s:ByteArray}{R:Ending->World->Prop}{w:World}(hT:ze8 b s R w):qj P zaw #[(Value.pointer b),(Value.string s)] w R:=
 fnT (.seq .leaf (.seq .leaf (.seq .leaf (.seq .leaf .leaf)))) Tryz.func136 hT
def zeh (b:Option Addr) (R:Ending->World->Prop) (w:World):Prop:=
  za5 w fun w_1=>
  qg b fun p=>
  qg b fun p_1=>
  ld .slc (Addr.add p 1) w_1 fun (t6:(Option Addr×Nat×Nat))=>
  ld .slc (Addr.add p_1 1) w_1 fun (t11:(Option Addr×Nat×Nat))=>
  za2 P (Builtin.unsafeSliceData_ #[xk] zsc #[(Value.slice t6.1 t6.2.1 t6.2.2)]) .ptr w_1 fun (t7:(Option Addr)) w_2=>
  ((ld .slc (Addr.add p_1 1) w_2 fun (t11_1:(Option Addr×Nat×Nat))=>
  (Value.slice t11_1.1 t11_1.2.1 t11_1.2.2)=(Value.slice t11.1 t11.2.1 t11.2.2)) /\
  za2 P (Builtin.unsafeString_ #[zsc,zav] qx #[(Value.pointer t7),(Value.int .i64 (t11.2.1:Int))]) .str w_2 fun (t13:ByteArray) w_3=>
  R (.returned (Value.string t13)) w_3)
theorem zge {b:Option Addr}{R:Ending->World->Prop}{w:World}(hT:zeh b R w):qj P zb0 #[(Value.pointer b)] w R:=
 fnT (.seq .leaf (.seq (.tree (.op 0 [] (.op 1 [] (.op 2 [] (.op 5 [] (.op 6 [] (.op 7 [] (.op 3 [] (.op 8 [] (.op 9 [] (.op 4 [8] (.op 10 [] (.op 11 [] .done))))))))))))) .leaf)) Tryz.func137 hT
def zfu (b:Option Addr) (R:Ending->World->Prop) (w:World):Prop:=
  qg b fun p=>
  ld .ptr p w fun (t5:(Option Addr))=>
  qw (Option.isNone t5) (
  za2 P (convert zeu zi4 (Value.pointer b)) .any w fun (t9:Value) w_1=>
  ql P zha #[t9] [.any] false w_1 fun (t10:Value) w_2=>
  za2 P (convert zi4 zeu t10) .ptr w_2 fun (t11:(Option Addr)) w_3=>
  qg b fun p_1=>
  stC p_1 (Value.pointer t11) w_3 fun w_4=>
  R (.returned (Value.tuple #[])) w_4) (
  qg b fun p_2=>
  ld .ptr p_2 w fun (t17:(Option Addr))=>
  zad P (eqM .neq zeu (.tmp 17) (.tmp 18) (Value.pointer t17) (Value.pointer b)) .bool w fun (t19:Bool)=>
  qw t19 (
  False) (
  R (.returned (Value.tuple #[])) w))
theorem zjs {b:Option Addr}{R:Ending->World->Prop}{w:World}(hT:zfu b R w):qj P zcd #[(Value.pointer b)] w R:=
 fnT (.seq .leaf (.cond .leaf (.seq .leaf (.cond .leaf .leaf)))) Tryz.func193 hT
def zh5 (b:Option Addr) (n:Int) (R:Ending->World->Prop) (w:World):Prop:=
  za5 w fun w_1=>
  qg b fun p=>
  qg b fun p_1=>
  ld .slc (Addr.add p 1) w_1 fun (t8:(Option Addr×Nat×Nat))=>
  zad P (Builtin.cap_ #[xk] zav #[(Value.slice t8.1 t8.2.1 t8.2.2)]) (.int .i64) w_1 fun (t9:Int)=>
  z0k .i64 2 t9 fun t10=>
  zbz .i64 t10 n fun t12=>
  ld .slc (Addr.add p_1 1) w_1 fun (t17:(Option Addr×Nat×Nat))=>
  ql P ze9 #[(Value.int .i64 t12)] [.slc] false w_1 fun (t13:(Option Addr×Nat×Nat)) w_2=>
  ((ld .slc (Addr.add p_1 1) w_2 fun (t17_1:(Option Addr×Nat×Nat))=>
  (Value.slice t17_1.1 t17_1.2.1 t17_1.2.2)=(Value.slice t17.1 t17.2.1 t17.2.2)) /\
  zad P (Instr.sliceAt xk (Value.slice t13.1 t13.2.1 t13.2.2) none (some (Value.int .i64 (t17.2.1:Int))) none) .slc w_2 fun (t19:(Option Addr×Nat×Nat))=>
  qg b fun p_2=>
  ld .slc (Addr.add p_2 1) w_2 fun (t24:(Option Addr×Nat×Nat))=>
  za2 P (Builtin.copy_ #[xk,xk] zav #[(Value.slice t19.1 t19.2.1 t19.2.2),(Value.slice t24.1 t24.2.1 t24.2.2)]) (.int .i64) w_2 fun (_:Int) w_3=>
  qg b fun p_3=>
  stC (Addr.add p_3 1) (Value.slice t19.1 t19.2.1 t19.2.2) w_3 fun w_4=>
  R (.returned (Value.tuple #[])) w_4)
theorem zmm {b:Option Addr}{n:Int}{R:Ending->World->Prop}{w:World}(hT:zh5 b n R w):qj P zfd #[(Value.pointer b),(Value.int .i64 n)] w R:=
 fnT (.seq (.tree (.op 0 [] (.op 1 [] (.op 2 [] (.op 6 [] (.op 9 [] (.op 10 [] (.op 11 [] (.op 3 [] (.op 4 [] (.op 5 [] (.op 7 [] (.op 12 [] (.op 13 [] (.op 8 [12] (.op 14 [] (.op 15 [] .done))))))))))))))))) (.seq .leaf .leaf)) Tryz.func194 hT
theorem zmg {e:Array Value->Sem Value}(he:Extern.find Tryz.f226=some e) (args:Array Value) (w:World):(callFunc zha args).run P w=((e args).run P w).andThen fun v w1=>.ok (.value v) w1:=
 Go.run_callFunc_extern Tryz.func226 (by kernel_rfl) (by kernel_rfl) (by kernel_rfl) he args w
theorem zi2 {e:Array Value->Sem Value}(he:Extern.find Tryz.f227=some e) (args:Array Value) (w:World):(callFunc ze9 args).run P w=((e args).run P w).andThen fun v w1=>.ok (.value v) w1:=
 Go.run_callFunc_extern Tryz.func227 (by kernel_rfl) (by kernel_rfl) (by kernel_rfl) he args w
def zri (s:ByteArray) (sep:ByteArray) (R:Ending->World->Prop) (w:World):Prop:=
  ql P zdu #[(Value.string s),(Value.string sep)] [.str,.str,.bool] true w fun (t9:(ByteArray×ByteArray×Bool)) w_1=>
  R (.returned (Value.tuple #[(Value.string t9.1),(Value.string t9.2.1),(Value.bool t9.2.2)])) w_1
theorem zxr {s:ByteArray}{sep:ByteArray}{R:Ending->World->Prop}{w:World}(hT:zri s sep R w):qj P zm2 #[(Value.string s),(Value.string sep)] w R:=
 fnT (.seq .leaf (.seq .leaf .leaf)) Tryz.func184 hT
def zf2 (s:ByteArray) (sep:ByteArray) (R:Ending->World->Prop) (w:World):Prop:=
  ql P zdc #[(Value.string s),(Value.string sep)] [.int .i64] false w fun (t10:Int) w_1=>
  qw (decide (t10>=0)) (
  za5 w_1 fun w_2=>
  zbz .i64 t10 (sep.size:Int) fun t20=>
  zad P (Instr.sliceAt qx (Value.string s) none (some (Value.int .i64 t10)) none) .str w_2 fun (t15:ByteArray)=>
  zad P (Instr.sliceAt qx (Value.string s) (some (Value.int .i64 t20)) none none) .str w_2 fun (t21:ByteArray)=>
  R (.returned (Value.tuple #[(Value.string t15),(Value.string t21),(Value.bool true)])) w_2) (
  R (.returned (Value.tuple #[(Value.string s),(Value.string (ByteArray.mk #[])),(Value.bool false)])) w_1)
theorem zkj {s:ByteArray}{sep:ByteArray}{R:Ending->World->Prop}{w:World}(hT:zf2 s sep R w):qj P zdu #[(Value.string s),(Value.string sep)] w R:=
 fnT (.seq .leaf (.seq (.seq .leaf (.seq .leaf (.cond (.seq (.tree (.op 0 [] (.op 1 [] (.op 3 [] (.op 4 [] (.op 5 [] (.op 6 [] (.op 7 [] (.op 2 [] (.op 9 [] (.op 8 [] (.op 10 [] (.op 11 [] .done))))))))))))) .leaf) .leaf))) (.seq .leaf .leaf))) Tryz.func222 hT
def zfk (s:ByteArray) (substr:ByteArray) (R:Ending->World->Prop) (w:World):Prop:=
  joinP Unit (fun k=>
  joinP Unit (fun k_1=>
  qw ((substr.size:Int)==0) (
  R (.returned (Value.int .i64 0)) w) (
  qw (substr.toList==s.toList) (
  R (.returned (Value.int .i64 0)) w) (
  qw ((substr.size:Int)==1) (
  zra substr 0 fun t29=>
  ql P zbh #[(Value.string s),(Value.int .u8 t29)] [.int .i64] false w fun (t30:Int) w_1=>
  R (.returned (Value.int .i64 t30)) w_1) (
  qw (decide ((substr.size:Int)>=(s.size:Int))) (
  R (.returned (Value.int .i64 (-1))) w) (
  ld (.int .i64) (⟨2,0,none⟩:Addr) w fun (t38:Int)=>
  qw (decide ((substr.size:Int)<=t38)) (
  qw (decide ((s.size:Int)<=64)) (
  ql P zel #[(Value.string s),(Value.string substr)] [.int .i64] false w fun (t47:Int) w_2=>
  R (.returned (Value.int .i64 t47)) w_2) (
  k_1 () w)) (
  k_1 () w)))))) (fun _ w_3=>
  k () w_3)) (fun _ w_4=>
  zra substr 0 fun t49=>
  zra substr 1 fun t51=>
  zo5 .i64 (s.size:Int) (substr.size:Int) fun t55=>
  zbz .i64 t55 1 fun t56=>
  za4 (Int×Int) (fun s_3 w_5 k_2=>
  qw (decide (s_3.1 < t56)) (
  joinP (Int×Int) (fun k_3=>
  joinP Int (fun k_4=>
  zra s s_3.1 fun t62=>
  qw (t62 != t49) (
  zbz .i64 s_3.1 1 fun t67=>
  zad P (Instr.sliceAt qx (Value.string s) (some (Value.int .i64 t67)) (some (Value.int .i64 t56)) none) .str w_5 fun (t69:ByteArray)=>
  ql P zbh #[(Value.string t69),(Value.int .u8 t49)] [.int .i64] false w_5 fun (t71:Int) w_6=>
  qw (decide (t71 < 0)) (
  R (.returned (Value.int .i64 (-1))) w_6) (
  zbz .i64 t71 1 fun t76=>
  zbz .i64 s_3.1 t76 fun t77=>
  k_4 t77 w_6)) (
  k_4 s_3.1 w_5)) (fun s_4 w_7=>
  joinP Unit (fun k_5=>
  zbz .i64 s_4 1 fun t80=>
  zra s t80 fun t81=>
  qw (t81==t51) (
  zbz .i64 s_4 (substr.size:Int) fun t89=>
  zad P (Instr.sliceAt qx (Value.string s) (some (Value.int .i64 s_4)) (some (Value.int .i64 t89)) none) .str w_7 fun (t90:ByteArray)=>
  qw (t90.toList==substr.toList) (
  R (.returned (Value.int .i64 s_4)) w_7) (
  k_5 () w_7)) (
  k_5 () w_7)) (fun _ w_8=>
  zbz .i64 s_4 1 fun t96=>
  zbz .i64 s_3.2 1 fun t98=>
  joinP Bool (fun k_6=>
  ld (.int .i64) (⟨2,0,none⟩:Addr) w_8 fun (t100:Int)=>
  qw (decide ((substr.size:Int)<=t100)) (
  ql P zkm #[(Value.int .i64 t96)] [.int .i64] false w_8 fun (t105:Int) w_9=>
  k_6 (decide (t98 > t105)) w_9) (
  k_6 false w_8)) (fun s_6 w_10=>
  qw s_6 (
  zad P (Instr.sliceAt qx (Value.string s) (some (Value.int .i64 t96)) none none) .str w_10 fun (t110:ByteArray)=>
  ql P zel #[(Value.string t110),(Value.string substr)] [.int .i64] false w_10 fun (t112:Int) w_11=>
  qw (decide (t112>=0)) (
  zbz .i64 t112 t96 fun t117=>
  R (.returned (Value.int .i64 t117)) w_11) (
  R (.returned (Value.int .i64 (-1))) w_11)) (
  ld (.int .i64) (⟨2,0,none⟩:Addr) w_10 fun (t119:Int)=>
  qw (decide ((substr.size:Int) > t119)) (
  z7c .i64 t96 4 fun t124=>
  zbz .i64 4 t124 fun t125=>
  qw (decide (t98>=t125)) (
  qw (decide (t96 < t56)) (
  zad P (Instr.sliceAt qx (Value.string s) (some (Value.int .i64 t96)) none none) .str w_10 fun (t135:ByteArray)=>
  ql P zfl #[(Value.string t135),(Value.string substr)] [.int .i64] false w_10 fun (t137:Int) w_12=>
  qw (decide (t137 < 0)) (
  R (.returned (Value.int .i64 (-1))) w_12) (
  zbz .i64 t96 t137 fun t142=>
  R (.returned (Value.int .i64 t142)) w_12)) (
  k_3 (t96,t98) w_10)) (
  k_3 (t96,t98) w_10)) (
  k_3 (t96,t98) w_10)))))) (fun s_7 w_13=>
  k_2 (s_7.1,s_7.2) w_13)) (
  R (.returned (Value.int .i64 (-1))) w_5)) (0,0) w_4)
theorem zi7 {s:ByteArray}{substr:ByteArray}{R:Ending->World->Prop}{w:World}(hT:zfk s substr R w):qj P zdc #[(Value.string s),(Value.string substr)] w R:=
 fnT (.seq .leaf (.seq .leaf (.join [] (.jblk [] (.seq .leaf (.cond (.seq .leaf .leaf) (.seq .leaf (.cond (.seq .leaf .leaf) (.seq .leaf (.cond (.seq .leaf .leaf) (.seq .leaf (.cond (.seq .leaf .leaf) .leaf))))))))) (.seq .leaf (.seq .leaf (.seq .leaf (.seq .leaf (.seq .leaf (.seq (.blk (.loop [(8,.int .i64),(10,.int .i64)] (.seq (.seq .leaf (.cond .leaf .leaf)) (.jblk [(8,.int .i64),(10,.int .i64)] (.join [(8,.int .i64)] (.seq .leaf (.cond (.seq .leaf (.seq (.seq .leaf (.cond (.seq .leaf .leaf) .leaf)) .leaf)) .leaf)) (.join [] (.seq .leaf (.cond (.seq .leaf .leaf) .leaf)) (.seq .leaf (.seq .leaf (.join [(107,.bool)] .leaf (.cond (.seq .leaf (.seq (.seq .leaf (.cond (.seq .leaf .leaf) .leaf)) (.seq .leaf .leaf))) (.seq .leaf (.cond (.seq .leaf (.seq (.seq .leaf (.cond (.seq .leaf .leaf) .leaf)) (.seq .leaf .leaf))) .leaf)))))))))))) (.seq .leaf .leaf)))))))))) Tryz.func245 hT
def zea (s:ByteArray) (c:Int) (R:Ending->World->Prop) (w:World):Prop:=
  ql P zdn #[(Value.string s),(Value.int .u8 c)] [.int .i64] false w fun (t7:Int) w_1=>
  R (.returned (Value.int .i64 t7)) w_1
theorem zhv {s:ByteArray}{c:Int}{R:Ending->World->Prop}{w:World}(hT:zea s c R w):qj P zbh #[(Value.string s),(Value.int .u8 c)] w R:=
 fnT (.seq .leaf (.seq .leaf .leaf)) Tryz.func252 hT
theorem zg9 {e:Array Value->Sem Value}(he:Extern.find Tryz.f257=some e) (args:Array Value) (w:World):(callFunc zdn args).run P w=((e args).run P w).andThen fun v w1=>.ok (.value v) w1:=
 Go.run_callFunc_extern Tryz.func257 (by kernel_rfl) (by kernel_rfl) (by kernel_rfl) he args w
def zdx (s:Option Addr) (s_l s_c:Nat) (v:ByteArray) (R:Ending->World->Prop) (w:World):Prop:=
  ql P zen #[(Value.slice s s_l s_c),(Value.string v)] [.int .i64] false w fun (t7:Int) w_1=>
  R (.returned (Value.bool (decide (t7>=0)))) w_1
theorem zg7 {s:Option Addr}{s_l s_c:Nat}{v:ByteArray}{R:Ending->World->Prop}{w:World}(hT:zdx s s_l s_c v R w):qj P zcf #[(Value.slice s s_l s_c),(Value.string v)] w R:=
 fnT (.seq .leaf (.seq .leaf .leaf)) Tryz.func161 hT
def zeq (s:Option Addr) (s_l s_c:Nat) (v:ByteArray) (R:Ending->World->Prop) (w:World):Prop:=
  za4 Int (fun s_1 w_1 k=>
  qw (decide (s_1 < (s_l:Int))) (
  ixS s s_l 1 s_1 fun t14=>
  ld .str t14 w_1 fun (t15:ByteArray)=>
  qw (v.toList==t15.toList) (
  R (.returned (Value.int .i64 s_1)) w_1) (
  zbz .i64 s_1 1 fun t18=>
  k t18 w_1)) (
  R (.returned (Value.int .i64 (-1))) w_1)) 0 w
theorem zih {s:Option Addr}{s_l s_c:Nat}{v:ByteArray}{R:Ending->World->Prop}{w:World}(hT:zeq s s_l s_c v R w):qj P zen #[(Value.slice s s_l s_c),(Value.string v)] w R:=
 fnT (.seq .leaf (.seq (.seq .leaf (.blk (.loop [(8,.int .i64)] (.seq .leaf (.seq (.cond .leaf .leaf) (.seq (.blk (.seq .leaf (.seq .leaf (.cond (.seq .leaf .leaf) .leaf)))) .leaf)))))) (.seq .leaf .leaf))) Tryz.func212 hT
def zep (s:Option Addr) (s_l s_c:Nat) (R:Ending->World->Prop) (w:World):Prop:=
  qw (Option.isNone s) (
  R (.returned (Value.slice none 0 0)) w) (
  za2 P (Instr.buildSlice zx 0 #[]) .slc w fun (t5:(Option Addr×Nat×Nat)) w_1=>
  za2 P (Builtin.append_ #[zx,zx] zx #[(Value.slice t5.1 t5.2.1 t5.2.2),(Value.slice s s_l s_c)]) .slc w_1 fun (t7:(Option Addr×Nat×Nat)) w_2=>
  R (.returned (Value.slice t7.1 t7.2.1 t7.2.2)) w_2)
theorem zh9 {s:Option Addr}{s_l s_c:Nat}{R:Ending->World->Prop}{w:World}(hT:zep s s_l s_c R w):qj P za8 #[(Value.slice s s_l s_c)] w R:=
 fnT (.seq .leaf (.seq (.seq .leaf (.cond (.seq .leaf .leaf) .leaf)) (.seq .leaf .leaf))) Tryz.func93 hT
def zdo (s:Option Addr) (s_l s_c:Nat) (R:Ending->World->Prop) (w:World):Prop:=
  qw (Option.isNone s) (
  R (.returned (Value.slice none 0 0)) w) (
  za2 P (Instr.buildSlice qm 0 #[]) .slc w fun (t5:(Option Addr×Nat×Nat)) w_1=>
  za2 P (Builtin.append_ #[qm,qm] qm #[(Value.slice t5.1 t5.2.1 t5.2.2),(Value.slice s s_l s_c)]) .slc w_1 fun (t7:(Option Addr×Nat×Nat)) w_2=>
  R (.returned (Value.slice t7.1 t7.2.1 t7.2.2)) w_2)
theorem zgm {s:Option Addr}{s_l s_c:Nat}{R:Ending->World->Prop}{w:World}(hT:zdo s s_l s_c R w):qj P zb7 #[(Value.slice s s_l s_c)] w R:=
 fnT (.seq .leaf (.seq (.seq .leaf (.cond (.seq .leaf .leaf) .leaf)) (.seq .leaf .leaf))) Tryz.func198 hT
set_option maxRecDepth 100000
def z1c (o:Value) (R:Ending->World->Prop) (w:World):Prop:=
  zat (Value.cells o) jk w fun b1 w_1=>
  zat (zc P jk) jk w_1 fun b2 w_2=>
  ld (.int .i64) (⟨b1,0,none⟩:Addr) w_2 fun (t6:Int)=>
  ld .str (⟨b1,1,none⟩:Addr) w_2 fun (t8:ByteArray)=>
  zad P (Instr.build jk #[(0,(Value.int .i64 t6)),(1,(Value.string t8))]) .any w_2 fun (t9:Value)=>
  zat (zc P jk) jk w_2 fun b4 w_3=>
  zah P (storeVar jk (⟨b4,0,none⟩:Addr) t9) w_3 fun w_4=>
  joinP Unit (fun k=>
  ld (.int .i64) (⟨b1,0,none⟩:Addr) w_4 fun (t11:Int)=>
  joinP Unit (fun k_1=>
  joinP Unit (fun k_2=>
  joinP Unit (fun k_3=>
  joinP Unit (fun k_4=>
  qw (t11==3) (
  za5 w_4 fun w_5=>
  ld (.int .i64) (⟨b1,4,none⟩:Addr) w_5 fun (t32:Int)=>
  ld .str (⟨b1,3,none⟩:Addr) w_5 fun (t34:ByteArray)=>
  stC (⟨b4,4,none⟩:Addr) (Value.int .i64 t32) w_5 fun w_6=>
  ((ld .str (⟨b1,3,none⟩:Addr) w_6 fun (t34_1:ByteArray)=>
  (Value.string t34_1)=(Value.string t34)) /\
  stC (⟨b4,3,none⟩:Addr) (Value.string t34) w_6 fun w_7=>
  k_1 () w_7)) (
  qw (t11==4) (
  ld (.int .i64) (⟨b1,5,none⟩:Addr) w_4 fun (t38:Int)=>
  stC (⟨b4,5,none⟩:Addr) (Value.int .i64 t38) w_4 fun w_8=>
  k_1 () w_8) (
  qw (t11==7) (
  ld .str (⟨b1,2,none⟩:Addr) w_4 fun (t41:ByteArray)=>
  stC (⟨b4,2,none⟩:Addr) (Value.string t41) w_4 fun w_9=>
  k_1 () w_9) (
  qw (t11==8) (
  za5 w_4 fun w_10=>
  ld (.int .i64) (⟨b1,4,none⟩:Addr) w_10 fun (t44:Int)=>
  ld (.int .i64) (⟨b1,5,none⟩:Addr) w_10 fun (t46:Int)=>
  stC (⟨b4,4,none⟩:Addr) (Value.int .i64 t44) w_10 fun w_11=>
  ((ld (.int .i64) (⟨b1,5,none⟩:Addr) w_11 fun (t46_1:Int)=>
  (Value.int .i64 t46_1)=(Value.int .i64 t46)) /\
  stC (⟨b4,5,none⟩:Addr) (Value.int .i64 t46) w_11 fun w_12=>
  k_1 () w_12)) (
  qw (t11==11) (
  za5 w_4 fun w_13=>
  ld (.int .i64) (⟨b1,4,none⟩:Addr) w_13 fun (t50:Int)=>
  stC (⟨b4,1,none⟩:Addr) (Value.string (ByteArray.mk #[])) w_13 fun w_14=>
  ((ld (.int .i64) (⟨b1,4,none⟩:Addr) w_14 fun (t50_1:Int)=>
  (Value.int .i64 t50_1)=(Value.int .i64 t50)) /\
  stC (⟨b4,4,none⟩:Addr) (Value.int .i64 t50) w_14 fun w_15=>
  k_1 () w_15)) (
  joinP Bool (fun k_5=>
  qw (t11==1) (
  k_5 (t11==1) w_4) (
  k_5 (t11==2) w_4)) (fun s w_16=>
  qw s (
  k_4 () w_16) (
  joinP Bool (fun k_6=>
  qw (t11==5) (
  k_6 (t11==5) w_16) (
  k_6 (t11==6) w_16)) (fun s_1 w_17=>
  qw s_1 (
  k_4 () w_17) (
  joinP Bool (fun k_7=>
  qw (t11==9) (
  k_7 (t11==9) w_17) (
  k_7 (t11==10) w_17)) (fun s_2 w_18=>
  qw s_2 (
  k_3 () w_18) (
  zad P (Instr.build jk #[]) .any w_18 fun (t53:Value)=>
  zah P (storeVar jk (⟨b2,0,none⟩:Addr) t53) w_18 fun w_19=>
  ldA P 6 (⟨b2,0,none⟩:Addr) w_19 fun t2=>
  R (.returned (Value.tuple #[(Value.agg t2),(Value.bool false)])) w_19)))))))))))) (fun _ w_20=>
  k_3 () w_20)) (fun _ w_21=>
  k_2 () w_21)) (fun _ w_22=>
  k_1 () w_22)) (fun _ w_23=>
  k () w_23)) (fun _ w_24=>
  ldA P 6 (⟨b4,0,none⟩:Addr) w_24 fun t54=>
  zah P (storeVar jk (⟨b2,0,none⟩:Addr) (Value.agg t54)) w_24 fun w_25=>
  ldA P 6 (⟨b2,0,none⟩:Addr) w_25 fun t2_1=>
  R (.returned (Value.tuple #[(Value.agg t2_1),(Value.bool true)])) w_25)
theorem z7y {o:Value}{R:Ending->World->Prop}{w:World}(hT:z1c o R w):qj P zwi #[o] w R:=
 fnT (.seq .leaf (.seq .leaf (.join [] (.seq .leaf (.jblk [] (.seq (.blk (.join [] (.jblk [] (.jblk [] (.blk (.seq (.blk (.seq (.blk (.seq (.blk (.seq (.blk (.seq (.blk (.seq (.seq (.seq .leaf (.cond .leaf .leaf)) (.seq (.seq .leaf (.cond .leaf .leaf)) (.seq (.seq .leaf (.cond .leaf .leaf)) (.seq (.seq .leaf (.cond .leaf .leaf)) (.seq (.seq .leaf (.cond .leaf .leaf)) (.seq (.join [(22,.bool)] (.seq .leaf (.cond .leaf .leaf)) (.cond .leaf .leaf)) (.seq (.join [(25,.bool)] (.seq .leaf (.cond .leaf .leaf)) (.cond .leaf .leaf)) (.join [(28,.bool)] (.seq .leaf (.cond .leaf .leaf)) (.cond .leaf .leaf))))))))) .leaf)) (.seq (.tree (.op 0 [] (.op 2 [] (.op 1 [] (.op 4 [] (.op 3 [] (.op 5 [3] (.op 6 [] (.op 7 [] .done))))))))) .leaf))) (.seq .leaf .leaf))) (.seq .leaf .leaf))) (.seq (.tree (.op 0 [] (.op 2 [] (.op 1 [] (.op 4 [] (.op 3 [] (.op 5 [3] (.op 6 [] (.op 7 [] .done))))))))) .leaf))) (.seq (.tree (.op 0 [] (.op 2 [] (.op 1 [] (.op 3 [1] (.op 4 [] (.op 5 [] .done))))))) .leaf))))) .leaf)) (.seq (.seq .leaf .leaf) .leaf)))) (.seq .leaf .leaf)))) Tryz.func163 hT
def zyv (o:Value) (R:Ending->World->Prop) (w:World):Prop:=
  zat (Value.cells o) jk w fun b1 w_1=>
  ldA P 6 (⟨b1,0,none⟩:Addr) w_1 fun t10=>
  ql P zwi #[(Value.agg t10)] [.any,.bool] true w_1 fun (t11:(Value×Bool)) w_2=>
  zat (zc P jk) jk w_2 fun b3 w_3=>
  zah P (storeVar jk (⟨b3,0,none⟩:Addr) t11.1) w_3 fun w_4=>
  joinP Unit (fun k=>
  joinP Unit (fun k_1=>
  qw (!t11.2) (
  R (.returned (Value.int .i64 100)) w_4) (
  ldA P 6 (⟨b3,0,none⟩:Addr) w_4 fun t18=>
  ldA P 6 (⟨b1,0,none⟩:Addr) w_4 fun t19=>
  zad P (eqM .neq jk (.tmp 18) (.tmp 19) (Value.agg t18) (Value.agg t19)) .bool w_4 fun (t20:Bool)=>
  qw t20 (
  R (.returned (Value.int .i64 1)) w_4) (
  ld (.int .i64) (⟨b1,4,none⟩:Addr) w_4 fun (t23:Int)=>
  qw (decide (t23 < 0)) (
  R (.returned (Value.int .i64 1)) w_4) (
  ld (.int .i64) (⟨b1,5,none⟩:Addr) w_4 fun (t28:Int)=>
  qw (decide (t28 < 0)) (
  R (.returned (Value.int .i64 1)) w_4) (
  ld (.int .i64) (⟨b1,0,none⟩:Addr) w_4 fun (t33:Int)=>
  qw (t33==11) (
  ld (.int .i64) (⟨b1,4,none⟩:Addr) w_4 fun (t37:Int)=>
  qw (decide (t37 < 1)) (
  R (.returned (Value.int .i64 1)) w_4) (
  ld (.int .i64) (⟨b1,4,none⟩:Addr) w_4 fun (t41:Int)=>
  qw (decide (t41 > 8)) (
  R (.returned (Value.int .i64 1)) w_4) (
  ld .str (⟨b1,3,none⟩:Addr) w_4 fun (t48:ByteArray)=>
  qw (decide ((t48.size:Int) > 1024)) (
  R (.returned (Value.int .i64 134)) w_4) (
  ld (.int .i64) (⟨b1,4,none⟩:Addr) w_4 fun (t53:Int)=>
  qw (decide (t53 > 1024)) (
  R (.returned (Value.int .i64 134)) w_4) (
  ld (.int .i64) (⟨b1,5,none⟩:Addr) w_4 fun (t58:Int)=>
  qw (decide (t58 > 1024)) (
  R (.returned (Value.int .i64 134)) w_4) (
  ld (.int .i64) (⟨b1,0,none⟩:Addr) w_4 fun (t63:Int)=>
  qw (t63==11) (
  R (.returned (Value.int .i64 0)) w_4) (
  k_1 () w_4))))))) (
  ld .str (⟨b1,3,none⟩:Addr) w_4 fun (t48_1:ByteArray)=>
  qw (decide ((t48_1.size:Int) > 1024)) (
  R (.returned (Value.int .i64 134)) w_4) (
  ld (.int .i64) (⟨b1,4,none⟩:Addr) w_4 fun (t53_1:Int)=>
  qw (decide (t53_1 > 1024)) (
  R (.returned (Value.int .i64 134)) w_4) (
  ld (.int .i64) (⟨b1,5,none⟩:Addr) w_4 fun (t58_1:Int)=>
  qw (decide (t58_1 > 1024)) (
  R (.returned (Value.int .i64 134)) w_4) (
  ld (.int .i64) (⟨b1,0,none⟩:Addr) w_4 fun (t63_1:Int)=>
  qw (t63_1==11) (
  R (.returned (Value.int .i64 0)) w_4) (
  k_1 () w_4)))))))))) (fun _ w_5=>
  k () w_5)) (fun _ w_6=>
  ld .str (⟨b1,1,none⟩:Addr) w_6 fun (t67:ByteArray)=>
  ql P zbw #[(Value.string t67)] [.slc,.int .i64] true w_6 fun (t68:((Option Addr×Nat×Nat)×Int)) w_7=>
  qw (t68.2 != 0) (
  R (.returned (Value.int .i64 t68.2)) w_7) (
  ld (.int .i64) (⟨b1,0,none⟩:Addr) w_7 fun (t75:Int)=>
  qw (t75 != 7) (
  R (.returned (Value.int .i64 0)) w_7) (
  ld .str (⟨b1,2,none⟩:Addr) w_7 fun (t79:ByteArray)=>
  ql P zbw #[(Value.string t79)] [.slc,.int .i64] true w_7 fun (t80:((Option Addr×Nat×Nat)×Int)) w_8=>
  R (.returned (Value.int .i64 t80.2)) w_8)))
theorem z3t {o:Value}{R:Ending->World->Prop}{w:World}(hT:zyv o R w):qj P zsj #[o] w R:=
 fnT (.seq .leaf (.seq .leaf (.join [] (.jblk [] (.seq .leaf (.cond (.seq .leaf .leaf) (.seq .leaf (.cond (.seq .leaf .leaf) (.seq .leaf (.cond (.seq .leaf .leaf) (.seq .leaf (.cond (.seq .leaf .leaf) .leaf))))))))) (.seq (.seq .leaf (.seq .leaf (.cond (.seq .leaf .leaf) .leaf))) (.seq (.seq .leaf (.cond (.seq .leaf .leaf) .leaf)) (.seq .leaf (.seq .leaf .leaf))))))) Tryz.func96 hT
def z1y (kind:Int) (R:Ending->World->Prop) (w:World):Prop:=
  za2 P (Instr.buildSlice zx 12 #[(0,(Value.string (ByteArray.mk #[]))),(1,(Value.string (ByteArray.mk #[109,107,100,105,114]))),(2,(Value.string (ByteArray.mk #[99,114,101,97,116,101]))),(3,(Value.string (ByteArray.mk #[119,114,105,116,101]))),(4,(Value.string (ByteArray.mk #[116,114,117,110,99,97,116,101]))),(5,(Value.string (ByteArray.mk #[117,110,108,105,110,107]))),(6,(Value.string (ByteArray.mk #[114,109,100,105,114]))),(7,(Value.string (ByteArray.mk #[114,101,110,97,109,101]))),(8,(Value.string (ByteArray.mk #[114,101,97,100]))),(9,(Value.string (ByteArray.mk #[108,105,115,116]))),(10,(Value.string (ByteArray.mk #[115,116,97,116]))),(11,(Value.string (ByteArray.mk #[102,111,114,103,101,116])))]) .slc w fun (t4:(Option Addr×Nat×Nat)) w_1=>
  joinP Unit (fun k=>
  qw (decide (kind < 0)) (
  R (.returned (Value.string (ByteArray.mk #[]))) w_1) (
  qw (decide (kind>=(t4.2.1:Int))) (
  R (.returned (Value.string (ByteArray.mk #[]))) w_1) (
  k () w_1))) (fun _ w_2=>
  ixS t4.1 t4.2.1 1 kind fun t15=>
  ld .str t15 w_2 fun (t16:ByteArray)=>
  R (.returned (Value.string t16)) w_2)
theorem z8w {kind:Int}{R:Ending->World->Prop}{w:World}(hT:z1y kind R w):qj P zuy #[(Value.int .i64 kind)] w R:=
 fnT (.seq .leaf (.seq .leaf (.join [] (.seq .leaf (.cond (.seq .leaf .leaf) .leaf)) (.seq .leaf .leaf)))) Tryz.func40 hT
def zyn (kind:Int) (R:Ending->World->Prop) (w:World):Prop:=
  qw (decide (kind>=8)) (
  R (.returned (Value.bool (decide (kind<=10)))) w) (
  R (.returned (Value.bool false)) w)
theorem z3v {kind:Int}{R:Ending->World->Prop}{w:World}(hT:zyn kind R w):qj P zth #[(Value.int .i64 kind)] w R:=
 fnT (.seq .leaf (.seq .leaf .leaf)) Tryz.func85 hT
def zwk (op:ByteArray) (path:ByteArray) (e:Int) (R:Ending->World->Prop) (w:World):Prop:=
  qw (e==0) (
  R (.returned Value.nilIface) w) (
  zad P (Instr.makeInterface jd (Value.int .i64 e)) .any w fun (t12:Value)=>
  zad P (Instr.build zer #[(0,(Value.string op)),(1,(Value.string path)),(2,t12)]) .any w fun (t13:Value)=>
  zat (Value.cells t13) zer w fun b14 w_1=>
  zad P (Instr.makeInterface zbu (Value.pointer (some (⟨b14,0,none⟩:Addr)))) .any w_1 fun (t15:Value)=>
  R (.returned t15) w_1)
theorem z2e {op:ByteArray}{path:ByteArray}{e:Int}{R:Ending->World->Prop}{w:World}(hT:zwk op path e R w):qj P zp3 #[(Value.string op),(Value.string path),(Value.int .i64 e)] w R:=
 fnT (.seq .leaf (.seq (.seq .leaf (.cond (.seq .leaf .leaf) .leaf)) (.seq .leaf .leaf))) Tryz.func39 hT
theorem ze7 {e:Array Value->Sem Value}(he:Extern.find Tryz.f157=some e) (args:Array Value) (w:World):(callFunc ze3 args).run P w=((e args).run P w).andThen fun v w1=>.ok (.value v) w1:=
 Go.run_callFunc_extern Tryz.func157 (by kernel_rfl) (by kernel_rfl) (by kernel_rfl) he args w
end Go.Proofs.YthaaekcaaecdeaaGreatDoor
