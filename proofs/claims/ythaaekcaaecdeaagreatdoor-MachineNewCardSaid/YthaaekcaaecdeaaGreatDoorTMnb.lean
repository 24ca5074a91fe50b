/- Part 2 of the texts below the card, joined. -/
import Derived.Test.YthaaekcaaecdeaaGreatDoorProg
import Derived.Test.YthaaekcaaecdeaaGreatDoorTMna
namespace Go.Proofs.YthaaekcaaecdeaaGreatDoor
open Go Go.Fw Go.Proofs
set_option maxRecDepth 100000
noncomputable abbrev P:Program:=Tryz.prog
def qs:List FuncId:=[169,131,181,130,182,241,215]
theorem mixed:P.follows .mixedOrders=true:=by kernel_rfl
theorem fnT {f:FuncId}{fn:Func}(ann:Ann){vs:List Value}{w:World}{R:Ending->World->Prop}{T:Prop}(hf:P.funcs[f]?=some fn) (hT:T) (hb:fn.body=some (fn.body.getD .skip):=by rfl) (hn:(fn.name== "runtime.NumGoroutine")=false:=by kernel_rfl) (hl:Nat.ble (vs.map fun v=>((0:Nat),v)).length fn.ntmps=true:=by kernel_rfl) (hok:okC P qs fn.ntmps (fn.body.getD .skip) ann=true:=by kernel_rfl) (he:tr P qs (fn.body.getD .skip) ann (z1a 0 (vs.map fun v=>((0:Nat),v))) (z6r P fn.results.toList R) w=T:=by kernel_rfl):zx P f vs.toArray w R:=by
 have h:=z0v (qs:=qs) (args:=vs.map fun v=>((0:Nat),v)) mixed hf hb hn hl hok (he.symm▸hT)
 rwa [List.map_map,show ((fun x:EV=>x.2)∘fun v:Value=>((0:Nat),v))=id from rfl,List.map_id] at h
theorem fnU {f:FuncId}{fn:Func}(ann:Ann2){vs:List Value}{w:World}{R:Ending->World->Prop}{T:Prop}(hf:P.funcs[f]?=some fn) (hT:T) (hb:fn.body=some (fn.body.getD .skip):=by rfl) (hn:(fn.name== "runtime.NumGoroutine")=false:=by kernel_rfl) (hl:Nat.ble (vs.map fun v=>((0:Nat),v)).length fn.ntmps=true:=by kernel_rfl) (hok:zwr P qs fn.ntmps (fn.body.getD .skip) ann=true:=by kernel_rfl) (he:tr2 P qs (fn.body.getD .skip) ann [] (z1a 0 (vs.map fun v=>((0:Nat),v))) (z0r P fn.results.toList R) w=T:=by kernel_rfl):zx P f vs.toArray w R:=by
 have h:=zzc (qs:=qs) (args:=vs.map fun v=>((0:Nat),v)) mixed hf hb hn hl hok (he.symm▸hT)
 rwa [List.map_map,show ((fun x:EV=>x.2)∘fun v:Value=>((0:Nat),v))=id from rfl,List.map_id] at h
abbrev zit:FuncId:=4
abbrev zkl:FuncId:=6
abbrev zlk:FuncId:=7
abbrev zfp:FuncId:=9
abbrev zd8:FuncId:=10
abbrev zjq:FuncId:=11
abbrev zdg:FuncId:=12
abbrev zbp:FuncId:=13
abbrev zlf:FuncId:=14
abbrev zld:FuncId:=15
abbrev zlh:FuncId:=16
abbrev zdz:FuncId:=17
abbrev jo:FuncId:=18
abbrev zax:FuncId:=19
abbrev znx:FuncId:=20
abbrev zbh:FuncId:=21
abbrev za1:FuncId:=22
abbrev zcu:FuncId:=23
abbrev zbj:FuncId:=24
abbrev zco:FuncId:=25
abbrev zcw:FuncId:=26
abbrev zcr:FuncId:=28
abbrev jr:FuncId:=32
abbrev zcp:FuncId:=36
abbrev zly:FuncId:=37
abbrev zf6:FuncId:=38
abbrev zlc:FuncId:=39
abbrev zp4:FuncId:=40
abbrev zdc:FuncId:=42
abbrev zdb:FuncId:=43
abbrev zgn:FuncId:=44
abbrev zev:FuncId:=45
abbrev zcq:FuncId:=46
abbrev zhi:FuncId:=47
abbrev zd2:FuncId:=48
abbrev zpo:FuncId:=49
abbrev zc6:FuncId:=50
abbrev zb8:FuncId:=51
abbrev zlu:FuncId:=52
abbrev zkr:FuncId:=53
abbrev zbn:FuncId:=54
abbrev zcc:FuncId:=55
abbrev zks:FuncId:=56
abbrev zi6:FuncId:=57
abbrev zd9:FuncId:=58
abbrev zs9:FuncId:=59
abbrev zjd:FuncId:=60
abbrev zbo:FuncId:=63
abbrev ze2:FuncId:=65
abbrev zfr:FuncId:=66
abbrev za4:FuncId:=67
abbrev za5:FuncId:=68
abbrev zet:FuncId:=69
abbrev zau:FuncId:=70
abbrev zhm:FuncId:=76
abbrev zg3:FuncId:=79
abbrev jw:FuncId:=80
abbrev znk:FuncId:=81
abbrev zu0:FuncId:=82
abbrev zlx:FuncId:=83
abbrev zgm:FuncId:=84
abbrev znq:FuncId:=85
abbrev zd4:FuncId:=86
abbrev zew:FuncId:=87
abbrev zfb:FuncId:=92
abbrev zba:FuncId:=93
abbrev zb1:FuncId:=94
abbrev zjh:FuncId:=95
abbrev zkb:FuncId:=96
abbrev zi5:FuncId:=97
abbrev zhx:FuncId:=98
abbrev zfs:FuncId:=99
abbrev zg0:FuncId:=100
abbrev zb7:FuncId:=101
abbrev zdn:FuncId:=102
abbrev zj4:FuncId:=103
abbrev zlw:FuncId:=104
abbrev zgi:FuncId:=105
abbrev zhp:FuncId:=106
abbrev zfu:FuncId:=107
abbrev ze7:FuncId:=108
abbrev zif:FuncId:=109
abbrev zjt:FuncId:=118
abbrev zcd:FuncId:=119
abbrev za6:FuncId:=125
abbrev jq:FuncId:=128
abbrev zca:FuncId:=129
abbrev zec:FuncId:=130
abbrev zgl:FuncId:=131
abbrev zhj:FuncId:=132
abbrev zda:FuncId:=135
abbrev zab:FuncId:=136
abbrev zcb:FuncId:=137
abbrev zoa:FuncId:=141
abbrev zga:FuncId:=142
abbrev zsf:FuncId:=143
abbrev zh6:FuncId:=145
abbrev ze9:FuncId:=146
abbrev zce:FuncId:=147
abbrev zqn:FuncId:=148
abbrev zdo:FuncId:=149
abbrev zqg:FuncId:=150
abbrev zns:FuncId:=151
abbrev znm:FuncId:=152
abbrev ze6:FuncId:=153
abbrev zd0:FuncId:=154
abbrev znn:FuncId:=155
abbrev zmz:FuncId:=156
abbrev zcz:FuncId:=157
abbrev zae:FuncId:=160
abbrev zav:FuncId:=161
abbrev zc3:FuncId:=162
abbrev zo1:FuncId:=163
abbrev zpp:FuncId:=164
abbrev zfv:FuncId:=165
abbrev zat:FuncId:=166
abbrev zhk:FuncId:=167
abbrev zdh:FuncId:=181
abbrev zaz:FuncId:=182
abbrev zeb:FuncId:=183
abbrev zin:FuncId:=184
abbrev zaw:FuncId:=193
abbrev zc7:FuncId:=194
abbrev zar:FuncId:=198
abbrev zgj:FuncId:=199
abbrev zgt:FuncId:=200
abbrev zf3:FuncId:=202
abbrev zjb:FuncId:=210
abbrev zcg:FuncId:=212
abbrev zim:FuncId:=214
abbrev zbx:FuncId:=222
abbrev zex:FuncId:=226
abbrev zc0:FuncId:=227
abbrev zbk:FuncId:=245
abbrev zah:FuncId:=252
abbrev zcj:FuncId:=253
abbrev zg2:FuncId:=254
abbrev zdi:FuncId:=255
abbrev zbv:FuncId:=257
abbrev zb9:FuncId:=283
abbrev za9:FuncId:=291
abbrev zft:TypeId:=0
abbrev zsl:TypeId:=2
abbrev zai:TypeId:=3
abbrev z15:TypeId:=4
abbrev za7:TypeId:=5
abbrev qy:TypeId:=9
abbrev z8e:TypeId:=20
abbrev xg:TypeId:=23
abbrev vk:TypeId:=28
abbrev xq:TypeId:=32
abbrev zlb:TypeId:=35
abbrev zu:TypeId:=39
abbrev zf:TypeId:=41
abbrev za0:TypeId:=43
abbrev vw:TypeId:=47
abbrev zaq:TypeId:=54
abbrev ql:TypeId:=59
abbrev je:TypeId:=68
abbrev qj:TypeId:=77
abbrev zez:TypeId:=79
abbrev zk:TypeId:=84
abbrev zc5:TypeId:=85
abbrev zhh:TypeId:=87
abbrev qp:TypeId:=88
abbrev zao:TypeId:=90
abbrev vg:TypeId:=101
abbrev zfc:TypeId:=111
abbrev zdu:TypeId:=113
abbrev zdx:TypeId:=117
abbrev zik:TypeId:=124
abbrev zh:TypeId:=126
abbrev za2:TypeId:=136
abbrev zdy:TypeId:=145
abbrev zbq:TypeId:=188
abbrev zdw:TypeId:=190
abbrev zf2:TypeId:=191
abbrev zay:TypeId:=209
abbrev zjk:TypeId:=210
abbrev zes:TypeId:=212
abbrev zcy:TypeId:=246
abbrev jk:TypeId:=248
abbrev zi:TypeId:=262
abbrev zo:TypeId:=263
abbrev zkg:TypeId:=265
abbrev zeg:TypeId:=274
abbrev zel:TypeId:=282
abbrev zg4:TypeId:=284
abbrev zhv:TypeId:=293
abbrev zmt:TypeId:=321
abbrev zd5:TypeId:=356
def zm4 (c:Int) (R:Ending->World->Prop) (w:World):Prop:=
  joinP Unit (fun k=>
  joinP Unit (fun k_1=>
  joinP Unit (fun k_2=>
  joinP Unit (fun k_3=>
  joinP Unit (fun k_4=>
  joinP Unit (fun k_5=>
  joinP Unit (fun k_6=>
  joinP Unit (fun k_7=>
  qx (c==46) (
  k_5 () w) (
  qx (c==95) (
  k_5 () w) (
  qx (c==45) (
  k_5 () w) (
  k_7 () w)))) (fun _ w_1=>
  joinP Unit (fun k_8=>
  qx (decide (c>=48)) (
  qx (decide (c<=57)) (
  k_4 () w_1) (
  k_8 () w_1)) (
  k_8 () w_1)) (fun _ w_2=>
  qx (decide (c>=97)) (
  qx (decide (c<=122)) (
  k_3 () w_2) (
  k_6 () w_2)) (
  k_6 () w_2)))) (fun _ w_3=>
  k_1 () w_3)) (fun _ w_4=>
  k_4 () w_4)) (fun _ w_5=>
  k_3 () w_5)) (fun _ w_6=>
  k_2 () w_6)) (fun _ w_7=>
  R (.returned (Value.bool true)) w_7)) (fun _ w_8=>
  k () w_8)) (fun _ w_9=>
  qx (decide (c>=65)) (
  R (.returned (Value.bool (decide (c<=90)))) w_9) (
  R (.returned (Value.bool false)) w_9))
theorem zqf {c:Int}{R:Ending->World->Prop}{w:World}(hT:zm4 c R w):zx P zgl #[(Value.int .u8 c)] w R:=
 fnT (.seq .leaf (.join [] (.jblk [] (.join [] (.jblk [] (.jblk [] (.jblk [] (.join [] (.join [] (.seq .leaf (.cond .leaf .leaf)) (.join [] (.seq .leaf (.cond .leaf .leaf)) (.seq .leaf (.cond .leaf .leaf)))) .leaf)))) (.seq (.seq .leaf .leaf) .leaf))) (.seq .leaf .leaf))) Tryz.func131 hT
def zg6 (x:ByteArray) (R:Ending->World->Prop) (w:World):Prop:=
  R (.returned (Value.bool (!(x.toList==x.toList)))) w
theorem zlr {x:ByteArray}{R:Ending->World->Prop}{w:World}(hT:zg6 x R w):zx P zdh #[(Value.string x)] w R:=
 fnT (.seq .leaf (.seq .leaf .leaf)) Tryz.func181 hT
def zgz (s:ByteArray) (prefixv:ByteArray) (R:Ending->World->Prop) (w:World):Prop:=
  ztr P zaz #[(Value.string s),(Value.string prefixv)] [.bool] false w fun (t7:Bool)=>
  R (.returned (Value.bool t7)) w
theorem zkt {s:ByteArray}{prefixv:ByteArray}{R:Ending->World->Prop}{w:World}(hT:zgz s prefixv R w):zx P zec #[(Value.string s),(Value.string prefixv)] w R:=
 fnT (.seq .leaf (.seq .leaf .leaf)) Tryz.func130 hT
def zb6 (s:ByteArray) (prefixv:ByteArray) (R:Ending->World->Prop) (w:World):Prop:=
  qx (decide ((s.size:Int)>=(prefixv.size:Int))) (
  jv P (Instr.sliceAt qy (Value.string s) none (some (Value.int .i64 (prefixv.size:Int))) none) .str w fun (t14:ByteArray)=>
  R (.returned (Value.bool (t14.toList==prefixv.toList))) w) (
  R (.returned (Value.bool false)) w)
theorem ze5 {s:ByteArray}{prefixv:ByteArray}{R:Ending->World->Prop}{w:World}(hT:zb6 s prefixv R w):zx P zaz #[(Value.string s),(Value.string prefixv)] w R:=
 fnT (.seq .leaf (.seq .leaf .leaf)) Tryz.func182 hT
def zob (s:ByteArray) (R:Ending->World->Prop) (w:World):Prop:=
  joinP Unit (fun k=>
  qx (s.toList==(ByteArray.mk #[]).toList) (
  R (.returned (Value.bool false)) w) (
  qx (decide ((s.size:Int) > 16)) (
  R (.returned (Value.bool false)) w) (
  qx (s.toList==(ByteArray.mk #[46]).toList) (
  R (.returned (Value.bool false)) w) (
  qx (s.toList==(ByteArray.mk #[46,46]).toList) (
  R (.returned (Value.bool false)) w) (
  k () w))))) (fun _ w_1=>
  zc1 Int (fun s_2 w_2 k_1=>
  qx (decide (s_2 < (s.size:Int))) (
  zqe s s_2 fun t26=>
  ztr P zgl #[(Value.int .u8 t26)] [.bool] false w_2 fun (t27:Bool)=>
  qx (!t27) (
  R (.returned (Value.bool false)) w_2) (
  zfl .i64 s_2 1 fun t29=>
  k_1 t29 w_2)) (
  R (.returned (Value.bool true)) w_2)) 0 w_1)
theorem zr3 {s:ByteArray}{R:Ending->World->Prop}{w:World}(hT:zob s R w):zx P zjh #[(Value.string s)] w R:=
 fnT (.seq .leaf (.join [] (.seq .leaf (.cond (.seq .leaf .leaf) .leaf)) (.seq (.seq .leaf (.blk (.loop [(21,.int .i64)] (.seq .leaf (.seq (.cond .leaf .leaf) (.seq (.blk (.seq .leaf (.seq .leaf (.cond (.seq .leaf .leaf) .leaf)))) .leaf)))))) (.seq .leaf .leaf)))) Tryz.func95 hT
def zml (names:Option Addr) (names_l jf:Nat) (R:Ending->World->Prop) (w:World):Prop:=
  zc1 Int (fun s w_1 k=>
  qx (decide (s < (names_l:Int))) (
  ixS names names_l 1 s fun t9=>
  ld .str t9 w_1 fun (t10:ByteArray)=>
  qc P zjh #[(Value.string t10)] [.bool] false w_1 fun (t12:Bool) w_2=>
  qx (!t12) (
  R (.returned (Value.int .i64 41)) w_2) (
  zfl .i64 s 1 fun t14=>
  k t14 w_2)) (
  qx (decide ((names_l:Int) > 8)) (
  R (.returned (Value.int .i64 42)) w_1) (
  R (.returned (Value.int .i64 0)) w_1))) 0 w
theorem zqx {names:Option Addr}{names_l jf:Nat}{R:Ending->World->Prop}{w:World}(hT:zml names names_l jf R w):zx P zgn #[(Value.slice names names_l jf)] w R:=
 fnT (.seq .leaf (.seq (.seq .leaf (.blk (.loop [(7,.int .i64)] (.seq .leaf (.seq (.cond .leaf .leaf) (.seq (.blk (.seq .leaf (.seq .leaf (.cond (.seq .leaf .leaf) .leaf)))) .leaf)))))) (.seq (.seq .leaf (.cond (.seq .leaf .leaf) .leaf)) (.seq .leaf .leaf)))) Tryz.func44 hT
def zck (s1:Option Addr) (s1_l s1_c:Nat) (s2:Option Addr) (s2_l s2_c:Nat) (R:Ending->World->Prop) (w:World):Prop:=
  qx ((s1_l:Int) != (s2_l:Int)) (
  R (.returned (Value.bool false)) w) (
  zc1 Int (fun s w_1 k=>
  qx (decide (s < (s1_l:Int))) (
  zbz w_1 fun w_2=>
  ixS s1 s1_l 1 s fun t18=>
  ixS s2 s2_l 1 s fun t22=>
  ld .str t18 w_2 fun (t19:ByteArray)=>
  ld .str t22 w_2 fun (t23:ByteArray)=>
  qx (!(t19.toList==t23.toList)) (
  R (.returned (Value.bool false)) w_2) (
  zfl .i64 s 1 fun t25=>
  k t25 w_2)) (
  R (.returned (Value.bool true)) w_1)) 0 w)
theorem zfk {s1:Option Addr}{s1_l s1_c:Nat}{s2:Option Addr}{s2_l s2_c:Nat}{R:Ending->World->Prop}{w:World}(hT:zck s1 s1_l s1_c s2 s2_l s2_c R w):zx P za6 #[(Value.slice s1 s1_l s1_c),(Value.slice s2 s2_l s2_c)] w R:=
 fnT (.seq .leaf (.seq (.seq .leaf (.cond (.seq .leaf .leaf) .leaf)) (.seq (.seq .leaf (.blk (.loop [(13,.int .i64)] (.seq .leaf (.seq (.cond .leaf .leaf) (.seq (.blk (.seq .leaf (.seq (.tree (.op 0 [] (.op 1 [] (.op 2 [] (.op 4 [] (.op 5 [] (.op 6 [] (.op 3 [] (.op 7 [] (.op 8 [] .done)))))))))) (.cond (.seq .leaf .leaf) .leaf)))) .leaf)))))) (.seq .leaf .leaf)))) Tryz.func125 hT
def zk4 (path:Option Addr) (path_l path_c:Nat) (of:Option Addr) (of_l of_c:Nat) (R:Ending->World->Prop) (w:World):Prop:=
  qx (decide ((path_l:Int)>=(of_l:Int))) (
  jv P (Instr.sliceAt zu (Value.slice path path_l path_c) none (some (Value.int .i64 (of_l:Int))) none) .slc w fun (t14:(Option Addr×Nat×Nat))=>
  qc P za6 #[(Value.slice t14.1 t14.2.1 t14.2.2),(Value.slice of of_l of_c)] [.bool] false w fun (t16:Bool) w_1=>
  R (.returned (Value.bool t16)) w_1) (
  R (.returned (Value.bool false)) w)
theorem zpf {path:Option Addr}{path_l path_c:Nat}{of:Option Addr}{of_l of_c:Nat}{R:Ending->World->Prop}{w:World}(hT:zk4 path path_l path_c of of_l of_c R w):zx P zfr #[(Value.slice path path_l path_c),(Value.slice of of_l of_c)] w R:=
 fnT (.seq .leaf (.seq .leaf .leaf)) Tryz.func66 hT
def zge (x:ByteArray) (y:ByteArray) (R:Ending->World->Prop) (w:World):Prop:=
  ztr P zdh #[(Value.string x)] [.bool] false w fun (t8:Bool)=>
  ztr P zdh #[(Value.string y)] [.bool] false w fun (t10:Bool)=>
  qx t8 (
  qx t10 (
  R (.returned (Value.int .i64 0)) w) (
  R (.returned (Value.int .i64 (-1))) w)) (
  qx t10 (
  R (.returned (Value.int .i64 1)) w) (
  qx (Op.bytesLess x.toList y.toList) (
  R (.returned (Value.int .i64 (-1))) w) (
  qx (!((Op.bytesLess x.toList y.toList) || (x.toList==y.toList))) (
  R (.returned (Value.int .i64 1)) w) (
  R (.returned (Value.int .i64 0)) w))))
theorem zjm {x:ByteArray}{y:ByteArray}{R:Ending->World->Prop}{w:World}(hT:zge x y R w):zx P zca #[(Value.string x),(Value.string y)] w R:=
 fnT (.seq .leaf (.seq .leaf (.seq .leaf (.seq (.seq .leaf (.cond (.seq (.seq .leaf (.cond (.seq .leaf .leaf) .leaf)) (.seq .leaf .leaf)) .leaf)) (.seq (.seq .leaf (.cond (.seq .leaf .leaf) .leaf)) (.seq (.seq .leaf (.cond (.seq .leaf .leaf) .leaf)) (.seq (.seq .leaf (.cond (.seq .leaf .leaf) .leaf)) (.seq .leaf .leaf)))))))) Tryz.func129 hT
def zaf (s1:Option Addr) (s1_l s1_c:Nat) (s2:Option Addr) (s2_l s2_c:Nat) (cmp:Value) (R:Ending->World->Prop) (w:World):Prop:=
  zc1 Int (fun s w_1 k=>
  qx (decide (s < (s1_l:Int))) (
  ixS s1 s1_l 1 s fun t16=>
  ld .str t16 w_1 fun (t17:ByteArray)=>
  qx (decide (s>=(s2_l:Int))) (
  R (.returned (Value.int .i64 1)) w_1) (
  ixS s2 s2_l 1 s fun t24=>
  ld .str t24 w_1 fun (t25:ByteArray)=>
  zpi P cmp #[(Value.string t17),(Value.string t25)] [.int .i64] false w_1 fun (t29:Int) w_2=>
  qx (t29 != 0) (
  R (.returned (Value.int .i64 t29)) w_2) (
  zfl .i64 s 1 fun t33=>
  k t33 w_2))) (
  qx (decide ((s1_l:Int) < (s2_l:Int))) (
  R (.returned (Value.int .i64 (-1))) w_1) (
  R (.returned (Value.int .i64 0)) w_1))) 0 w
theorem zbl {s1:Option Addr}{s1_l s1_c:Nat}{s2:Option Addr}{s2_l s2_c:Nat}{cmp:Value}{R:Ending->World->Prop}{w:World}(hT:zaf s1 s1_l s1_c s2 s2_l s2_c cmp R w):zx P jq #[(Value.slice s1 s1_l s1_c),(Value.slice s2 s2_l s2_c),cmp] w R:=
 fnT (.seq .leaf (.seq (.seq .leaf (.blk (.loop [(13,.int .i64)] (.seq .leaf (.seq (.cond .leaf .leaf) (.seq (.blk (.seq .leaf (.seq (.seq .leaf (.cond (.seq .leaf .leaf) .leaf)) (.seq .leaf (.seq .leaf (.seq .leaf (.cond (.seq .leaf .leaf) .leaf))))))) .leaf)))))) (.seq (.seq .leaf (.cond (.seq .leaf .leaf) .leaf)) (.seq .leaf .leaf)))) Tryz.func128 hT
def zjc (a:Option Addr) (a_l a_c:Nat) (b:Option Addr) (b_l b_c:Nat) (R:Ending->World->Prop) (w:World):Prop:=
  qc P jq #[(Value.slice a a_l a_c),(Value.slice b b_l b_c),(Value.func (.func zca) #[] #[])] [.int .i64] false w fun (t7:Int) w_1=>
  R (.returned (Value.int .i64 t7)) w_1
theorem zoc {a:Option Addr}{a_l a_c:Nat}{b:Option Addr}{b_l b_c:Nat}{R:Ending->World->Prop}{w:World}(hT:zjc a a_l a_c b b_l b_c R w):zx P zet #[(Value.slice a a_l a_c),(Value.slice b b_l b_c)] w R:=
 fnT (.seq .leaf (.seq .leaf .leaf)) Tryz.func69 hT
def ziy (yield:Value) (c0:Option Addr) (R:Ending->World->Prop) (w:World):Prop:=
  zc1 Unit (fun _ w_1 k=>
  zq c0 fun p=>
  ld .str p w_1 fun (t6:ByteArray)=>
  qx (!(t6.toList==(ByteArray.mk #[]).toList)) (
  zq c0 fun p_1=>
  ld .str p_1 w_1 fun (t9:ByteArray)=>
  qc P zin #[(Value.string t9),(Value.string (ByteArray.mk #[47]))] [.str,.str,.bool] true w_1 fun (t10:(ByteArray×ByteArray×Bool)) w_2=>
  zpi P yield #[(Value.string t10.1)] [.bool] false w_2 fun (t16:Bool) w_3=>
  qx (!t16) (
  R (.returned (Value.tuple #[])) w_3) (
  zq c0 fun p_2=>
  stC p_2 (Value.string t10.2.1) w_3 fun w_4=>
  k () w_4)) (
  R (.returned (Value.tuple #[])) w_1)) () w
theorem zni {yield:Value}{c0:Option Addr}{R:Ending->World->Prop}{w:World}(hT:ziy yield c0 R w):zx P zeb #[yield,(Value.pointer c0)] w R:=
 fnT (.blk (.loop [] (.seq (.seq .leaf (.cond .leaf .leaf)) (.blk (.seq .leaf (.seq (.seq .leaf (.cond .leaf .leaf)) .leaf)))))) Tryz.func183 hT
def zk2 (s:ByteArray) (R:Ending->World->Prop) (w:World):Prop:=
  zam #[(Value.string s)] qy w fun b1 w_1=>
  jv P (Instr.makeFunc (Go.Fn.func zeb) #[] #[(Value.pointer (some (⟨b1,0,none⟩:Addr)))]) .any w_1 fun (t3:Value)=>
  R (.returned t3) w_1
theorem zph {s:ByteArray}{R:Ending->World->Prop}{w:World}(hT:zk2 s R w):zx P zhj #[(Value.string s)] w R:=
 fnT (.seq .leaf (.seq .leaf .leaf)) Tryz.func132 hT
def zmg (s:ByteArray) (R:Ending->World->Prop) (w:World):Prop:=
  zam (zc P zu) zu w fun b2 w_1=>
  zam (zc P vk) vk w_1 fun b3 w_2=>
  qx (decide ((s.size:Int) > 256)) (
  stC (⟨b2,0,none⟩:Addr) (Value.slice none 0 0) w_2 fun w_3=>
  stC (⟨b3,0,none⟩:Addr) (Value.int .i64 2) w_3 fun w_4=>
  ld .slc (⟨b2,0,none⟩:Addr) w_4 fun (t2:(Option Addr×Nat×Nat))=>
  ld (.int .i64) (⟨b3,0,none⟩:Addr) w_4 fun (t3:Int)=>
  R (.returned (Value.tuple #[(Value.slice t2.1 t2.2.1 t2.2.2),(Value.int .i64 t3)])) w_4) (
  ztr P zec #[(Value.string s),(Value.string (ByteArray.mk #[47]))] [.bool] false w_2 fun (t11:Bool)=>
  qx (!t11) (
  stC (⟨b2,0,none⟩:Addr) (Value.slice none 0 0) w_2 fun w_5=>
  stC (⟨b3,0,none⟩:Addr) (Value.int .i64 40) w_5 fun w_6=>
  ld .slc (⟨b2,0,none⟩:Addr) w_6 fun (t2_1:(Option Addr×Nat×Nat))=>
  ld (.int .i64) (⟨b3,0,none⟩:Addr) w_6 fun (t3_1:Int)=>
  R (.returned (Value.tuple #[(Value.slice t2_1.1 t2_1.2.1 t2_1.2.2),(Value.int .i64 t3_1)])) w_6) (
  zc1 Int (fun s_1 w_7 k=>
  qx (decide (s_1 < (s.size:Int))) (
  joinP Unit (fun k_1=>
  joinP Unit (fun k_2=>
  zqe s s_1 fun t20=>
  qx (t20 != 47) (
  zqe s s_1 fun t25=>
  ztr P zgl #[(Value.int .u8 t25)] [.bool] false w_7 fun (t26:Bool)=>
  qx (!t26) (
  stC (⟨b2,0,none⟩:Addr) (Value.slice none 0 0) w_7 fun w_8=>
  stC (⟨b3,0,none⟩:Addr) (Value.int .i64 40) w_8 fun w_9=>
  ld .slc (⟨b2,0,none⟩:Addr) w_9 fun (t2_2:(Option Addr×Nat×Nat))=>
  ld (.int .i64) (⟨b3,0,none⟩:Addr) w_9 fun (t3_2:Int)=>
  R (.returned (Value.tuple #[(Value.slice t2_2.1 t2_2.2.1 t2_2.2.2),(Value.int .i64 t3_2)])) w_9) (
  k_2 () w_7)) (
  k_2 () w_7)) (fun _ w_10=>
  k_1 () w_10)) (fun _ w_11=>
  zfl .i64 s_1 1 fun t29=>
  k t29 w_11)) (
  zam (zc P zu) zu w_7 fun b5 w_12=>
  qc P zhj #[(Value.string s)] [.any] false w_12 fun (t31:Value) w_13=>
  zyq P [.str] t31 w_13 (fun (x:ByteArray) w_14 beg kc kr _=>
  beg w_14 fun w_15=>
  joinP Unit (fun k_3=>
  joinP Unit (fun k_4=>
  qx (decide ((x.size:Int) > 16)) (
  stC (⟨b2,0,none⟩:Addr) (Value.slice none 0 0) w_15 fun w_16=>
  stC (⟨b3,0,none⟩:Addr) (Value.int .i64 41) w_16 fun w_17=>
  kr w_17) (
  qx (x.toList==(ByteArray.mk #[]).toList) (
  k_4 () w_15) (
  qx (x.toList==(ByteArray.mk #[46]).toList) (
  k_4 () w_15) (
  qx (x.toList==(ByteArray.mk #[46,46]).toList) (
  ld .slc (⟨b5,0,none⟩:Addr) w_15 fun (t51:(Option Addr×Nat×Nat))=>
  ld .slc (⟨b5,0,none⟩:Addr) w_15 fun (t52:(Option Addr×Nat×Nat))=>
  zul .i64 (t52.2.1:Int) 1 fun t54=>
  jv P (Builtin.max_ #[zai,zai] zai #[(Value.int .i64 t54),(Value.int .i64 0)]) (.int .i64) w_15 fun (t55:Int)=>
  jv P (Instr.sliceAt zu (Value.slice t51.1 t51.2.1 t51.2.2) none (some (Value.int .i64 t55)) none) .slc w_15 fun (t56:(Option Addr×Nat×Nat))=>
  stC (⟨b5,0,none⟩:Addr) (Value.slice t56.1 t56.2.1 t56.2.2) w_15 fun w_18=>
  k_4 () w_18) (
  ld .slc (⟨b5,0,none⟩:Addr) w_15 fun (t33:(Option Addr×Nat×Nat))=>
  zde P (Instr.buildSlice zu 1 #[(0,(Value.string x))]) .slc w_15 fun (t35:(Option Addr×Nat×Nat)) w_19=>
  zde P (Builtin.append_ #[zu,zu] zu #[(Value.slice t33.1 t33.2.1 t33.2.2),(Value.slice t35.1 t35.2.1 t35.2.2)]) .slc w_19 fun (t36:(Option Addr×Nat×Nat)) w_20=>
  stC (⟨b5,0,none⟩:Addr) (Value.slice t36.1 t36.2.1 t36.2.2) w_20 fun w_21=>
  k_4 () w_21))))) (fun _ w_22=>
  k_3 () w_22)) (fun _ w_23=>
  kc w_23)) (fun D w_24=>
  ld .slc (⟨b5,0,none⟩:Addr) w_24 fun (t57:(Option Addr×Nat×Nat))=>
  qx (decide ((t57.2.1:Int) > 8)) (
  stC (⟨b2,0,none⟩:Addr) (Value.slice none 0 0) w_24 fun w_25=>
  stC (⟨b3,0,none⟩:Addr) (Value.int .i64 42) w_25 fun w_26=>
  (w_26.heap[D]?=some (.deferred (some []))/\∀ w_27,w_27=World.putObj w_26 D (.deferred none) ->
  ld .slc (⟨b2,0,none⟩:Addr) w_27 fun (t2_3:(Option Addr×Nat×Nat))=>
  ld (.int .i64) (⟨b3,0,none⟩:Addr) w_27 fun (t3_3:Int)=>
  R (.returned (Value.tuple #[(Value.slice t2_3.1 t2_3.2.1 t2_3.2.2),(Value.int .i64 t3_3)])) w_27)) (
  ld .slc (⟨b5,0,none⟩:Addr) w_24 fun (t60:(Option Addr×Nat×Nat))=>
  stC (⟨b2,0,none⟩:Addr) (Value.slice t60.1 t60.2.1 t60.2.2) w_24 fun w_28=>
  stC (⟨b3,0,none⟩:Addr) (Value.int .i64 0) w_28 fun w_29=>
  (w_29.heap[D]?=some (.deferred (some []))/\∀ w_30,w_30=World.putObj w_29 D (.deferred none) ->
  ld .slc (⟨b2,0,none⟩:Addr) w_30 fun (t2_4:(Option Addr×Nat×Nat))=>
  ld (.int .i64) (⟨b3,0,none⟩:Addr) w_30 fun (t3_4:Int)=>
  R (.returned (Value.tuple #[(Value.slice t2_4.1 t2_4.2.1 t2_4.2.2),(Value.int .i64 t3_4)])) w_30))) (fun D_1 w_31=>
  (w_31.heap[D_1]?=some (.deferred (some []))/\∀ w_32,w_32=World.putObj w_31 D_1 (.deferred none) ->
  ld .slc (⟨b2,0,none⟩:Addr) w_32 fun (t2_5:(Option Addr×Nat×Nat))=>
  ld (.int .i64) (⟨b3,0,none⟩:Addr) w_32 fun (t3_5:Int)=>
  R (.returned (Value.tuple #[(Value.slice t2_5.1 t2_5.2.1 t2_5.2.2),(Value.int .i64 t3_5)])) w_32)) (fun _ _ _=>False))) 0 w_2))
theorem zqb {s:ByteArray}{R:Ending->World->Prop}{w:World}(hT:zmg s R w):zx P zau #[(Value.string s)] w R:=
 fnU (.seq (.pure .leaf) (.seq (.pure (.seq .leaf (.cond (.seq .leaf .leaf) .leaf))) (.seq (.pure (.seq .leaf (.cond (.seq .leaf .leaf) .leaf))) (.seq (.pure (.seq .leaf (.blk (.loop [(15,.int .i64)] (.seq .leaf (.seq (.cond .leaf .leaf) (.join [] (.jblk [] (.seq .leaf (.seq .leaf (.cond (.seq .leaf .leaf) .leaf)))) .leaf))))))) (.seq (.pure .leaf) (.seq (.seq (.pure .leaf) (.blk (.rng [(32,.str)] true [] .leaf (.jblk [] (.jblk [] (.seq .leaf (.cond (.seq .leaf .leaf) (.seq .leaf (.cond .leaf (.seq .leaf (.cond .leaf .leaf))))))))))) (.pure (.seq (.seq .leaf (.cond (.seq .leaf .leaf) .leaf)) (.seq .leaf .leaf))))))))) Tryz.func70 hT
def zny (names:Option Addr) (names_l jf:Nat) (R:Ending->World->Prop) (w:World):Prop:=
  qc P zhm #[(Value.slice names names_l jf),(Value.string (ByteArray.mk #[47]))] [.str] false w fun (t4:ByteArray) w_1=>
  z6z (ByteArray.mk #[47]) t4 fun t5=>
  R (.returned (Value.string t5)) w_1
theorem zr0 {names:Option Addr}{names_l jf:Nat}{R:Ending->World->Prop}{w:World}(hT:zny names names_l jf R w):zx P jr #[(Value.slice names names_l jf)] w R:=
 fnT (.seq .leaf (.seq .leaf .leaf)) Tryz.func32 hT
def zl5 (path:ByteArray) (R:Ending->World->Prop) (w:World):Prop:=
  qc P zau #[(Value.string path)] [.slc,.int .i64] true w fun (t7:((Option Addr×Nat×Nat)×Int)) w_1=>
  R (.returned (Value.slice t7.1.1 t7.1.2.1 t7.1.2.2)) w_1
theorem zqk {path:ByteArray}{R:Ending->World->Prop}{w:World}(hT:zl5 path R w):zx P ze2 #[(Value.string path)] w R:=
 fnT (.seq .leaf (.seq .leaf (.seq .leaf .leaf))) Tryz.func65 hT
def zl6 (s:ByteArray) (R:Ending->World->Prop) (w:World):Prop:=
  qc P zau #[(Value.string s)] [.slc,.int .i64] true w fun (t8:((Option Addr×Nat×Nat)×Int)) w_1=>
  qx (t8.2 != 0) (
  R (.returned (Value.tuple #[(Value.string (ByteArray.mk #[])),(Value.int .i64 t8.2)])) w_1) (
  qc P jr #[(Value.slice t8.1.1 t8.1.2.1 t8.1.2.2)] [.str] false w_1 fun (t15:ByteArray) w_2=>
  R (.returned (Value.tuple #[(Value.string t15),(Value.int .i64 0)])) w_2)
theorem zqi {s:ByteArray}{R:Ending->World->Prop}{w:World}(hT:zl6 s R w):zx P ze6 #[(Value.string s)] w R:=
 fnT (.seq .leaf (.seq .leaf (.seq (.seq .leaf (.cond (.seq .leaf .leaf) .leaf)) (.seq .leaf .leaf)))) Tryz.func153 hT
set_option maxRecDepth 100000
def zpx (nodes:Int) (bytes:Int) (R:Ending->World->Prop) (w:World):Prop:=
  joinP Unit (fun k=>
  qx (decide (nodes < 0)) (
  R (.returned (Value.tuple #[(Value.pointer none),(Value.int .i64 1)])) w) (
  qx (decide (nodes > 128)) (
  R (.returned (Value.tuple #[(Value.pointer none),(Value.int .i64 1)])) w) (
  qx (decide (bytes < 0)) (
  R (.returned (Value.tuple #[(Value.pointer none),(Value.int .i64 1)])) w) (
  qx (decide (bytes > 8192)) (
  R (.returned (Value.tuple #[(Value.pointer none),(Value.int .i64 1)])) w) (
  k () w))))) (fun _ w_1=>
  zde P (Instr.makeMap qp none) .map w_1 fun (t22:(Option Nat)) w_2=>
  jv P (Instr.build zao #[(0,(Value.int .i64 nodes)),(1,(Value.int .i64 bytes)),(3,(Value.map t22))]) .any w_2 fun (t23:Value)=>
  zam (Value.cells t23) zao w_2 fun b24 w_3=>
  R (.returned (Value.tuple #[(Value.pointer (some (⟨b24,0,none⟩:Addr))),(Value.int .i64 0)])) w_3)
theorem ztg {nodes:Int}{bytes:Int}{R:Ending->World->Prop}{w:World}(hT:zpx nodes bytes R w):zx P zlk #[(Value.int .i64 nodes),(Value.int .i64 bytes)] w R:=
 fnT (.seq .leaf (.join [] (.seq .leaf (.cond (.seq .leaf .leaf) .leaf)) (.seq .leaf .leaf))) Tryz.func7 hT
def zh2 (u:Option Addr) (names:Option Addr) (names_l jf:Nat) (R:Ending->World->Prop) (w:World):Prop:=
  zam (zc P zk) zk w fun b4 w_1=>
  joinP Unit (fun k=>
  qx (Option.isNone u) (
  jv P (Instr.build zk #[]) .any w_1 fun (t20:Value)=>
  jy P (storeVar zk (⟨b4,0,none⟩:Addr) t20) w_1 fun w_2=>
  ldA P 4 (⟨b4,0,none⟩:Addr) w_2 fun t4=>
  R (.returned (Value.tuple #[(Value.agg t4),(Value.bool false)])) w_2) (
  qx ((names_l:Int)==0) (
  jv P (Instr.build zk #[]) .any w_1 fun (t20_1:Value)=>
  jy P (storeVar zk (⟨b4,0,none⟩:Addr) t20_1) w_1 fun w_3=>
  ldA P 4 (⟨b4,0,none⟩:Addr) w_3 fun t4_1=>
  R (.returned (Value.tuple #[(Value.agg t4_1),(Value.bool false)])) w_3) (
  qc P zgn #[(Value.slice names names_l jf)] [.int .i64] false w_1 fun (t17:Int) w_4=>
  qx (t17 != 0) (
  jv P (Instr.build zk #[]) .any w_4 fun (t20_2:Value)=>
  jy P (storeVar zk (⟨b4,0,none⟩:Addr) t20_2) w_4 fun w_5=>
  ldA P 4 (⟨b4,0,none⟩:Addr) w_5 fun t4_2=>
  R (.returned (Value.tuple #[(Value.agg t4_2),(Value.bool false)])) w_5) (
  k () w_4)))) (fun _ w_6=>
  zbz w_6 fun w_7=>
  zq u fun p=>
  ld .map (Addr.add p 3) w_7 fun (t25:(Option Nat))=>
  ((qc P jr #[(Value.slice names names_l jf)] [.str] false w_7 fun (t27:ByteArray) w_8=>
  ((ld .map (Addr.add p 3) w_8 fun (t25_1:(Option Nat))=>
  (Value.map t25_1)=(Value.map t25)) /\
  zlt P (Instr.lookup qp (Value.map t25) (Value.string t27) true) [.any,.bool] w_8 fun (t28:(Value×Bool))=>
  zam (zc P zk) zk w_8 fun b6 w_9=>
  ((zlt P (Instr.lookup qp (Value.map t25) (Value.string t27) true) [.any,.bool] w_9 fun (t28_1:(Value×Bool))=>
  (Value.tuple #[t28_1.1,(Value.bool t28_1.2)])=(Value.tuple #[t28.1,(Value.bool t28.2)])) /\
  ((ld .map (Addr.add p 3) w_9 fun (t25_2:(Option Nat))=>
  (Value.map t25_2)=(Value.map t25)) /\
  jy P (storeVar zk (⟨b6,0,none⟩:Addr) t28.1) w_9 fun w_10=>
  ldA P 4 (⟨b6,0,none⟩:Addr) w_10 fun t31=>
  jy P (storeVar zk (⟨b4,0,none⟩:Addr) (Value.agg t31)) w_10 fun w_11=>
  ldA P 4 (⟨b4,0,none⟩:Addr) w_11 fun t4_3=>
  R (.returned (Value.tuple #[(Value.agg t4_3),(Value.bool t28.2)])) w_11)))) /\
  (zam (zc P zk) zk w_7 fun b6_1 w_12=>
  ((ld .map (Addr.add p 3) w_12 fun (t25_3:(Option Nat))=>
  (Value.map t25_3)=(Value.map t25)) /\
  qc P jr #[(Value.slice names names_l jf)] [.str] false w_12 fun (t27_1:ByteArray) w_13=>
  ((ld .map (Addr.add p 3) w_13 fun (t25_4:(Option Nat))=>
  (Value.map t25_4)=(Value.map t25)) /\
  zlt P (Instr.lookup qp (Value.map t25) (Value.string t27_1) true) [.any,.bool] w_13 fun (t28_2:(Value×Bool))=>
  jy P (storeVar zk (⟨b6_1,0,none⟩:Addr) t28_2.1) w_13 fun w_14=>
  ldA P 4 (⟨b6_1,0,none⟩:Addr) w_14 fun t31_1=>
  jy P (storeVar zk (⟨b4,0,none⟩:Addr) (Value.agg t31_1)) w_14 fun w_15=>
  ldA P 4 (⟨b4,0,none⟩:Addr) w_15 fun t4_4=>
  R (.returned (Value.tuple #[(Value.agg t4_4),(Value.bool t28_2.2)])) w_15)))))
theorem zmi {u:Option Addr}{names:Option Addr}{names_l jf:Nat}{R:Ending->World->Prop}{w:World}(hT:zh2 u names names_l jf R w):zx P zcd #[(Value.pointer u),(Value.slice names names_l jf)] w R:=
 fnT (.seq .leaf (.join [] (.seq .leaf (.cond (.seq .leaf .leaf) .leaf)) (.seq (.tree (.op 0 [] (.op 1 [] (.op 2 [] (.op 4 [] (.op 3 [] (.or (.op 5 [3] (.op 6 [] (.op 7 [] (.op 8 [] (.op 9 [] (.op 10 [3,6] (.op 11 [] (.op 12 [] .done)))))))) (.op 10 [3] (.op 5 [3] (.op 6 [] (.op 7 [] (.op 8 [] (.op 9 [] (.op 11 [] (.op 12 [] .done))))))))))))))) (.seq .leaf .leaf)))) Tryz.func119 hT
def zgy (u:Option Addr) (of:Option Addr) (of_l of_c:Nat) (R:Ending->World->Prop) (w:World):Prop:=
  qx (Option.isNone u) (
  R (.returned (Value.slice none 0 0)) w) (
  zq u fun p=>
  ld .map (Addr.add p 3) w fun (t14:(Option Nat))=>
  zde P (Instr.range qp (Value.map t14)) .ptr w fun (t15:(Option Addr)) w_1=>
  zc1 (Option Addr×Nat×Nat) (fun s w_2 k=>
  zde P (Instr.next (Value.pointer t15) false zft) .any w_2 fun (t16:Value) w_3=>
  exV t16 0 .bool fun (t17:Bool)=>
  qx t17 (
  joinP (Option Addr×Nat×Nat) (fun k_1=>
  jv P (Instr.entry (Value.pointer t15)) .any w_3 fun (t18:Value)=>
  exV t18 0 .str fun (t19:ByteArray)=>
  exV t18 1 .any fun (t20:Value)=>
  zam (zc P zk) zk w_3 fun b7 w_4=>
  jy P (storeVar zk (⟨b7,0,none⟩:Addr) t20) w_4 fun w_5=>
  qc P ze2 #[(Value.string t19)] [.slc] false w_5 fun (t22:(Option Addr×Nat×Nat)) w_6=>
  qx (decide ((t22.2.1:Int) > (of_l:Int))) (
  qc P zfr #[(Value.slice t22.1 t22.2.1 t22.2.2),(Value.slice of of_l of_c)] [.bool] false w_6 fun (t31:Bool) w_7=>
  qx t31 (
  ldA P 4 (⟨b7,0,none⟩:Addr) w_7 fun t34=>
  zde P (Instr.buildSlice zez 1 #[(0,(Value.agg t34))]) .slc w_7 fun (t35:(Option Addr×Nat×Nat)) w_8=>
  zde P (Builtin.append_ #[zez,zez] zez #[(Value.slice s.1 s.2.1 s.2.2),(Value.slice t35.1 t35.2.1 t35.2.2)]) .slc w_8 fun (t36:(Option Addr×Nat×Nat)) w_9=>
  k_1 (t36.1,t36.2.1,t36.2.2) w_9) (
  k_1 (s.1,s.2.1,s.2.2) w_7)) (
  k_1 (s.1,s.2.1,s.2.2) w_6)) (fun s_1 w_10=>
  k (s_1.1,s_1.2.1,s_1.2.2) w_10)) (
  qc P za4 #[(Value.slice s.1 s.2.1 s.2.2),(Value.func (.func za5) #[] #[])] [] true w_3 fun (_:Unit) w_11=>
  R (.returned (Value.slice s.1 s.2.1 s.2.2)) w_11)) (none,0,0) w_1)
theorem zku {u:Option Addr}{of:Option Addr}{of_l of_c:Nat}{R:Ending->World->Prop}{w:World}(hT:zgy u of of_l of_c R w):zx P zcr #[(Value.pointer u),(Value.slice of of_l of_c)] w R:=
 fnT (.seq .leaf (.seq (.seq .leaf (.cond (.seq .leaf .leaf) .leaf)) (.seq .leaf (.seq (.seq .leaf (.blk (.loop [(5,.slc)] (.seq .leaf (.seq (.cond .leaf .leaf) (.jblk [(5,.slc)] (.seq .leaf (.seq .leaf (.seq .leaf (.cond .leaf .leaf)))))))))) (.seq .leaf (.seq .leaf .leaf)))))) Tryz.func28 hT
def zgx (u:Option Addr) (R:Ending->World->Prop) (w:World):Prop:=
  qx (Option.isNone u) (
  R (.returned (Value.pointer none)) w) (
  zq u fun p=>
  ldA P 4 p w fun t8=>
  zam (zc P zao) zao w fun b3 w_1=>
  jy P (storeVar zao (⟨b3,0,none⟩:Addr) (Value.agg t8)) w_1 fun w_2=>
  zq u fun p_1=>
  ld .map (Addr.add p_1 3) w_2 fun (t12:(Option Nat))=>
  qc P jw #[(Value.map t12)] [.map] false w_2 fun (t13:(Option Nat)) w_3=>
  stC (⟨b3,3,none⟩:Addr) (Value.map t13) w_3 fun w_4=>
  R (.returned (Value.pointer (some (⟨b3,0,none⟩:Addr)))) w_4)
theorem zkw {u:Option Addr}{R:Ending->World->Prop}{w:World}(hT:zgx u R w):zx P zcp #[(Value.pointer u)] w R:=
 fnT (.seq .leaf (.seq (.seq .leaf (.cond (.seq .leaf .leaf) .leaf)) (.seq .leaf (.seq .leaf (.seq .leaf .leaf))))) Tryz.func36 hT
def zhw (u:Option Addr) (i:Value) (R:Ending->World->Prop) (w:World):Prop:=
  zam (Value.cells i) zk w fun b3 w_1=>
  qx (Option.isNone u) (
  R (.returned (Value.int .i64 7)) w_1) (
  ld .str (⟨b3,0,none⟩:Addr) w_1 fun (t17:ByteArray)=>
  qc P zau #[(Value.string t17)] [.slc,.int .i64] true w_1 fun (t18:((Option Addr×Nat×Nat)×Int)) w_2=>
  qx (t18.2 != 0) (
  R (.returned (Value.int .i64 t18.2)) w_2) (
  qx ((t18.1.2.1:Int)==0) (
  R (.returned (Value.int .i64 132)) w_2) (
  ldA P 4 (⟨b3,0,none⟩:Addr) w_2 fun t27=>
  qc P zjt #[(Value.agg t27)] [.int .i64] false w_2 fun (t28:Int) w_3=>
  qx (t28 != 0) (
  R (.returned (Value.int .i64 t28)) w_3) (
  joinP Unit (fun k=>
  zul .i64 (t18.1.2.1:Int) 1 fun t35=>
  jv P (Instr.sliceAt zu (Value.slice t18.1.1 t18.1.2.1 t18.1.2.2) none (some (Value.int .i64 t35)) none) .slc w_3 fun (t36:(Option Addr×Nat×Nat))=>
  qx (decide ((t36.2.1:Int) > 0)) (
  qc P zcd #[(Value.pointer u),(Value.slice t36.1 t36.2.1 t36.2.2)] [.any,.bool] true w_3 fun (t43:(Value×Bool)) w_4=>
  zam (zc P zk) zk w_4 fun b9 w_5=>
  jy P (storeVar zk (⟨b9,0,none⟩:Addr) t43.1) w_5 fun w_6=>
  qx (!t43.2) (
  R (.returned (Value.int .i64 4)) w_6) (
  ld (.int .i64) (⟨b9,1,none⟩:Addr) w_6 fun (t51:Int)=>
  qx (t51 != 2) (
  R (.returned (Value.int .i64 70)) w_6) (
  k () w_6))) (
  k () w_3)) (fun _ w_7=>
  qc P jr #[(Value.slice t18.1.1 t18.1.2.1 t18.1.2.2)] [.str] false w_7 fun (t54:ByteArray) w_8=>
  stC (⟨b3,0,none⟩:Addr) (Value.string t54) w_8 fun w_9=>
  zbz w_9 fun w_10=>
  zq u fun p=>
  ld .map (Addr.add p 3) w_10 fun (t60:(Option Nat))=>
  ld .str (⟨b3,0,none⟩:Addr) w_10 fun (t62:ByteArray)=>
  zlt P (Instr.lookup qp (Value.map t60) (Value.string t62) true) [.any,.bool] w_10 fun (t63:(Value×Bool))=>
  zam (zc P zk) zk w_10 fun b11 w_11=>
  ((zlt P (Instr.lookup qp (Value.map t60) (Value.string t62) true) [.any,.bool] w_11 fun (t63_1:(Value×Bool))=>
  (Value.tuple #[t63_1.1,(Value.bool t63_1.2)])=(Value.tuple #[t63.1,(Value.bool t63.2)])) /\
  ((ld .str (⟨b3,0,none⟩:Addr) w_11 fun (t62_1:ByteArray)=>
  (Value.string t62_1)=(Value.string t62)) /\
  ((ld .map (Addr.add p 3) w_11 fun (t60_1:(Option Nat))=>
  (Value.map t60_1)=(Value.map t60)) /\
  jy P (storeVar zk (⟨b11,0,none⟩:Addr) t63.1) w_11 fun w_12=>
  joinP Unit (fun k_1=>
  joinP Unit (fun k_2=>
  ld (.int .i64) (⟨b3,1,none⟩:Addr) w_12 fun (t68:Int)=>
  qx (t68 != 2) (
  qc P zcr #[(Value.pointer u),(Value.slice t18.1.1 t18.1.2.1 t18.1.2.2)] [.slc] false w_12 fun (t73:(Option Addr×Nat×Nat)) w_13=>
  qx (decide ((t73.2.1:Int) > 0)) (
  R (.returned (Value.int .i64 130)) w_13) (
  qx (!t63.2) (
  zq u fun p_1=>
  ld .map (Addr.add p_1 3) w_13 fun (t84:(Option Nat))=>
  jv P (Builtin.len_ #[qp] zai #[(Value.map t84)]) (.int .i64) w_13 fun (t85:Int)=>
  qx (t85==1024) (
  R (.returned (Value.int .i64 8)) w_13) (
  k_2 () w_13)) (
  k_2 () w_13))) (
  qx (!t63.2) (
  zq u fun p_2=>
  ld .map (Addr.add p_2 3) w_12 fun (t84_1:(Option Nat))=>
  jv P (Builtin.len_ #[qp] zai #[(Value.map t84_1)]) (.int .i64) w_12 fun (t85_1:Int)=>
  qx (t85_1==1024) (
  R (.returned (Value.int .i64 8)) w_12) (
  k_2 () w_12)) (
  k_2 () w_12))) (fun _ w_14=>
  k_1 () w_14)) (fun _ w_15=>
  zbz w_15 fun w_16=>
  zq u fun p_3=>
  ld (.int .i64) (Addr.add p_3 2) w_16 fun (t91:Int)=>
  ld .str (⟨b3,3,none⟩:Addr) w_16 fun (t93:ByteArray)=>
  ld .str (⟨b11,3,none⟩:Addr) w_16 fun (t96:ByteArray)=>
  zul .i64 (t93.size:Int) (t96.size:Int) fun t98=>
  zfl .i64 t91 t98 fun t99=>
  zq u fun p_4=>
  stC (Addr.add p_4 2) (Value.int .i64 t99) w_16 fun w_17=>
  zbz w_17 fun w_18=>
  zq u fun p_5=>
  ld .map (Addr.add p_5 3) w_18 fun (t105:(Option Nat))=>
  ld .str (⟨b3,0,none⟩:Addr) w_18 fun (t107:ByteArray)=>
  ldA P 4 (⟨b3,0,none⟩:Addr) w_18 fun t108=>
  jy P (Instr.mapUpdate qp (Value.map t105) (Value.string t107) (Value.agg t108)) w_18 fun w_19=>
  R (.returned (Value.int .i64 0)) w_19)))))))))
theorem zms {u:Option Addr}{i:Value}{R:Ending->World->Prop}{w:World}(hT:zhw u i R w):zx P zbo #[(Value.pointer u),i] w R:=
 fnT (.seq .leaf (.seq (.seq .leaf (.cond (.seq .leaf .leaf) .leaf)) (.seq .leaf (.seq (.seq .leaf (.cond (.seq .leaf .leaf) .leaf)) (.seq (.seq .leaf (.cond (.seq .leaf .leaf) .leaf)) (.seq (.seq .leaf (.seq .leaf (.cond (.seq .leaf .leaf) .leaf))) (.join [] (.seq .leaf (.seq .leaf (.cond (.seq .leaf (.blk (.seq .leaf (.cond (.seq .leaf .leaf) (.seq .leaf (.cond (.seq .leaf .leaf) .leaf)))))) .leaf))) (.seq .leaf (.seq (.tree (.op 0 [] (.op 1 [] (.op 2 [] (.op 4 [] (.op 3 [] (.op 5 [] (.op 6 [] (.op 7 [] (.op 8 [] (.op 9 [] (.op 10 [3,5,6] (.op 11 [] (.op 12 [] .done)))))))))))))) (.join [] (.jblk [] (.seq .leaf (.cond (.seq .leaf .leaf) (.seq .leaf (.cond (.seq .leaf .leaf) .leaf))))) (.seq (.tree (.op 0 [] (.op 1 [] (.op 2 [] (.op 4 [] (.op 7 [] (.op 3 [] (.op 5 [] (.op 6 [] (.op 8 [] (.op 9 [] (.op 10 [] (.op 11 [] (.op 12 [] (.op 13 [] (.op 14 [] .done)))))))))))))))) (.seq (.tree (.op 0 [] (.op 1 [] (.op 2 [] (.op 4 [] (.op 3 [] (.op 5 [] (.op 6 [] (.op 7 [] .done))))))))) (.seq .leaf .leaf))))))))))))) Tryz.func63 hT
def zha (u:Option Addr) (R:Ending->World->Prop) (w:World):Prop:=
  zbz w fun w_1=>
  qx (!(Option.isNone u)) (
  zq u fun p=>
  zq u fun p_1=>
  ld .map (Addr.add p 3) w_1 fun (t9:(Option Nat))=>
  jv P (Builtin.len_ #[qp] zai #[(Value.map t9)]) (.int .i64) w_1 fun (t10:Int)=>
  ld (.int .i64) p_1 w_1 fun (t14:Int)=>
  qx (decide (t10 > t14)) (
  R (.returned (Value.bool true)) w_1) (
  zq u fun p_2=>
  zq u fun p_3=>
  ld (.int .i64) (Addr.add p_2 2) w_1 fun (t20:Int)=>
  ld (.int .i64) (Addr.add p_3 1) w_1 fun (t24:Int)=>
  R (.returned (Value.bool (decide (t20 > t24)))) w_1)) (
  R (.returned (Value.bool false)) w_1)
theorem zl0 {u:Option Addr}{R:Ending->World->Prop}{w:World}(hT:zha u R w):zx P zew #[(Value.pointer u)] w R:=
 fnT (.seq .leaf (.seq (.tree (.op 0 [] (.op 1 [] (.op 2 [] (.op 3 [] (.op 4 [] (.op 5 [] (.op 8 [] (.op 9 [] (.op 10 [] (.op 6 [] (.op 7 [] (.op 11 [] (.op 12 [] (.op 13 [] (.op 14 [] (.op 15 [] (.op 16 [] (.op 18 [] (.op 19 [] (.op 20 [] (.op 17 [] (.op 21 [] (.op 22 [] (.op 23 [] (.op 24 [] (.op 25 [] .done))))))))))))))))))))))))))) .leaf)) Tryz.func87 hT
def zfz (a:Value) (b:Value) (R:Ending->World->Prop) (w:World):Prop:=
  zam (Value.cells a) zk w fun b2 w_1=>
  zam (Value.cells b) zk w_1 fun b3 w_2=>
  zbz w_2 fun w_3=>
  ld .str (⟨b2,0,none⟩:Addr) w_3 fun (t6:ByteArray)=>
  ld .str (⟨b3,0,none⟩:Addr) w_3 fun (t9:ByteArray)=>
  qc P ze2 #[(Value.string t6)] [.slc] false w_3 fun (t7:(Option Addr×Nat×Nat)) w_4=>
  ((ld .str (⟨b3,0,none⟩:Addr) w_4 fun (t9_1:ByteArray)=>
  (Value.string t9_1)=(Value.string t9)) /\
  qc P ze2 #[(Value.string t9)] [.slc] false w_4 fun (t10:(Option Addr×Nat×Nat)) w_5=>
  qc P zet #[(Value.slice t7.1 t7.2.1 t7.2.2),(Value.slice t10.1 t10.2.1 t10.2.2)] [.int .i64] false w_5 fun (t11:Int) w_6=>
  R (.returned (Value.int .i64 t11)) w_6)
theorem zi2 {a:Value}{b:Value}{R:Ending->World->Prop}{w:World}(hT:zfz a b R w):zx P za5 #[a,b] w R:=
 fnT (.seq .leaf (.seq (.tree (.op 0 [] (.op 3 [] (.op 1 [] (.op 4 [] (.op 2 [4] (.op 5 [] (.op 6 [] (.op 7 [] .done))))))))) .leaf)) Tryz.func68 hT
def zal (m:Option Nat) (R:Ending->World->Prop) (w:World):Prop:=
  jv P (eqM .eql qp (.tmp 3) (.const (Value.map none)) (Value.map m) (Value.map none)) .bool w fun (t4:Bool)=>
  qx t4 (
  R (.returned (Value.map none)) w) (
  jv P (Instr.makeInterface qp (Value.map m)) .any w fun (t6:Value)=>
  qc P zoa #[t6] [.any] false w fun (t7:Value) w_1=>
  jv P (Instr.typeAssert t7 z8e qp false) .map w_1 fun (t8:(Option Nat))=>
  R (.returned (Value.map t8)) w_1)
theorem zby {m:Option Nat}{R:Ending->World->Prop}{w:World}(hT:zal m R w):zx P jw #[(Value.map m)] w R:=
 fnT (.seq .leaf (.seq (.seq .leaf (.cond (.seq .leaf .leaf) .leaf)) (.seq .leaf .leaf))) Tryz.func80 hT
def zn7 (i:Value) (R:Ending->World->Prop) (w:World):Prop:=
  zam (Value.cells i) zk w fun b1 w_1=>
  ld (.int .i64) (⟨b1,1,none⟩:Addr) w_1 fun (t4:Int)=>
  joinP Unit (fun k=>
  joinP Unit (fun k_1=>
  joinP Unit (fun k_2=>
  qx (t4==3) (
  ld .bool (⟨b1,2,none⟩:Addr) w_1 fun (t12:Bool)=>
  qx t12 (
  R (.returned (Value.int .i64 1)) w_1) (
  k_2 () w_1)) (
  qx (t4==2) (
  k_2 () w_1) (
  qx (t4==1) (
  ld .bool (⟨b1,2,none⟩:Addr) w_1 fun (t17:Bool)=>
  qx t17 (
  R (.returned (Value.int .i64 1)) w_1) (
  ld .str (⟨b1,3,none⟩:Addr) w_1 fun (t19:ByteArray)=>
  qx (decide ((t19.size:Int) > 1024)) (
  R (.returned (Value.int .i64 134)) w_1) (
  k () w_1))) (
  R (.returned (Value.int .i64 100)) w_1)))) (fun _ w_2=>
  k_1 () w_2)) (fun _ w_3=>
  ld .str (⟨b1,3,none⟩:Addr) w_3 fun (t14:ByteArray)=>
  qx (!(t14.toList==(ByteArray.mk #[]).toList)) (
  R (.returned (Value.int .i64 1)) w_3) (
  k () w_3))) (fun _ w_4=>
  R (.returned (Value.int .i64 0)) w_4)
theorem zsp {i:Value}{R:Ending->World->Prop}{w:World}(hT:zn7 i R w):zx P zjt #[i] w R:=
 fnT (.seq .leaf (.seq (.seq .leaf (.jblk [] (.seq (.blk (.seq (.blk (.join [] (.jblk [] (.seq (.blk (.seq (.seq (.seq .leaf (.cond .leaf .leaf)) (.seq (.seq .leaf (.cond .leaf .leaf)) (.seq .leaf (.cond .leaf .leaf)))) .leaf)) (.seq .leaf (.cond (.seq .leaf .leaf) .leaf)))) (.seq (.seq .leaf (.cond (.seq .leaf .leaf) .leaf)) .leaf))) (.seq (.seq (.seq .leaf (.cond (.seq .leaf .leaf) .leaf)) (.seq .leaf (.cond (.seq .leaf .leaf) .leaf))) .leaf))) (.seq (.seq .leaf .leaf) .leaf)))) (.seq .leaf .leaf))) Tryz.func118 hT
theorem zte {e:Array Value->Sem Value}(he:Extern.find Tryz.f141=some e) (args:Array Value) (w:World):(callFunc zoa args).run P w=((e args).run P w).andThen fun v w1=>.ok (.value v) w1:=
 Go.run_callFunc_extern Tryz.func141 (by kernel_rfl) (by kernel_rfl) (by kernel_rfl) he args w
def zk0 (o:Option Addr) (n:Int) (R:Ending->World->Prop) (w:World):Prop:=
  qx (Option.isNone o) (
  R (.returned (Value.tuple #[])) w) (
  zc1 Int (fun s w_1 k=>
  qx (decide (s > 127)) (
  zq o fun p=>
  ld .slc p w_1 fun (t14:(Option Addr×Nat×Nat))=>
  cvI .u8 s fun t16=>
  orI .u8 t16 128 fun t17=>
  zde P (Instr.buildSlice je 1 #[(0,(Value.int .u8 t17))]) .slc w_1 fun (t18:(Option Addr×Nat×Nat)) w_2=>
  zde P (Builtin.append_ #[je,je] je #[(Value.slice t14.1 t14.2.1 t14.2.2),(Value.slice t18.1 t18.2.1 t18.2.2)]) .slc w_2 fun (t19:(Option Addr×Nat×Nat)) w_3=>
  zq o fun p_1=>
  stC p_1 (Value.slice t19.1 t19.2.1 t19.2.2) w_3 fun w_4=>
  z2q .u64 s 7 fun t9=>
  k t9 w_4) (
  zq o fun p_2=>
  ld .slc p_2 w_1 fun (t26:(Option Addr×Nat×Nat))=>
  cvI .u8 s fun t28=>
  zde P (Instr.buildSlice je 1 #[(0,(Value.int .u8 t28))]) .slc w_1 fun (t29:(Option Addr×Nat×Nat)) w_5=>
  zde P (Builtin.append_ #[je,je] je #[(Value.slice t26.1 t26.2.1 t26.2.2),(Value.slice t29.1 t29.2.1 t29.2.2)]) .slc w_5 fun (t30:(Option Addr×Nat×Nat)) w_6=>
  zq o fun p_3=>
  stC p_3 (Value.slice t30.1 t30.2.1 t30.2.2) w_6 fun w_7=>
  R (.returned (Value.tuple #[])) w_7)) n w)
theorem zo0 {o:Option Addr}{n:Int}{R:Ending->World->Prop}{w:World}(hT:zk0 o n R w):zx P zbn #[(Value.pointer o),(Value.int .u64 n)] w R:=
 fnT (.seq (.seq .leaf (.cond .leaf .leaf)) (.seq (.blk (.loop [(1,.int .u64)] (.seq (.seq .leaf (.cond .leaf .leaf)) (.seq (.blk .leaf) .leaf)))) .leaf)) Tryz.func54 hT
def zj5 (o:Option Addr) (s:ByteArray) (R:Ending->World->Prop) (w:World):Prop:=
  qx (Option.isNone o) (
  R (.returned (Value.tuple #[])) w) (
  cvI .u64 (s.size:Int) fun t9=>
  qc P zbn #[(Value.pointer o),(Value.int .u64 t9)] [] true w fun (_:Unit) w_1=>
  zq o fun p=>
  ld .slc p w_1 fun (t15:(Option Addr×Nat×Nat))=>
  zde P (Builtin.append_ #[je,qy] je #[(Value.slice t15.1 t15.2.1 t15.2.2),(Value.string s)]) .slc w_1 fun (t17:(Option Addr×Nat×Nat)) w_2=>
  zq o fun p_1=>
  stC p_1 (Value.slice t17.1 t17.2.1 t17.2.2) w_2 fun w_3=>
  R (.returned (Value.tuple #[])) w_3)
theorem zoe {o:Option Addr}{s:ByteArray}{R:Ending->World->Prop}{w:World}(hT:zj5 o s R w):zx P zcc #[(Value.pointer o),(Value.string s)] w R:=
 fnT (.seq (.seq .leaf (.cond .leaf .leaf)) (.seq .leaf .leaf)) Tryz.func55 hT
def zjv (o:Option Addr) (b:Bool) (R:Ending->World->Prop) (w:World):Prop:=
  qx b (
  qc P zbn #[(Value.pointer o),(Value.int .u64 1)] [] true w fun (_:Unit) w_1=>
  R (.returned (Value.tuple #[])) w_1) (
  qc P zbn #[(Value.pointer o),(Value.int .u64 0)] [] true w fun (_:Unit) w_2=>
  R (.returned (Value.tuple #[])) w_2)
theorem zog {o:Option Addr}{b:Bool}{R:Ending->World->Prop}{w:World}(hT:zjv o b R w):zx P zg0 #[(Value.pointer o),(Value.bool b)] w R:=
 fnT (.seq .leaf (.cond .leaf .leaf)) Tryz.func100 hT
def zir (o:Option Addr) (R:Ending->World->Prop) (w:World):Prop:=
  qx (Option.isNone o) (
  R (.returned (Value.slice none 0 0)) w) (
  zq o fun p=>
  ld .slc p w fun (t8:(Option Addr×Nat×Nat))=>
  zde P (Builtin.append_ #[je,je] je #[(Value.slice none 0 0),(Value.slice t8.1 t8.2.1 t8.2.2)]) .slc w fun (t9:(Option Addr×Nat×Nat)) w_1=>
  R (.returned (Value.slice t9.1 t9.2.1 t9.2.2)) w_1)
theorem znh {o:Option Addr}{R:Ending->World->Prop}{w:World}(hT:zir o R w):zx P zd9 #[(Value.pointer o)] w R:=
 fnT (.seq .leaf (.seq (.seq .leaf (.cond (.seq .leaf .leaf) .leaf)) (.seq .leaf .leaf))) Tryz.func58 hT
def zo8 (b:Option Addr) (b_l b_c:Nat) (R:Ending->World->Prop) (w:World):Prop:=
  zde P (Builtin.append_ #[je,je] je #[(Value.slice none 0 0),(Value.slice b b_l b_c)]) .slc w fun (t4:(Option Addr×Nat×Nat)) w_1=>
  jv P (Instr.build zhv #[(0,(Value.slice t4.1 t4.2.1 t4.2.2))]) .any w_1 fun (t5:Value)=>
  zam (Value.cells t5) zhv w_1 fun b6 w_2=>
  R (.returned (Value.pointer (some (⟨b6,0,none⟩:Addr)))) w_2
theorem zsw {b:Option Addr}{b_l b_c:Nat}{R:Ending->World->Prop}{w:World}(hT:zo8 b b_l b_c R w):zx P zlw #[(Value.slice b b_l b_c)] w R:=
 fnT (.seq .leaf (.seq .leaf .leaf)) Tryz.func104 hT
def zl8 (i:Option Addr) (R:Ending->World->Prop) (w:World):Prop:=
  zc1 (Int×Int) (fun s w_1 k=>
  joinP Int (fun k_1=>
  qc P zfv #[(Value.pointer i)] [.int .u8,.bool] true w_1 fun (t11:(Int×Bool)) w_2=>
  qx (!t11.2) (
  R (.returned (Value.int .u64 0)) w_2) (
  joinP Unit (fun k_2=>
  qx (s.2==9) (
  qx (decide (t11.1 > 1)) (
  qc P zat #[(Value.pointer i),(Value.int .i64 21)] [] true w_2 fun (_:Unit) w_3=>
  R (.returned (Value.int .u64 0)) w_3) (
  qx (decide (s.2 > 0)) (
  qx (t11.1==0) (
  qc P zat #[(Value.pointer i),(Value.int .i64 21)] [] true w_2 fun (_:Unit) w_4=>
  R (.returned (Value.int .u64 0)) w_4) (
  k_2 () w_2)) (
  k_2 () w_2))) (
  qx (decide (s.2 > 0)) (
  qx (t11.1==0) (
  qc P zat #[(Value.pointer i),(Value.int .i64 21)] [] true w_2 fun (_:Unit) w_5=>
  R (.returned (Value.int .u64 0)) w_5) (
  k_2 () w_2)) (
  k_2 () w_2))) (fun _ w_6=>
  z6c .u8 t11.1 127 fun t34=>
  cvI .u64 t34 fun t35=>
  z4i .i64 7 s.2 fun t37=>
  z5k .u64 t35 t37 fun t38=>
  orI .u64 s.1 t38 fun t39=>
  qx (decide (t11.1 < 128)) (
  R (.returned (Value.int .u64 t39)) w_6) (
  k_1 t39 w_6)))) (fun s_2 w_7=>
  zfl .i64 s.2 1 fun t8=>
  k (s_2,t8) w_7)) (0,0) w
theorem zqu {i:Option Addr}{R:Ending->World->Prop}{w:World}(hT:zl8 i R w):zx P ze7 #[(Value.pointer i)] w R:=
 fnT (.seq .leaf (.seq .leaf (.seq .leaf (.blk (.loop [(3,.int .u64),(4,.int .i64)] (.seq (.jblk [(3,.int .u64)] (.seq .leaf (.seq (.seq .leaf (.cond (.seq .leaf .leaf) .leaf)) (.join [] (.seq .leaf (.cond (.seq .leaf (.seq .leaf .leaf)) .leaf)) (.seq .leaf (.seq .leaf (.cond (.seq .leaf .leaf) .leaf))))))) .leaf)))))) Tryz.func108 hT
def zk6 (i:Option Addr) (most:Int) (R:Ending->World->Prop) (w:World):Prop:=
  qc P ze7 #[(Value.pointer i)] [.int .u64] false w fun (t7:Int) w_1=>
  joinP Unit (fun k=>
  qx (Option.isNone i) (
  R (.returned (Value.string (ByteArray.mk #[]))) w_1) (
  zq i fun p=>
  ld (.int .i64) (Addr.add p 1) w_1 fun (t14:Int)=>
  qx (t14 != 0) (
  R (.returned (Value.string (ByteArray.mk #[]))) w_1) (
  k () w_1))) (fun _ w_2=>
  jv P (Builtin.max_ #[zai,zai] zai #[(Value.int .i64 most),(Value.int .i64 0)]) (.int .i64) w_2 fun (t19:Int)=>
  cvI .u64 t19 fun t20=>
  qx (decide (t7 > t20)) (
  qc P zat #[(Value.pointer i),(Value.int .i64 2)] [] true w_2 fun (_:Unit) w_3=>
  R (.returned (Value.string (ByteArray.mk #[]))) w_3) (
  cvI .i64 t7 fun t26=>
  qc P zhk #[(Value.pointer i),(Value.int .i64 t26)] [.slc] false w_2 fun (t27:(Option Addr×Nat×Nat)) w_4=>
  jv P (convert je qy (Value.slice t27.1 t27.2.1 t27.2.2)) .str w_4 fun (t28:ByteArray)=>
  R (.returned (Value.string t28)) w_4))
theorem zp0 {i:Option Addr}{most:Int}{R:Ending->World->Prop}{w:World}(hT:zk6 i most R w):zx P zfu #[(Value.pointer i),(Value.int .i64 most)] w R:=
 fnT (.seq .leaf (.seq .leaf (.join [] (.seq .leaf (.cond (.seq .leaf .leaf) .leaf)) (.seq (.seq .leaf (.cond (.seq .leaf (.seq .leaf .leaf)) .leaf)) (.seq .leaf .leaf))))) Tryz.func107 hT
def zk8 (i:Option Addr) (R:Ending->World->Prop) (w:World):Prop:=
  qc P zfv #[(Value.pointer i)] [.int .u8,.bool] true w fun (t7:(Int×Bool)) w_1=>
  joinP Unit (fun k=>
  qx t7.2 (
  qx (decide (t7.1 > 1)) (
  qc P zat #[(Value.pointer i),(Value.int .i64 21)] [] true w_1 fun (_:Unit) w_2=>
  R (.returned (Value.bool false)) w_2) (
  k () w_1)) (
  k () w_1)) (fun _ w_3=>
  R (.returned (Value.bool (t7.1==1))) w_3)
theorem zpk {i:Option Addr}{R:Ending->World->Prop}{w:World}(hT:zk8 i R w):zx P zhp #[(Value.pointer i)] w R:=
 fnT (.seq .leaf (.seq .leaf (.join [] (.seq .leaf (.cond (.seq .leaf (.seq .leaf .leaf)) .leaf)) (.seq .leaf .leaf)))) Tryz.func106 hT
def zmk (i:Option Addr) (R:Ending->World->Prop) (w:World):Prop:=
  qx (!(Option.isNone i)) (
  zq i fun p=>
  ld (.int .i64) (Addr.add p 1) w fun (t9:Int)=>
  qx (t9==0) (
  zq i fun p_1=>
  ld .slc p_1 w fun (t16:(Option Addr×Nat×Nat))=>
  R (.returned (Value.bool ((t16.2.1:Int)==0))) w) (
  R (.returned (Value.bool false)) w)) (
  R (.returned (Value.bool false)) w)
theorem zqm {i:Option Addr}{R:Ending->World->Prop}{w:World}(hT:zmk i R w):zx P zif #[(Value.pointer i)] w R:=
 fnT (.seq .leaf (.seq .leaf .leaf)) Tryz.func109 hT
def zky (i:Option Addr) (R:Ending->World->Prop) (w:World):Prop:=
  joinP Unit (fun k=>
  qx (Option.isNone i) (
  R (.returned (Value.tuple #[(Value.int .u8 0),(Value.bool false)])) w) (
  zq i fun p=>
  ld (.int .i64) (Addr.add p 1) w fun (t11:Int)=>
  qx (t11 != 0) (
  R (.returned (Value.tuple #[(Value.int .u8 0),(Value.bool false)])) w) (
  k () w))) (fun _ w_1=>
  zq i fun p_1=>
  ld .slc p_1 w_1 fun (t17:(Option Addr×Nat×Nat))=>
  qx ((t17.2.1:Int)==0) (
  qc P zat #[(Value.pointer i),(Value.int .i64 20)] [] true w_1 fun (_:Unit) w_2=>
  R (.returned (Value.tuple #[(Value.int .u8 0),(Value.bool false)])) w_2) (
  zq i fun p_2=>
  ld .slc p_2 w_1 fun (t25:(Option Addr×Nat×Nat))=>
  ixS t25.1 t25.2.1 1 0 fun t26=>
  ld (.int .u8) t26 w_1 fun (t27:Int)=>
  zq i fun p_3=>
  ld .slc p_3 w_1 fun (t32:(Option Addr×Nat×Nat))=>
  jv P (Instr.sliceAt je (Value.slice t32.1 t32.2.1 t32.2.2) (some (Value.int .i64 1)) none none) .slc w_1 fun (t33:(Option Addr×Nat×Nat))=>
  zq i fun p_4=>
  stC p_4 (Value.slice t33.1 t33.2.1 t33.2.2) w_1 fun w_3=>
  R (.returned (Value.tuple #[(Value.int .u8 t27),(Value.bool true)])) w_3))
theorem zpl {i:Option Addr}{R:Ending->World->Prop}{w:World}(hT:zky i R w):zx P zfv #[(Value.pointer i)] w R:=
 fnT (.seq .leaf (.join [] (.seq .leaf (.cond (.seq .leaf .leaf) .leaf)) (.seq (.seq .leaf (.cond (.seq .leaf (.seq .leaf .leaf)) .leaf)) (.seq .leaf (.seq .leaf (.seq .leaf .leaf)))))) Tryz.func165 hT
def zk1 (i:Option Addr) (e:Int) (R:Ending->World->Prop) (w:World):Prop:=
  zq i fun p=>
  stC p (Value.slice none 0 0) w fun w_1=>
  zq i fun p_1=>
  stC (Addr.add p_1 1) (Value.int .i64 e) w_1 fun w_2=>
  R (.returned (Value.tuple #[])) w_2
theorem zpy {i:Option Addr}{e:Int}{R:Ending->World->Prop}{w:World}(hT:zk1 i e R w):zx P zat #[(Value.pointer i),(Value.int .i64 e)] w R:=
 fnT .leaf Tryz.func166 hT
def zk3 (i:Option Addr) (n:Int) (R:Ending->World->Prop) (w:World):Prop:=
  joinP Unit (fun k=>
  qx (Option.isNone i) (
  R (.returned (Value.slice none 0 0)) w) (
  zq i fun p=>
  ld (.int .i64) (Addr.add p 1) w fun (t12:Int)=>
  qx (t12 != 0) (
  R (.returned (Value.slice none 0 0)) w) (
  k () w))) (fun _ w_1=>
  zq i fun p_1=>
  ld .slc p_1 w_1 fun (t19:(Option Addr×Nat×Nat))=>
  qx (decide (n > (t19.2.1:Int))) (
  qc P zat #[(Value.pointer i),(Value.int .i64 20)] [] true w_1 fun (_:Unit) w_2=>
  R (.returned (Value.slice none 0 0)) w_2) (
  zq i fun p_2=>
  ld .slc p_2 w_1 fun (t27:(Option Addr×Nat×Nat))=>
  jv P (Instr.sliceAt je (Value.slice t27.1 t27.2.1 t27.2.2) none (some (Value.int .i64 n)) none) .slc w_1 fun (t29:(Option Addr×Nat×Nat))=>
  zq i fun p_3=>
  ld .slc p_3 w_1 fun (t34:(Option Addr×Nat×Nat))=>
  jv P (Instr.sliceAt je (Value.slice t34.1 t34.2.1 t34.2.2) (some (Value.int .i64 n)) none none) .slc w_1 fun (t36:(Option Addr×Nat×Nat))=>
  zq i fun p_4=>
  stC p_4 (Value.slice t36.1 t36.2.1 t36.2.2) w_1 fun w_3=>
  R (.returned (Value.slice t29.1 t29.2.1 t29.2.2)) w_3))
theorem zpm {i:Option Addr}{n:Int}{R:Ending->World->Prop}{w:World}(hT:zk3 i n R w):zx P zhk #[(Value.pointer i),(Value.int .i64 n)] w R:=
 fnT (.seq .leaf (.join [] (.seq .leaf (.cond (.seq .leaf .leaf) .leaf)) (.seq (.seq .leaf (.cond (.seq .leaf (.seq .leaf .leaf)) .leaf)) (.seq .leaf (.seq .leaf (.seq .leaf .leaf)))))) Tryz.func167 hT
def zk7 (o:Option Addr) (n:Int) (R:Ending->World->Prop) (w:World):Prop:=
  cvI .u64 n fun t6=>
  z5k .u64 t6 1 fun t7=>
  z2q .i64 n 63 fun t9=>
  cvI .u64 t9 fun t10=>
  z4j .u64 t7 t10 fun t11=>
  qc P zbn #[(Value.pointer o),(Value.int .u64 t11)] [] true w fun (_:Unit) w_1=>
  R (.returned (Value.tuple #[])) w_1
theorem zpb {o:Option Addr}{n:Int}{R:Ending->World->Prop}{w:World}(hT:zk7 o n R w):zx P zfs #[(Value.pointer o),(Value.int .i64 n)] w R:=
 fnT .leaf Tryz.func99 hT
def zmv (i:Option Addr) (R:Ending->World->Prop) (w:World):Prop:=
  qc P ze7 #[(Value.pointer i)] [.int .u64] false w fun (t5:Int) w_1=>
  z2q .u64 t5 1 fun t7=>
  cvI .i64 t7 fun t8=>
  z6c .u64 t5 1 fun t10=>
  cvI .i64 t10 fun t11=>
  zul .i64 0 t11 fun t12=>
  z4j .i64 t8 t12 fun t13=>
  R (.returned (Value.int .i64 t13)) w_1
theorem zqw {i:Option Addr}{R:Ending->World->Prop}{w:World}(hT:zmv i R w):zx P zgi #[(Value.pointer i)] w R:=
 fnT (.seq .leaf (.seq .leaf (.seq .leaf .leaf))) Tryz.func105 hT
set_option maxRecDepth 100000
def zk5 (elems:Option Addr) (elems_l elems_c:Nat) (sep:ByteArray) (R:Ending->World->Prop) (w:World):Prop:=
  qx ((elems_l:Int)==0) (
  R (.returned (Value.string (ByteArray.mk #[]))) w) (
  qx ((elems_l:Int)==1) (
  ixS elems elems_l 1 0 fun t18=>
  ld .str t18 w fun (t19:ByteArray)=>
  R (.returned (Value.string t19)) w) (
  joinP Int (fun k=>
  qx (decide ((sep.size:Int) > 0)) (
  joinP Unit (fun k_1=>
  zul .i64 (elems_l:Int) 1 fun t27=>
  z7v .i64 9223372036854775807 t27 fun t28=>
  qx (decide ((sep.size:Int)>=t28)) (
  jv P (Instr.makeInterface qy (Value.string (ByteArray.mk #[115,116,114,105,110,103,115,58,32,74,111,105,110,32,111,117,116,112,117,116,32,108,101,110,103,116,104,32,111,118,101,114,102,108,111,119]))) .any w fun (_:Value)=>
  False) (
  k_1 () w)) (fun _ w_1=>
  zul .i64 (elems_l:Int) 1 fun t36=>
  z4i .i64 (sep.size:Int) t36 fun t37=>
  zfl .i64 0 t37 fun t38=>
  k t38 w_1)) (
  k 0 w)) (fun s_1 w_2=>
  zc1 (Int×Int) (fun s_2 w_3 k_2=>
  qx (decide (s_2.2 < (elems_l:Int))) (
  joinP Int (fun k_3=>
  ixS elems elems_l 1 s_2.2 fun t43=>
  ld .str t43 w_3 fun (t44:ByteArray)=>
  joinP Unit (fun k_4=>
  zul .i64 9223372036854775807 s_2.1 fun t48=>
  qx (decide ((t44.size:Int) > t48)) (
  jv P (Instr.makeInterface qy (Value.string (ByteArray.mk #[115,116,114,105,110,103,115,58,32,74,111,105,110,32,111,117,116,112,117,116,32,108,101,110,103,116,104,32,111,118,101,114,102,108,111,119]))) .any w_3 fun (_:Value)=>
  False) (
  k_4 () w_3)) (fun _ w_4=>
  zfl .i64 s_2.1 (t44.size:Int) fun t54=>
  k_3 t54 w_4)) (fun s_4 w_5=>
  zfl .i64 s_2.2 1 fun t55=>
  k_2 (s_4,t55) w_5)) (
  zam (zc P jk) jk w_3 fun b8 w_6=>
  qc P zda #[(Value.pointer (some (⟨b8,0,none⟩:Addr))),(Value.int .i64 s_2.1)] [] true w_6 fun (_:Unit) w_7=>
  ixS elems elems_l 1 0 fun t59=>
  ld .str t59 w_7 fun (t60:ByteArray)=>
  qc P zab #[(Value.pointer (some (⟨b8,0,none⟩:Addr))),(Value.string t60)] [.int .i64,.any] true w_7 fun (_:(Int×Value)) w_8=>
  jv P (Instr.sliceAt zu (Value.slice elems elems_l elems_c) (some (Value.int .i64 1)) none none) .slc w_8 fun (t63:(Option Addr×Nat×Nat))=>
  zc1 Int (fun s_5 w_9 k_5=>
  qx (decide (s_5 < (t63.2.1:Int))) (
  ixS t63.1 t63.2.1 1 s_5 fun t67=>
  ld .str t67 w_9 fun (t68:ByteArray)=>
  qc P zab #[(Value.pointer (some (⟨b8,0,none⟩:Addr))),(Value.string sep)] [.int .i64,.any] true w_9 fun (_:(Int×Value)) w_10=>
  qc P zab #[(Value.pointer (some (⟨b8,0,none⟩:Addr))),(Value.string t68)] [.int .i64,.any] true w_10 fun (_:(Int×Value)) w_11=>
  zfl .i64 s_5 1 fun t73=>
  k_5 t73 w_11) (
  qc P zcb #[(Value.pointer (some (⟨b8,0,none⟩:Addr)))] [.str] false w_9 fun (t74:ByteArray) w_12=>
  R (.returned (Value.string t74)) w_12)) 0 w_8)) (s_1,0) w_2)))
theorem zpt {elems:Option Addr}{elems_l elems_c:Nat}{sep:ByteArray}{R:Ending->World->Prop}{w:World}(hT:zk5 elems elems_l elems_c sep R w):zx P zhm #[(Value.slice elems elems_l elems_c),(Value.string sep)] w R:=
 fnT (.seq .leaf (.seq (.seq .leaf (.blk (.seq .leaf (.cond (.seq .leaf .leaf) (.seq .leaf (.cond (.seq .leaf .leaf) .leaf)))))) (.seq .leaf (.join [(5,.int .i64)] (.seq .leaf (.cond (.join [] (.seq .leaf (.cond .leaf .leaf)) .leaf) .leaf)) (.seq (.seq .leaf (.blk (.loop [(5,.int .i64),(41,.int .i64)] (.seq .leaf (.seq (.cond .leaf .leaf) (.seq (.jblk [(5,.int .i64)] (.seq .leaf (.join [] (.seq .leaf (.cond .leaf .leaf)) .leaf))) .leaf)))))) (.seq .leaf (.seq .leaf (.seq .leaf (.seq (.seq .leaf (.blk (.loop [(65,.int .i64)] (.seq .leaf (.seq (.cond .leaf .leaf) (.seq (.blk (.seq .leaf (.seq .leaf .leaf))) .leaf)))))) (.seq .leaf .leaf)))))))))) Tryz.func76 hT
def zfh (b:Option Addr) (n:Int) (R:Ending->World->Prop) (w:World):Prop:=
  qc P zaw #[(Value.pointer b)] [] true w fun (_:Unit) w_1=>
  joinP Unit (fun k=>
  qx (decide (n < 0)) (
  jv P (Instr.makeInterface qy (Value.string (ByteArray.mk #[115,116,114,105,110,103,115,46,66,117,105,108,100,101,114,46,71,114,111,119,58,32,110,101,103,97,116,105,118,101,32,99,111,117,110,116]))) .any w_1 fun (_:Value)=>
  False) (
  k () w_1)) (fun _ w_2=>
  zbz w_2 fun w_3=>
  zq b fun p=>
  zq b fun p_1=>
  ld .slc (Addr.add p 1) w_3 fun (t12:(Option Addr×Nat×Nat))=>
  jv P (Builtin.cap_ #[je] zai #[(Value.slice t12.1 t12.2.1 t12.2.2)]) (.int .i64) w_3 fun (t13:Int)=>
  ld .slc (Addr.add p_1 1) w_3 fun (t17:(Option Addr×Nat×Nat))=>
  zul .i64 t13 (t17.2.1:Int) fun t19=>
  qx (decide (t19 < n)) (
  qc P zc7 #[(Value.pointer b),(Value.int .i64 n)] [] true w_3 fun (_:Unit) w_4=>
  R (.returned (Value.tuple #[])) w_4) (
  R (.returned (Value.tuple #[])) w_3))
theorem zie {b:Option Addr}{n:Int}{R:Ending->World->Prop}{w:World}(hT:zfh b n R w):zx P zda #[(Value.pointer b),(Value.int .i64 n)] w R:=
 fnT (.seq .leaf (.join [] (.seq .leaf (.cond .leaf .leaf)) (.seq (.tree (.op 0 [] (.op 1 [] (.op 2 [] (.op 5 [] (.op 6 [] (.op 7 [] (.op 11 [] (.op 3 [] (.op 4 [] (.op 8 [] (.op 9 [] (.op 10 [] (.op 12 [] .done)))))))))))))) (.cond .leaf .leaf)))) Tryz.func135 hT
def zc2 (b:Option Addr) (s:ByteArray) (R:Ending->World->Prop) (w:World):Prop:=
  qc P zaw #[(Value.pointer b)] [] true w fun (_:Unit) w_1=>
  zq b fun p=>
  ld .slc (Addr.add p 1) w_1 fun (t12:(Option Addr×Nat×Nat))=>
  zde P (Builtin.append_ #[je,qy] je #[(Value.slice t12.1 t12.2.1 t12.2.2),(Value.string s)]) .slc w_1 fun (t14:(Option Addr×Nat×Nat)) w_2=>
  zq b fun p_1=>
  stC (Addr.add p_1 1) (Value.slice t14.1 t14.2.1 t14.2.2) w_2 fun w_3=>
  R (.returned (Value.tuple #[(Value.int .i64 (s.size:Int)),Value.nilIface])) w_3
theorem zfy {b:Option Addr}{s:ByteArray}{R:Ending->World->Prop}{w:World}(hT:zc2 b s R w):zx P zab #[(Value.pointer b),(Value.string s)] w R:=
 fnT (.seq .leaf (.seq .leaf (.seq .leaf (.seq .leaf .leaf)))) Tryz.func136 hT
def zem (b:Option Addr) (R:Ending->World->Prop) (w:World):Prop:=
  zbz w fun w_1=>
  zq b fun p=>
  zq b fun p_1=>
  ld .slc (Addr.add p 1) w_1 fun (t6:(Option Addr×Nat×Nat))=>
  ld .slc (Addr.add p_1 1) w_1 fun (t11:(Option Addr×Nat×Nat))=>
  zde P (Builtin.unsafeSliceData_ #[je] zmt #[(Value.slice t6.1 t6.2.1 t6.2.2)]) .ptr w_1 fun (t7:(Option Addr)) w_2=>
  ((ld .slc (Addr.add p_1 1) w_2 fun (t11_1:(Option Addr×Nat×Nat))=>
  (Value.slice t11_1.1 t11_1.2.1 t11_1.2.2)=(Value.slice t11.1 t11.2.1 t11.2.2)) /\
  zde P (Builtin.unsafeString_ #[zmt,zai] qy #[(Value.pointer t7),(Value.int .i64 (t11.2.1:Int))]) .str w_2 fun (t13:ByteArray) w_3=>
  R (.returned (Value.string t13)) w_3)
theorem zho {b:Option Addr}{R:Ending->World->Prop}{w:World}(hT:zem b R w):zx P zcb #[(Value.pointer b)] w R:=
 fnT (.seq .leaf (.seq (.tree (.op 0 [] (.op 1 [] (.op 2 [] (.op 5 [] (.op 6 [] (.op 7 [] (.op 3 [] (.op 8 [] (.op 9 [] (.op 4 [8] (.op 10 [] (.op 11 [] .done))))))))))))) .leaf)) Tryz.func137 hT
def zdp (b:Option Addr) (R:Ending->World->Prop) (w:World):Prop:=
  zq b fun p=>
  ld .ptr p w fun (t5:(Option Addr))=>
  qx (Option.isNone t5) (
  zde P (convert zcy zf2 (Value.pointer b)) .any w fun (t9:Value) w_1=>
  qc P zex #[t9] [.any] false w_1 fun (t10:Value) w_2=>
  zde P (convert zf2 zcy t10) .ptr w_2 fun (t11:(Option Addr)) w_3=>
  zq b fun p_1=>
  stC p_1 (Value.pointer t11) w_3 fun w_4=>
  R (.returned (Value.tuple #[])) w_4) (
  zq b fun p_2=>
  ld .ptr p_2 w fun (t17:(Option Addr))=>
  jv P (eqM .neq zcy (.tmp 17) (.tmp 18) (Value.pointer t17) (Value.pointer b)) .bool w fun (t19:Bool)=>
  qx t19 (
  False) (
  R (.returned (Value.tuple #[])) w))
theorem zgo {b:Option Addr}{R:Ending->World->Prop}{w:World}(hT:zdp b R w):zx P zaw #[(Value.pointer b)] w R:=
 fnT (.seq .leaf (.cond .leaf (.seq .leaf (.cond .leaf .leaf)))) Tryz.func193 hT
def zfi (b:Option Addr) (n:Int) (R:Ending->World->Prop) (w:World):Prop:=
  zbz w fun w_1=>
  zq b fun p=>
  zq b fun p_1=>
  ld .slc (Addr.add p 1) w_1 fun (t8:(Option Addr×Nat×Nat))=>
  jv P (Builtin.cap_ #[je] zai #[(Value.slice t8.1 t8.2.1 t8.2.2)]) (.int .i64) w_1 fun (t9:Int)=>
  z4i .i64 2 t9 fun t10=>
  zfl .i64 t10 n fun t12=>
  ld .slc (Addr.add p_1 1) w_1 fun (t17:(Option Addr×Nat×Nat))=>
  qc P zc0 #[(Value.int .i64 t12)] [.slc] false w_1 fun (t13:(Option Addr×Nat×Nat)) w_2=>
  ((ld .slc (Addr.add p_1 1) w_2 fun (t17_1:(Option Addr×Nat×Nat))=>
  (Value.slice t17_1.1 t17_1.2.1 t17_1.2.2)=(Value.slice t17.1 t17.2.1 t17.2.2)) /\
  jv P (Instr.sliceAt je (Value.slice t13.1 t13.2.1 t13.2.2) none (some (Value.int .i64 (t17.2.1:Int))) none) .slc w_2 fun (t19:(Option Addr×Nat×Nat))=>
  zq b fun p_2=>
  ld .slc (Addr.add p_2 1) w_2 fun (t24:(Option Addr×Nat×Nat))=>
  zde P (Builtin.copy_ #[je,je] zai #[(Value.slice t19.1 t19.2.1 t19.2.2),(Value.slice t24.1 t24.2.1 t24.2.2)]) (.int .i64) w_2 fun (_:Int) w_3=>
  zq b fun p_3=>
  stC (Addr.add p_3 1) (Value.slice t19.1 t19.2.1 t19.2.2) w_3 fun w_4=>
  R (.returned (Value.tuple #[])) w_4)
theorem zic {b:Option Addr}{n:Int}{R:Ending->World->Prop}{w:World}(hT:zfi b n R w):zx P zc7 #[(Value.pointer b),(Value.int .i64 n)] w R:=
 fnT (.seq (.tree (.op 0 [] (.op 1 [] (.op 2 [] (.op 6 [] (.op 9 [] (.op 10 [] (.op 11 [] (.op 3 [] (.op 4 [] (.op 5 [] (.op 7 [] (.op 12 [] (.op 13 [] (.op 8 [12] (.op 14 [] (.op 15 [] .done))))))))))))))))) (.seq .leaf .leaf)) Tryz.func194 hT
theorem zij {e:Array Value->Sem Value}(he:Extern.find Tryz.f226=some e) (args:Array Value) (w:World):(callFunc zex args).run P w=((e args).run P w).andThen fun v w1=>.ok (.value v) w1:=
 Go.run_callFunc_extern Tryz.func226 (by kernel_rfl) (by kernel_rfl) (by kernel_rfl) he args w
theorem zf5 {e:Array Value->Sem Value}(he:Extern.find Tryz.f227=some e) (args:Array Value) (w:World):(callFunc zc0 args).run P w=((e args).run P w).andThen fun v w1=>.ok (.value v) w1:=
 Go.run_callFunc_extern Tryz.func227 (by kernel_rfl) (by kernel_rfl) (by kernel_rfl) he args w
def zmu (s:ByteArray) (sep:ByteArray) (R:Ending->World->Prop) (w:World):Prop:=
  qc P zbx #[(Value.string s),(Value.string sep)] [.str,.str,.bool] true w fun (t9:(ByteArray×ByteArray×Bool)) w_1=>
  R (.returned (Value.tuple #[(Value.string t9.1),(Value.string t9.2.1),(Value.bool t9.2.2)])) w_1
theorem zqp {s:ByteArray}{sep:ByteArray}{R:Ending->World->Prop}{w:World}(hT:zmu s sep R w):zx P zin #[(Value.string s),(Value.string sep)] w R:=
 fnT (.seq .leaf (.seq .leaf .leaf)) Tryz.func184 hT
def zd1 (s:ByteArray) (sep:ByteArray) (R:Ending->World->Prop) (w:World):Prop:=
  qc P zbk #[(Value.string s),(Value.string sep)] [.int .i64] false w fun (t10:Int) w_1=>
  qx (decide (t10>=0)) (
  zbz w_1 fun w_2=>
  zfl .i64 t10 (sep.size:Int) fun t20=>
  jv P (Instr.sliceAt qy (Value.string s) none (some (Value.int .i64 t10)) none) .str w_2 fun (t15:ByteArray)=>
  jv P (Instr.sliceAt qy (Value.string s) (some (Value.int .i64 t20)) none none) .str w_2 fun (t21:ByteArray)=>
  R (.returned (Value.tuple #[(Value.string t15),(Value.string t21),(Value.bool true)])) w_2) (
  R (.returned (Value.tuple #[(Value.string s),(Value.string (ByteArray.mk #[])),(Value.bool false)])) w_1)
theorem zgq {s:ByteArray}{sep:ByteArray}{R:Ending->World->Prop}{w:World}(hT:zd1 s sep R w):zx P zbx #[(Value.string s),(Value.string sep)] w R:=
 fnT (.seq .leaf (.seq (.seq .leaf (.seq .leaf (.cond (.seq (.tree (.op 0 [] (.op 1 [] (.op 3 [] (.op 4 [] (.op 5 [] (.op 6 [] (.op 7 [] (.op 2 [] (.op 9 [] (.op 8 [] (.op 10 [] (.op 11 [] .done))))))))))))) .leaf) .leaf))) (.seq .leaf .leaf))) Tryz.func222 hT
def zdf (s:ByteArray) (substr:ByteArray) (R:Ending->World->Prop) (w:World):Prop:=
  joinP Unit (fun k=>
  joinP Unit (fun k_1=>
  qx ((substr.size:Int)==0) (
  R (.returned (Value.int .i64 0)) w) (
  qx (substr.toList==s.toList) (
  R (.returned (Value.int .i64 0)) w) (
  qx ((substr.size:Int)==1) (
  zqe substr 0 fun t29=>
  qc P zah #[(Value.string s),(Value.int .u8 t29)] [.int .i64] false w fun (t30:Int) w_1=>
  R (.returned (Value.int .i64 t30)) w_1) (
  qx (decide ((substr.size:Int)>=(s.size:Int))) (
  R (.returned (Value.int .i64 (-1))) w) (
  ld (.int .i64) (⟨2,0,none⟩:Addr) w fun (t38:Int)=>
  qx (decide ((substr.size:Int)<=t38)) (
  qx (decide ((s.size:Int)<=64)) (
  qc P zcj #[(Value.string s),(Value.string substr)] [.int .i64] false w fun (t47:Int) w_2=>
  R (.returned (Value.int .i64 t47)) w_2) (
  k_1 () w)) (
  k_1 () w)))))) (fun _ w_3=>
  k () w_3)) (fun _ w_4=>
  zqe substr 0 fun t49=>
  zqe substr 1 fun t51=>
  zul .i64 (s.size:Int) (substr.size:Int) fun t55=>
  zfl .i64 t55 1 fun t56=>
  zc1 (Int×Int) (fun s_3 w_5 k_2=>
  qx (decide (s_3.1 < t56)) (
  joinP (Int×Int) (fun k_3=>
  joinP Int (fun k_4=>
  zqe s s_3.1 fun t62=>
  qx (t62 != t49) (
  zfl .i64 s_3.1 1 fun t67=>
  jv P (Instr.sliceAt qy (Value.string s) (some (Value.int .i64 t67)) (some (Value.int .i64 t56)) none) .str w_5 fun (t69:ByteArray)=>
  qc P zah #[(Value.string t69),(Value.int .u8 t49)] [.int .i64] false w_5 fun (t71:Int) w_6=>
  qx (decide (t71 < 0)) (
  R (.returned (Value.int .i64 (-1))) w_6) (
  zfl .i64 t71 1 fun t76=>
  zfl .i64 s_3.1 t76 fun t77=>
  k_4 t77 w_6)) (
  k_4 s_3.1 w_5)) (fun s_4 w_7=>
  joinP Unit (fun k_5=>
  zfl .i64 s_4 1 fun t80=>
  zqe s t80 fun t81=>
  qx (t81==t51) (
  zfl .i64 s_4 (substr.size:Int) fun t89=>
  jv P (Instr.sliceAt qy (Value.string s) (some (Value.int .i64 s_4)) (some (Value.int .i64 t89)) none) .str w_7 fun (t90:ByteArray)=>
  qx (t90.toList==substr.toList) (
  R (.returned (Value.int .i64 s_4)) w_7) (
  k_5 () w_7)) (
  k_5 () w_7)) (fun _ w_8=>
  zfl .i64 s_4 1 fun t96=>
  zfl .i64 s_3.2 1 fun t98=>
  joinP Bool (fun k_6=>
  ld (.int .i64) (⟨2,0,none⟩:Addr) w_8 fun (t100:Int)=>
  qx (decide ((substr.size:Int)<=t100)) (
  qc P zg2 #[(Value.int .i64 t96)] [.int .i64] false w_8 fun (t105:Int) w_9=>
  k_6 (decide (t98 > t105)) w_9) (
  k_6 false w_8)) (fun s_6 w_10=>
  qx s_6 (
  jv P (Instr.sliceAt qy (Value.string s) (some (Value.int .i64 t96)) none none) .str w_10 fun (t110:ByteArray)=>
  qc P zcj #[(Value.string t110),(Value.string substr)] [.int .i64] false w_10 fun (t112:Int) w_11=>
  qx (decide (t112>=0)) (
  zfl .i64 t112 t96 fun t117=>
  R (.returned (Value.int .i64 t117)) w_11) (
  R (.returned (Value.int .i64 (-1))) w_11)) (
  ld (.int .i64) (⟨2,0,none⟩:Addr) w_10 fun (t119:Int)=>
  qx (decide ((substr.size:Int) > t119)) (
  z2q .i64 t96 4 fun t124=>
  zfl .i64 4 t124 fun t125=>
  qx (decide (t98>=t125)) (
  qx (decide (t96 < t56)) (
  jv P (Instr.sliceAt qy (Value.string s) (some (Value.int .i64 t96)) none none) .str w_10 fun (t135:ByteArray)=>
  qc P zdi #[(Value.string t135),(Value.string substr)] [.int .i64] false w_10 fun (t137:Int) w_12=>
  qx (decide (t137 < 0)) (
  R (.returned (Value.int .i64 (-1))) w_12) (
  zfl .i64 t96 t137 fun t142=>
  R (.returned (Value.int .i64 t142)) w_12)) (
  k_3 (t96,t98) w_10)) (
  k_3 (t96,t98) w_10)) (
  k_3 (t96,t98) w_10)))))) (fun s_7 w_13=>
  k_2 (s_7.1,s_7.2) w_13)) (
  R (.returned (Value.int .i64 (-1))) w_5)) (0,0) w_4)
theorem zf9 {s:ByteArray}{substr:ByteArray}{R:Ending->World->Prop}{w:World}(hT:zdf s substr R w):zx P zbk #[(Value.string s),(Value.string substr)] w R:=
 fnT (.seq .leaf (.seq .leaf (.join [] (.jblk [] (.seq .leaf (.cond (.seq .leaf .leaf) (.seq .leaf (.cond (.seq .leaf .leaf) (.seq .leaf (.cond (.seq .leaf .leaf) (.seq .leaf (.cond (.seq .leaf .leaf) .leaf))))))))) (.seq .leaf (.seq .leaf (.seq .leaf (.seq .leaf (.seq .leaf (.seq (.blk (.loop [(8,.int .i64),(10,.int .i64)] (.seq (.seq .leaf (.cond .leaf .leaf)) (.jblk [(8,.int .i64),(10,.int .i64)] (.join [(8,.int .i64)] (.seq .leaf (.cond (.seq .leaf (.seq (.seq .leaf (.cond (.seq .leaf .leaf) .leaf)) .leaf)) .leaf)) (.join [] (.seq .leaf (.cond (.seq .leaf .leaf) .leaf)) (.seq .leaf (.seq .leaf (.join [(107,.bool)] .leaf (.cond (.seq .leaf (.seq (.seq .leaf (.cond (.seq .leaf .leaf) .leaf)) (.seq .leaf .leaf))) (.seq .leaf (.cond (.seq .leaf (.seq (.seq .leaf (.cond (.seq .leaf .leaf) .leaf)) (.seq .leaf .leaf))) .leaf)))))))))))) (.seq .leaf .leaf)))))))))) Tryz.func245 hT
def zb5 (s:ByteArray) (c:Int) (R:Ending->World->Prop) (w:World):Prop:=
  qc P zbv #[(Value.string s),(Value.int .u8 c)] [.int .i64] false w fun (t7:Int) w_1=>
  R (.returned (Value.int .i64 t7)) w_1
theorem zey {s:ByteArray}{c:Int}{R:Ending->World->Prop}{w:World}(hT:zb5 s c R w):zx P zah #[(Value.string s),(Value.int .u8 c)] w R:=
 fnT (.seq .leaf (.seq .leaf .leaf)) Tryz.func252 hT
theorem zep {e:Array Value->Sem Value}(he:Extern.find Tryz.f257=some e) (args:Array Value) (w:World):(callFunc zbv args).run P w=((e args).run P w).andThen fun v w1=>.ok (.value v) w1:=
 Go.run_callFunc_extern Tryz.func257 (by kernel_rfl) (by kernel_rfl) (by kernel_rfl) he args w
def zb2 (s:Option Addr) (s_l s_c:Nat) (v:ByteArray) (R:Ending->World->Prop) (w:World):Prop:=
  qc P zcg #[(Value.slice s s_l s_c),(Value.string v)] [.int .i64] false w fun (t7:Int) w_1=>
  R (.returned (Value.bool (decide (t7>=0)))) w_1
theorem zeo {s:Option Addr}{s_l s_c:Nat}{v:ByteArray}{R:Ending->World->Prop}{w:World}(hT:zb2 s s_l s_c v R w):zx P zav #[(Value.slice s s_l s_c),(Value.string v)] w R:=
 fnT (.seq .leaf (.seq .leaf .leaf)) Tryz.func161 hT
def zch (s:Option Addr) (s_l s_c:Nat) (v:ByteArray) (R:Ending->World->Prop) (w:World):Prop:=
  zc1 Int (fun s_1 w_1 k=>
  qx (decide (s_1 < (s_l:Int))) (
  ixS s s_l 1 s_1 fun t14=>
  ld .str t14 w_1 fun (t15:ByteArray)=>
  qx (v.toList==t15.toList) (
  R (.returned (Value.int .i64 s_1)) w_1) (
  zfl .i64 s_1 1 fun t18=>
  k t18 w_1)) (
  R (.returned (Value.int .i64 (-1))) w_1)) 0 w
theorem zfn {s:Option Addr}{s_l s_c:Nat}{v:ByteArray}{R:Ending->World->Prop}{w:World}(hT:zch s s_l s_c v R w):zx P zcg #[(Value.slice s s_l s_c),(Value.string v)] w R:=
 fnT (.seq .leaf (.seq (.seq .leaf (.blk (.loop [(8,.int .i64)] (.seq .leaf (.seq (.cond .leaf .leaf) (.seq (.blk (.seq .leaf (.seq .leaf (.cond (.seq .leaf .leaf) .leaf)))) .leaf)))))) (.seq .leaf .leaf))) Tryz.func212 hT
def zcf (s:Option Addr) (s_l s_c:Nat) (R:Ending->World->Prop) (w:World):Prop:=
  qx (Option.isNone s) (
  R (.returned (Value.slice none 0 0)) w) (
  zde P (Instr.buildSlice zu 0 #[]) .slc w fun (t5:(Option Addr×Nat×Nat)) w_1=>
  zde P (Builtin.append_ #[zu,zu] zu #[(Value.slice t5.1 t5.2.1 t5.2.2),(Value.slice s s_l s_c)]) .slc w_1 fun (t7:(Option Addr×Nat×Nat)) w_2=>
  R (.returned (Value.slice t7.1 t7.2.1 t7.2.2)) w_2)
theorem zfo {s:Option Addr}{s_l s_c:Nat}{R:Ending->World->Prop}{w:World}(hT:zcf s s_l s_c R w):zx P zba #[(Value.slice s s_l s_c)] w R:=
 fnT (.seq .leaf (.seq (.seq .leaf (.cond (.seq .leaf .leaf) .leaf)) (.seq .leaf .leaf))) Tryz.func93 hT
def zbw (s:Option Addr) (s_l s_c:Nat) (R:Ending->World->Prop) (w:World):Prop:=
  qx (Option.isNone s) (
  R (.returned (Value.slice none 0 0)) w) (
  zde P (Instr.buildSlice vw 0 #[]) .slc w fun (t5:(Option Addr×Nat×Nat)) w_1=>
  zde P (Builtin.append_ #[vw,vw] vw #[(Value.slice t5.1 t5.2.1 t5.2.2),(Value.slice s s_l s_c)]) .slc w_1 fun (t7:(Option Addr×Nat×Nat)) w_2=>
  R (.returned (Value.slice t7.1 t7.2.1 t7.2.2)) w_2)
theorem zef {s:Option Addr}{s_l s_c:Nat}{R:Ending->World->Prop}{w:World}(hT:zbw s s_l s_c R w):zx P zar #[(Value.slice s s_l s_c)] w R:=
 fnT (.seq .leaf (.seq (.seq .leaf (.cond (.seq .leaf .leaf) .leaf)) (.seq .leaf .leaf))) Tryz.func198 hT
set_option maxRecDepth 100000
def zix (nodes:Int) (bytes:Int) (room:Int) (e:Value) (R:Ending->World->Prop) (w:World):Prop:=
  zam (Value.cells e) zaq w fun b7 w_1=>
  qc P zlh #[] [.bool] false w_1 fun (t21:Bool) w_2=>
  qx (!t21) (
  R (.returned (Value.bool false)) w_2) (
  qc P zkl #[(Value.int .i64 1024)] [.ptr] false w_2 fun (t23:(Option Addr)) w_3=>
  jv P (Instr.build xq #[(0,(Value.int .u8 9))]) .any w_3 fun (t26:Value)=>
  zde P (Instr.buildSlice zlb 1 #[(0,t26)]) .slc w_3 fun (t27:(Option Addr×Nat×Nat)) w_4=>
  qc P zdz #[(Value.pointer t23),(Value.slice t27.1 t27.2.1 t27.2.2),(Value.int .i64 nodes),(Value.int .i64 bytes),(Value.int .i64 room)] [.ptr,.int .i64] true w_4 fun (t31:((Option Addr)×Int)) w_5=>
  qc P zdz #[(Value.pointer none),(Value.slice none 0 0),(Value.int .i64 nodes),(Value.int .i64 bytes),(Value.int .i64 room)] [.ptr,.int .i64] true w_5 fun (t38:((Option Addr)×Int)) w_6=>
  qc P zdz #[(Value.pointer t23),(Value.slice none 0 0),(Value.int .i64 nodes),(Value.int .i64 bytes),(Value.int .i64 room)] [.ptr,.int .i64] true w_6 fun (t46:((Option Addr)×Int)) w_7=>
  joinP Bool (fun k=>
  qx (decide (nodes < 0)) (
  k true w_7) (
  qx (decide (nodes > 128)) (
  k true w_7) (
  qx (decide (bytes < 0)) (
  k true w_7) (
  qx (decide (bytes > 8192)) (
  k true w_7) (
  qx (decide (room < 0)) (
  k true w_7) (
  k (decide (room > 8192)) w_7)))))) (fun s w_8=>
  joinP Unit (fun k_1=>
  qx s (
  qx (t31.2 != 1) (
  R (.returned (Value.bool false)) w_8) (
  qx (t38.2 != 1) (
  R (.returned (Value.bool false)) w_8) (
  qx (t46.2 != 1) (
  R (.returned (Value.bool false)) w_8) (
  qx (!(Option.isNone t46.1)) (
  R (.returned (Value.bool false)) w_8) (
  qx (!s) (
  qx (t31.2 != 50) (
  R (.returned (Value.bool false)) w_8) (
  qx (t38.2 != 7) (
  R (.returned (Value.bool false)) w_8) (
  qx (t46.2 != 0) (
  R (.returned (Value.bool false)) w_8) (
  qx (Option.isNone t46.1) (
  R (.returned (Value.bool false)) w_8) (
  k_1 () w_8))))) (
  k_1 () w_8)))))) (
  qx (!s) (
  qx (t31.2 != 50) (
  R (.returned (Value.bool false)) w_8) (
  qx (t38.2 != 7) (
  R (.returned (Value.bool false)) w_8) (
  qx (t46.2 != 0) (
  R (.returned (Value.bool false)) w_8) (
  qx (Option.isNone t46.1) (
  R (.returned (Value.bool false)) w_8) (
  k_1 () w_8))))) (
  k_1 () w_8))) (fun _ w_9=>
  ldA P 8 (⟨b7,0,none⟩:Addr) w_9 fun t109=>
  qc P jo #[(Value.pointer none),(Value.agg t109)] [.any] false w_9 fun (t110:Value) w_10=>
  zam (zc P ql) ql w_10 fun b18 w_11=>
  jy P (storeVar ql (⟨b18,0,none⟩:Addr) t110) w_11 fun w_12=>
  qc P zax #[(Value.pointer none),(Value.int .i64 1),(Value.int .i64 1)] [.int .i64,.any] true w_12 fun (t113:(Int×Value)) w_13=>
  zam (zc P zf) zf w_13 fun b20 w_14=>
  jy P (storeVar zf (⟨b20,0,none⟩:Addr) t113.2) w_14 fun w_15=>
  ld (.int .i64) (⟨b18,0,none⟩:Addr) w_15 fun (t117:Int)=>
  ld (.int .i64) (⟨b7,0,none⟩:Addr) w_15 fun (t119:Int)=>
  qx (t117==t119) (
  ld (.int .i64) (⟨b18,1,none⟩:Addr) w_15 fun (t123:Int)=>
  ld (.int .i64) (⟨b7,1,none⟩:Addr) w_15 fun (t125:Int)=>
  qx (t123==t125) (
  ldA P 5 (⟨b18,2,none⟩:Addr) w_15 fun t130=>
  jv P (Instr.build zf #[(0,(Value.int .i64 7))]) .any w_15 fun (t131:Value)=>
  qc P znx #[(Value.agg t130),t131] [.bool] false w_15 fun (t132:Bool) w_16=>
  qx t132 (
  qc P zbh #[(Value.pointer none)] [.int .i64] false w_16 fun (t136:Int) w_17=>
  qx (t136==0) (
  qx (t113.1==0) (
  qc P za1 #[(Value.pointer none)] [.slc] false w_17 fun (t145:(Option Addr×Nat×Nat)) w_18=>
  qx ((t145.2.1:Int)==0) (
  qc P zcu #[(Value.pointer none)] [.slc] false w_18 fun (t151:(Option Addr×Nat×Nat)) w_19=>
  qx ((t151.2.1:Int)==0) (
  qc P zbj #[(Value.pointer none)] [.slc] false w_19 fun (t157:(Option Addr×Nat×Nat)) w_20=>
  qx ((t157.2.1:Int)==0) (
  qc P zco #[(Value.pointer none)] [.any] false w_20 fun (t163:Value) w_21=>
  jv P (Instr.build xq #[]) .any w_21 fun (t164:Value)=>
  jv P (eqM .eql xq (.tmp 163) (.tmp 164) t163 t164) .bool w_21 fun (t165:Bool)=>
  qx t165 (
  qc P zcw #[(Value.pointer none)] [.ptr] false w_21 fun (t169:(Option Addr)) w_22=>
  R (.returned (Value.bool (Option.isNone t169))) w_22) (
  R (.returned (Value.bool false)) w_21)) (
  R (.returned (Value.bool false)) w_20)) (
  R (.returned (Value.bool false)) w_19)) (
  R (.returned (Value.bool false)) w_18)) (
  R (.returned (Value.bool false)) w_17)) (
  R (.returned (Value.bool false)) w_17)) (
  R (.returned (Value.bool false)) w_16)) (
  R (.returned (Value.bool false)) w_15)) (
  R (.returned (Value.bool false)) w_15))))
theorem znr {nodes:Int}{bytes:Int}{room:Int}{e:Value}{R:Ending->World->Prop}{w:World}(hT:zix nodes bytes room e R w):zx P zit #[(Value.int .i64 nodes),(Value.int .i64 bytes),(Value.int .i64 room),e] w R:=
 fnT (.seq .leaf (.seq (.seq .leaf (.cond (.seq .leaf .leaf) .leaf)) (.seq .leaf (.seq .leaf (.seq .leaf (.seq .leaf (.join [(16,.bool)] .leaf (.join [] (.seq .leaf (.cond (.seq .leaf .leaf) .leaf)) (.seq .leaf (.seq .leaf (.seq .leaf (.seq .leaf .leaf)))))))))))) Tryz.func4 hT
def zp5  (R:Ending->World->Prop) (w:World):Prop:=
  qc P zkl #[(Value.int .i64 9)] [.ptr] false w fun (t9:(Option Addr)) w_1=>
  qc P zdz #[(Value.pointer t9),(Value.slice none 0 0),(Value.int .i64 9),(Value.int .i64 99),(Value.int .i64 99)] [.ptr,.int .i64] true w_1 fun (t10:((Option Addr)×Int)) w_2=>
  joinP Unit (fun k=>
  qx (t10.2 != 0) (
  R (.returned (Value.bool false)) w_2) (
  qx (Option.isNone t10.1) (
  R (.returned (Value.bool false)) w_2) (
  k () w_2))) (fun _ w_3=>
  jv P (Instr.build xg #[(0,(Value.int .i64 1)),(1,(Value.string (ByteArray.mk #[47,97])))]) .any w_3 fun (t19:Value)=>
  zam (zc P xg) xg w_3 fun b3 w_4=>
  jy P (storeVar xg (⟨b3,0,none⟩:Addr) t19) w_4 fun w_5=>
  ldA P 6 (⟨b3,0,none⟩:Addr) w_5 fun t21=>
  jv P (Instr.build zaq #[(0,(Value.int .i64 1)),(1,(Value.int .i64 1)),(2,(Value.agg t21))]) .any w_5 fun (t22:Value)=>
  qc P jo #[(Value.pointer t10.1),t22] [.any] false w_5 fun (t23:Value) w_6=>
  zam (zc P ql) ql w_6 fun b4 w_7=>
  jy P (storeVar ql (⟨b4,0,none⟩:Addr) t23) w_7 fun w_8=>
  ldA P 6 (⟨b3,0,none⟩:Addr) w_8 fun t25=>
  jv P (Instr.build zaq #[(0,(Value.int .i64 1)),(1,(Value.int .i64 1)),(2,(Value.agg t25))]) .any w_8 fun (t26:Value)=>
  qc P jo #[(Value.pointer t10.1),t26] [.any] false w_8 fun (t27:Value) w_9=>
  zam (zc P ql) ql w_9 fun b5 w_10=>
  jy P (storeVar ql (⟨b5,0,none⟩:Addr) t27) w_10 fun w_11=>
  ldA P 6 (⟨b3,0,none⟩:Addr) w_11 fun t29=>
  jv P (Instr.build zaq #[(0,(Value.int .i64 1)),(1,(Value.int .i64 2)),(2,(Value.agg t29))]) .any w_11 fun (t30:Value)=>
  qc P jo #[(Value.pointer t10.1),t30] [.any] false w_11 fun (t31:Value) w_12=>
  zam (zc P ql) ql w_12 fun b6 w_13=>
  jy P (storeVar ql (⟨b6,0,none⟩:Addr) t31) w_13 fun w_14=>
  ldA P 6 (⟨b3,0,none⟩:Addr) w_14 fun t33=>
  jv P (Instr.build zaq #[(0,(Value.int .i64 9)),(1,(Value.int .i64 1)),(2,(Value.agg t33))]) .any w_14 fun (t34:Value)=>
  qc P jo #[(Value.pointer t10.1),t34] [.any] false w_14 fun (t35:Value) w_15=>
  zam (zc P ql) ql w_15 fun b7 w_16=>
  jy P (storeVar ql (⟨b7,0,none⟩:Addr) t35) w_16 fun w_17=>
  ld (.int .i64) (⟨b4,2,none⟩:Addr) w_17 fun (t38:Int)=>
  qx (t38==0) (
  ld (.int .i64) (⟨b5,2,none⟩:Addr) w_17 fun (t43:Int)=>
  qx (t43==0) (
  ld (.int .i64) (⟨b6,2,none⟩:Addr) w_17 fun (t49:Int)=>
  qx (t49==5) (
  ld (.int .i64) (⟨b7,2,none⟩:Addr) w_17 fun (t55:Int)=>
  qx (t55==1) (
  qc P zbh #[(Value.pointer t10.1)] [.int .i64] false w_17 fun (t60:Int) w_18=>
  qx (t60==4) (
  qc P za1 #[(Value.pointer t10.1)] [.slc] false w_18 fun (t65:(Option Addr×Nat×Nat)) w_19=>
  R (.returned (Value.bool ((t65.2.1:Int)==1))) w_19) (
  R (.returned (Value.bool false)) w_18)) (
  R (.returned (Value.bool false)) w_17)) (
  R (.returned (Value.bool false)) w_17)) (
  R (.returned (Value.bool false)) w_17)) (
  R (.returned (Value.bool false)) w_17))
theorem zuj  {R:Ending->World->Prop}{w:World}(hT:zp5  R w):zx P zlh #[] w R:=
 fnT (.seq .leaf (.seq .leaf (.join [] (.seq .leaf (.cond (.seq .leaf .leaf) .leaf)) (.seq .leaf (.seq .leaf (.seq .leaf (.seq .leaf (.seq .leaf (.seq .leaf .leaf))))))))) Tryz.func16 hT
def zmh (s:Option Addr) (lowers:Option Addr) (lowers_l lowers_c:Nat) (nodes:Int) (bytes:Int) (room:Int) (R:Ending->World->Prop) (w:World):Prop:=
  qc P zlk #[(Value.int .i64 nodes),(Value.int .i64 bytes)] [.ptr,.int .i64] true w fun (t19:((Option Addr)×Int)) w_1=>
  qx (t19.2 != 0) (
  R (.returned (Value.tuple #[(Value.pointer none),(Value.int .i64 t19.2)])) w_1) (
  qc P zhi #[(Value.int .i64 room)] [.ptr,.int .i64] true w_1 fun (t27:((Option Addr)×Int)) w_2=>
  qx (t27.2 != 0) (
  R (.returned (Value.tuple #[(Value.pointer none),(Value.int .i64 t27.2)])) w_2) (
  qc P zfp #[(Value.pointer s),(Value.slice lowers lowers_l lowers_c),(Value.pointer t19.1)] [.ptr,.int .i64] true w_2 fun (t37:((Option Addr)×Int)) w_3=>
  qx (t37.2 != 0) (
  R (.returned (Value.tuple #[(Value.pointer none),(Value.int .i64 t37.2)])) w_3) (
  jv P (Instr.build za2 #[(1,(Value.pointer t37.1)),(2,(Value.pointer t27.1))]) .any w_3 fun (t45:Value)=>
  zam (Value.cells t45) za2 w_3 fun b46 w_4=>
  R (.returned (Value.tuple #[(Value.pointer (some (⟨b46,0,none⟩:Addr))),(Value.int .i64 0)])) w_4)))
theorem zp9 {s:Option Addr}{lowers:Option Addr}{lowers_l lowers_c:Nat}{nodes:Int}{bytes:Int}{room:Int}{R:Ending->World->Prop}{w:World}(hT:zmh s lowers lowers_l lowers_c nodes bytes room R w):zx P zdz #[(Value.pointer s),(Value.slice lowers lowers_l lowers_c),(Value.int .i64 nodes),(Value.int .i64 bytes),(Value.int .i64 room)] w R:=
 fnT (.seq .leaf (.seq .leaf (.seq (.seq .leaf (.cond (.seq .leaf .leaf) .leaf)) (.seq .leaf (.seq (.seq .leaf (.cond (.seq .leaf .leaf) .leaf)) (.seq .leaf (.seq (.seq .leaf (.cond (.seq .leaf .leaf) .leaf)) (.seq .leaf .leaf)))))))) Tryz.func17 hT
def zcm (m:Option Addr) (e:Value) (R:Ending->World->Prop) (w:World):Prop:=
  zam (Value.cells e) zaq w fun b3 w_1=>
  zam (zc P ql) ql w_1 fun b4 w_2=>
  ld (.int .i64) (⟨b3,0,none⟩:Addr) w_2 fun (t11:Int)=>
  ld (.int .i64) (⟨b3,1,none⟩:Addr) w_2 fun (t13:Int)=>
  jv P (Instr.build ql #[(0,(Value.int .i64 t11)),(1,(Value.int .i64 t13))]) .any w_2 fun (t14:Value)=>
  zam (zc P ql) ql w_2 fun b5 w_3=>
  jy P (storeVar ql (⟨b5,0,none⟩:Addr) t14) w_3 fun w_4=>
  qx (Option.isNone m) (
  stC (⟨b5,2,none⟩:Addr) (Value.int .i64 7) w_4 fun w_5=>
  ldA P 7 (⟨b5,0,none⟩:Addr) w_5 fun t20=>
  jy P (storeVar ql (⟨b4,0,none⟩:Addr) (Value.agg t20)) w_5 fun w_6=>
  ldA P 7 (⟨b4,0,none⟩:Addr) w_6 fun t4=>
  R (.returned (Value.agg t4)) w_6) (
  zq m fun p=>
  ld (.int .i64) p w_4 fun (t25:Int)=>
  qx (decide (t25>=1099511627776)) (
  stC (⟨b5,2,none⟩:Addr) (Value.int .i64 8) w_4 fun w_7=>
  ldA P 7 (⟨b5,0,none⟩:Addr) w_7 fun t29=>
  jy P (storeVar ql (⟨b4,0,none⟩:Addr) (Value.agg t29)) w_7 fun w_8=>
  ldA P 7 (⟨b4,0,none⟩:Addr) w_8 fun t4_1=>
  R (.returned (Value.agg t4_1)) w_8) (
  zq m fun p_1=>
  ld (.int .i64) p_1 w_4 fun (t33:Int)=>
  zfl .i64 t33 1 fun t34=>
  zq m fun p_2=>
  stC p_2 (Value.int .i64 t34) w_4 fun w_9=>
  ld (.int .i64) (⟨b3,0,none⟩:Addr) w_9 fun (t40:Int)=>
  ld (.int .i64) (⟨b3,1,none⟩:Addr) w_9 fun (t42:Int)=>
  qc P zax #[(Value.pointer m),(Value.int .i64 t40),(Value.int .i64 t42)] [.int .i64,.any] true w_9 fun (t43:(Int×Value)) w_10=>
  zam (zc P zf) zf w_10 fun b7 w_11=>
  jy P (storeVar zf (⟨b7,0,none⟩:Addr) t43.2) w_11 fun w_12=>
  joinP Unit (fun k=>
  joinP Unit (fun k_1=>
  joinP Unit (fun k_2=>
  joinP Unit (fun k_3=>
  qx (t43.1==0) (
  stC (⟨b5,2,none⟩:Addr) (Value.int .i64 1) w_12 fun w_13=>
  k_1 () w_13) (
  qx (t43.1==4) (
  k_3 () w_12) (
  qx (t43.1==3) (
  k_3 () w_12) (
  qx (t43.1==2) (
  ldA P 5 (⟨b7,0,none⟩:Addr) w_12 fun t59=>
  jy P (storeVar zf (⟨b5,2,none⟩:Addr) (Value.agg t59)) w_12 fun w_14=>
  k_1 () w_14) (
  ldA P 6 (⟨b3,2,none⟩:Addr) w_12 fun t63=>
  qc P zd2 #[(Value.pointer m),(Value.agg t63)] [.any] false w_12 fun (t64:Value) w_15=>
  jy P (storeVar zf (⟨b5,2,none⟩:Addr) t64) w_15 fun w_16=>
  ldA P 5 (⟨b5,2,none⟩:Addr) w_16 fun t68=>
  qc P zpo #[(Value.agg t68)] [.slc,.int .i64] true w_16 fun (t69:((Option Addr×Nat×Nat)×Int)) w_17=>
  zbz w_17 fun w_18=>
  zq m fun p_3=>
  zq m fun p_4=>
  ld .ptr (Addr.add p_3 2) w_18 fun (t75:(Option Addr))=>
  ld (.int .i64) (⟨b3,0,none⟩:Addr) w_18 fun (t77:Int)=>
  ld (.int .i64) (⟨b3,1,none⟩:Addr) w_18 fun (t79:Int)=>
  ld (.int .i64) p_4 w_18 fun (t83:Int)=>
  jv P (convert je qy (Value.slice t69.1.1 t69.1.2.1 t69.1.2.2)) .str w_18 fun (t85:ByteArray)=>
  qc P zc6 #[(Value.pointer t75),(Value.int .i64 t77),(Value.int .i64 t79),(Value.int .i64 t83),(Value.string t85)] [.int .i64] false w_18 fun (_:Int) w_19=>
  k_1 () w_19))))) (fun _ w_20=>
  k_2 () w_20)) (fun _ w_21=>
  stC (⟨b5,2,none⟩:Addr) (Value.int .i64 140) w_21 fun w_22=>
  k_1 () w_22)) (fun _ w_23=>
  k () w_23)) (fun _ w_24=>
  ldA P 7 (⟨b5,0,none⟩:Addr) w_24 fun t87=>
  jy P (storeVar ql (⟨b4,0,none⟩:Addr) (Value.agg t87)) w_24 fun w_25=>
  ldA P 7 (⟨b4,0,none⟩:Addr) w_25 fun t4_2=>
  R (.returned (Value.agg t4_2)) w_25)))
theorem zej {m:Option Addr}{e:Value}{R:Ending->World->Prop}{w:World}(hT:zcm m e R w):zx P jo #[(Value.pointer m),e] w R:=
 fnT (.seq .leaf (.seq .leaf (.seq (.blk (.seq .leaf (.cond (.seq .leaf (.seq .leaf .leaf)) (.seq .leaf (.cond (.seq .leaf (.seq .leaf .leaf)) .leaf))))) (.seq .leaf (.seq .leaf (.join [] (.seq .leaf (.jblk [] (.seq (.blk (.seq (.blk (.join [] (.jblk [] (.blk (.seq (.blk (.seq (.seq (.seq .leaf (.cond .leaf .leaf)) (.seq (.seq .leaf (.cond .leaf .leaf)) (.seq (.seq .leaf (.cond .leaf .leaf)) (.seq .leaf (.cond .leaf .leaf))))) .leaf)) (.seq .leaf .leaf)))) (.seq .leaf .leaf))) (.seq .leaf .leaf))) (.seq (.seq .leaf (.seq .leaf (.tree (.op 0 [] (.op 1 [] (.op 2 [] (.op 4 [] (.op 6 [] (.op 8 [] (.op 9 [] (.op 10 [] (.op 12 [] (.op 3 [] (.op 5 [] (.op 7 [] (.op 11 [] (.op 13 [] (.op 14 [] .done)))))))))))))))))) .leaf)))) (.seq .leaf .leaf))))))) Tryz.func18 hT
def zcv (m:Option Addr) (client:Int) (number:Int) (R:Ending->World->Prop) (w:World):Prop:=
  zam (zc P zf) zf w fun b7 w_1=>
  qx (Option.isNone m) (
  jv P (Instr.build zf #[]) .any w_1 fun (t14:Value)=>
  jy P (storeVar zf (⟨b7,0,none⟩:Addr) t14) w_1 fun w_2=>
  ldA P 5 (⟨b7,0,none⟩:Addr) w_2 fun t7=>
  R (.returned (Value.tuple #[(Value.int .i64 0),(Value.agg t7)])) w_2) (
  zq m fun p=>
  ld .ptr (Addr.add p 2) w_1 fun (t19:(Option Addr))=>
  qc P zb8 #[(Value.pointer t19),(Value.int .i64 client),(Value.int .i64 number)] [.int .i64,.str] true w_1 fun (t22:(Int×ByteArray)) w_3=>
  qx (t22.1 != 2) (
  jv P (Instr.build zf #[]) .any w_3 fun (t28:Value)=>
  jy P (storeVar zf (⟨b7,0,none⟩:Addr) t28) w_3 fun w_4=>
  ldA P 5 (⟨b7,0,none⟩:Addr) w_4 fun t7_1=>
  R (.returned (Value.tuple #[(Value.int .i64 t22.1),(Value.agg t7_1)])) w_4) (
  zde P (convert qy je (Value.string t22.2)) .slc w_3 fun (t31:(Option Addr×Nat×Nat)) w_5=>
  qc P zlu #[(Value.slice t31.1 t31.2.1 t31.2.2)] [.any,.int .i64] true w_5 fun (t32:(Value×Int)) w_6=>
  zam (zc P zf) zf w_6 fun b10 w_7=>
  jy P (storeVar zf (⟨b10,0,none⟩:Addr) t32.1) w_7 fun w_8=>
  zbz w_8 fun w_9=>
  ldA P 5 (⟨b10,0,none⟩:Addr) w_9 fun t36=>
  jy P (storeVar zf (⟨b7,0,none⟩:Addr) (Value.agg t36)) w_9 fun w_10=>
  ldA P 5 (⟨b7,0,none⟩:Addr) w_10 fun t7_2=>
  R (.returned (Value.tuple #[(Value.int .i64 t22.1),(Value.agg t7_2)])) w_10))
theorem zen {m:Option Addr}{client:Int}{number:Int}{R:Ending->World->Prop}{w:World}(hT:zcv m client number R w):zx P zax #[(Value.pointer m),(Value.int .i64 client),(Value.int .i64 number)] w R:=
 fnT (.seq .leaf (.seq (.seq .leaf (.cond (.seq .leaf .leaf) .leaf)) (.seq .leaf (.seq (.seq .leaf (.cond (.seq .leaf .leaf) .leaf)) (.seq .leaf (.seq (.tree (.op 0 [] (.op 2 [] (.op 1 [] (.op 3 [] .done))))) .leaf)))))) Tryz.func19 hT
def zd3 (m:Option Addr) (R:Ending->World->Prop) (w:World):Prop:=
  qx (Option.isNone m) (
  R (.returned (Value.int .i64 0)) w) (
  zq m fun p=>
  ld (.int .i64) p w fun (t8:Int)=>
  R (.returned (Value.int .i64 t8)) w)
theorem zfx {m:Option Addr}{R:Ending->World->Prop}{w:World}(hT:zd3 m R w):zx P zbh #[(Value.pointer m)] w R:=
 fnT (.seq .leaf (.seq (.seq .leaf (.cond (.seq .leaf .leaf) .leaf)) (.seq .leaf .leaf))) Tryz.func21 hT
def zc8 (m:Option Addr) (R:Ending->World->Prop) (w:World):Prop:=
  qx (Option.isNone m) (
  R (.returned (Value.slice none 0 0)) w) (
  zq m fun p=>
  ld .ptr (Addr.add p 1) w fun (t8:(Option Addr))=>
  qc P zdg #[(Value.pointer t8)] [.slc] false w fun (t9:(Option Addr×Nat×Nat)) w_1=>
  R (.returned (Value.slice t9.1 t9.2.1 t9.2.2)) w_1)
theorem zfd {m:Option Addr}{R:Ending->World->Prop}{w:World}(hT:zc8 m R w):zx P za1 #[(Value.pointer m)] w R:=
 fnT (.seq .leaf (.seq (.seq .leaf (.cond (.seq .leaf .leaf) .leaf)) (.seq .leaf .leaf))) Tryz.func22 hT
def zfa (m:Option Addr) (R:Ending->World->Prop) (w:World):Prop:=
  qx (Option.isNone m) (
  R (.returned (Value.slice none 0 0)) w) (
  zq m fun p=>
  ld .ptr (Addr.add p 2) w fun (t8:(Option Addr))=>
  qc P zkr #[(Value.pointer t8)] [.slc] false w fun (t9:(Option Addr×Nat×Nat)) w_1=>
  R (.returned (Value.slice t9.1 t9.2.1 t9.2.2)) w_1)
theorem zhz {m:Option Addr}{R:Ending->World->Prop}{w:World}(hT:zfa m R w):zx P zcu #[(Value.pointer m)] w R:=
 fnT (.seq .leaf (.seq (.seq .leaf (.cond (.seq .leaf .leaf) .leaf)) (.seq .leaf .leaf))) Tryz.func23 hT
def ze3 (m:Option Addr) (R:Ending->World->Prop) (w:World):Prop:=
  qx (Option.isNone m) (
  R (.returned (Value.slice none 0 0)) w) (
  zam (zc P zdy) zdy w fun b3 w_1=>
  zq m fun p=>
  ld (.int .i64) p w_1 fun (t9:Int)=>
  cvI .u64 t9 fun t10=>
  qc P zbn #[(Value.pointer (some (⟨b3,0,none⟩:Addr))),(Value.int .u64 t10)] [] true w_1 fun (_:Unit) w_2=>
  zq m fun p_1=>
  ld .ptr (Addr.add p_1 1) w_2 fun (t15:(Option Addr))=>
  qc P zlf #[(Value.pointer t15)] [.ptr] false w_2 fun (t16:(Option Addr)) w_3=>
  qc P zks #[(Value.pointer t16)] [.slc] false w_3 fun (t17:(Option Addr×Nat×Nat)) w_4=>
  jv P (convert je qy (Value.slice t17.1 t17.2.1 t17.2.2)) .str w_4 fun (t18:ByteArray)=>
  qc P zcc #[(Value.pointer (some (⟨b3,0,none⟩:Addr))),(Value.string t18)] [] true w_4 fun (_:Unit) w_5=>
  zq m fun p_2=>
  ld .ptr (Addr.add p_2 2) w_5 fun (t23:(Option Addr))=>
  qc P zi6 #[(Value.pointer t23)] [.slc] false w_5 fun (t24:(Option Addr×Nat×Nat)) w_6=>
  jv P (convert je qy (Value.slice t24.1 t24.2.1 t24.2.2)) .str w_6 fun (t25:ByteArray)=>
  qc P zcc #[(Value.pointer (some (⟨b3,0,none⟩:Addr))),(Value.string t25)] [] true w_6 fun (_:Unit) w_7=>
  qc P zd9 #[(Value.pointer (some (⟨b3,0,none⟩:Addr)))] [.slc] false w_7 fun (t27:(Option Addr×Nat×Nat)) w_8=>
  R (.returned (Value.slice t27.1 t27.2.1 t27.2.2)) w_8)
theorem zhs {m:Option Addr}{R:Ending->World->Prop}{w:World}(hT:ze3 m R w):zx P zbj #[(Value.pointer m)] w R:=
 fnT (.seq .leaf (.seq (.seq .leaf (.cond (.seq .leaf .leaf) .leaf)) (.seq .leaf (.seq .leaf (.seq .leaf (.seq .leaf (.seq .leaf .leaf))))))) Tryz.func24 hT
def zeq (m:Option Addr) (R:Ending->World->Prop) (w:World):Prop:=
  zam (zc P xq) xq w fun b2 w_1=>
  qx (Option.isNone m) (
  jv P (Instr.build xq #[]) .any w_1 fun (t5:Value)=>
  jy P (storeVar xq (⟨b2,0,none⟩:Addr) t5) w_1 fun w_2=>
  ldA P 32 (⟨b2,0,none⟩:Addr) w_2 fun t2=>
  R (.returned (Value.agg t2)) w_2) (
  qc P zbj #[(Value.pointer m)] [.slc] false w_1 fun (t7:(Option Addr×Nat×Nat)) w_3=>
  qc P zs9 #[(Value.slice t7.1 t7.2.1 t7.2.2)] [.any] false w_3 fun (t8:Value) w_4=>
  jy P (storeVar xq (⟨b2,0,none⟩:Addr) t8) w_4 fun w_5=>
  ldA P 32 (⟨b2,0,none⟩:Addr) w_5 fun t2_1=>
  R (.returned (Value.agg t2_1)) w_5)
theorem zhy {m:Option Addr}{R:Ending->World->Prop}{w:World}(hT:zeq m R w):zx P zco #[(Value.pointer m)] w R:=
 fnT (.seq .leaf (.seq (.seq .leaf (.cond (.seq .leaf .leaf) .leaf)) (.seq .leaf .leaf))) Tryz.func25 hT
def zeu (m:Option Addr) (R:Ending->World->Prop) (w:World):Prop:=
  qx (Option.isNone m) (
  R (.returned (Value.pointer none)) w) (
  zbz w fun w_1=>
  zq m fun p=>
  zq m fun p_1=>
  zq m fun p_2=>
  ld (.int .i64) p w_1 fun (t8:Int)=>
  ld .ptr (Addr.add p_1 1) w_1 fun (t12:(Option Addr))=>
  ld .ptr (Addr.add p_2 2) w_1 fun (t17:(Option Addr))=>
  qc P zld #[(Value.pointer t12)] [.ptr] false w_1 fun (t13:(Option Addr)) w_2=>
  ((ld .ptr (Addr.add p_2 2) w_2 fun (t17_1:(Option Addr))=>
  (Value.pointer t17_1)=(Value.pointer t17)) /\
  ((ld (.int .i64) p w_2 fun (t8_1:Int)=>
  (Value.int .i64 t8_1)=(Value.int .i64 t8)) /\
  qc P zjd #[(Value.pointer t17)] [.ptr] false w_2 fun (t18:(Option Addr)) w_3=>
  ((ld (.int .i64) p w_3 fun (t8_2:Int)=>
  (Value.int .i64 t8_2)=(Value.int .i64 t8)) /\
  jv P (Instr.build za2 #[(0,(Value.int .i64 t8)),(1,(Value.pointer t13)),(2,(Value.pointer t18))]) .any w_3 fun (t19:Value)=>
  zam (Value.cells t19) za2 w_3 fun b20 w_4=>
  R (.returned (Value.pointer (some (⟨b20,0,none⟩:Addr)))) w_4))))
theorem zhu {m:Option Addr}{R:Ending->World->Prop}{w:World}(hT:zeu m R w):zx P zcw #[(Value.pointer m)] w R:=
 fnT (.seq .leaf (.seq (.seq .leaf (.cond (.seq .leaf .leaf) .leaf)) (.seq (.tree (.op 0 [] (.op 1 [] (.op 2 [] (.op 4 [] (.op 5 [] (.op 6 [] (.op 9 [] (.op 10 [] (.op 11 [] (.op 3 [] (.op 7 [] (.op 12 [] (.op 8 [3,12] (.op 13 [3] (.op 14 [] (.op 15 [] (.op 16 [] .done)))))))))))))))))) .leaf))) Tryz.func26 hT
def zgf (m:Option Addr) (o:Value) (R:Ending->World->Prop) (w:World):Prop:=
  zam (Value.cells o) xg w fun b3 w_1=>
  zam (zc P zf) zf w_1 fun b4 w_2=>
  joinP Unit (fun k=>
  ld (.int .i64) (⟨b3,0,none⟩:Addr) w_2 fun (t8:Int)=>
  qx (t8==11) (
  ldA P 6 (⟨b3,0,none⟩:Addr) w_2 fun t11=>
  qc P zkb #[(Value.agg t11)] [.int .i64] false w_2 fun (t12:Int) w_3=>
  qx (t12==0) (
  zbz w_3 fun w_4=>
  zq m fun p=>
  ld .ptr (Addr.add p 2) w_4 fun (t18:(Option Addr))=>
  ld (.int .i64) (⟨b3,4,none⟩:Addr) w_4 fun (t20:Int)=>
  qc P zi5 #[(Value.pointer t18),(Value.int .i64 t20)] [.bool] false w_4 fun (t21:Bool) w_5=>
  qx t21 (
  jv P (Instr.build zf #[(2,(Value.int .i64 1))]) .any w_5 fun (t22:Value)=>
  jy P (storeVar zf (⟨b4,0,none⟩:Addr) t22) w_5 fun w_6=>
  ldA P 5 (⟨b4,0,none⟩:Addr) w_6 fun t4=>
  R (.returned (Value.agg t4)) w_6) (
  jv P (Instr.build zf #[]) .any w_5 fun (t23:Value)=>
  jy P (storeVar zf (⟨b4,0,none⟩:Addr) t23) w_5 fun w_7=>
  ldA P 5 (⟨b4,0,none⟩:Addr) w_7 fun t4_1=>
  R (.returned (Value.agg t4_1)) w_7)) (
  k () w_3)) (
  k () w_2)) (fun _ w_8=>
  zbz w_8 fun w_9=>
  zq m fun p_1=>
  ld .ptr (Addr.add p_1 1) w_9 fun (t28:(Option Addr))=>
  ldA P 6 (⟨b3,0,none⟩:Addr) w_9 fun t29=>
  ((qc P zd8 #[(Value.pointer t28),(Value.agg t29)] [.any,.any] true w_9 fun (t30:(Value×Value)) w_10=>
  zam (zc P zf) zf w_10 fun b5 w_11=>
  ((ldA P 6 (⟨b3,0,none⟩:Addr) w_11 fun t29_1=>
  (Value.agg t29_1)=(Value.agg t29)) /\
  ((ld .ptr (Addr.add p_1 1) w_11 fun (t28_1:(Option Addr))=>
  (Value.pointer t28_1)=(Value.pointer t28)) /\
  jy P (storeVar zf (⟨b5,0,none⟩:Addr) t30.1) w_11 fun w_12=>
  ld (.int .i64) (⟨b5,0,none⟩:Addr) w_12 fun (t35:Int)=>
  qc P zhx #[t30.2,(Value.int .i64 t35)] [.bool] false w_12 fun (t36:Bool) w_13=>
  qx (!t36) (
  qc P zjq #[t30.2] [.int .i64] false w_13 fun (t39:Int) w_14=>
  jv P (Instr.build zf #[(0,(Value.int .i64 t39))]) .any w_14 fun (t40:Value)=>
  jy P (storeVar zf (⟨b4,0,none⟩:Addr) t40) w_14 fun w_15=>
  ldA P 5 (⟨b4,0,none⟩:Addr) w_15 fun t4_2=>
  R (.returned (Value.agg t4_2)) w_15) (
  ldA P 5 (⟨b5,0,none⟩:Addr) w_13 fun t41=>
  jy P (storeVar zf (⟨b4,0,none⟩:Addr) (Value.agg t41)) w_13 fun w_16=>
  ldA P 5 (⟨b4,0,none⟩:Addr) w_16 fun t4_3=>
  R (.returned (Value.agg t4_3)) w_16)))) /\
  (zam (zc P zf) zf w_9 fun b5_1 w_17=>
  ((ldA P 6 (⟨b3,0,none⟩:Addr) w_17 fun t29_2=>
  (Value.agg t29_2)=(Value.agg t29)) /\
  ((ld .ptr (Addr.add p_1 1) w_17 fun (t28_2:(Option Addr))=>
  (Value.pointer t28_2)=(Value.pointer t28)) /\
  qc P zd8 #[(Value.pointer t28),(Value.agg t29)] [.any,.any] true w_17 fun (t30_1:(Value×Value)) w_18=>
  jy P (storeVar zf (⟨b5_1,0,none⟩:Addr) t30_1.1) w_18 fun w_19=>
  ld (.int .i64) (⟨b5_1,0,none⟩:Addr) w_19 fun (t35_1:Int)=>
  qc P zhx #[t30_1.2,(Value.int .i64 t35_1)] [.bool] false w_19 fun (t36_1:Bool) w_20=>
  qx (!t36_1) (
  qc P zjq #[t30_1.2] [.int .i64] false w_20 fun (t39_1:Int) w_21=>
  jv P (Instr.build zf #[(0,(Value.int .i64 t39_1))]) .any w_21 fun (t40_1:Value)=>
  jy P (storeVar zf (⟨b4,0,none⟩:Addr) t40_1) w_21 fun w_22=>
  ldA P 5 (⟨b4,0,none⟩:Addr) w_22 fun t4_4=>
  R (.returned (Value.agg t4_4)) w_22) (
  ldA P 5 (⟨b5_1,0,none⟩:Addr) w_20 fun t41_1=>
  jy P (storeVar zf (⟨b4,0,none⟩:Addr) (Value.agg t41_1)) w_20 fun w_23=>
  ldA P 5 (⟨b4,0,none⟩:Addr) w_23 fun t4_5=>
  R (.returned (Value.agg t4_5)) w_23))))))
theorem zjr {m:Option Addr}{o:Value}{R:Ending->World->Prop}{w:World}(hT:zgf m o R w):zx P zd2 #[(Value.pointer m),o] w R:=
 fnT (.seq .leaf (.join [] (.seq .leaf (.cond (.seq (.seq (.tree (.op 0 [] (.op 1 [] (.op 2 [] (.op 4 [] (.op 3 [] (.op 5 [] (.op 6 [] .done)))))))) (.cond (.seq .leaf .leaf) .leaf)) (.seq .leaf .leaf)) .leaf)) (.seq (.tree (.op 0 [] (.op 1 [] (.op 2 [] (.op 3 [] (.op 4 [] (.or (.op 5 [] (.op 6 [] (.op 7 [] (.op 8 [] (.op 9 [3,4] (.op 10 [] (.op 11 [] .done))))))) (.op 9 [3,4] (.op 5 [] (.op 6 [] (.op 7 [] (.op 8 [] (.op 10 [] (.op 11 [] .done)))))))))))))) (.seq (.seq .leaf (.cond (.seq .leaf .leaf) .leaf)) (.seq .leaf .leaf))))) Tryz.func48 hT
def zq7 (a:Value) (b:Value) (R:Ending->World->Prop) (w:World):Prop:=
  zam (Value.cells a) zf w fun b2 w_1=>
  zam (Value.cells b) zf w_1 fun b3 w_2=>
  joinP Unit (fun k=>
  ld (.int .i64) (⟨b2,0,none⟩:Addr) w_2 fun (t7:Int)=>
  ld (.int .i64) (⟨b3,0,none⟩:Addr) w_2 fun (t9:Int)=>
  qx (t7 != t9) (
  R (.returned (Value.bool false)) w_2) (
  ld .bool (⟨b2,1,none⟩:Addr) w_2 fun (t13:Bool)=>
  ld .bool (⟨b3,1,none⟩:Addr) w_2 fun (t15:Bool)=>
  jv P (eqM .neq z15 (.tmp 13) (.tmp 15) (Value.bool t13) (Value.bool t15)) .bool w_2 fun (t16:Bool)=>
  qx t16 (
  R (.returned (Value.bool false)) w_2) (
  ld (.int .i64) (⟨b2,2,none⟩:Addr) w_2 fun (t20:Int)=>
  ld (.int .i64) (⟨b3,2,none⟩:Addr) w_2 fun (t22:Int)=>
  qx (t20 != t22) (
  R (.returned (Value.bool false)) w_2) (
  ld .str (⟨b2,3,none⟩:Addr) w_2 fun (t27:ByteArray)=>
  ld .str (⟨b3,3,none⟩:Addr) w_2 fun (t29:ByteArray)=>
  qx (!(t27.toList==t29.toList)) (
  R (.returned (Value.bool false)) w_2) (
  ld .slc (⟨b2,4,none⟩:Addr) w_2 fun (t34:(Option Addr×Nat×Nat))=>
  ld .slc (⟨b3,4,none⟩:Addr) w_2 fun (t37:(Option Addr×Nat×Nat))=>
  qx ((t34.2.1:Int) != (t37.2.1:Int)) (
  R (.returned (Value.bool false)) w_2) (
  k () w_2)))))) (fun _ w_3=>
  zc1 Int (fun s_1 w_4 k_1=>
  ld .slc (⟨b2,4,none⟩:Addr) w_4 fun (t43:(Option Addr×Nat×Nat))=>
  qx (decide (s_1 < (t43.2.1:Int))) (
  zbz w_4 fun w_5=>
  ld .slc (⟨b2,4,none⟩:Addr) w_5 fun (t49:(Option Addr×Nat×Nat))=>
  ixS t49.1 t49.2.1 1 s_1 fun t51=>
  ld .str t51 w_5 fun (t52:ByteArray)=>
  ld .slc (⟨b3,4,none⟩:Addr) w_5 fun (t54:(Option Addr×Nat×Nat))=>
  ixS t54.1 t54.2.1 1 s_1 fun t56=>
  ld .str t56 w_5 fun (t57:ByteArray)=>
  qx (!(t52.toList==t57.toList)) (
  R (.returned (Value.bool false)) w_5) (
  zfl .i64 s_1 1 fun t47=>
  k_1 t47 w_5)) (
  R (.returned (Value.bool true)) w_4)) 0 w_3)
theorem zus {a:Value}{b:Value}{R:Ending->World->Prop}{w:World}(hT:zq7 a b R w):zx P znx #[a,b] w R:=
 fnT (.seq .leaf (.join [] (.seq .leaf (.cond (.seq .leaf .leaf) .leaf)) (.seq (.seq .leaf (.blk (.loop [(5,.int .i64)] (.seq (.seq .leaf (.cond .leaf .leaf)) (.seq (.blk (.seq (.tree (.op 0 [] (.op 2 [] (.op 5 [] (.op 7 [] (.op 1 [] (.op 3 [] (.op 4 [] (.op 6 [] (.op 8 [] (.op 9 [] (.op 10 [] .done)))))))))))) (.cond (.seq .leaf .leaf) .leaf))) .leaf))))) (.seq .leaf .leaf)))) Tryz.func20 hT
def zla (room:Int) (R:Ending->World->Prop) (w:World):Prop:=
  joinP Unit (fun k=>
  qx (decide (room < 0)) (
  R (.returned (Value.tuple #[(Value.pointer none),(Value.int .i64 1)])) w) (
  qx (decide (room > 8192)) (
  R (.returned (Value.tuple #[(Value.pointer none),(Value.int .i64 1)])) w) (
  k () w))) (fun _ w_1=>
  jv P (Instr.build zes #[(0,(Value.int .i64 room))]) .any w_1 fun (t11:Value)=>
  zam (Value.cells t11) zes w_1 fun b12 w_2=>
  R (.returned (Value.tuple #[(Value.pointer (some (⟨b12,0,none⟩:Addr))),(Value.int .i64 0)])) w_2)
theorem zo2 {room:Int}{R:Ending->World->Prop}{w:World}(hT:zla room R w):zx P zhi #[(Value.int .i64 room)] w R:=
 fnT (.seq .leaf (.join [] (.seq .leaf (.cond (.seq .leaf .leaf) .leaf)) (.seq .leaf .leaf))) Tryz.func47 hT
def zgb (t:Option Addr) (client:Int) (R:Ending->World->Prop) (w:World):Prop:=
  joinP Unit (fun k=>
  qx (Option.isNone t) (
  R (.returned (Value.pointer none)) w) (
  qx (decide (client < 1)) (
  R (.returned (Value.pointer none)) w) (
  qx (decide (client > 8)) (
  R (.returned (Value.pointer none)) w) (
  k () w)))) (fun _ w_1=>
  zul .i64 client 1 fun t17=>
  zq t fun p=>
  ixR (Addr.add p 1) 8 5 t17 fun t20=>
  R (.returned (Value.pointer (some t20))) w_1)
theorem zju {t:Option Addr}{client:Int}{R:Ending->World->Prop}{w:World}(hT:zgb t client R w):zx P zb7 #[(Value.pointer t),(Value.int .i64 client)] w R:=
 fnT (.seq .leaf (.join [] (.seq .leaf (.cond (.seq .leaf .leaf) .leaf)) (.seq .leaf .leaf))) Tryz.func101 hT
def zgh (t:Option Addr) (client:Int) (number:Int) (R:Ending->World->Prop) (w:World):Prop:=
  qc P zb7 #[(Value.pointer t),(Value.int .i64 client)] [.ptr] false w fun (t11:(Option Addr)) w_1=>
  joinP Bool (fun k=>
  qx (Option.isNone t11) (
  k true w_1) (
  qx (decide (number < 1)) (
  k true w_1) (
  k (decide (number > 1099511627776)) w_1))) (fun s w_2=>
  qx s (
  R (.returned (Value.tuple #[(Value.int .i64 0),(Value.string (ByteArray.mk #[]))])) w_2) (
  zq t11 fun p=>
  ld (.int .i64) (Addr.add p 1) w_2 fun (t28:Int)=>
  qx (decide (number > t28)) (
  R (.returned (Value.tuple #[(Value.int .i64 1),(Value.string (ByteArray.mk #[]))])) w_2) (
  zq t11 fun p_1=>
  ld (.int .i64) (Addr.add p_1 1) w_2 fun (t35:Int)=>
  qx (decide (number < t35)) (
  R (.returned (Value.tuple #[(Value.int .i64 4),(Value.string (ByteArray.mk #[]))])) w_2) (
  zq t11 fun p_2=>
  ld .bool (Addr.add p_2 3) w_2 fun (t41:Bool)=>
  qx t41 (
  zbz w_2 fun w_3=>
  zq t11 fun p_3=>
  ld .str (Addr.add p_3 4) w_3 fun (t45:ByteArray)=>
  R (.returned (Value.tuple #[(Value.int .i64 2),(Value.string t45)])) w_3) (
  R (.returned (Value.tuple #[(Value.int .i64 3),(Value.string (ByteArray.mk #[]))])) w_2)))))
theorem zj7 {t:Option Addr}{client:Int}{number:Int}{R:Ending->World->Prop}{w:World}(hT:zgh t client number R w):zx P zb8 #[(Value.pointer t),(Value.int .i64 client),(Value.int .i64 number)] w R:=
 fnT (.seq .leaf (.seq .leaf (.seq (.blk (.join [(12,.bool)] .leaf (.cond (.seq .leaf .leaf) (.seq .leaf (.cond (.seq .leaf .leaf) (.seq .leaf (.cond (.seq .leaf .leaf) (.seq .leaf (.cond (.seq (.tree (.op 0 [] (.op 1 [] (.op 2 [] (.op 4 [] (.op 3 [] (.op 5 [] .done))))))) .leaf) .leaf))))))))) (.seq .leaf .leaf)))) Tryz.func51 hT
def zf0 (t:Option Addr) (R:Ending->World->Prop) (w:World):Prop:=
  zq t fun p=>
  ldA P 40 (Addr.add p 1) w fun t9=>
  zc1 (Int×Int) (fun s w_1 k=>
  qx (decide (s.2 < 8)) (
  jv P (Instr.index zjk (Value.agg t9) (Value.int .i64 s.2)) .any w_1 fun (t12:Value)=>
  zam (zc P zay) zay w_1 fun b5 w_2=>
  jy P (storeVar zay (⟨b5,0,none⟩:Addr) t12) w_2 fun w_3=>
  ld .str (⟨b5,4,none⟩:Addr) w_3 fun (t15:ByteArray)=>
  zfl .i64 s.1 (t15.size:Int) fun t17=>
  zfl .i64 s.2 1 fun t18=>
  k (t17,t18) w_3) (
  R (.returned (Value.int .i64 s.1)) w_1)) (0,0) w
theorem zi8 {t:Option Addr}{R:Ending->World->Prop}{w:World}(hT:zf0 t R w):zx P zdn #[(Value.pointer t)] w R:=
 fnT (.seq .leaf (.seq .leaf (.seq (.seq .leaf (.blk (.loop [(3,.int .i64),(10,.int .i64)] (.seq .leaf (.seq (.cond .leaf .leaf) (.seq (.blk (.seq .leaf .leaf)) .leaf)))))) (.seq .leaf .leaf)))) Tryz.func102 hT
def zfj (t:Option Addr) (client:Int) (number:Int) (atv:Int) (reply:ByteArray) (R:Ending->World->Prop) (w:World):Prop:=
  qx (Option.isNone t) (
  R (.returned (Value.int .i64 7)) w) (
  qc P zb8 #[(Value.pointer t),(Value.int .i64 client),(Value.int .i64 number)] [.int .i64,.str] true w fun (t19:(Int×ByteArray)) w_1=>
  qx (t19.1==0) (
  R (.returned (Value.int .i64 1)) w_1) (
  qx (t19.1 != 1) (
  R (.returned (Value.int .i64 6)) w_1) (
  qx (decide ((reply.size:Int) > 8192)) (
  R (.returned (Value.int .i64 2)) w_1) (
  qc P zb7 #[(Value.pointer t),(Value.int .i64 client)] [.ptr] false w_1 fun (t34:(Option Addr)) w_2=>
  jv P (Instr.build zay #[(0,(Value.int .i64 client)),(1,(Value.int .i64 number)),(2,(Value.int .i64 atv)),(3,(Value.bool true)),(4,(Value.string reply))]) .any w_2 fun (t39:Value)=>
  zq t34 fun p=>
  jy P (storeVar zay p t39) w_2 fun w_3=>
  zc1 Unit (fun _ w_4 k=>
  zbz w_4 fun w_5=>
  zq t fun p_1=>
  ld (.int .i64) p_1 w_5 fun (t46:Int)=>
  qc P zdn #[(Value.pointer t)] [.int .i64] false w_5 fun (t42:Int) w_6=>
  ((ld (.int .i64) p_1 w_6 fun (t46_1:Int)=>
  (Value.int .i64 t46_1)=(Value.int .i64 t46)) /\
  qx (decide (t42 > t46)) (
  qc P zj4 #[(Value.pointer t)] [] true w_6 fun (_:Unit) w_7=>
  k () w_7) (
  R (.returned (Value.int .i64 0)) w_6))) () w_3))))
theorem zio {t:Option Addr}{client:Int}{number:Int}{atv:Int}{reply:ByteArray}{R:Ending->World->Prop}{w:World}(hT:zfj t client number atv reply R w):zx P zc6 #[(Value.pointer t),(Value.int .i64 client),(Value.int .i64 number),(Value.int .i64 atv),(Value.string reply)] w R:=
 fnT (.seq .leaf (.seq (.seq .leaf (.cond (.seq .leaf .leaf) .leaf)) (.seq .leaf (.seq (.blk (.seq .leaf (.cond (.seq .leaf .leaf) (.seq .leaf (.cond (.seq .leaf .leaf) (.seq .leaf (.cond (.seq .leaf .leaf) .leaf))))))) (.seq .leaf (.seq (.blk (.loop [] (.seq (.seq (.tree (.op 0 [] (.op 2 [] (.op 3 [] (.op 4 [] (.op 5 [] (.op 1 [5] (.op 6 [] .done)))))))) (.cond .leaf .leaf)) (.blk .leaf)))) (.seq .leaf .leaf))))))) Tryz.func50 hT
def zs3 (o:Value) (R:Ending->World->Prop) (w:World):Prop:=
  zam (Value.cells o) xg w fun b1 w_1=>
  zam (zc P xg) xg w_1 fun b2 w_2=>
  ld (.int .i64) (⟨b1,0,none⟩:Addr) w_2 fun (t6:Int)=>
  ld .str (⟨b1,1,none⟩:Addr) w_2 fun (t8:ByteArray)=>
  jv P (Instr.build xg #[(0,(Value.int .i64 t6)),(1,(Value.string t8))]) .any w_2 fun (t9:Value)=>
  zam (zc P xg) xg w_2 fun b4 w_3=>
  jy P (storeVar xg (⟨b4,0,none⟩:Addr) t9) w_3 fun w_4=>
  joinP Unit (fun k=>
  ld (.int .i64) (⟨b1,0,none⟩:Addr) w_4 fun (t11:Int)=>
  joinP Unit (fun k_1=>
  joinP Unit (fun k_2=>
  joinP Unit (fun k_3=>
  joinP Unit (fun k_4=>
  qx (t11==3) (
  zbz w_4 fun w_5=>
  ld (.int .i64) (⟨b1,4,none⟩:Addr) w_5 fun (t32:Int)=>
  ld .str (⟨b1,3,none⟩:Addr) w_5 fun (t34:ByteArray)=>
  stC (⟨b4,4,none⟩:Addr) (Value.int .i64 t32) w_5 fun w_6=>
  ((ld .str (⟨b1,3,none⟩:Addr) w_6 fun (t34_1:ByteArray)=>
  (Value.string t34_1)=(Value.string t34)) /\
  stC (⟨b4,3,none⟩:Addr) (Value.string t34) w_6 fun w_7=>
  k_1 () w_7)) (
  qx (t11==4) (
  ld (.int .i64) (⟨b1,5,none⟩:Addr) w_4 fun (t38:Int)=>
  stC (⟨b4,5,none⟩:Addr) (Value.int .i64 t38) w_4 fun w_8=>
  k_1 () w_8) (
  qx (t11==7) (
  ld .str (⟨b1,2,none⟩:Addr) w_4 fun (t41:ByteArray)=>
  stC (⟨b4,2,none⟩:Addr) (Value.string t41) w_4 fun w_9=>
  k_1 () w_9) (
  qx (t11==8) (
  zbz w_4 fun w_10=>
  ld (.int .i64) (⟨b1,4,none⟩:Addr) w_10 fun (t44:Int)=>
  ld (.int .i64) (⟨b1,5,none⟩:Addr) w_10 fun (t46:Int)=>
  stC (⟨b4,4,none⟩:Addr) (Value.int .i64 t44) w_10 fun w_11=>
  ((ld (.int .i64) (⟨b1,5,none⟩:Addr) w_11 fun (t46_1:Int)=>
  (Value.int .i64 t46_1)=(Value.int .i64 t46)) /\
  stC (⟨b4,5,none⟩:Addr) (Value.int .i64 t46) w_11 fun w_12=>
  k_1 () w_12)) (
  qx (t11==11) (
  zbz w_4 fun w_13=>
  ld (.int .i64) (⟨b1,4,none⟩:Addr) w_13 fun (t50:Int)=>
  stC (⟨b4,1,none⟩:Addr) (Value.string (ByteArray.mk #[])) w_13 fun w_14=>
  ((ld (.int .i64) (⟨b1,4,none⟩:Addr) w_14 fun (t50_1:Int)=>
  (Value.int .i64 t50_1)=(Value.int .i64 t50)) /\
  stC (⟨b4,4,none⟩:Addr) (Value.int .i64 t50) w_14 fun w_15=>
  k_1 () w_15)) (
  joinP Bool (fun k_5=>
  qx (t11==1) (
  k_5 (t11==1) w_4) (
  k_5 (t11==2) w_4)) (fun s w_16=>
  qx s (
  k_4 () w_16) (
  joinP Bool (fun k_6=>
  qx (t11==5) (
  k_6 (t11==5) w_16) (
  k_6 (t11==6) w_16)) (fun s_1 w_17=>
  qx s_1 (
  k_4 () w_17) (
  joinP Bool (fun k_7=>
  qx (t11==9) (
  k_7 (t11==9) w_17) (
  k_7 (t11==10) w_17)) (fun s_2 w_18=>
  qx s_2 (
  k_3 () w_18) (
  jv P (Instr.build xg #[]) .any w_18 fun (t53:Value)=>
  jy P (storeVar xg (⟨b2,0,none⟩:Addr) t53) w_18 fun w_19=>
  ldA P 6 (⟨b2,0,none⟩:Addr) w_19 fun t2=>
  R (.returned (Value.tuple #[(Value.agg t2),(Value.bool false)])) w_19)))))))))))) (fun _ w_20=>
  k_3 () w_20)) (fun _ w_21=>
  k_2 () w_21)) (fun _ w_22=>
  k_1 () w_22)) (fun _ w_23=>
  k () w_23)) (fun _ w_24=>
  ldA P 6 (⟨b4,0,none⟩:Addr) w_24 fun t54=>
  jy P (storeVar xg (⟨b2,0,none⟩:Addr) (Value.agg t54)) w_24 fun w_25=>
  ldA P 6 (⟨b2,0,none⟩:Addr) w_25 fun t2_1=>
  R (.returned (Value.tuple #[(Value.agg t2_1),(Value.bool true)])) w_25)
theorem zwz {o:Value}{R:Ending->World->Prop}{w:World}(hT:zs3 o R w):zx P zo1 #[o] w R:=
 fnT (.seq .leaf (.seq .leaf (.join [] (.seq .leaf (.jblk [] (.seq (.blk (.join [] (.jblk [] (.jblk [] (.blk (.seq (.blk (.seq (.blk (.seq (.blk (.seq (.blk (.seq (.blk (.seq (.seq (.seq .leaf (.cond .leaf .leaf)) (.seq (.seq .leaf (.cond .leaf .leaf)) (.seq (.seq .leaf (.cond .leaf .leaf)) (.seq (.seq .leaf (.cond .leaf .leaf)) (.seq (.seq .leaf (.cond .leaf .leaf)) (.seq (.join [(22,.bool)] (.seq .leaf (.cond .leaf .leaf)) (.cond .leaf .leaf)) (.seq (.join [(25,.bool)] (.seq .leaf (.cond .leaf .leaf)) (.cond .leaf .leaf)) (.join [(28,.bool)] (.seq .leaf (.cond .leaf .leaf)) (.cond .leaf .leaf))))))))) .leaf)) (.seq (.tree (.op 0 [] (.op 2 [] (.op 1 [] (.op 4 [] (.op 3 [] (.op 5 [3] (.op 6 [] (.op 7 [] .done))))))))) .leaf))) (.seq .leaf .leaf))) (.seq .leaf .leaf))) (.seq (.tree (.op 0 [] (.op 2 [] (.op 1 [] (.op 4 [] (.op 3 [] (.op 5 [3] (.op 6 [] (.op 7 [] .done))))))))) .leaf))) (.seq (.tree (.op 0 [] (.op 2 [] (.op 1 [] (.op 3 [1] (.op 4 [] (.op 5 [] .done))))))) .leaf))))) .leaf)) (.seq (.seq .leaf .leaf) .leaf)))) (.seq .leaf .leaf)))) Tryz.func163 hT
def zrm (o:Value) (R:Ending->World->Prop) (w:World):Prop:=
  zam (Value.cells o) xg w fun b1 w_1=>
  ldA P 6 (⟨b1,0,none⟩:Addr) w_1 fun t10=>
  qc P zo1 #[(Value.agg t10)] [.any,.bool] true w_1 fun (t11:(Value×Bool)) w_2=>
  zam (zc P xg) xg w_2 fun b3 w_3=>
  jy P (storeVar xg (⟨b3,0,none⟩:Addr) t11.1) w_3 fun w_4=>
  joinP Unit (fun k=>
  joinP Unit (fun k_1=>
  qx (!t11.2) (
  R (.returned (Value.int .i64 100)) w_4) (
  ldA P 6 (⟨b3,0,none⟩:Addr) w_4 fun t18=>
  ldA P 6 (⟨b1,0,none⟩:Addr) w_4 fun t19=>
  jv P (eqM .neq xg (.tmp 18) (.tmp 19) (Value.agg t18) (Value.agg t19)) .bool w_4 fun (t20:Bool)=>
  qx t20 (
  R (.returned (Value.int .i64 1)) w_4) (
  ld (.int .i64) (⟨b1,4,none⟩:Addr) w_4 fun (t23:Int)=>
  qx (decide (t23 < 0)) (
  R (.returned (Value.int .i64 1)) w_4) (
  ld (.int .i64) (⟨b1,5,none⟩:Addr) w_4 fun (t28:Int)=>
  qx (decide (t28 < 0)) (
  R (.returned (Value.int .i64 1)) w_4) (
  ld (.int .i64) (⟨b1,0,none⟩:Addr) w_4 fun (t33:Int)=>
  qx (t33==11) (
  ld (.int .i64) (⟨b1,4,none⟩:Addr) w_4 fun (t37:Int)=>
  qx (decide (t37 < 1)) (
  R (.returned (Value.int .i64 1)) w_4) (
  ld (.int .i64) (⟨b1,4,none⟩:Addr) w_4 fun (t41:Int)=>
  qx (decide (t41 > 8)) (
  R (.returned (Value.int .i64 1)) w_4) (
  ld .str (⟨b1,3,none⟩:Addr) w_4 fun (t48:ByteArray)=>
  qx (decide ((t48.size:Int) > 1024)) (
  R (.returned (Value.int .i64 134)) w_4) (
  ld (.int .i64) (⟨b1,4,none⟩:Addr) w_4 fun (t53:Int)=>
  qx (decide (t53 > 1024)) (
  R (.returned (Value.int .i64 134)) w_4) (
  ld (.int .i64) (⟨b1,5,none⟩:Addr) w_4 fun (t58:Int)=>
  qx (decide (t58 > 1024)) (
  R (.returned (Value.int .i64 134)) w_4) (
  ld (.int .i64) (⟨b1,0,none⟩:Addr) w_4 fun (t63:Int)=>
  qx (t63==11) (
  R (.returned (Value.int .i64 0)) w_4) (
  k_1 () w_4))))))) (
  ld .str (⟨b1,3,none⟩:Addr) w_4 fun (t48_1:ByteArray)=>
  qx (decide ((t48_1.size:Int) > 1024)) (
  R (.returned (Value.int .i64 134)) w_4) (
  ld (.int .i64) (⟨b1,4,none⟩:Addr) w_4 fun (t53_1:Int)=>
  qx (decide (t53_1 > 1024)) (
  R (.returned (Value.int .i64 134)) w_4) (
  ld (.int .i64) (⟨b1,5,none⟩:Addr) w_4 fun (t58_1:Int)=>
  qx (decide (t58_1 > 1024)) (
  R (.returned (Value.int .i64 134)) w_4) (
  ld (.int .i64) (⟨b1,0,none⟩:Addr) w_4 fun (t63_1:Int)=>
  qx (t63_1==11) (
  R (.returned (Value.int .i64 0)) w_4) (
  k_1 () w_4)))))))))) (fun _ w_5=>
  k () w_5)) (fun _ w_6=>
  ld .str (⟨b1,1,none⟩:Addr) w_6 fun (t67:ByteArray)=>
  qc P zau #[(Value.string t67)] [.slc,.int .i64] true w_6 fun (t68:((Option Addr×Nat×Nat)×Int)) w_7=>
  qx (t68.2 != 0) (
  R (.returned (Value.int .i64 t68.2)) w_7) (
  ld (.int .i64) (⟨b1,0,none⟩:Addr) w_7 fun (t75:Int)=>
  qx (t75 != 7) (
  R (.returned (Value.int .i64 0)) w_7) (
  ld .str (⟨b1,2,none⟩:Addr) w_7 fun (t79:ByteArray)=>
  qc P zau #[(Value.string t79)] [.slc,.int .i64] true w_7 fun (t80:((Option Addr×Nat×Nat)×Int)) w_8=>
  R (.returned (Value.int .i64 t80.2)) w_8)))
theorem zu7 {o:Value}{R:Ending->World->Prop}{w:World}(hT:zrm o R w):zx P zkb #[o] w R:=
 fnT (.seq .leaf (.seq .leaf (.join [] (.jblk [] (.seq .leaf (.cond (.seq .leaf .leaf) (.seq .leaf (.cond (.seq .leaf .leaf) (.seq .leaf (.cond (.seq .leaf .leaf) (.seq .leaf (.cond (.seq .leaf .leaf) .leaf))))))))) (.seq (.seq .leaf (.seq .leaf (.cond (.seq .leaf .leaf) .leaf))) (.seq (.seq .leaf (.cond (.seq .leaf .leaf) .leaf)) (.seq .leaf (.seq .leaf .leaf))))))) Tryz.func96 hT
def ztl (kind:Int) (R:Ending->World->Prop) (w:World):Prop:=
  zde P (Instr.buildSlice zu 12 #[(0,(Value.string (ByteArray.mk #[]))),(1,(Value.string (ByteArray.mk #[109,107,100,105,114]))),(2,(Value.string (ByteArray.mk #[99,114,101,97,116,101]))),(3,(Value.string (ByteArray.mk #[119,114,105,116,101]))),(4,(Value.string (ByteArray.mk #[116,114,117,110,99,97,116,101]))),(5,(Value.string (ByteArray.mk #[117,110,108,105,110,107]))),(6,(Value.string (ByteArray.mk #[114,109,100,105,114]))),(7,(Value.string (ByteArray.mk #[114,101,110,97,109,101]))),(8,(Value.string (ByteArray.mk #[114,101,97,100]))),(9,(Value.string (ByteArray.mk #[108,105,115,116]))),(10,(Value.string (ByteArray.mk #[115,116,97,116]))),(11,(Value.string (ByteArray.mk #[102,111,114,103,101,116])))]) .slc w fun (t4:(Option Addr×Nat×Nat)) w_1=>
  joinP Unit (fun k=>
  qx (decide (kind < 0)) (
  R (.returned (Value.string (ByteArray.mk #[]))) w_1) (
  qx (decide (kind>=(t4.2.1:Int))) (
  R (.returned (Value.string (ByteArray.mk #[]))) w_1) (
  k () w_1))) (fun _ w_2=>
  ixS t4.1 t4.2.1 1 kind fun t15=>
  ld .str t15 w_2 fun (t16:ByteArray)=>
  R (.returned (Value.string t16)) w_2)
theorem zxh {kind:Int}{R:Ending->World->Prop}{w:World}(hT:ztl kind R w):zx P zp4 #[(Value.int .i64 kind)] w R:=
 fnT (.seq .leaf (.seq .leaf (.join [] (.seq .leaf (.cond (.seq .leaf .leaf) .leaf)) (.seq .leaf .leaf)))) Tryz.func40 hT
def zq6 (kind:Int) (R:Ending->World->Prop) (w:World):Prop:=
  qx (decide (kind>=8)) (
  R (.returned (Value.bool (decide (kind<=10)))) w) (
  R (.returned (Value.bool false)) w)
theorem zu4 {kind:Int}{R:Ending->World->Prop}{w:World}(hT:zq6 kind R w):zx P znq #[(Value.int .i64 kind)] w R:=
 fnT (.seq .leaf (.seq .leaf .leaf)) Tryz.func85 hT
def ztq (r:Value) (R:Ending->World->Prop) (w:World):Prop:=
  zam (Value.cells r) zf w fun b1 w_1=>
  ld .str (⟨b1,3,none⟩:Addr) w_1 fun (t11:ByteArray)=>
  ld .slc (⟨b1,4,none⟩:Addr) w_1 fun (t14:(Option Addr×Nat×Nat))=>
  zc1 (Int×Int) (fun s w_2 k=>
  qx (decide (s.2 < (t14.2.1:Int))) (
  ixS t14.1 t14.2.1 1 s.2 fun t18=>
  ld .str t18 w_2 fun (t19:ByteArray)=>
  jv P (Builtin.max_ #[zai,zai] zai #[(Value.int .i64 s.1),(Value.int .i64 (t19.size:Int))]) (.int .i64) w_2 fun (t23:Int)=>
  zfl .i64 s.2 1 fun t24=>
  k (t23,t24) w_2) (
  qx (decide (s.1 > 1100)) (
  R (.returned (Value.tuple #[(Value.slice none 0 0),(Value.int .i64 2)])) w_2) (
  ld .slc (⟨b1,4,none⟩:Addr) w_2 fun (t30:(Option Addr×Nat×Nat))=>
  qx (decide ((t30.2.1:Int) > 512)) (
  R (.returned (Value.tuple #[(Value.slice none 0 0),(Value.int .i64 8)])) w_2) (
  zam (zc P zdy) zdy w_2 fun b7 w_3=>
  ld (.int .i64) (⟨b1,0,none⟩:Addr) w_3 fun (t34:Int)=>
  qc P zfs #[(Value.pointer (some (⟨b7,0,none⟩:Addr))),(Value.int .i64 t34)] [] true w_3 fun (_:Unit) w_4=>
  ld .bool (⟨b1,1,none⟩:Addr) w_4 fun (t37:Bool)=>
  qc P zg0 #[(Value.pointer (some (⟨b7,0,none⟩:Addr))),(Value.bool t37)] [] true w_4 fun (_:Unit) w_5=>
  ld (.int .i64) (⟨b1,2,none⟩:Addr) w_5 fun (t40:Int)=>
  qc P zfs #[(Value.pointer (some (⟨b7,0,none⟩:Addr))),(Value.int .i64 t40)] [] true w_5 fun (_:Unit) w_6=>
  ld .str (⟨b1,3,none⟩:Addr) w_6 fun (t43:ByteArray)=>
  qc P zcc #[(Value.pointer (some (⟨b7,0,none⟩:Addr))),(Value.string t43)] [] true w_6 fun (_:Unit) w_7=>
  ld .slc (⟨b1,4,none⟩:Addr) w_7 fun (t46:(Option Addr×Nat×Nat))=>
  cvI .u64 (t46.2.1:Int) fun t48=>
  qc P zbn #[(Value.pointer (some (⟨b7,0,none⟩:Addr))),(Value.int .u64 t48)] [] true w_7 fun (_:Unit) w_8=>
  ld .slc (⟨b1,4,none⟩:Addr) w_8 fun (t51:(Option Addr×Nat×Nat))=>
  zc1 Int (fun s_1 w_9 k_1=>
  qx (decide (s_1 < (t51.2.1:Int))) (
  ixS t51.1 t51.2.1 1 s_1 fun t55=>
  ld .str t55 w_9 fun (t56:ByteArray)=>
  qc P zcc #[(Value.pointer (some (⟨b7,0,none⟩:Addr))),(Value.string t56)] [] true w_9 fun (_:Unit) w_10=>
  zfl .i64 s_1 1 fun t59=>
  k_1 t59 w_10) (
  qc P zd9 #[(Value.pointer (some (⟨b7,0,none⟩:Addr)))] [.slc] false w_9 fun (t60:(Option Addr×Nat×Nat)) w_11=>
  R (.returned (Value.tuple #[(Value.slice t60.1 t60.2.1 t60.2.2),(Value.int .i64 0)])) w_11)) 0 w_8)))) ((t11.size:Int),0) w_1
theorem zxw {r:Value}{R:Ending->World->Prop}{w:World}(hT:ztq r R w):zx P zpo #[r] w R:=
 fnT (.seq .leaf (.seq .leaf (.seq (.seq .leaf (.blk (.loop [(4,.int .i64),(16,.int .i64)] (.seq .leaf (.seq (.cond .leaf .leaf) (.seq (.blk (.seq .leaf .leaf)) .leaf)))))) (.seq (.blk (.seq .leaf (.cond (.seq .leaf .leaf) (.seq .leaf (.cond (.seq .leaf .leaf) .leaf))))) (.seq .leaf (.seq .leaf (.seq .leaf (.seq .leaf (.seq .leaf (.seq .leaf (.seq (.seq .leaf (.blk (.loop [(53,.int .i64)] (.seq .leaf (.seq (.cond .leaf .leaf) (.seq (.blk (.seq .leaf .leaf)) .leaf)))))) (.seq .leaf .leaf)))))))))))) Tryz.func49 hT
def zox (b:Option Addr) (b_l b_c:Nat) (R:Ending->World->Prop) (w:World):Prop:=
  zam (zc P zf) zf w fun b2 w_1=>
  qc P zlw #[(Value.slice b b_l b_c)] [.ptr] false w_1 fun (t8:(Option Addr)) w_2=>
  qc P zgi #[(Value.pointer t8)] [.int .i64] false w_2 fun (t10:Int) w_3=>
  jv P (Instr.build zf #[(0,(Value.int .i64 t10))]) .any w_3 fun (t11:Value)=>
  zam (zc P zf) zf w_3 fun b5 w_4=>
  jy P (storeVar zf (⟨b5,0,none⟩:Addr) t11) w_4 fun w_5=>
  qc P zhp #[(Value.pointer t8)] [.bool] false w_5 fun (t13:Bool) w_6=>
  stC (⟨b5,1,none⟩:Addr) (Value.bool t13) w_6 fun w_7=>
  qc P zgi #[(Value.pointer t8)] [.int .i64] false w_7 fun (t16:Int) w_8=>
  stC (⟨b5,2,none⟩:Addr) (Value.int .i64 t16) w_8 fun w_9=>
  qc P zfu #[(Value.pointer t8),(Value.int .i64 1100)] [.str] false w_9 fun (t19:ByteArray) w_10=>
  stC (⟨b5,3,none⟩:Addr) (Value.string t19) w_10 fun w_11=>
  qc P ze7 #[(Value.pointer t8)] [.int .u64] false w_11 fun (t22:Int) w_12=>
  qx (decide (t22 > 512)) (
  jv P (Instr.build zf #[]) .any w_12 fun (t25:Value)=>
  jy P (storeVar zf (⟨b2,0,none⟩:Addr) t25) w_12 fun w_13=>
  ldA P 5 (⟨b2,0,none⟩:Addr) w_13 fun t2=>
  R (.returned (Value.tuple #[(Value.agg t2),(Value.int .i64 21)])) w_13) (
  zc1 Int (fun s w_14 k=>
  qx (decide (s < t22)) (
  zbz w_14 fun w_15=>
  ld .slc (⟨b5,4,none⟩:Addr) w_15 fun (t30:(Option Addr×Nat×Nat))=>
  qc P zfu #[(Value.pointer t8),(Value.int .i64 1100)] [.str] false w_15 fun (t32:ByteArray) w_16=>
  ((ld .slc (⟨b5,4,none⟩:Addr) w_16 fun (t30_1:(Option Addr×Nat×Nat))=>
  (Value.slice t30_1.1 t30_1.2.1 t30_1.2.2)=(Value.slice t30.1 t30.2.1 t30.2.2)) /\
  zde P (Instr.buildSlice zu 1 #[(0,(Value.string t32))]) .slc w_16 fun (t33:(Option Addr×Nat×Nat)) w_17=>
  ((ld .slc (⟨b5,4,none⟩:Addr) w_17 fun (t30_2:(Option Addr×Nat×Nat))=>
  (Value.slice t30_2.1 t30_2.2.1 t30_2.2.2)=(Value.slice t30.1 t30.2.1 t30.2.2)) /\
  zde P (Builtin.append_ #[zu,zu] zu #[(Value.slice t30.1 t30.2.1 t30.2.2),(Value.slice t33.1 t33.2.1 t33.2.2)]) .slc w_17 fun (t34:(Option Addr×Nat×Nat)) w_18=>
  stC (⟨b5,4,none⟩:Addr) (Value.slice t34.1 t34.2.1 t34.2.2) w_18 fun w_19=>
  zfl .u64 s 1 fun t36=>
  k t36 w_19))) (
  qc P zif #[(Value.pointer t8)] [.bool] false w_14 fun (t38:Bool) w_20=>
  qx (!t38) (
  jv P (Instr.build zf #[]) .any w_20 fun (t40:Value)=>
  jy P (storeVar zf (⟨b2,0,none⟩:Addr) t40) w_20 fun w_21=>
  ldA P 5 (⟨b2,0,none⟩:Addr) w_21 fun t2_1=>
  R (.returned (Value.tuple #[(Value.agg t2_1),(Value.int .i64 21)])) w_21) (
  ldA P 5 (⟨b5,0,none⟩:Addr) w_20 fun t41=>
  jy P (storeVar zf (⟨b2,0,none⟩:Addr) (Value.agg t41)) w_20 fun w_22=>
  ldA P 5 (⟨b2,0,none⟩:Addr) w_22 fun t2_2=>
  R (.returned (Value.tuple #[(Value.agg t2_2),(Value.int .i64 0)])) w_22))) 0 w_12)
theorem zty {b:Option Addr}{b_l b_c:Nat}{R:Ending->World->Prop}{w:World}(hT:zox b b_l b_c R w):zx P zlu #[(Value.slice b b_l b_c)] w R:=
 fnT (.seq .leaf (.seq .leaf (.seq .leaf (.seq .leaf (.seq .leaf (.seq .leaf (.seq .leaf (.seq (.seq .leaf (.cond (.seq .leaf .leaf) .leaf)) (.seq (.seq .leaf (.blk (.loop [(27,.int .u64)] (.seq .leaf (.seq (.cond .leaf .leaf) (.seq (.blk (.tree (.op 0 [] (.op 2 [] (.op 1 [] (.op 3 [1] (.op 4 [1] (.op 5 [] (.op 6 [] (.op 7 [] .done)))))))))) .leaf)))))) (.seq (.seq .leaf (.cond (.seq .leaf .leaf) .leaf)) (.seq .leaf .leaf))))))))))) Tryz.func52 hT
def zp1 (op:ByteArray) (path:ByteArray) (e:Int) (R:Ending->World->Prop) (w:World):Prop:=
  qx (e==0) (
  R (.returned Value.nilIface) w) (
  jv P (Instr.makeInterface vk (Value.int .i64 e)) .any w fun (t12:Value)=>
  jv P (Instr.build zdw #[(0,(Value.string op)),(1,(Value.string path)),(2,t12)]) .any w fun (t13:Value)=>
  zam (Value.cells t13) zdw w fun b14 w_1=>
  jv P (Instr.makeInterface zbq (Value.pointer (some (⟨b14,0,none⟩:Addr)))) .any w_1 fun (t15:Value)=>
  R (.returned t15) w_1)
theorem zuf {op:ByteArray}{path:ByteArray}{e:Int}{R:Ending->World->Prop}{w:World}(hT:zp1 op path e R w):zx P zlc #[(Value.string op),(Value.string path),(Value.int .i64 e)] w R:=
 fnT (.seq .leaf (.seq (.seq .leaf (.cond (.seq .leaf .leaf) .leaf)) (.seq .leaf .leaf))) Tryz.func39 hT
def zrl (err:Value) (e:Int) (R:Ending->World->Prop) (w:World):Prop:=
  qx (e==0) (
  jv P (eqM .eql za0 (.tmp 7) (.const Value.nilIface) err Value.nilIface) .bool w fun (t8:Bool)=>
  R (.returned (Value.bool t8)) w) (
  jv P (Instr.makeInterface vk (Value.int .i64 e)) .any w fun (t11:Value)=>
  qc P zpp #[err,t11] [.bool] false w fun (t12:Bool) w_1=>
  R (.returned (Value.bool t12)) w_1)
theorem zu9 {err:Value}{e:Int}{R:Ending->World->Prop}{w:World}(hT:zrl err e R w):zx P zhx #[err,(Value.int .i64 e)] w R:=
 fnT (.seq .leaf (.seq (.seq .leaf (.cond (.seq .leaf .leaf) .leaf)) (.seq .leaf .leaf))) Tryz.func98 hT
def zov (err:Value) (target:Value) (R:Ending->World->Prop) (w:World):Prop:=
  joinP Unit (fun k=>
  jv P (eqM .eql za0 (.tmp 6) (.const Value.nilIface) err Value.nilIface) .bool w fun (t7:Bool)=>
  qx t7 (
  jv P (eqM .eql za0 (.tmp 12) (.tmp 13) err target) .bool w fun (t14:Bool)=>
  R (.returned (Value.bool t14)) w) (
  jv P (eqM .eql za0 (.tmp 9) (.const Value.nilIface) target Value.nilIface) .bool w fun (t10:Bool)=>
  qx t10 (
  jv P (eqM .eql za0 (.tmp 12) (.tmp 13) err target) .bool w fun (t14_1:Bool)=>
  R (.returned (Value.bool t14_1)) w) (
  k () w))) (fun _ w_1=>
  qc P zcz #[target] [.any] false w_1 fun (t16:Value) w_2=>
  zx8 P (callMethod t16 "Comparable" #[]) [.bool] false w_2 fun (t17:Bool) w_3=>
  qc P zim #[err,target,(Value.bool t17)] [.bool] false w_3 fun (t21:Bool) w_4=>
  R (.returned (Value.bool t21)) w_4)
theorem zt7 {err:Value}{target:Value}{R:Ending->World->Prop}{w:World}(hT:zov err target R w):zx P zpp #[err,target] w R:=
 fnT (.seq .leaf (.join [] (.seq .leaf (.cond (.seq .leaf .leaf) .leaf)) (.seq .leaf (.seq .leaf .leaf)))) Tryz.func164 hT
def zo4 (err:Value) (target:Value) (targetComparable:Bool) (R:Ending->World->Prop) (w:World):Prop:=
  zc1 Value (fun s w_1 k=>
  joinP Value (fun k_1=>
  joinP Unit (fun k_2=>
  qx targetComparable (
  jv P (eqM .eql za0 (.tmp 16) (.tmp 17) s target) .bool w_1 fun (t18:Bool)=>
  qx t18 (
  R (.returned (Value.bool true)) w_1) (
  k_2 () w_1)) (
  k_2 () w_1)) (fun _ w_2=>
  joinP Unit (fun k_3=>
  zlt P (Instr.typeAssert s za0 zd5 true) [.any,.bool] w_2 fun (t22:(Value×Bool))=>
  qx t22.2 (
  zx8 P (callMethod t22.1 "Is" #[target]) [.bool] false w_2 fun (t29:Bool) w_3=>
  qx t29 (
  R (.returned (Value.bool true)) w_3) (
  k_3 () w_3)) (
  k_3 () w_2)) (fun _ w_4=>
  jv P (Instr.typeAssert s za0 zel true) .any w_4 fun (t32:Value)=>
  exV t32 1 .bool fun (t33:Bool)=>
  exV t32 0 .any fun (t34:Value)=>
  qx t33 (
  zx8 P (callMethod t34 "Unwrap" #[]) [.any] false w_4 fun (t36:Value) w_5=>
  jv P (eqM .eql za0 (.tmp 37) (.const Value.nilIface) t36 Value.nilIface) .bool w_5 fun (t38:Bool)=>
  qx t38 (
  R (.returned (Value.bool false)) w_5) (
  k_1 t36 w_5)) (
  jv P (Instr.typeAssert s za0 zg4 true) .any w_4 fun (t39:Value)=>
  exV t39 1 .bool fun (t40:Bool)=>
  exV t39 0 .any fun (t41:Value)=>
  qx t40 (
  zx8 P (callMethod t41 "Unwrap" #[]) [.slc] false w_4 fun (t43:(Option Addr×Nat×Nat)) w_6=>
  zc1 Int (fun s_3 w_7 k_4=>
  qx (decide (s_3 < (t43.2.1:Int))) (
  ixS t43.1 t43.2.1 1 s_3 fun t47=>
  ld .any t47 w_7 fun (t48:Value)=>
  qc P zim #[t48,target,(Value.bool targetComparable)] [.bool] false w_7 fun (t52:Bool) w_8=>
  qx t52 (
  R (.returned (Value.bool true)) w_8) (
  zfl .i64 s_3 1 fun t53=>
  k_4 t53 w_8)) (
  R (.returned (Value.bool false)) w_7)) 0 w_6) (
  R (.returned (Value.bool false)) w_4))))) (fun s_4 w_9=>
  k s_4 w_9)) err w
theorem zt4 {err:Value}{target:Value}{targetComparable:Bool}{R:Ending->World->Prop}{w:World}(hT:zo4 err target targetComparable R w):zx P zim #[err,target,(Value.bool targetComparable)] w R:=
 fnT (.seq .leaf (.blk (.loop [(0,.any)] (.jblk [(0,.any)] (.join [] (.seq .leaf (.cond (.seq .leaf .leaf) .leaf)) (.join [] (.seq .leaf (.seq .leaf (.cond (.seq .leaf .leaf) .leaf))) (.seq .leaf (.blk (.seq .leaf (.cond (.seq .leaf (.seq .leaf (.seq .leaf (.cond (.seq .leaf .leaf) .leaf)))) (.seq .leaf (.cond (.seq .leaf (.seq (.seq .leaf (.blk (.loop [(45,.int .i64)] (.seq .leaf (.seq (.cond .leaf .leaf) (.seq (.blk (.seq .leaf (.seq .leaf (.cond (.seq .leaf .leaf) .leaf)))) .leaf)))))) (.seq .leaf .leaf))) (.seq .leaf (.seq .leaf .leaf)))))))))))))) Tryz.func214 hT
theorem zf4 {e:Array Value->Sem Value}(he:Extern.find Tryz.f157=some e) (args:Array Value) (w:World):(callFunc zcz args).run P w=((e args).run P w).andThen fun v w1=>.ok (.value v) w1:=
 Go.run_callFunc_extern Tryz.func157 (by kernel_rfl) (by kernel_rfl) (by kernel_rfl) he args w
theorem zdm {e:Array Value->Sem Value}(he:Extern.find Tryz.f291=some e) (args:Array Value) (w:World):(callFunc za9 args).run P w=((e args).run P w).andThen fun v w1=>.ok (.value v) w1:=
 Go.run_callFunc_extern Tryz.func291 (by kernel_rfl) (by kernel_rfl) (by kernel_rfl) he args w
end Go.Proofs.YthaaekcaaecdeaaGreatDoor
