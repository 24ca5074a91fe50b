/- Part 2 of the texts below the card, joined. -/
import Derived.Test.YtbmegmbnlajbbaaGreatDoorProg
import Derived.Test.YtbmegmbnlajbbaaGreatDoorTRpa
namespace Go.Proofs.YtbmegmbnlajbbaaGreatDoor
open Go Go.Fw Go.Proofs
set_option maxRecDepth 100000
noncomputable abbrev P:Program:=Tryz.prog
def qs:List FuncId:=[93,203,172,157,200,156,187]
theorem mixed:P.follows .mixedOrders=true:=by kernel_rfl
theorem fnT {f:FuncId}{fn:Func}(ann:Ann){vs:List Value}{w:World}{R:Ending->World->Prop}{T:Prop}(hf:P.funcs[f]?=some fn) (hT:T) (hb:fn.body=some (fn.body.getD .skip):=by rfl) (hn:(fn.name== "runtime.NumGoroutine")=false:=by kernel_rfl) (hl:Nat.ble (vs.map fun v=>((0:Nat),v)).length fn.ntmps=true:=by kernel_rfl) (hok:okC P qs fn.ntmps (fn.body.getD .skip) ann=true:=by kernel_rfl) (he:tr P qs (fn.body.getD .skip) ann (qbf 0 (vs.map fun v=>((0:Nat),v))) (qh5 P fn.results.toList R) w=T:=by kernel_rfl):zy P f vs.toArray w R:=by
 have h:=qcc (qs:=qs) (args:=vs.map fun v=>((0:Nat),v)) mixed hf hb hn hl hok (he.symm▸hT)
 rwa [List.map_map,show ((fun x:EV=>x.2)∘fun v:Value=>((0:Nat),v))=id from rfl,List.map_id] at h
theorem fnU {f:FuncId}{fn:Func}(ann:Ann2){vs:List Value}{w:World}{R:Ending->World->Prop}{T:Prop}(hf:P.funcs[f]?=some fn) (hT:T) (hb:fn.body=some (fn.body.getD .skip):=by rfl) (hn:(fn.name== "runtime.NumGoroutine")=false:=by kernel_rfl) (hl:Nat.ble (vs.map fun v=>((0:Nat),v)).length fn.ntmps=true:=by kernel_rfl) (hok:z5n P qs fn.ntmps (fn.body.getD .skip) ann=true:=by kernel_rfl) (he:tr2 P qs (fn.body.getD .skip) ann [] (qbf 0 (vs.map fun v=>((0:Nat),v))) (qb6 P fn.results.toList R) w=T:=by kernel_rfl):zy P f vs.toArray w R:=by
 have h:=z9o (qs:=qs) (args:=vs.map fun v=>((0:Nat),v)) mixed hf hb hn hl hok (he.symm▸hT)
 rwa [List.map_map,show ((fun x:EV=>x.2)∘fun v:Value=>((0:Nat),v))=id from rfl,List.map_id] at h
abbrev zl6:FuncId:=8
abbrev zna:FuncId:=12
abbrev zvw:FuncId:=13
abbrev zjh:FuncId:=14
abbrev ze3:FuncId:=17
abbrev zgr:FuncId:=18
abbrev zfh:FuncId:=19
abbrev ztx:FuncId:=29
abbrev zhp:FuncId:=30
abbrev zis:FuncId:=31
abbrev zif:FuncId:=35
abbrev ziq:FuncId:=40
abbrev zid:FuncId:=41
abbrev zh3:FuncId:=42
abbrev zoj:FuncId:=45
abbrev zou:FuncId:=46
abbrev znj:FuncId:=47
abbrev zf7:FuncId:=48
abbrev zom:FuncId:=49
abbrev zhs:FuncId:=50
abbrev zlf:FuncId:=51
abbrev zme:FuncId:=54
abbrev zm7:FuncId:=55
abbrev zhf:FuncId:=56
abbrev zge:FuncId:=57
abbrev zoy:FuncId:=58
abbrev zi8:FuncId:=59
abbrev zek:FuncId:=60
abbrev zgj:FuncId:=63
abbrev zfz:FuncId:=69
abbrev zrm:FuncId:=70
abbrev zkx:FuncId:=71
abbrev zll:FuncId:=72
abbrev zms:FuncId:=73
abbrev zfg:FuncId:=74
abbrev zhx:FuncId:=75
abbrev zgp:FuncId:=76
abbrev zha:FuncId:=77
abbrev zi7:FuncId:=78
abbrev zpg:FuncId:=81
abbrev zc3:FuncId:=82
abbrev zh5:FuncId:=85
abbrev zm3:FuncId:=89
abbrev zyz:FuncId:=90
abbrev zo7:FuncId:=91
abbrev zdn:FuncId:=93
abbrev zj3:FuncId:=94
abbrev zfd:FuncId:=95
abbrev zoi:FuncId:=96
abbrev zgl:FuncId:=97
abbrev zbz:FuncId:=98
abbrev zbh:FuncId:=99
abbrev zed:FuncId:=100
abbrev zmo:FuncId:=101
abbrev zhq:FuncId:=102
abbrev zxm:FuncId:=103
abbrev zk2:FuncId:=105
abbrev zax:FuncId:=106
abbrev zjt:FuncId:=107
abbrev zjw:FuncId:=108
abbrev zcn:FuncId:=109
abbrev zfq:FuncId:=110
abbrev zi5:FuncId:=111
abbrev zjy:FuncId:=112
abbrev zdl:FuncId:=113
abbrev zk6:FuncId:=114
abbrev zck:FuncId:=115
abbrev zg8:FuncId:=122
abbrev zg5:FuncId:=123
abbrev znk:FuncId:=128
abbrev zrt:FuncId:=129
abbrev zix:FuncId:=130
abbrev zm9:FuncId:=131
abbrev zp3:FuncId:=132
abbrev zdo:FuncId:=133
abbrev zjv:FuncId:=134
abbrev zia:FuncId:=135
abbrev zot:FuncId:=137
abbrev zow:FuncId:=138
abbrev zky:FuncId:=139
abbrev zjf:FuncId:=140
abbrev zfa:FuncId:=142
abbrev zh9:FuncId:=143
abbrev zgh:FuncId:=144
abbrev zgw:FuncId:=145
abbrev zrl:FuncId:=146
abbrev zde:FuncId:=148
abbrev zcq:FuncId:=149
abbrev zao:FuncId:=150
abbrev ziy:FuncId:=151
abbrev za0:FuncId:=152
abbrev zbr:FuncId:=153
abbrev zf0:FuncId:=156
abbrev zib:FuncId:=157
abbrev zj0:FuncId:=158
abbrev zbx:FuncId:=159
abbrev zav:FuncId:=162
abbrev zd1:FuncId:=163
abbrev zey:FuncId:=164
abbrev zbj:FuncId:=165
abbrev zd3:FuncId:=166
abbrev zb9:FuncId:=167
abbrev zdr:FuncId:=168
abbrev zgx:FuncId:=169
abbrev zfi:FuncId:=170
abbrev zho:FuncId:=171
abbrev zo1:FuncId:=172
abbrev zj1:FuncId:=175
abbrev zem:FuncId:=176
abbrev zhh:FuncId:=177
abbrev zhl:FuncId:=178
abbrev zfx:FuncId:=179
abbrev zk0:FuncId:=180
abbrev zcf:FuncId:=181
abbrev zbi:FuncId:=182
abbrev zfj:FuncId:=184
abbrev zaf:FuncId:=185
abbrev zaj:FuncId:=186
abbrev zch:FuncId:=187
abbrev zfy:FuncId:=188
abbrev zlb:FuncId:=189
abbrev ze2:FuncId:=200
abbrev zce:FuncId:=201
abbrev zex:FuncId:=202
abbrev jy:FuncId:=203
abbrev zjs:FuncId:=204
abbrev zcw:FuncId:=205
abbrev zfu:FuncId:=206
abbrev zlg:FuncId:=207
abbrev zdm:FuncId:=216
abbrev zgq:FuncId:=222
abbrev zet:FuncId:=223
abbrev zmv:FuncId:=224
abbrev zc7:FuncId:=228
abbrev zbq:FuncId:=231
abbrev zec:FuncId:=232
abbrev zjb:FuncId:=233
abbrev ze5:FuncId:=234
abbrev zdk:FuncId:=235
abbrev zdb:TypeId:=0
abbrev zbl:TypeId:=3
abbrev qw:TypeId:=5
abbrev jw:TypeId:=9
abbrev zmu:TypeId:=22
abbrev zds:TypeId:=25
abbrev zf:TypeId:=30
abbrev zeq:TypeId:=31
abbrev jc:TypeId:=37
abbrev zf3:TypeId:=39
abbrev za1:TypeId:=44
abbrev zi:TypeId:=45
abbrev zit:TypeId:=54
abbrev zew:TypeId:=56
abbrev zvq:TypeId:=57
abbrev zo:TypeId:=59
abbrev za2:TypeId:=63
abbrev xg:TypeId:=84
abbrev zq9:TypeId:=86
abbrev zu:TypeId:=88
abbrev jh:TypeId:=102
abbrev zgc:TypeId:=104
abbrev za5:TypeId:=105
abbrev zaa:TypeId:=108
abbrev jq:TypeId:=111
abbrev zcv:TypeId:=112
abbrev zh:TypeId:=114
abbrev zam:TypeId:=115
abbrev qj:TypeId:=117
abbrev zgs:TypeId:=129
abbrev zbb:TypeId:=135
abbrev ztq:TypeId:=138
abbrev za8:TypeId:=141
abbrev zad:TypeId:=142
abbrev zzb:TypeId:=144
abbrev jf:TypeId:=147
abbrev zdh:TypeId:=162
abbrev zni:TypeId:=163
abbrev vk:TypeId:=164
abbrev zas:TypeId:=165
abbrev ji:TypeId:=168
abbrev zda:TypeId:=169
abbrev zb5:TypeId:=187
abbrev zsd:TypeId:=207
abbrev zrq:TypeId:=210
abbrev znb:TypeId:=227
abbrev zel:TypeId:=247
abbrev zal:TypeId:=249
abbrev zgd:TypeId:=258
abbrev zrf:TypeId:=264
abbrev za6:TypeId:=266
abbrev zkm:TypeId:=267
abbrev zkl:TypeId:=269
abbrev zql:TypeId:=286
abbrev zhw:TypeId:=303
def zw8 (x:Int) (n:Int) (R:Ending->World->Prop) (w:World):Prop:=
  zzc .u32 x n fun t7=>
  zk3 .u64 32 n fun t10=>
  z8i .u32 x t10 fun t11=>
  orI .u32 t7 t11 fun t12=>
  R (.returned (Value.int .u32 t12)) w
theorem z3e {x:Int}{n:Int}{R:Ending->World->Prop}{w:World}(hT:zw8 x n R w):zy P zdn #[(Value.int .u32 x),(Value.int .u64 n)] w R:=
 fnT (.seq .leaf (.seq .leaf .leaf)) Tryz.func93 hT
def zf8 (x:Int) (k:Int) (R:Ending->World->Prop) (w:World):Prop:=
  cvI .u64 k fun t7=>
  z3g .u64 t7 31 fun t8=>
  z8i .u32 x t8 fun t11=>
  zk3 .u64 32 t8 fun t14=>
  zzc .u32 x t14 fun t15=>
  orI .u32 t11 t15 fun t16=>
  R (.returned (Value.int .u32 t16)) w
theorem zjz {x:Int}{k:Int}{R:Ending->World->Prop}{w:World}(hT:zf8 x k R w):zy P jy #[(Value.int .u32 x),(Value.int .i64 k)] w R:=
 fnT (.seq .leaf (.seq .leaf (.seq .leaf .leaf))) Tryz.func203 hT
def zv0 (c:Int) (R:Ending->World->Prop) (w:World):Prop:=
  xu (decide (c>=97)) (
  xu (decide (c<=122)) (
  R (.returned (Value.bool true)) w) (
  xu (decide (c>=65)) (
  xu (decide (c<=90)) (
  R (.returned (Value.bool true)) w) (
  xu (decide (c>=48)) (
  xu (decide (c<=57)) (
  R (.returned (Value.bool true)) w) (
  xu (c==46) (
  R (.returned (Value.bool true)) w) (
  xu (c==95) (
  R (.returned (Value.bool true)) w) (
  R (.returned (Value.bool (c==45))) w)))) (
  xu (c==46) (
  R (.returned (Value.bool true)) w) (
  xu (c==95) (
  R (.returned (Value.bool true)) w) (
  R (.returned (Value.bool (c==45))) w))))) (
  xu (decide (c>=48)) (
  xu (decide (c<=57)) (
  R (.returned (Value.bool true)) w) (
  xu (c==46) (
  R (.returned (Value.bool true)) w) (
  xu (c==95) (
  R (.returned (Value.bool true)) w) (
  R (.returned (Value.bool (c==45))) w)))) (
  xu (c==46) (
  R (.returned (Value.bool true)) w) (
  xu (c==95) (
  R (.returned (Value.bool true)) w) (
  R (.returned (Value.bool (c==45))) w)))))) (
  xu (decide (c>=65)) (
  xu (decide (c<=90)) (
  R (.returned (Value.bool true)) w) (
  xu (decide (c>=48)) (
  xu (decide (c<=57)) (
  R (.returned (Value.bool true)) w) (
  xu (c==46) (
  R (.returned (Value.bool true)) w) (
  xu (c==95) (
  R (.returned (Value.bool true)) w) (
  R (.returned (Value.bool (c==45))) w)))) (
  xu (c==46) (
  R (.returned (Value.bool true)) w) (
  xu (c==95) (
  R (.returned (Value.bool true)) w) (
  R (.returned (Value.bool (c==45))) w))))) (
  xu (decide (c>=48)) (
  xu (decide (c<=57)) (
  R (.returned (Value.bool true)) w) (
  xu (c==46) (
  R (.returned (Value.bool true)) w) (
  xu (c==95) (
  R (.returned (Value.bool true)) w) (
  R (.returned (Value.bool (c==45))) w)))) (
  xu (c==46) (
  R (.returned (Value.bool true)) w) (
  xu (c==95) (
  R (.returned (Value.bool true)) w) (
  R (.returned (Value.bool (c==45))) w)))))
theorem zzi {c:Int}{R:Ending->World->Prop}{w:World}(hT:zv0 c R w):zy P zo1 #[(Value.int .u8 c)] w R:=
 fnT (.seq .leaf (.seq .leaf .leaf)) Tryz.func172 hT
def zp0 (c:Int) (R:Ending->World->Prop) (w:World):Prop:=
  ku Unit (fun k=>
  ku Unit (fun k_1=>
  ku Unit (fun k_2=>
  ku Unit (fun k_3=>
  ku Unit (fun k_4=>
  ku Unit (fun k_5=>
  ku Unit (fun k_6=>
  ku Unit (fun k_7=>
  xu (c==46) (
  k_5 () w) (
  xu (c==95) (
  k_5 () w) (
  xu (c==45) (
  k_5 () w) (
  k_7 () w)))) (fun _ w_1=>
  ku Unit (fun k_8=>
  xu (decide (c>=48)) (
  xu (decide (c<=57)) (
  k_4 () w_1) (
  k_8 () w_1)) (
  k_8 () w_1)) (fun _ w_2=>
  xu (decide (c>=97)) (
  xu (decide (c<=122)) (
  k_3 () w_2) (
  k_6 () w_2)) (
  k_6 () w_2)))) (fun _ w_3=>
  k_1 () w_3)) (fun _ w_4=>
  k_4 () w_4)) (fun _ w_5=>
  k_3 () w_5)) (fun _ w_6=>
  k_2 () w_6)) (fun _ w_7=>
  R (.returned (Value.bool true)) w_7)) (fun _ w_8=>
  k () w_8)) (fun _ w_9=>
  xu (decide (c>=65)) (
  R (.returned (Value.bool (decide (c<=90)))) w_9) (
  R (.returned (Value.bool false)) w_9))
theorem zwa {c:Int}{R:Ending->World->Prop}{w:World}(hT:zp0 c R w):zy P zib #[(Value.int .u8 c)] w R:=
 fnT (.seq .leaf (.join [] (.jblk [] (.join [] (.jblk [] (.jblk [] (.jblk [] (.join [] (.join [] (.seq .leaf (.cond .leaf .leaf)) (.join [] (.seq .leaf (.cond .leaf .leaf)) (.seq .leaf (.cond .leaf .leaf)))) .leaf)))) (.seq (.seq .leaf .leaf) .leaf))) (.seq .leaf .leaf))) Tryz.func157 hT
def zjo (x:ByteArray) (R:Ending->World->Prop) (w:World):Prop:=
  R (.returned (Value.bool (!(x.toList==x.toList)))) w
theorem zoo {x:ByteArray}{R:Ending->World->Prop}{w:World}(hT:zjo x R w):zy P ze2 #[(Value.string x)] w R:=
 fnT (.seq .leaf (.seq .leaf .leaf)) Tryz.func200 hT
def zim (s:ByteArray) (prefixv:ByteArray) (R:Ending->World->Prop) (w:World):Prop:=
  zgn P zch #[(Value.string s),(Value.string prefixv)] [.bool] false w fun (t7:Bool)=>
  R (.returned (Value.bool t7)) w
theorem zns {s:ByteArray}{prefixv:ByteArray}{R:Ending->World->Prop}{w:World}(hT:zim s prefixv R w):zy P zf0 #[(Value.string s),(Value.string prefixv)] w R:=
 fnT (.seq .leaf (.seq .leaf .leaf)) Tryz.func156 hT
def zdy (s:ByteArray) (prefixv:ByteArray) (R:Ending->World->Prop) (w:World):Prop:=
  xu (decide ((s.size:Int)>=(prefixv.size:Int))) (
  zba P (Instr.sliceAt jw (Value.string s) none (some (Value.int .i64 (prefixv.size:Int))) none) .str w fun (t14:ByteArray)=>
  R (.returned (Value.bool (t14.toList==prefixv.toList))) w) (
  R (.returned (Value.bool false)) w)
theorem zgz {s:ByteArray}{prefixv:ByteArray}{R:Ending->World->Prop}{w:World}(hT:zdy s prefixv R w):zy P zch #[(Value.string s),(Value.string prefixv)] w R:=
 fnT (.seq .leaf (.seq .leaf .leaf)) Tryz.func187 hT
def zzu (b:Option Addr) (b_l b_c:Nat) (R:Ending->World->Prop) (w:World):Prop:=
  zbm (zc P zf) zf w fun b2 w_1=>
  zaw P (Instr.buildSlice zi 0 #[]) .slc w_1 fun (t23:(Option Addr×Nat×Nat)) w_2=>
  zaw P (Builtin.append_ #[zi,zi] zi #[(Value.slice t23.1 t23.2.1 t23.2.2),(Value.slice b b_l b_c)]) .slc w_2 fun (t25:(Option Addr×Nat×Nat)) w_3=>
  zaw P (Instr.buildSlice zi 1 #[(0,(Value.int .u8 128))]) .slc w_3 fun (t27:(Option Addr×Nat×Nat)) w_4=>
  zaw P (Builtin.append_ #[zi,zi] zi #[(Value.slice t25.1 t25.2.1 t25.2.2),(Value.slice t27.1 t27.2.1 t27.2.2)]) .slc w_4 fun (t28:(Option Addr×Nat×Nat)) w_5=>
  za4 (Option Addr×Nat×Nat) (fun s w_6 k=>
  qa3 (s.2.1:Int) 64 fun t31=>
  xu (t31 != 56) (
  zaw P (Instr.buildSlice zi 1 #[(0,(Value.int .u8 0))]) .slc w_6 fun (t34:(Option Addr×Nat×Nat)) w_7=>
  zaw P (Builtin.append_ #[zi,zi] zi #[(Value.slice s.1 s.2.1 s.2.2),(Value.slice t34.1 t34.2.1 t34.2.2)]) .slc w_7 fun (t35:(Option Addr×Nat×Nat)) w_8=>
  k (t35.1,t35.2.1,t35.2.2) w_8) (
  cvI .u64 (b_l:Int) fun t38=>
  zv3 .u64 t38 8 fun t39=>
  za4 ((Option Addr×Nat×Nat)×Int) (fun s_1 w_9 k_1=>
  xu (decide (s_1.2 < 8)) (
  zv3 .i64 8 s_1.2 fun t47=>
  zk3 .i64 56 t47 fun t48=>
  cvI .u64 t48 fun t49=>
  zzc .u64 t39 t49 fun t50=>
  cvI .u8 t50 fun t51=>
  zaw P (Instr.buildSlice zi 1 #[(0,(Value.int .u8 t51))]) .slc w_9 fun (t52:(Option Addr×Nat×Nat)) w_10=>
  zaw P (Builtin.append_ #[zi,zi] zi #[(Value.slice s_1.1.1 s_1.1.2.1 s_1.1.2.2),(Value.slice t52.1 t52.2.1 t52.2.2)]) .slc w_10 fun (t53:(Option Addr×Nat×Nat)) w_11=>
  zbv .i64 s_1.2 1 fun t43=>
  k_1 ((t53.1,t53.2.1,t53.2.2),t43) w_11) (
  zba P (Instr.build vk #[(0,(Value.int .u32 1779033703)),(1,(Value.int .u32 3144134277)),(2,(Value.int .u32 1013904242)),(3,(Value.int .u32 2773480762)),(4,(Value.int .u32 1359893119)),(5,(Value.int .u32 2600822924)),(6,(Value.int .u32 528734635)),(7,(Value.int .u32 1541459225))]) .any w_9 fun (t54:Value)=>
  zbm (zc P vk) vk w_9 fun b6 w_12=>
  zb8 P (storeVar vk (⟨b6,0,none⟩:Addr) t54) w_12 fun w_13=>
  zbm (zc P zas) zas w_13 fun b7 w_14=>
  za4 Int (fun s_2 w_15 k_2=>
  xu (decide (s_2 < (s_1.1.2.1:Int))) (
  za4 Int (fun s_3 w_16 k_3=>
  xu (decide (s_3 < 64)) (
  ku Unit (fun k_4=>
  ku Unit (fun k_5=>
  xu (decide (s_3 < 16)) (
  ixR (⟨b7,0,none⟩:Addr) 64 1 s_3 fun t68=>
  stC t68 (Value.int .u32 0) w_16 fun w_17=>
  za4 Int (fun s_4 w_18 k_6=>
  xu (decide (s_4 < 4)) (
  zbn w_18 fun w_19=>
  ixR (⟨b7,0,none⟩:Addr) 64 1 s_3 fun t75=>
  zv3 .i64 4 s_3 fun t81=>
  zbv .i64 s_2 t81 fun t82=>
  zbv .i64 t82 s_4 fun t84=>
  ixS s_1.1.1 s_1.1.2.1 1 t84 fun t85=>
  ld (.int .u32) t75 w_19 fun (t76:Int)=>
  z8i .u32 t76 8 fun t77=>
  ld (.int .u8) t85 w_19 fun (t86:Int)=>
  cvI .u32 t86 fun t87=>
  orI .u32 t77 t87 fun t88=>
  ixR (⟨b7,0,none⟩:Addr) 64 1 s_3 fun t89=>
  stC t89 (Value.int .u32 t88) w_19 fun w_20=>
  zbv .i64 s_4 1 fun t72=>
  k_6 t72 w_20) (
  k_5 () w_18)) 0 w_17) (
  zk3 .i64 s_3 2 fun t91=>
  ixR (⟨b7,0,none⟩:Addr) 64 1 t91 fun t92=>
  ld (.int .u32) t92 w_16 fun (t93:Int)=>
  zk3 .i64 s_3 15 fun t95=>
  ixR (⟨b7,0,none⟩:Addr) 64 1 t95 fun t96=>
  ld (.int .u32) t96 w_16 fun (t97:Int)=>
  zbn w_16 fun w_21=>
  zzc .u32 t93 10 fun t105=>
  zk3 .i64 s_3 7 fun t108=>
  ixR (⟨b7,0,none⟩:Addr) 64 1 t108 fun t109=>
  zzc .u32 t97 3 fun t118=>
  zk3 .i64 s_3 16 fun t122=>
  ixR (⟨b7,0,none⟩:Addr) 64 1 t122 fun t123=>
  zgn P zdn #[(Value.int .u32 t93),(Value.int .u64 17)] [.int .u32] false w_21 fun (t100:Int)=>
  zgn P zdn #[(Value.int .u32 t93),(Value.int .u64 19)] [.int .u32] false w_21 fun (t102:Int)=>
  zn3 .u32 t100 t102 fun t103=>
  zn3 .u32 t103 t105 fun t106=>
  ld (.int .u32) t109 w_21 fun (t110:Int)=>
  zbv .u32 t106 t110 fun t111=>
  zgn P zdn #[(Value.int .u32 t97),(Value.int .u64 7)] [.int .u32] false w_21 fun (t113:Int)=>
  zgn P zdn #[(Value.int .u32 t97),(Value.int .u64 18)] [.int .u32] false w_21 fun (t115:Int)=>
  zn3 .u32 t113 t115 fun t116=>
  zn3 .u32 t116 t118 fun t119=>
  zbv .u32 t111 t119 fun t120=>
  ld (.int .u32) t123 w_21 fun (t124:Int)=>
  zbv .u32 t120 t124 fun t125=>
  ixR (⟨b7,0,none⟩:Addr) 64 1 s_3 fun t126=>
  stC t126 (Value.int .u32 t125) w_21 fun w_22=>
  k_5 () w_22)) (fun _ w_23=>
  k_4 () w_23)) (fun _ w_24=>
  zbv .i64 s_3 1 fun t64=>
  k_3 t64 w_24)) (
  ldA P 8 (⟨b6,0,none⟩:Addr) w_16 fun t127=>
  zbm (zc P vk) vk w_16 fun b13 w_25=>
  zb8 P (storeVar vk (⟨b13,0,none⟩:Addr) (Value.agg t127)) w_25 fun w_26=>
  za4 Int (fun s_7 w_27 k_7=>
  xu (decide (s_7 < 64)) (
  ld (.int .u32) (⟨b13,4,none⟩:Addr) w_27 fun (t133:Int)=>
  ld (.int .u32) (⟨b13,0,none⟩:Addr) w_27 fun (t135:Int)=>
  zbn w_27 fun w_28=>
  zn3 .u32 4294967295 t133 fun t152=>
  ixR (⟨b7,0,none⟩:Addr) 64 1 s_7 fun t162=>
  ld (.int .u32) (⟨b13,7,none⟩:Addr) w_28 fun (t137:Int)=>
  zgn P zdn #[(Value.int .u32 t133),(Value.int .u64 6)] [.int .u32] false w_28 fun (t139:Int)=>
  zgn P zdn #[(Value.int .u32 t133),(Value.int .u64 11)] [.int .u32] false w_28 fun (t141:Int)=>
  zn3 .u32 t139 t141 fun t142=>
  zgn P zdn #[(Value.int .u32 t133),(Value.int .u64 25)] [.int .u32] false w_28 fun (t144:Int)=>
  zn3 .u32 t142 t144 fun t145=>
  zbv .u32 t137 t145 fun t146=>
  ld (.int .u32) (⟨b13,5,none⟩:Addr) w_28 fun (t149:Int)=>
  z3g .u32 t133 t149 fun t150=>
  ld (.int .u32) (⟨b13,6,none⟩:Addr) w_28 fun (t154:Int)=>
  z3g .u32 t152 t154 fun t155=>
  zn3 .u32 t150 t155 fun t156=>
  zbv .u32 t146 t156 fun t157=>
  ld (.int .u32) t162 w_28 fun (t163:Int)=>
  qy P zj3 #[(Value.int .i64 s_7)] [.int .u32] false w_28 fun (t159:Int) w_29=>
  ((ld (.int .u32) t162 w_29 fun (t163_1:Int)=>
  (Value.int .u32 t163_1)=(Value.int .u32 t163)) /\
  ((ld (.int .u32) (⟨b13,6,none⟩:Addr) w_29 fun (t154_1:Int)=>
  (Value.int .u32 t154_1)=(Value.int .u32 t154)) /\
  ((ld (.int .u32) (⟨b13,5,none⟩:Addr) w_29 fun (t149_1:Int)=>
  (Value.int .u32 t149_1)=(Value.int .u32 t149)) /\
  ((ld (.int .u32) (⟨b13,7,none⟩:Addr) w_29 fun (t137_1:Int)=>
  (Value.int .u32 t137_1)=(Value.int .u32 t137)) /\
  zbv .u32 t157 t159 fun t160=>
  zbv .u32 t160 t163 fun t164=>
  zbn w_29 fun w_30=>
  zgn P zdn #[(Value.int .u32 t135),(Value.int .u64 2)] [.int .u32] false w_30 fun (t166:Int)=>
  zgn P zdn #[(Value.int .u32 t135),(Value.int .u64 13)] [.int .u32] false w_30 fun (t168:Int)=>
  zn3 .u32 t166 t168 fun t169=>
  zgn P zdn #[(Value.int .u32 t135),(Value.int .u64 22)] [.int .u32] false w_30 fun (t171:Int)=>
  zn3 .u32 t169 t171 fun t172=>
  ld (.int .u32) (⟨b13,1,none⟩:Addr) w_30 fun (t175:Int)=>
  z3g .u32 t135 t175 fun t176=>
  ld (.int .u32) (⟨b13,2,none⟩:Addr) w_30 fun (t179:Int)=>
  z3g .u32 t135 t179 fun t180=>
  zn3 .u32 t176 t180 fun t181=>
  ld (.int .u32) (⟨b13,1,none⟩:Addr) w_30 fun (t183:Int)=>
  ld (.int .u32) (⟨b13,2,none⟩:Addr) w_30 fun (t185:Int)=>
  z3g .u32 t183 t185 fun t186=>
  zn3 .u32 t181 t186 fun t187=>
  zbv .u32 t172 t187 fun t188=>
  za4 Int (fun s_8 w_31 k_8=>
  xu (decide (s_8 > 0)) (
  zk3 .i64 s_8 1 fun t195=>
  ixR (⟨b13,0,none⟩:Addr) 8 1 t195 fun t196=>
  ld (.int .u32) t196 w_31 fun (t197:Int)=>
  ixR (⟨b13,0,none⟩:Addr) 8 1 s_8 fun t198=>
  stC t198 (Value.int .u32 t197) w_31 fun w_32=>
  zk3 .i64 s_8 1 fun t192=>
  k_8 t192 w_32) (
  ld (.int .u32) (⟨b13,4,none⟩:Addr) w_31 fun (t200:Int)=>
  zbv .u32 t200 t164 fun t202=>
  stC (⟨b13,4,none⟩:Addr) (Value.int .u32 t202) w_31 fun w_33=>
  zbv .u32 t164 t188 fun t206=>
  stC (⟨b13,0,none⟩:Addr) (Value.int .u32 t206) w_33 fun w_34=>
  zbv .i64 s_7 1 fun t131=>
  k_7 t131 w_34)) 7 w_30))))) (
  za4 Int (fun s_9 w_35 k_9=>
  xu (decide (s_9 < 8)) (
  zbn w_35 fun w_36=>
  ixR (⟨b6,0,none⟩:Addr) 8 1 s_9 fun t214=>
  ixR (⟨b13,0,none⟩:Addr) 8 1 s_9 fun t217=>
  ld (.int .u32) t214 w_36 fun (t215:Int)=>
  ld (.int .u32) t217 w_36 fun (t218:Int)=>
  zbv .u32 t215 t218 fun t219=>
  ixR (⟨b6,0,none⟩:Addr) 8 1 s_9 fun t220=>
  stC t220 (Value.int .u32 t219) w_36 fun w_37=>
  zbv .i64 s_9 1 fun t211=>
  k_9 t211 w_37) (
  zbv .i64 s_2 64 fun t60=>
  k_2 t60 w_35)) 0 w_27)) 0 w_26)) 0 w_15) (
  zbm (zc P zf) zf w_15 fun b21 w_38=>
  za4 Int (fun s_10 w_39 k_10=>
  xu (decide (s_10 < 32)) (
  qe3 .i64 s_10 4 fun t227=>
  ixR (⟨b6,0,none⟩:Addr) 8 1 t227 fun t228=>
  ld (.int .u32) t228 w_39 fun (t229:Int)=>
  qa3 s_10 4 fun t231=>
  zv3 .i64 8 t231 fun t232=>
  zk3 .i64 24 t232 fun t233=>
  cvI .u64 t233 fun t234=>
  zzc .u32 t229 t234 fun t235=>
  cvI .u8 t235 fun t236=>
  ixR (⟨b21,0,none⟩:Addr) 32 1 s_10 fun t237=>
  stC t237 (Value.int .u8 t236) w_39 fun w_40=>
  zbv .i64 s_10 1 fun t224=>
  k_10 t224 w_40) (
  ldA P 32 (⟨b21,0,none⟩:Addr) w_39 fun t238=>
  zb8 P (storeVar zf (⟨b2,0,none⟩:Addr) (Value.agg t238)) w_39 fun w_41=>
  ldA P 32 (⟨b2,0,none⟩:Addr) w_41 fun t2=>
  R (.returned (Value.agg t2)) w_41)) 0 w_38)) 0 w_14)) ((s.1,s.2.1,s.2.2),0) w_6)) (t28.1,t28.2.1,t28.2.2) w_5
theorem z5l {b:Option Addr}{b_l b_c:Nat}{R:Ending->World->Prop}{w:World}(hT:zzu b b_l b_c R w):zy P ziq #[(Value.slice b b_l b_c)] w R:=
 fnT (.seq .leaf (.seq .leaf (.seq .leaf (.seq (.blk (.loop [(3,.slc)] (.seq (.seq .leaf (.cond .leaf .leaf)) (.blk .leaf)))) (.seq .leaf (.seq (.seq .leaf (.blk (.loop [(3,.slc),(5,.int .i64)] (.seq (.seq .leaf (.cond .leaf .leaf)) (.seq (.blk .leaf) .leaf))))) (.seq .leaf (.seq .leaf (.seq (.seq .leaf (.blk (.loop [(8,.int .i64)] (.seq (.seq .leaf (.cond .leaf .leaf)) (.seq (.blk (.seq (.seq .leaf (.blk (.loop [(9,.int .i64)] (.seq (.seq .leaf (.cond .leaf .leaf)) (.join [] (.jblk [] (.seq (.seq .leaf (.cond (.seq .leaf (.seq (.seq .leaf (.blk (.loop [(10,.int .i64)] (.seq (.seq .leaf (.cond .leaf .leaf)) (.seq (.blk (.tree (.op 0 [] (.op 1 [] (.op 2 [] (.op 5 [] (.op 6 [] (.op 7 [] (.op 8 [] (.op 9 [] (.op 10 [] (.op 11 [] (.op 12 [] (.op 3 [] (.op 4 [] (.op 13 [] (.op 14 [] (.op 15 [] (.op 16 [] (.op 17 [] .done)))))))))))))))))))) .leaf))))) .leaf)) .leaf)) (.seq .leaf (.seq .leaf (.tree (.op 0 [] (.op 1 [] (.op 3 [] (.op 6 [] (.op 7 [] (.op 9 [] (.op 10 [] (.op 11 [] (.op 14 [] (.op 16 [] (.op 19 [] (.op 20 [] (.op 23 [] (.op 24 [] (.op 25 [] (.op 2 [] (.op 4 [] (.op 5 [] (.op 8 [] (.op 12 [] (.op 13 [] (.op 15 [] (.op 17 [] (.op 18 [] (.op 21 [] (.op 22 [] (.op 26 [] (.op 27 [] (.op 28 [] (.op 29 [] .done))))))))))))))))))))))))))))))))))) .leaf))))) (.seq .leaf (.seq (.seq .leaf (.blk (.loop [(14,.int .i64)] (.seq (.seq .leaf (.cond .leaf .leaf)) (.seq (.blk (.seq .leaf (.seq .leaf (.seq (.tree (.op 0 [] (.op 2 [] (.op 4 [] (.op 7 [] (.op 11 [] (.op 12 [] (.op 15 [] (.op 16 [] (.op 17 [] (.op 22 [] (.op 25 [] (.op 26 [] (.op 1 [] (.op 3 [] (.op 5 [] (.op 6 [] (.op 8 [] (.op 9 [] (.op 10 [] (.op 13 [] (.op 14 [] (.op 18 [] (.op 19 [] (.op 20 [] (.op 21 [] (.op 27 [] (.op 23 [1,13,18,27] (.op 24 [] (.op 28 [] (.op 29 [] .done))))))))))))))))))))))))))))))) (.seq (.tree (.op 0 [] (.op 2 [] (.op 5 [] (.op 8 [] (.op 9 [] (.op 12 [] (.op 13 [] (.op 17 [] (.op 19 [] (.op 1 [] (.op 3 [] (.op 4 [] (.op 6 [] (.op 7 [] (.op 10 [] (.op 11 [] (.op 14 [] (.op 15 [] (.op 16 [] (.op 18 [] (.op 20 [] (.op 21 [] (.op 22 [] (.op 23 [] (.op 24 [] .done)))))))))))))))))))))))))) (.seq (.seq .leaf (.blk (.loop [(19,.int .i64)] (.seq (.seq .leaf (.cond .leaf .leaf)) (.seq (.blk .leaf) .leaf))))) (.seq .leaf .leaf))))))) .leaf))))) (.seq .leaf (.blk (.loop [(20,.int .i64)] (.seq (.seq .leaf (.cond .leaf .leaf)) (.seq (.blk (.tree (.op 0 [] (.op 1 [] (.op 2 [] (.op 4 [] (.op 5 [] (.op 3 [] (.op 6 [] (.op 7 [] (.op 8 [] (.op 9 [] .done)))))))))))) .leaf))))))))) .leaf))))) (.seq .leaf (.seq (.seq .leaf (.blk (.loop [(22,.int .i64)] (.seq (.seq .leaf (.cond .leaf .leaf)) (.seq (.blk .leaf) .leaf))))) (.seq .leaf .leaf)))))))))))) Tryz.func40 hT
def zsk (names:Option Addr) (names_l names_c:Nat) (R:Ending->World->Prop) (w:World):Prop:=
  qy P zjy #[(Value.slice names names_l names_c),(Value.string (ByteArray.mk #[47]))] [.str] false w fun (t4:ByteArray) w_1=>
  qiy (ByteArray.mk #[47]) t4 fun t5=>
  R (.returned (Value.string t5)) w_1
theorem zyn {names:Option Addr}{names_l names_c:Nat}{R:Ending->World->Prop}{w:World}(hT:zsk names names_l names_c R w):zy P zge #[(Value.slice names names_l names_c)] w R:=
 fnT (.seq .leaf (.seq .leaf .leaf)) Tryz.func57 hT
def z1o (b:Option Addr) (b_l b_c:Nat) (R:Ending->World->Prop) (w:World):Prop:=
  zbm (zc P zf) zf w fun b2 w_1=>
  qy P zp3 #[] [.ptr] false w_1 fun (t4:(Option Addr)) w_2=>
  qy P zdo #[(Value.pointer t4),(Value.slice b b_l b_c)] [] true w_2 fun (_:Unit) w_3=>
  qy P zjv #[(Value.pointer t4)] [.any] false w_3 fun (t9:Value) w_4=>
  zb8 P (storeVar zf (⟨b2,0,none⟩:Addr) t9) w_4 fun w_5=>
  ldA P 32 (⟨b2,0,none⟩:Addr) w_5 fun t2=>
  R (.returned (Value.agg t2)) w_5
theorem z7e {b:Option Addr}{b_l b_c:Nat}{R:Ending->World->Prop}{w:World}(hT:z1o b b_l b_c R w):zy P zi7 #[(Value.slice b b_l b_c)] w R:=
 fnT (.seq .leaf (.seq .leaf (.seq .leaf (.seq .leaf .leaf)))) Tryz.func78 hT
def zoe (t:Int) (R:Ending->World->Prop) (w:World):Prop:=
  zba P (Instr.build zas #[(0,(Value.int .u32 1116352408)),(1,(Value.int .u32 1899447441)),(2,(Value.int .u32 3049323471)),(3,(Value.int .u32 3921009573)),(4,(Value.int .u32 961987163)),(5,(Value.int .u32 1508970993)),(6,(Value.int .u32 2453635748)),(7,(Value.int .u32 2870763221)),(8,(Value.int .u32 3624381080)),(9,(Value.int .u32 310598401)),(10,(Value.int .u32 607225278)),(11,(Value.int .u32 1426881987)),(12,(Value.int .u32 1925078388)),(13,(Value.int .u32 2162078206)),(14,(Value.int .u32 2614888103)),(15,(Value.int .u32 3248222580)),(16,(Value.int .u32 3835390401)),(17,(Value.int .u32 4022224774)),(18,(Value.int .u32 264347078)),(19,(Value.int .u32 604807628)),(20,(Value.int .u32 770255983)),(21,(Value.int .u32 1249150122)),(22,(Value.int .u32 1555081692)),(23,(Value.int .u32 1996064986)),(24,(Value.int .u32 2554220882)),(25,(Value.int .u32 2821834349)),(26,(Value.int .u32 2952996808)),(27,(Value.int .u32 3210313671)),(28,(Value.int .u32 3336571891)),(29,(Value.int .u32 3584528711)),(30,(Value.int .u32 113926993)),(31,(Value.int .u32 338241895)),(32,(Value.int .u32 666307205)),(33,(Value.int .u32 773529912)),(34,(Value.int .u32 1294757372)),(35,(Value.int .u32 1396182291)),(36,(Value.int .u32 1695183700)),(37,(Value.int .u32 1986661051)),(38,(Value.int .u32 2177026350)),(39,(Value.int .u32 2456956037)),(40,(Value.int .u32 2730485921)),(41,(Value.int .u32 2820302411)),(42,(Value.int .u32 3259730800)),(43,(Value.int .u32 3345764771)),(44,(Value.int .u32 3516065817)),(45,(Value.int .u32 3600352804)),(46,(Value.int .u32 4094571909)),(47,(Value.int .u32 275423344)),(48,(Value.int .u32 430227734)),(49,(Value.int .u32 506948616)),(50,(Value.int .u32 659060556)),(51,(Value.int .u32 883997877)),(52,(Value.int .u32 958139571)),(53,(Value.int .u32 1322822218)),(54,(Value.int .u32 1537002063)),(55,(Value.int .u32 1747873779)),(56,(Value.int .u32 1955562222)),(57,(Value.int .u32 2024104815)),(58,(Value.int .u32 2227730452)),(59,(Value.int .u32 2361852424)),(60,(Value.int .u32 2428436474)),(61,(Value.int .u32 2756734187)),(62,(Value.int .u32 3204031479)),(63,(Value.int .u32 3329325298))]) .any w fun (t4:Value)=>
  zbm (zc P zas) zas w fun b3 w_1=>
  zb8 P (storeVar zas (⟨b3,0,none⟩:Addr) t4) w_1 fun w_2=>
  ixR (⟨b3,0,none⟩:Addr) 64 1 t fun t6=>
  ld (.int .u32) t6 w_2 fun (t7:Int)=>
  R (.returned (Value.int .u32 t7)) w_2
theorem zt7 {t:Int}{R:Ending->World->Prop}{w:World}(hT:zoe t R w):zy P zj3 #[(Value.int .i64 t)] w R:=
 fnT (.seq .leaf (.seq .leaf (.seq .leaf .leaf))) Tryz.func94 hT
def zpo (a:Value) (b:Value) (R:Ending->World->Prop) (w:World):Prop:=
  zbm (Value.cells a) zf w fun b2 w_1=>
  zbm (Value.cells b) zf w_1 fun b3 w_2=>
  zbn w_2 fun w_3=>
  zba P (Instr.sliceAt zf (Value.pointer (some (⟨b2,0,none⟩:Addr))) none none none) .slc w_3 fun (t5:(Option Addr×Nat×Nat))=>
  zba P (Instr.sliceAt zf (Value.pointer (some (⟨b3,0,none⟩:Addr))) none none none) .slc w_3 fun (t6:(Option Addr×Nat×Nat))=>
  qy P ziy #[(Value.slice t5.1 t5.2.1 t5.2.2),(Value.slice t6.1 t6.2.1 t6.2.2)] [.int .i64] false w_3 fun (t7:Int) w_4=>
  R (.returned (Value.int .i64 t7)) w_4
theorem zwm {a:Value}{b:Value}{R:Ending->World->Prop}{w:World}(hT:zpo a b R w):zy P zed #[a,b] w R:=
 fnT (.seq .leaf (.seq (.tree (.op 0 [] (.op 1 [] (.op 2 [] (.op 3 [] .done))))) .leaf)) Tryz.func100 hT
def zpm (s:ByteArray) (R:Ending->World->Prop) (w:World):Prop:=
  zbm (zc P zam) zam w fun b2 w_1=>
  zbm (zc P zeq) zeq w_1 fun b3 w_2=>
  xu (decide ((s.size:Int) > 256)) (
  stC (⟨b2,0,none⟩:Addr) (Value.slice none 0 0) w_2 fun w_3=>
  stC (⟨b3,0,none⟩:Addr) (Value.int .i64 2) w_3 fun w_4=>
  ld .slc (⟨b2,0,none⟩:Addr) w_4 fun (t2:(Option Addr×Nat×Nat))=>
  ld (.int .i64) (⟨b3,0,none⟩:Addr) w_4 fun (t3:Int)=>
  R (.returned (Value.tuple #[(Value.slice t2.1 t2.2.1 t2.2.2),(Value.int .i64 t3)])) w_4) (
  zgn P zf0 #[(Value.string s),(Value.string (ByteArray.mk #[47]))] [.bool] false w_2 fun (t11:Bool)=>
  xu (!t11) (
  stC (⟨b2,0,none⟩:Addr) (Value.slice none 0 0) w_2 fun w_5=>
  stC (⟨b3,0,none⟩:Addr) (Value.int .i64 40) w_5 fun w_6=>
  ld .slc (⟨b2,0,none⟩:Addr) w_6 fun (t2_1:(Option Addr×Nat×Nat))=>
  ld (.int .i64) (⟨b3,0,none⟩:Addr) w_6 fun (t3_1:Int)=>
  R (.returned (Value.tuple #[(Value.slice t2_1.1 t2_1.2.1 t2_1.2.2),(Value.int .i64 t3_1)])) w_6) (
  za4 Int (fun s_1 w_7 k=>
  xu (decide (s_1 < (s.size:Int))) (
  ku Unit (fun k_1=>
  ku Unit (fun k_2=>
  zuk s s_1 fun t20=>
  xu (t20 != 47) (
  zuk s s_1 fun t25=>
  zgn P zib #[(Value.int .u8 t25)] [.bool] false w_7 fun (t26:Bool)=>
  xu (!t26) (
  stC (⟨b2,0,none⟩:Addr) (Value.slice none 0 0) w_7 fun w_8=>
  stC (⟨b3,0,none⟩:Addr) (Value.int .i64 40) w_8 fun w_9=>
  ld .slc (⟨b2,0,none⟩:Addr) w_9 fun (t2_2:(Option Addr×Nat×Nat))=>
  ld (.int .i64) (⟨b3,0,none⟩:Addr) w_9 fun (t3_2:Int)=>
  R (.returned (Value.tuple #[(Value.slice t2_2.1 t2_2.2.1 t2_2.2.2),(Value.int .i64 t3_2)])) w_9) (
  k_2 () w_7)) (
  k_2 () w_7)) (fun _ w_10=>
  k_1 () w_10)) (fun _ w_11=>
  zbv .i64 s_1 1 fun t29=>
  k t29 w_11)) (
  zbm (zc P zam) zam w_7 fun b5 w_12=>
  qy P zj0 #[(Value.string s)] [.any] false w_12 fun (t31:Value) w_13=>
  zul P [.str] t31 w_13 (fun (x:ByteArray) w_14 beg kc kr _=>
  beg w_14 fun w_15=>
  ku Unit (fun k_3=>
  ku Unit (fun k_4=>
  xu (decide ((x.size:Int) > 16)) (
  stC (⟨b2,0,none⟩:Addr) (Value.slice none 0 0) w_15 fun w_16=>
  stC (⟨b3,0,none⟩:Addr) (Value.int .i64 41) w_16 fun w_17=>
  kr w_17) (
  xu (x.toList==(ByteArray.mk #[]).toList) (
  k_4 () w_15) (
  xu (x.toList==(ByteArray.mk #[46]).toList) (
  k_4 () w_15) (
  xu (x.toList==(ByteArray.mk #[46,46]).toList) (
  ld .slc (⟨b5,0,none⟩:Addr) w_15 fun (t51:(Option Addr×Nat×Nat))=>
  ld .slc (⟨b5,0,none⟩:Addr) w_15 fun (t52:(Option Addr×Nat×Nat))=>
  zk3 .i64 (t52.2.1:Int) 1 fun t54=>
  zba P (Builtin.max_ #[zbl,zbl] zbl #[(Value.int .i64 t54),(Value.int .i64 0)]) (.int .i64) w_15 fun (t55:Int)=>
  zba P (Instr.sliceAt zam (Value.slice t51.1 t51.2.1 t51.2.2) none (some (Value.int .i64 t55)) none) .slc w_15 fun (t56:(Option Addr×Nat×Nat))=>
  stC (⟨b5,0,none⟩:Addr) (Value.slice t56.1 t56.2.1 t56.2.2) w_15 fun w_18=>
  k_4 () w_18) (
  ld .slc (⟨b5,0,none⟩:Addr) w_15 fun (t33:(Option Addr×Nat×Nat))=>
  zaw P (Instr.buildSlice zam 1 #[(0,(Value.string x))]) .slc w_15 fun (t35:(Option Addr×Nat×Nat)) w_19=>
  zaw P (Builtin.append_ #[zam,zam] zam #[(Value.slice t33.1 t33.2.1 t33.2.2),(Value.slice t35.1 t35.2.1 t35.2.2)]) .slc w_19 fun (t36:(Option Addr×Nat×Nat)) w_20=>
  stC (⟨b5,0,none⟩:Addr) (Value.slice t36.1 t36.2.1 t36.2.2) w_20 fun w_21=>
  k_4 () w_21))))) (fun _ w_22=>
  k_3 () w_22)) (fun _ w_23=>
  kc w_23)) (fun D w_24=>
  ld .slc (⟨b5,0,none⟩:Addr) w_24 fun (t57:(Option Addr×Nat×Nat))=>
  xu (decide ((t57.2.1:Int) > 8)) (
  stC (⟨b2,0,none⟩:Addr) (Value.slice none 0 0) w_24 fun w_25=>
  stC (⟨b3,0,none⟩:Addr) (Value.int .i64 42) w_25 fun w_26=>
  (w_26.heap[D]?=some (.deferred (some []))/\∀ w_27,w_27=World.putObj w_26 D (.deferred none) ->
  ld .slc (⟨b2,0,none⟩:Addr) w_27 fun (t2_3:(Option Addr×Nat×Nat))=>
  ld (.int .i64) (⟨b3,0,none⟩:Addr) w_27 fun (t3_3:Int)=>
  R (.returned (Value.tuple #[(Value.slice t2_3.1 t2_3.2.1 t2_3.2.2),(Value.int .i64 t3_3)])) w_27)) (
  ld .slc (⟨b5,0,none⟩:Addr) w_24 fun (t60:(Option Addr×Nat×Nat))=>
  stC (⟨b2,0,none⟩:Addr) (Value.slice t60.1 t60.2.1 t60.2.2) w_24 fun w_28=>
  stC (⟨b3,0,none⟩:Addr) (Value.int .i64 0) w_28 fun w_29=>
  (w_29.heap[D]?=some (.deferred (some []))/\∀ w_30,w_30=World.putObj w_29 D (.deferred none) ->
  ld .slc (⟨b2,0,none⟩:Addr) w_30 fun (t2_4:(Option Addr×Nat×Nat))=>
  ld (.int .i64) (⟨b3,0,none⟩:Addr) w_30 fun (t3_4:Int)=>
  R (.returned (Value.tuple #[(Value.slice t2_4.1 t2_4.2.1 t2_4.2.2),(Value.int .i64 t3_4)])) w_30))) (fun D_1 w_31=>
  (w_31.heap[D_1]?=some (.deferred (some []))/\∀ w_32,w_32=World.putObj w_31 D_1 (.deferred none) ->
  ld .slc (⟨b2,0,none⟩:Addr) w_32 fun (t2_5:(Option Addr×Nat×Nat))=>
  ld (.int .i64) (⟨b3,0,none⟩:Addr) w_32 fun (t3_5:Int)=>
  R (.returned (Value.tuple #[(Value.slice t2_5.1 t2_5.2.1 t2_5.2.2),(Value.int .i64 t3_5)])) w_32)) (fun _ _ _=>False))) 0 w_2))
theorem zv8 {s:ByteArray}{R:Ending->World->Prop}{w:World}(hT:zpm s R w):zy P zk2 #[(Value.string s)] w R:=
 fnU (.seq (.pure .leaf) (.seq (.pure (.seq .leaf (.cond (.seq .leaf .leaf) .leaf))) (.seq (.pure (.seq .leaf (.cond (.seq .leaf .leaf) .leaf))) (.seq (.pure (.seq .leaf (.blk (.loop [(15,.int .i64)] (.seq .leaf (.seq (.cond .leaf .leaf) (.join [] (.jblk [] (.seq .leaf (.seq .leaf (.cond (.seq .leaf .leaf) .leaf)))) .leaf))))))) (.seq (.pure .leaf) (.seq (.seq (.pure .leaf) (.blk (.rng [(32,.str)] true [] .leaf (.jblk [] (.jblk [] (.seq .leaf (.cond (.seq .leaf .leaf) (.seq .leaf (.cond .leaf (.seq .leaf (.cond .leaf .leaf))))))))))) (.pure (.seq (.seq .leaf (.cond (.seq .leaf .leaf) .leaf)) (.seq .leaf .leaf))))))))) Tryz.func105 hT
def zmr (a:Option Addr) (a_l a_c:Nat) (b:Option Addr) (b_l b_c:Nat) (R:Ending->World->Prop) (w:World):Prop:=
  qy P zav #[(Value.slice a a_l a_c),(Value.slice b b_l b_c),(Value.func (.func zd1) #[] #[])] [.int .i64] false w fun (t7:Int) w_1=>
  R (.returned (Value.int .i64 t7)) w_1
theorem zs3 {a:Option Addr}{a_l a_c:Nat}{b:Option Addr}{b_l b_c:Nat}{R:Ending->World->Prop}{w:World}(hT:zmr a a_l a_c b b_l b_c R w):zy P zi5 #[(Value.slice a a_l a_c),(Value.slice b b_l b_c)] w R:=
 fnT (.seq .leaf (.seq .leaf .leaf)) Tryz.func111 hT
def zxc (b:Option Addr) (b_l b_c:Nat) (R:Ending->World->Prop) (w:World):Prop:=
  zbm (zc P zf) zf w fun b2 w_1=>
  zbm (zc P zf) zf w_1 fun b3 w_2=>
  ku Unit (fun k=>
  ku Unit (fun k_1=>
  za4 Int (fun s w_3 k_2=>
  ku Unit (fun k_3=>
  xu (decide (s < 32)) (
  xu (decide (s < (b_l:Int))) (
  k_3 () w_3) (
  k_1 () w_3)) (
  k_1 () w_3)) (fun _ w_4=>
  ixS b b_l 1 s fun t18=>
  ld (.int .u8) t18 w_4 fun (t19:Int)=>
  ixR (⟨b3,0,none⟩:Addr) 32 1 s fun t20=>
  stC t20 (Value.int .u8 t19) w_4 fun w_5=>
  zbv .i64 s 1 fun t14=>
  k_2 t14 w_5)) 0 w_2) (fun _ w_6=>
  k () w_6)) (fun _ w_7=>
  ldA P 32 (⟨b3,0,none⟩:Addr) w_7 fun t21=>
  zb8 P (storeVar zf (⟨b2,0,none⟩:Addr) (Value.agg t21)) w_7 fun w_8=>
  ldA P 32 (⟨b2,0,none⟩:Addr) w_8 fun t2=>
  R (.returned (Value.agg t2)) w_8)
theorem z2t {b:Option Addr}{b_l b_c:Nat}{R:Ending->World->Prop}{w:World}(hT:zxc b b_l b_c R w):zy P znk #[(Value.slice b b_l b_c)] w R:=
 fnT (.seq .leaf (.seq .leaf (.join [] (.seq .leaf (.jblk [] (.loop [(4,.int .i64)] (.join [] (.seq .leaf (.cond .leaf .leaf)) (.seq (.blk .leaf) .leaf))))) (.seq .leaf .leaf)))) Tryz.func128 hT
def zxi (s:ByteArray) (R:Ending->World->Prop) (w:World):Prop:=
  ku Unit (fun k=>
  xu (decide ((s.size:Int) < 1)) (
  R (.returned (Value.bool false)) w) (
  xu (decide ((s.size:Int) > 16)) (
  R (.returned (Value.bool false)) w) (
  xu (s.toList==(ByteArray.mk #[46]).toList) (
  R (.returned (Value.bool false)) w) (
  xu (s.toList==(ByteArray.mk #[46,46]).toList) (
  R (.returned (Value.bool false)) w) (
  k () w))))) (fun _ w_1=>
  za4 Int (fun s_2 w_2 k_1=>
  xu (decide (s_2 < (s.size:Int))) (
  zuk s s_2 fun t28=>
  zgn P zo1 #[(Value.int .u8 t28)] [.bool] false w_2 fun (t29:Bool)=>
  xu (!t29) (
  R (.returned (Value.bool false)) w_2) (
  zbv .i64 s_2 1 fun t25=>
  k_1 t25 w_2)) (
  R (.returned (Value.bool true)) w_2)) 0 w_1)
theorem z1u {s:ByteArray}{R:Ending->World->Prop}{w:World}(hT:zxi s R w):zy P zrt #[(Value.string s)] w R:=
 fnT (.seq .leaf (.join [] (.seq .leaf (.cond (.seq .leaf .leaf) .leaf)) (.seq (.seq .leaf (.blk (.loop [(3,.int .i64)] (.seq (.seq .leaf (.cond .leaf .leaf)) (.seq (.blk (.seq .leaf (.cond (.seq .leaf .leaf) .leaf))) .leaf))))) (.seq .leaf .leaf)))) Tryz.func129 hT
def zzq  (R:Ending->World->Prop) (w:World):Prop:=
  zba P (Instr.build vk #[(0,(Value.int .u32 1779033703)),(1,(Value.int .u32 3144134277)),(2,(Value.int .u32 1013904242)),(3,(Value.int .u32 2773480762)),(4,(Value.int .u32 1359893119)),(5,(Value.int .u32 2600822924)),(6,(Value.int .u32 528734635)),(7,(Value.int .u32 1541459225))]) .any w fun (t1:Value)=>
  zba P (Instr.build za6 #[(0,t1)]) .any w fun (t2:Value)=>
  zbm (Value.cells t2) za6 w fun b3 w_1=>
  R (.returned (Value.pointer (some (⟨b3,0,none⟩:Addr)))) w_1
theorem z6q  {R:Ending->World->Prop}{w:World}(hT:zzq  R w):zy P zp3 #[] w R:=
 fnT (.seq .leaf (.seq .leaf .leaf)) Tryz.func132 hT
def zly (hv:Option Addr) (b:Option Addr) (b_l b_c:Nat) (R:Ending->World->Prop) (w:World):Prop:=
  xu (Option.isNone hv) (
  R (.returned (Value.tuple #[])) w) (
  zn hv fun p=>
  ld (.int .i64) (Addr.add p 73) w fun (t10:Int)=>
  zbv .i64 t10 (b_l:Int) fun t13=>
  zn hv fun p_1=>
  stC (Addr.add p_1 73) (Value.int .i64 t13) w fun w_1=>
  za4 (Option Addr×Nat×Nat) (fun s w_2 k=>
  xu (decide ((s.2.1:Int) > 0)) (
  ku (Option Addr×Nat×Nat) (fun k_1=>
  zbn w_2 fun w_3=>
  zn hv fun p_2=>
  zn hv fun p_3=>
  ld (.int .i64) (Addr.add p_3 72) w_3 fun (t25:Int)=>
  zba P (Instr.sliceAt zrf (Value.pointer (some (Addr.add p_2 8))) (some (Value.int .i64 t25)) none none) .slc w_3 fun (t26:(Option Addr×Nat×Nat))=>
  zaw P (Builtin.copy_ #[zi,zi] zbl #[(Value.slice t26.1 t26.2.1 t26.2.2),(Value.slice s.1 s.2.1 s.2.2)]) (.int .i64) w_3 fun (t28:Int) w_4=>
  zbn w_4 fun w_5=>
  zn hv fun p_4=>
  ld (.int .i64) (Addr.add p_4 72) w_5 fun (t33:Int)=>
  zbv .i64 t33 t28 fun t35=>
  zn hv fun p_5=>
  zba P (Instr.sliceAt zi (Value.slice s.1 s.2.1 s.2.2) (some (Value.int .i64 t28)) none none) .slc w_5 fun (t38:(Option Addr×Nat×Nat))=>
  stC (Addr.add p_5 72) (Value.int .i64 t35) w_5 fun w_6=>
  ((zba P (Instr.sliceAt zi (Value.slice s.1 s.2.1 s.2.2) (some (Value.int .i64 t28)) none none) .slc w_6 fun (t38_1:(Option Addr×Nat×Nat))=>
  (Value.slice t38_1.1 t38_1.2.1 t38_1.2.2)=(Value.slice t38.1 t38.2.1 t38.2.2)) /\
  zn hv fun p_6=>
  ld (.int .i64) (Addr.add p_6 72) w_6 fun (t44:Int)=>
  xu (t44==64) (
  zn hv fun p_7=>
  zba P (Instr.sliceAt zrf (Value.pointer (some (Addr.add p_7 8))) none none none) .slc w_6 fun (t50:(Option Addr×Nat×Nat))=>
  qy P zj1 #[(Value.pointer hv),(Value.slice t50.1 t50.2.1 t50.2.2)] [] true w_6 fun (_:Unit) w_7=>
  zn hv fun p_8=>
  stC (Addr.add p_8 72) (Value.int .i64 0) w_7 fun w_8=>
  k_1 (t38.1,t38.2.1,t38.2.2) w_8) (
  k_1 (t38.1,t38.2.1,t38.2.2) w_6))) (fun s_1 w_9=>
  k (s_1.1,s_1.2.1,s_1.2.2) w_9)) (
  R (.returned (Value.tuple #[])) w_2)) (b,b_l,b_c) w_1)
theorem zro {hv:Option Addr}{b:Option Addr}{b_l b_c:Nat}{R:Ending->World->Prop}{w:World}(hT:zly hv b b_l b_c R w):zy P zdo #[(Value.pointer hv),(Value.slice b b_l b_c)] w R:=
 fnT (.seq (.seq .leaf (.cond .leaf .leaf)) (.seq .leaf (.blk (.loop [(1,.slc)] (.seq (.seq .leaf (.cond .leaf .leaf)) (.jblk [(1,.slc)] (.seq (.tree (.op 0 [] (.op 1 [] (.op 2 [] (.op 3 [] (.op 4 [] (.op 5 [] (.op 8 [] (.op 6 [] (.op 7 [] (.op 9 [] (.op 10 [] .done)))))))))))) (.seq (.tree (.op 0 [] (.op 1 [] (.op 2 [] (.op 3 [] (.op 5 [] (.op 7 [] (.op 8 [] (.op 4 [] (.op 6 [] (.op 10 [] (.op 11 [] (.op 9 [] (.op 12 [9] (.op 13 [] .done))))))))))))))) (.seq .leaf (.cond (.seq .leaf .leaf) .leaf)))))))))) Tryz.func133 hT
def zn7 (hv:Option Addr) (R:Ending->World->Prop) (w:World):Prop:=
  zbm (zc P zf) zf w fun b2 w_1=>
  ku (Option Addr) (fun k=>
  xu (Option.isNone hv) (
  qy P zp3 #[] [.ptr] false w_1 fun (t12:(Option Addr)) w_2=>
  k t12 w_2) (
  k hv w_1)) (fun s w_3=>
  zn s fun p=>
  ldA P 74 p w_3 fun t15=>
  zbm (zc P za6) za6 w_3 fun b3 w_4=>
  zb8 P (storeVar za6 (⟨b3,0,none⟩:Addr) (Value.agg t15)) w_4 fun w_5=>
  ld (.int .i64) (⟨b3,73,none⟩:Addr) w_5 fun (t17:Int)=>
  cvI .u64 t17 fun t18=>
  zv3 .u64 t18 8 fun t19=>
  zaw P (Instr.buildSlice zi 1 #[(0,(Value.int .u8 128))]) .slc w_5 fun (t20:(Option Addr×Nat×Nat)) w_6=>
  qy P zdo #[(Value.pointer (some (⟨b3,0,none⟩:Addr))),(Value.slice t20.1 t20.2.1 t20.2.2)] [] true w_6 fun (_:Unit) w_7=>
  za4 Unit (fun _ w_8 k_1=>
  ld (.int .i64) (⟨b3,72,none⟩:Addr) w_8 fun (t23:Int)=>
  xu (t23 != 56) (
  zaw P (Instr.buildSlice zi 1 #[(0,(Value.int .u8 0))]) .slc w_8 fun (t25:(Option Addr×Nat×Nat)) w_9=>
  qy P zdo #[(Value.pointer (some (⟨b3,0,none⟩:Addr))),(Value.slice t25.1 t25.2.1 t25.2.2)] [] true w_9 fun (_:Unit) w_10=>
  k_1 () w_10) (
  zbm (zc P zkm) zkm w_8 fun b5 w_11=>
  za4 Int (fun s_2 w_12 k_2=>
  xu (decide (s_2 < 8)) (
  zv3 .i64 8 s_2 fun t33=>
  zk3 .i64 56 t33 fun t34=>
  zzc .u64 t19 t34 fun t35=>
  cvI .u8 t35 fun t36=>
  ixR (⟨b5,0,none⟩:Addr) 8 1 s_2 fun t37=>
  stC t37 (Value.int .u8 t36) w_12 fun w_13=>
  zbv .i64 s_2 1 fun t38=>
  k_2 t38 w_13) (
  zba P (Instr.sliceAt zkm (Value.pointer (some (⟨b5,0,none⟩:Addr))) none none none) .slc w_12 fun (t39:(Option Addr×Nat×Nat))=>
  qy P zdo #[(Value.pointer (some (⟨b3,0,none⟩:Addr))),(Value.slice t39.1 t39.2.1 t39.2.2)] [] true w_12 fun (_:Unit) w_14=>
  zbm (zc P zf) zf w_14 fun b7 w_15=>
  ldA P 8 (⟨b3,0,none⟩:Addr) w_15 fun t42=>
  za4 Int (fun s_3 w_16 k_3=>
  xu (decide (s_3 < 8)) (
  zba P (Instr.index vk (Value.agg t42) (Value.int .i64 s_3)) (.int .u32) w_16 fun (t46:Int)=>
  zv3 .i64 4 s_3 fun t48=>
  zv3 .i64 4 s_3 fun t50=>
  zbv .i64 t50 1 fun t51=>
  zv3 .i64 4 s_3 fun t53=>
  zbv .i64 t53 2 fun t54=>
  zv3 .i64 4 s_3 fun t56=>
  zbv .i64 t56 3 fun t57=>
  zzc .u32 t46 24 fun t59=>
  cvI .u8 t59 fun t60=>
  zzc .u32 t46 16 fun t62=>
  cvI .u8 t62 fun t63=>
  zzc .u32 t46 8 fun t65=>
  cvI .u8 t65 fun t66=>
  cvI .u8 t46 fun t68=>
  ixR (⟨b7,0,none⟩:Addr) 32 1 t48 fun t69=>
  stC t69 (Value.int .u8 t60) w_16 fun w_17=>
  ixR (⟨b7,0,none⟩:Addr) 32 1 t51 fun t70=>
  stC t70 (Value.int .u8 t63) w_17 fun w_18=>
  ixR (⟨b7,0,none⟩:Addr) 32 1 t54 fun t71=>
  stC t71 (Value.int .u8 t66) w_18 fun w_19=>
  ixR (⟨b7,0,none⟩:Addr) 32 1 t57 fun t72=>
  stC t72 (Value.int .u8 t68) w_19 fun w_20=>
  zbv .i64 s_3 1 fun t73=>
  k_3 t73 w_20) (
  ldA P 32 (⟨b7,0,none⟩:Addr) w_16 fun t74=>
  zb8 P (storeVar zf (⟨b2,0,none⟩:Addr) (Value.agg t74)) w_16 fun w_21=>
  ldA P 32 (⟨b2,0,none⟩:Addr) w_21 fun t2=>
  R (.returned (Value.agg t2)) w_21)) 0 w_15)) 0 w_11)) () w_7)
theorem zvf {hv:Option Addr}{R:Ending->World->Prop}{w:World}(hT:zn7 hv R w):zy P zjv #[(Value.pointer hv)] w R:=
 fnT (.seq .leaf (.join [(0,.ptr)] (.seq .leaf (.cond .leaf .leaf)) (.seq .leaf (.seq .leaf (.seq .leaf (.seq (.blk (.loop [] (.seq (.seq .leaf (.cond .leaf .leaf)) (.blk .leaf)))) (.seq .leaf (.seq (.seq .leaf (.blk (.loop [(27,.int .i64)] (.seq .leaf (.seq (.cond .leaf .leaf) (.seq (.blk (.seq .leaf .leaf)) .leaf)))))) (.seq .leaf (.seq .leaf (.seq (.seq .leaf (.blk (.loop [(43,.int .i64)] (.seq .leaf (.seq (.cond .leaf .leaf) (.seq (.blk (.seq .leaf .leaf)) .leaf)))))) (.seq .leaf .leaf)))))))))))) Tryz.func134 hT
def zpw (a:Value) (b:Value) (R:Ending->World->Prop) (w:World):Prop:=
  zbm (Value.cells a) zf w fun b2 w_1=>
  zbm (Value.cells b) zf w_1 fun b3 w_2=>
  za4 Int (fun s w_3 k=>
  xu (decide (s < 32)) (
  zbn w_3 fun w_4=>
  ixR (⟨b2,0,none⟩:Addr) 32 1 s fun t11=>
  ixR (⟨b3,0,none⟩:Addr) 32 1 s fun t14=>
  ld (.int .u8) t11 w_4 fun (t12:Int)=>
  ld (.int .u8) t14 w_4 fun (t15:Int)=>
  xu (decide (t12 < t15)) (
  R (.returned (Value.int .i64 (-1))) w_4) (
  zbn w_4 fun w_5=>
  ixR (⟨b2,0,none⟩:Addr) 32 1 s fun t18=>
  ixR (⟨b3,0,none⟩:Addr) 32 1 s fun t21=>
  ld (.int .u8) t18 w_5 fun (t19:Int)=>
  ld (.int .u8) t21 w_5 fun (t22:Int)=>
  xu (decide (t19 > t22)) (
  R (.returned (Value.int .i64 1)) w_5) (
  zbv .i64 s 1 fun t9=>
  k t9 w_5))) (
  R (.returned (Value.int .i64 0)) w_3)) 0 w_2
theorem zwk {a:Value}{b:Value}{R:Ending->World->Prop}{w:World}(hT:zpw a b R w):zy P zia #[a,b] w R:=
 fnT (.seq .leaf (.seq (.seq .leaf (.blk (.loop [(5,.int .i64)] (.seq (.seq .leaf (.cond .leaf .leaf)) (.seq (.blk (.seq (.seq (.tree (.op 0 [] (.op 1 [] (.op 3 [] (.op 4 [] (.op 2 [] (.op 5 [] (.op 6 [] .done)))))))) (.cond (.seq .leaf .leaf) .leaf)) (.seq (.tree (.op 0 [] (.op 1 [] (.op 3 [] (.op 4 [] (.op 2 [] (.op 5 [] (.op 6 [] .done)))))))) (.cond (.seq .leaf .leaf) .leaf)))) .leaf))))) (.seq .leaf .leaf))) Tryz.func135 hT
def zn4 (s:ByteArray) (R:Ending->World->Prop) (w:World):Prop:=
  zbm #[(Value.string s)] jw w fun b1 w_1=>
  zba P (Instr.makeFunc (Go.Fn.func zfy) #[] #[(Value.pointer (some (⟨b1,0,none⟩:Addr)))]) .any w_1 fun (t3:Value)=>
  R (.returned t3) w_1
theorem zu5 {s:ByteArray}{R:Ending->World->Prop}{w:World}(hT:zn4 s R w):zy P zj0 #[(Value.string s)] w R:=
 fnT (.seq .leaf (.seq .leaf .leaf)) Tryz.func158 hT
def zbp (s1:Option Addr) (s1_l s1_c:Nat) (s2:Option Addr) (s2_l s2_c:Nat) (cmp:Value) (R:Ending->World->Prop) (w:World):Prop:=
  za4 Int (fun s w_1 k=>
  xu (decide (s < (s1_l:Int))) (
  ixS s1 s1_l 1 s fun t16=>
  ld .str t16 w_1 fun (t17:ByteArray)=>
  xu (decide (s>=(s2_l:Int))) (
  R (.returned (Value.int .i64 1)) w_1) (
  ixS s2 s2_l 1 s fun t24=>
  ld .str t24 w_1 fun (t25:ByteArray)=>
  zok P cmp #[(Value.string t17),(Value.string t25)] [.int .i64] false w_1 fun (t29:Int) w_2=>
  xu (t29 != 0) (
  R (.returned (Value.int .i64 t29)) w_2) (
  zbv .i64 s 1 fun t33=>
  k t33 w_2))) (
  xu (decide ((s1_l:Int) < (s2_l:Int))) (
  R (.returned (Value.int .i64 (-1))) w_1) (
  R (.returned (Value.int .i64 0)) w_1))) 0 w
theorem zc5 {s1:Option Addr}{s1_l s1_c:Nat}{s2:Option Addr}{s2_l s2_c:Nat}{cmp:Value}{R:Ending->World->Prop}{w:World}(hT:zbp s1 s1_l s1_c s2 s2_l s2_c cmp R w):zy P zav #[(Value.slice s1 s1_l s1_c),(Value.slice s2 s2_l s2_c),cmp] w R:=
 fnT (.seq .leaf (.seq (.seq .leaf (.blk (.loop [(13,.int .i64)] (.seq .leaf (.seq (.cond .leaf .leaf) (.seq (.blk (.seq .leaf (.seq (.seq .leaf (.cond (.seq .leaf .leaf) .leaf)) (.seq .leaf (.seq .leaf (.seq .leaf (.cond (.seq .leaf .leaf) .leaf))))))) .leaf)))))) (.seq (.seq .leaf (.cond (.seq .leaf .leaf) .leaf)) (.seq .leaf .leaf)))) Tryz.func162 hT
def zh2 (x:ByteArray) (y:ByteArray) (R:Ending->World->Prop) (w:World):Prop:=
  zgn P ze2 #[(Value.string x)] [.bool] false w fun (t8:Bool)=>
  zgn P ze2 #[(Value.string y)] [.bool] false w fun (t10:Bool)=>
  xu t8 (
  xu t10 (
  R (.returned (Value.int .i64 0)) w) (
  R (.returned (Value.int .i64 (-1))) w)) (
  xu t10 (
  R (.returned (Value.int .i64 1)) w) (
  xu (Op.bytesLess x.toList y.toList) (
  R (.returned (Value.int .i64 (-1))) w) (
  xu (!((Op.bytesLess x.toList y.toList) || (x.toList==y.toList))) (
  R (.returned (Value.int .i64 1)) w) (
  R (.returned (Value.int .i64 0)) w))))
theorem zmi {x:ByteArray}{y:ByteArray}{R:Ending->World->Prop}{w:World}(hT:zh2 x y R w):zy P zd1 #[(Value.string x),(Value.string y)] w R:=
 fnT (.seq .leaf (.seq .leaf (.seq .leaf (.seq (.seq .leaf (.cond (.seq (.seq .leaf (.cond (.seq .leaf .leaf) .leaf)) (.seq .leaf .leaf)) .leaf)) (.seq (.seq .leaf (.cond (.seq .leaf .leaf) .leaf)) (.seq (.seq .leaf (.cond (.seq .leaf .leaf) .leaf)) (.seq (.seq .leaf (.cond (.seq .leaf .leaf) .leaf)) (.seq .leaf .leaf)))))))) Tryz.func163 hT
def zof (hv:Option Addr) (b:Option Addr) (b_l b_c:Nat) (R:Ending->World->Prop) (w:World):Prop:=
  zbm (zc P zas) zas w fun b4 w_1=>
  za4 Int (fun s w_2 k=>
  xu (decide (s < 16)) (
  zbn w_2 fun w_3=>
  zv3 .i64 4 s fun t24=>
  ixS b b_l 1 t24 fun t25=>
  zv3 .i64 4 s fun t31=>
  zbv .i64 t31 1 fun t32=>
  ixS b b_l 1 t32 fun t33=>
  zv3 .i64 4 s fun t40=>
  zbv .i64 t40 2 fun t41=>
  ixS b b_l 1 t41 fun t42=>
  zv3 .i64 4 s fun t49=>
  zbv .i64 t49 3 fun t50=>
  ixS b b_l 1 t50 fun t51=>
  ld (.int .u8) t25 w_3 fun (t26:Int)=>
  cvI .u32 t26 fun t27=>
  z8i .u32 t27 24 fun t28=>
  ld (.int .u8) t33 w_3 fun (t34:Int)=>
  cvI .u32 t34 fun t35=>
  z8i .u32 t35 16 fun t36=>
  orI .u32 t28 t36 fun t37=>
  ld (.int .u8) t42 w_3 fun (t43:Int)=>
  cvI .u32 t43 fun t44=>
  z8i .u32 t44 8 fun t45=>
  orI .u32 t37 t45 fun t46=>
  ld (.int .u8) t51 w_3 fun (t52:Int)=>
  cvI .u32 t52 fun t53=>
  orI .u32 t46 t53 fun t54=>
  ixR (⟨b4,0,none⟩:Addr) 64 1 s fun t55=>
  stC t55 (Value.int .u32 t54) w_3 fun w_4=>
  zbv .i64 s 1 fun t56=>
  k t56 w_4) (
  za4 Int (fun s_1 w_5 k_1=>
  xu (decide (s_1 < 64)) (
  zbn w_5 fun w_6=>
  zk3 .i64 s_1 2 fun t62=>
  ixR (⟨b4,0,none⟩:Addr) 64 1 t62 fun t63=>
  zk3 .i64 s_1 15 fun t66=>
  ixR (⟨b4,0,none⟩:Addr) 64 1 t66 fun t67=>
  ld (.int .u32) t63 w_6 fun (t64:Int)=>
  ld (.int .u32) t67 w_6 fun (t68:Int)=>
  zgn P jy #[(Value.int .u32 t64),(Value.int .i64 (-17))] [.int .u32] false w_6 fun (t70:Int)=>
  zgn P jy #[(Value.int .u32 t64),(Value.int .i64 (-19))] [.int .u32] false w_6 fun (t72:Int)=>
  zn3 .u32 t70 t72 fun t73=>
  zzc .u32 t64 10 fun t75=>
  zn3 .u32 t73 t75 fun t76=>
  zgn P jy #[(Value.int .u32 t68),(Value.int .i64 (-7))] [.int .u32] false w_6 fun (t78:Int)=>
  zgn P jy #[(Value.int .u32 t68),(Value.int .i64 (-18))] [.int .u32] false w_6 fun (t80:Int)=>
  zn3 .u32 t78 t80 fun t81=>
  zzc .u32 t68 3 fun t83=>
  zn3 .u32 t81 t83 fun t84=>
  zbn w_6 fun w_7=>
  zk3 .i64 s_1 7 fun t88=>
  ixR (⟨b4,0,none⟩:Addr) 64 1 t88 fun t89=>
  zk3 .i64 s_1 16 fun t95=>
  ixR (⟨b4,0,none⟩:Addr) 64 1 t95 fun t96=>
  ld (.int .u32) t89 w_7 fun (t90:Int)=>
  zbv .u32 t76 t90 fun t91=>
  zbv .u32 t91 t84 fun t93=>
  ld (.int .u32) t96 w_7 fun (t97:Int)=>
  zbv .u32 t93 t97 fun t98=>
  ixR (⟨b4,0,none⟩:Addr) 64 1 s_1 fun t99=>
  stC t99 (Value.int .u32 t98) w_7 fun w_8=>
  zbv .i64 s_1 1 fun t60=>
  k_1 t60 w_8) (
  zn hv fun p=>
  ldA P 8 p w_5 fun t103=>
  zbm (zc P vk) vk w_5 fun b11 w_9=>
  zb8 P (storeVar vk (⟨b11,0,none⟩:Addr) (Value.agg t103)) w_9 fun w_10=>
  za4 Int (fun s_2 w_11 k_2=>
  xu (decide (s_2 < 64)) (
  zbn w_11 fun w_12=>
  ld (.int .u32) (⟨b11,4,none⟩:Addr) w_12 fun (t108:Int)=>
  zgn P jy #[(Value.int .u32 t108),(Value.int .i64 (-6))] [.int .u32] false w_12 fun (t109:Int)=>
  ld (.int .u32) (⟨b11,4,none⟩:Addr) w_12 fun (t111:Int)=>
  zgn P jy #[(Value.int .u32 t111),(Value.int .i64 (-11))] [.int .u32] false w_12 fun (t112:Int)=>
  zn3 .u32 t109 t112 fun t113=>
  ld (.int .u32) (⟨b11,4,none⟩:Addr) w_12 fun (t115:Int)=>
  zgn P jy #[(Value.int .u32 t115),(Value.int .i64 (-25))] [.int .u32] false w_12 fun (t116:Int)=>
  zn3 .u32 t113 t116 fun t117=>
  zbn w_12 fun w_13=>
  ixR (⟨0,0,none⟩:Addr) 64 1 s_2 fun t136=>
  ixR (⟨b4,0,none⟩:Addr) 64 1 s_2 fun t140=>
  ld (.int .u32) (⟨b11,7,none⟩:Addr) w_13 fun (t119:Int)=>
  zbv .u32 t119 t117 fun t121=>
  ld (.int .u32) (⟨b11,4,none⟩:Addr) w_13 fun (t123:Int)=>
  ld (.int .u32) (⟨b11,5,none⟩:Addr) w_13 fun (t125:Int)=>
  z3g .u32 t123 t125 fun t126=>
  ld (.int .u32) (⟨b11,4,none⟩:Addr) w_13 fun (t128:Int)=>
  zn3 .u32 (IntKind.max .u32) t128 fun t129=>
  ld (.int .u32) (⟨b11,6,none⟩:Addr) w_13 fun (t131:Int)=>
  z3g .u32 t129 t131 fun t132=>
  zn3 .u32 t126 t132 fun t133=>
  zbv .u32 t121 t133 fun t134=>
  ld (.int .u32) t136 w_13 fun (t137:Int)=>
  zbv .u32 t134 t137 fun t138=>
  ld (.int .u32) t140 w_13 fun (t141:Int)=>
  zbv .u32 t138 t141 fun t142=>
  zbn w_13 fun w_14=>
  ld (.int .u32) (⟨b11,0,none⟩:Addr) w_14 fun (t144:Int)=>
  zgn P jy #[(Value.int .u32 t144),(Value.int .i64 (-2))] [.int .u32] false w_14 fun (t145:Int)=>
  ld (.int .u32) (⟨b11,0,none⟩:Addr) w_14 fun (t147:Int)=>
  zgn P jy #[(Value.int .u32 t147),(Value.int .i64 (-13))] [.int .u32] false w_14 fun (t148:Int)=>
  zn3 .u32 t145 t148 fun t149=>
  ld (.int .u32) (⟨b11,0,none⟩:Addr) w_14 fun (t151:Int)=>
  zgn P jy #[(Value.int .u32 t151),(Value.int .i64 (-22))] [.int .u32] false w_14 fun (t152:Int)=>
  zn3 .u32 t149 t152 fun t153=>
  ld (.int .u32) (⟨b11,0,none⟩:Addr) w_14 fun (t156:Int)=>
  ld (.int .u32) (⟨b11,1,none⟩:Addr) w_14 fun (t158:Int)=>
  z3g .u32 t156 t158 fun t159=>
  ld (.int .u32) (⟨b11,0,none⟩:Addr) w_14 fun (t161:Int)=>
  ld (.int .u32) (⟨b11,2,none⟩:Addr) w_14 fun (t163:Int)=>
  z3g .u32 t161 t163 fun t164=>
  zn3 .u32 t159 t164 fun t165=>
  ld (.int .u32) (⟨b11,1,none⟩:Addr) w_14 fun (t167:Int)=>
  ld (.int .u32) (⟨b11,2,none⟩:Addr) w_14 fun (t169:Int)=>
  z3g .u32 t167 t169 fun t170=>
  zn3 .u32 t165 t170 fun t171=>
  zbv .u32 t153 t171 fun t172=>
  zbv .u32 t142 t172 fun t175=>
  ld (.int .u32) (⟨b11,0,none⟩:Addr) w_14 fun (t177:Int)=>
  ld (.int .u32) (⟨b11,1,none⟩:Addr) w_14 fun (t179:Int)=>
  ld (.int .u32) (⟨b11,2,none⟩:Addr) w_14 fun (t181:Int)=>
  ld (.int .u32) (⟨b11,3,none⟩:Addr) w_14 fun (t183:Int)=>
  zbv .u32 t183 t142 fun t185=>
  ld (.int .u32) (⟨b11,4,none⟩:Addr) w_14 fun (t187:Int)=>
  ld (.int .u32) (⟨b11,5,none⟩:Addr) w_14 fun (t189:Int)=>
  ld (.int .u32) (⟨b11,6,none⟩:Addr) w_14 fun (t191:Int)=>
  zba P (Instr.build vk #[(0,(Value.int .u32 t175)),(1,(Value.int .u32 t177)),(2,(Value.int .u32 t179)),(3,(Value.int .u32 t181)),(4,(Value.int .u32 t185)),(5,(Value.int .u32 t187)),(6,(Value.int .u32 t189)),(7,(Value.int .u32 t191))]) .any w_14 fun (t192:Value)=>
  zb8 P (storeVar vk (⟨b11,0,none⟩:Addr) t192) w_14 fun w_15=>
  zbv .i64 s_2 1 fun t193=>
  k_2 t193 w_15) (
  za4 Int (fun s_3 w_16 k_3=>
  xu (decide (s_3 < 8)) (
  zbn w_16 fun w_17=>
  zn hv fun p_1=>
  ixR p_1 8 1 s_3 fun t201=>
  ixR (⟨b11,0,none⟩:Addr) 8 1 s_3 fun t204=>
  zn hv fun p_2=>
  ld (.int .u32) t201 w_17 fun (t202:Int)=>
  ld (.int .u32) t204 w_17 fun (t205:Int)=>
  zbv .u32 t202 t205 fun t206=>
  ixR p_2 8 1 s_3 fun t209=>
  stC t209 (Value.int .u32 t206) w_17 fun w_18=>
  zbv .i64 s_3 1 fun t210=>
  k_3 t210 w_18) (
  R (.returned (Value.tuple #[])) w_16)) 0 w_11)) 0 w_10)) 16 w_2)) 0 w_1
theorem ztn {hv:Option Addr}{b:Option Addr}{b_l b_c:Nat}{R:Ending->World->Prop}{w:World}(hT:zof hv b b_l b_c R w):zy P zj1 #[(Value.pointer hv),(Value.slice b b_l b_c)] w R:=
 fnT (.seq .leaf (.seq (.seq .leaf (.blk (.loop [(18,.int .i64)] (.seq .leaf (.seq (.cond .leaf .leaf) (.seq (.blk (.seq .leaf (.tree (.op 0 [] (.op 1 [] (.op 2 [] (.op 3 [] (.op 4 [] (.op 8 [] (.op 9 [] (.op 10 [] (.op 11 [] (.op 12 [] (.op 17 [] (.op 18 [] (.op 19 [] (.op 20 [] (.op 21 [] (.op 26 [] (.op 27 [] (.op 28 [] (.op 29 [] (.op 30 [] (.op 5 [] (.op 6 [] (.op 7 [] (.op 13 [] (.op 14 [] (.op 15 [] (.op 16 [] (.op 22 [] (.op 23 [] (.op 24 [] (.op 25 [] (.op 31 [] (.op 32 [] (.op 33 [] (.op 34 [] (.op 35 [] .done))))))))))))))))))))))))))))))))))))))) .leaf)))))) (.seq (.seq .leaf (.blk (.loop [(6,.int .i64)] (.seq (.seq .leaf (.cond .leaf .leaf)) (.seq (.blk (.seq (.tree (.op 0 [] (.op 1 [] (.op 2 [] (.op 4 [] (.op 5 [] (.op 6 [] (.op 3 [] (.op 8 [] (.op 7 [] (.op 9 [] .done))))))))))) (.seq .leaf (.seq .leaf (.tree (.op 0 [] (.op 1 [] (.op 2 [] (.op 3 [] (.op 4 [] (.op 7 [] (.op 9 [] (.op 10 [] (.op 11 [] (.op 5 [] (.op 6 [] (.op 8 [] (.op 12 [] (.op 13 [] (.op 14 [] (.op 15 [] .done))))))))))))))))))))) .leaf))))) (.seq .leaf (.seq (.seq .leaf (.blk (.loop [(104,.int .i64)] (.seq .leaf (.seq (.cond .leaf .leaf) (.seq (.blk (.seq .leaf (.seq (.tree (.op 0 [] (.op 3 [] (.op 7 [] (.op 1 [] (.op 2 [] (.op 4 [] (.op 5 [] (.op 6 [] (.op 8 [] (.op 9 [] (.op 10 [] (.op 11 [] .done))))))))))))) (.seq (.tree (.op 0 [] (.op 2 [] (.op 4 [] (.op 6 [] (.op 9 [] (.op 12 [] (.op 17 [] (.op 18 [] (.op 21 [] (.op 22 [] (.op 1 [] (.op 3 [] (.op 5 [] (.op 7 [] (.op 8 [] (.op 10 [] (.op 11 [] (.op 13 [] (.op 14 [] (.op 15 [] (.op 16 [] (.op 19 [] (.op 20 [] (.op 23 [] (.op 24 [] (.op 25 [] .done))))))))))))))))))))))))))) (.seq (.tree (.op 0 [] (.op 3 [] (.op 7 [] (.op 1 [] (.op 2 [] (.op 4 [] (.op 5 [] (.op 6 [] (.op 8 [] (.op 9 [] (.op 10 [] (.op 11 [] .done))))))))))))) (.seq .leaf .leaf)))))) .leaf)))))) (.seq .leaf (.blk (.loop [(194,.int .i64)] (.seq .leaf (.seq (.cond .leaf .leaf) (.seq (.blk (.seq .leaf (.tree (.op 0 [] (.op 1 [] (.op 2 [] (.op 3 [] (.op 4 [] (.op 6 [] (.op 7 [] (.op 10 [] (.op 11 [] (.op 5 [] (.op 8 [] (.op 9 [] (.op 12 [] (.op 13 [] .done))))))))))))))))) .leaf))))))))))) Tryz.func175 hT
def zlu (yield:Value) (c0:Option Addr) (R:Ending->World->Prop) (w:World):Prop:=
  za4 Unit (fun _ w_1 k=>
  zn c0 fun p=>
  ld .str p w_1 fun (t6:ByteArray)=>
  xu (!(t6.toList==(ByteArray.mk #[]).toList)) (
  zn c0 fun p_1=>
  ld .str p_1 w_1 fun (t9:ByteArray)=>
  qy P zlb #[(Value.string t9),(Value.string (ByteArray.mk #[47]))] [.str,.str,.bool] true w_1 fun (t10:(ByteArray×ByteArray×Bool)) w_2=>
  zok P yield #[(Value.string t10.1)] [.bool] false w_2 fun (t16:Bool) w_3=>
  xu (!t16) (
  R (.returned (Value.tuple #[])) w_3) (
  zn c0 fun p_2=>
  stC p_2 (Value.string t10.2.1) w_3 fun w_4=>
  k () w_4)) (
  R (.returned (Value.tuple #[])) w_1)) () w
theorem zrg {yield:Value}{c0:Option Addr}{R:Ending->World->Prop}{w:World}(hT:zlu yield c0 R w):zy P zfy #[yield,(Value.pointer c0)] w R:=
 fnT (.blk (.loop [] (.seq (.seq .leaf (.cond .leaf .leaf)) (.blk (.seq .leaf (.seq (.seq .leaf (.cond .leaf .leaf)) .leaf)))))) Tryz.func188 hT
def zpf (names:Option Addr) (names_l names_c:Nat) (R:Ending->World->Prop) (w:World):Prop:=
  za4 Int (fun s w_1 k=>
  xu (decide (s < (names_l:Int))) (
  ixS names names_l 1 s fun t9=>
  ld .str t9 w_1 fun (t10:ByteArray)=>
  qy P zmv #[(Value.string t10)] [.bool] false w_1 fun (t12:Bool) w_2=>
  xu (!t12) (
  R (.returned (Value.int .i64 41)) w_2) (
  zbv .i64 s 1 fun t14=>
  k t14 w_2)) (
  xu (decide ((names_l:Int) > 8)) (
  R (.returned (Value.int .i64 42)) w_1) (
  R (.returned (Value.int .i64 0)) w_1))) 0 w
theorem zwc {names:Option Addr}{names_l names_c:Nat}{R:Ending->World->Prop}{w:World}(hT:zpf names names_l names_c R w):zy P zlg #[(Value.slice names names_l names_c)] w R:=
 fnT (.seq .leaf (.seq (.seq .leaf (.blk (.loop [(7,.int .i64)] (.seq .leaf (.seq (.cond .leaf .leaf) (.seq (.blk (.seq .leaf (.seq .leaf (.cond (.seq .leaf .leaf) .leaf)))) .leaf)))))) (.seq (.seq .leaf (.cond (.seq .leaf .leaf) .leaf)) (.seq .leaf .leaf)))) Tryz.func207 hT
def zrz (s:ByteArray) (R:Ending->World->Prop) (w:World):Prop:=
  ku Unit (fun k=>
  xu (s.toList==(ByteArray.mk #[]).toList) (
  R (.returned (Value.bool false)) w) (
  xu (decide ((s.size:Int) > 16)) (
  R (.returned (Value.bool false)) w) (
  xu (s.toList==(ByteArray.mk #[46]).toList) (
  R (.returned (Value.bool false)) w) (
  xu (s.toList==(ByteArray.mk #[46,46]).toList) (
  R (.returned (Value.bool false)) w) (
  k () w))))) (fun _ w_1=>
  za4 Int (fun s_2 w_2 k_1=>
  xu (decide (s_2 < (s.size:Int))) (
  zuk s s_2 fun t26=>
  zgn P zib #[(Value.int .u8 t26)] [.bool] false w_2 fun (t27:Bool)=>
  xu (!t27) (
  R (.returned (Value.bool false)) w_2) (
  zbv .i64 s_2 1 fun t29=>
  k_1 t29 w_2)) (
  R (.returned (Value.bool true)) w_2)) 0 w_1)
theorem zyi {s:ByteArray}{R:Ending->World->Prop}{w:World}(hT:zrz s R w):zy P zmv #[(Value.string s)] w R:=
 fnT (.seq .leaf (.join [] (.seq .leaf (.cond (.seq .leaf .leaf) .leaf)) (.seq (.seq .leaf (.blk (.loop [(21,.int .i64)] (.seq .leaf (.seq (.cond .leaf .leaf) (.seq (.blk (.seq .leaf (.seq .leaf (.cond (.seq .leaf .leaf) .leaf)))) .leaf)))))) (.seq .leaf .leaf)))) Tryz.func224 hT
set_option maxRecDepth 100000
def zwu (quota:Int) (R:Ending->World->Prop) (w:World):Prop:=
  zba P (Builtin.max_ #[zbl,zbl] zbl #[(Value.int .i64 quota),(Value.int .i64 0)]) (.int .i64) w fun (t4:Int)=>
  zaw P (Instr.makeMap jh none) .map w fun (t5:(Option Nat)) w_1=>
  zba P (Instr.build zgc #[(0,(Value.int .i64 t4)),(2,(Value.map t5))]) .any w_1 fun (t6:Value)=>
  zbm (Value.cells t6) zgc w_1 fun b7 w_2=>
  R (.returned (Value.pointer (some (⟨b7,0,none⟩:Addr)))) w_2
theorem z2z {quota:Int}{R:Ending->World->Prop}{w:World}(hT:zwu quota R w):zy P zna #[(Value.int .i64 quota)] w R:=
 fnT (.seq .leaf (.seq .leaf .leaf)) Tryz.func12 hT
def zjl (s:Option Addr) (R:Ending->World->Prop) (w:World):Prop:=
  xu (Option.isNone s) (
  R (.returned (Value.int .i64 0)) w) (
  zn s fun p=>
  ld .map (Addr.add p 2) w fun (t8:(Option Nat))=>
  zba P (Builtin.len_ #[jh] zbl #[(Value.map t8)]) (.int .i64) w fun (t9:Int)=>
  R (.returned (Value.int .i64 t9)) w)
theorem zo0 {s:Option Addr}{R:Ending->World->Prop}{w:World}(hT:zjl s R w):zy P ze3 #[(Value.pointer s)] w R:=
 fnT (.seq .leaf (.seq (.seq .leaf (.cond (.seq .leaf .leaf) .leaf)) (.seq .leaf .leaf))) Tryz.func17 hT
def zje (s:Option Addr) (R:Ending->World->Prop) (w:World):Prop:=
  xu (Option.isNone s) (
  R (.returned (Value.int .i64 0)) w) (
  zn s fun p=>
  ld (.int .i64) (Addr.add p 1) w fun (t8:Int)=>
  R (.returned (Value.int .i64 t8)) w)
theorem zo6 {s:Option Addr}{R:Ending->World->Prop}{w:World}(hT:zje s R w):zy P zgr #[(Value.pointer s)] w R:=
 fnT (.seq .leaf (.seq (.seq .leaf (.cond (.seq .leaf .leaf) .leaf)) (.seq .leaf .leaf))) Tryz.func18 hT
def zlw (s:Option Addr) (b:Option Addr) (b_l b_c:Nat) (R:Ending->World->Prop) (w:World):Prop:=
  zbm (zc P zf) zf w fun b4 w_1=>
  zaw P (Instr.buildSlice jq 1 #[(0,(Value.slice b b_l b_c))]) .slc w_1 fun (t9:(Option Addr×Nat×Nat)) w_2=>
  qy P zek #[(Value.pointer s),(Value.slice t9.1 t9.2.1 t9.2.2)] [.int .i64] false w_2 fun (t10:Int) w_3=>
  xu (t10 != 0) (
  zba P (Instr.build zf #[]) .any w_3 fun (t13:Value)=>
  zb8 P (storeVar zf (⟨b4,0,none⟩:Addr) t13) w_3 fun w_4=>
  ldA P 32 (⟨b4,0,none⟩:Addr) w_4 fun t4=>
  R (.returned (Value.tuple #[(Value.agg t4),(Value.int .i64 t10)])) w_4) (
  qy P zi7 #[(Value.slice b b_l b_c)] [.any] false w_3 fun (t16:Value) w_5=>
  zb8 P (storeVar zf (⟨b4,0,none⟩:Addr) t16) w_5 fun w_6=>
  ldA P 32 (⟨b4,0,none⟩:Addr) w_6 fun t4_1=>
  R (.returned (Value.tuple #[(Value.agg t4_1),(Value.int .i64 0)])) w_6)
theorem zqz {s:Option Addr}{b:Option Addr}{b_l b_c:Nat}{R:Ending->World->Prop}{w:World}(hT:zlw s b b_l b_c R w):zy P zhp #[(Value.pointer s),(Value.slice b b_l b_c)] w R:=
 fnT (.seq .leaf (.seq (.seq .leaf (.seq .leaf (.cond (.seq .leaf .leaf) .leaf))) (.seq .leaf .leaf))) Tryz.func30 hT
def zl2 (s:Option Addr) (d:Value) (R:Ending->World->Prop) (w:World):Prop:=
  zbm (Value.cells d) zf w fun b3 w_1=>
  xu (Option.isNone s) (
  R (.returned (Value.bool false)) w_1) (
  zbn w_1 fun w_2=>
  zn s fun p=>
  ld .map (Addr.add p 2) w_2 fun (t13:(Option Nat))=>
  ldA P 32 (⟨b3,0,none⟩:Addr) w_2 fun t14=>
  z6v P (Instr.lookup jh (Value.map t13) (Value.agg t14) true) [.slc,.bool] w_2 fun (t15:((Option Addr×Nat×Nat)×Bool))=>
  R (.returned (Value.bool t15.2)) w_2)
theorem zrj {s:Option Addr}{d:Value}{R:Ending->World->Prop}{w:World}(hT:zl2 s d R w):zy P zhs #[(Value.pointer s),d] w R:=
 fnT (.seq .leaf (.seq (.seq .leaf (.cond (.seq .leaf .leaf) .leaf)) (.seq (.tree (.op 0 [] (.op 1 [] (.op 2 [] (.op 3 [] (.op 4 [] (.op 5 [] (.op 6 [] (.op 7 [] (.op 8 [] (.op 9 [] (.op 10 [] .done)))))))))))) (.seq .leaf .leaf)))) Tryz.func50 hT
def zi3 (s:Option Addr) (list:Option Addr) (list_l list_c:Nat) (R:Ending->World->Prop) (w:World):Prop:=
  xu (Option.isNone s) (
  R (.returned (Value.int .i64 7)) w) (
  zaw P (Instr.makeMap jh none) .map w fun (t20:(Option Nat)) w_1=>
  za4 (Int×Int) (fun s_1 w_2 k=>
  xu (decide (s_1.2 < (list_l:Int))) (
  ku Int (fun k_1=>
  ixS list list_l 1 s_1.2 fun t25=>
  ld .slc t25 w_2 fun (t26:(Option Addr×Nat×Nat))=>
  xu (decide ((t26.2.1:Int) > 4096)) (
  R (.returned (Value.int .i64 2)) w_2) (
  qy P zi7 #[(Value.slice t26.1 t26.2.1 t26.2.2)] [.any] false w_2 fun (t31:Value) w_3=>
  zbm (zc P zf) zf w_3 fun b9 w_4=>
  zb8 P (storeVar zf (⟨b9,0,none⟩:Addr) t31) w_4 fun w_5=>
  ldA P 32 (⟨b9,0,none⟩:Addr) w_5 fun t34=>
  z6v P (Instr.lookup jh (Value.map t20) (Value.agg t34) true) [.slc,.bool] w_5 fun (t35:((Option Addr×Nat×Nat)×Bool))=>
  xu t35.2 (
  k_1 s_1.1 w_5) (
  zbn w_5 fun w_6=>
  ldA P 32 (⟨b9,0,none⟩:Addr) w_6 fun t40=>
  qy P zck #[(Value.slice t26.1 t26.2.1 t26.2.2)] [.slc] false w_6 fun (t42:(Option Addr×Nat×Nat)) w_7=>
  ((ldA P 32 (⟨b9,0,none⟩:Addr) w_7 fun t40_1=>
  (Value.agg t40_1)=(Value.agg t40)) /\
  zb8 P (Instr.mapUpdate jh (Value.map t20) (Value.agg t40) (Value.slice t42.1 t42.2.1 t42.2.2)) w_7 fun w_8=>
  zbn w_8 fun w_9=>
  zn s fun p=>
  ld .map (Addr.add p 2) w_9 fun (t47:(Option Nat))=>
  ldA P 32 (⟨b9,0,none⟩:Addr) w_9 fun t48=>
  z6v P (Instr.lookup jh (Value.map t47) (Value.agg t48) true) [.slc,.bool] w_9 fun (t49:((Option Addr×Nat×Nat)×Bool))=>
  xu (!t49.2) (
  zbv .i64 s_1.1 (t26.2.1:Int) fun t57=>
  k_1 t57 w_9) (
  k_1 s_1.1 w_9))))) (fun s_2 w_10=>
  zbv .i64 s_1.2 1 fun t58=>
  k (s_2,t58) w_10)) (
  zbn w_2 fun w_11=>
  zn s fun p_1=>
  zn s fun p_2=>
  ld (.int .i64) p_1 w_11 fun (t63:Int)=>
  ld (.int .i64) (Addr.add p_2 1) w_11 fun (t67:Int)=>
  zk3 .i64 t63 t67 fun t68=>
  xu (decide (s_1.1 > t68)) (
  R (.returned (Value.int .i64 3)) w_11) (
  zaw P (Instr.range jh (Value.map t20)) .ptr w_11 fun (t71:(Option Addr)) w_12=>
  za4 Unit (fun _ w_13 k_2=>
  zaw P (Instr.next (Value.pointer t71) false zdb) .any w_13 fun (t72:Value) w_14=>
  exV t72 0 .bool fun (t73:Bool)=>
  xu t73 (
  ku Unit (fun k_3=>
  zba P (Instr.entry (Value.pointer t71)) .any w_14 fun (t74:Value)=>
  exV t74 0 .any fun (t75:Value)=>
  exV t74 1 .slc fun (t76:(Option Addr×Nat×Nat))=>
  zbm (zc P zf) zf w_14 fun b14 w_15=>
  zb8 P (storeVar zf (⟨b14,0,none⟩:Addr) t75) w_15 fun w_16=>
  zbn w_16 fun w_17=>
  zn s fun p_3=>
  ld .map (Addr.add p_3 2) w_17 fun (t81:(Option Nat))=>
  ldA P 32 (⟨b14,0,none⟩:Addr) w_17 fun t82=>
  z6v P (Instr.lookup jh (Value.map t81) (Value.agg t82) true) [.slc,.bool] w_17 fun (t83:((Option Addr×Nat×Nat)×Bool))=>
  ku Unit (fun k_4=>
  zbn w_17 fun w_18=>
  xu t83.2 (
  ldA P 32 (⟨b14,0,none⟩:Addr) w_18 fun t90=>
  qy P zi7 #[(Value.slice t83.1.1 t83.1.2.1 t83.1.2.2)] [.any] false w_18 fun (t89:Value) w_19=>
  ((ldA P 32 (⟨b14,0,none⟩:Addr) w_19 fun t90_1=>
  (Value.agg t90_1)=(Value.agg t90)) /\
  zba P (eqM .eql zf (.tmp 89) (.tmp 90) t89 (Value.agg t90)) .bool w_19 fun (t91:Bool)=>
  xu t91 (
  k_3 () w_19) (
  k_4 () w_19))) (
  ((undef=undef) /\
  k_4 () w_18))) (fun _ w_20=>
  zn s fun p_4=>
  ld (.int .i64) (Addr.add p_4 1) w_20 fun (t96:Int)=>
  zk3 .i64 (t76.2.1:Int) (t83.1.2.1:Int) fun t101=>
  zbv .i64 t96 t101 fun t102=>
  zn s fun p_5=>
  stC (Addr.add p_5 1) (Value.int .i64 t102) w_20 fun w_21=>
  zbn w_21 fun w_22=>
  zn s fun p_6=>
  ld .map (Addr.add p_6 2) w_22 fun (t108:(Option Nat))=>
  ldA P 32 (⟨b14,0,none⟩:Addr) w_22 fun t109=>
  zb8 P (Instr.mapUpdate jh (Value.map t108) (Value.agg t109) (Value.slice t76.1 t76.2.1 t76.2.2)) w_22 fun w_23=>
  k_3 () w_23)) (fun _ w_24=>
  k_2 () w_24)) (
  R (.returned (Value.int .i64 0)) w_14)) () w_12))) (0,0) w_1)
theorem znr {s:Option Addr}{list:Option Addr}{list_l list_c:Nat}{R:Ending->World->Prop}{w:World}(hT:zi3 s list list_l list_c R w):zy P zek #[(Value.pointer s),(Value.slice list list_l list_c)] w R:=
 fnT (.seq .leaf (.seq (.seq .leaf (.cond (.seq .leaf .leaf) .leaf)) (.seq .leaf (.seq .leaf (.seq (.seq .leaf (.blk (.loop [(6,.int .i64),(23,.int .i64)] (.seq .leaf (.seq (.cond .leaf .leaf) (.seq (.jblk [(6,.int .i64)] (.seq .leaf (.seq (.seq .leaf (.cond (.seq .leaf .leaf) .leaf)) (.seq .leaf (.seq (.seq .leaf (.seq .leaf (.cond .leaf .leaf))) (.seq (.tree (.op 0 [] (.op 2 [] (.op 1 [] (.op 3 [1] (.op 4 [] .done)))))) (.seq (.tree (.op 0 [] (.op 1 [] (.op 2 [] (.op 3 [] (.op 4 [] (.op 5 [] (.op 6 [] (.op 7 [] (.op 8 [] (.op 9 [] (.op 10 [] .done)))))))))))) (.seq .leaf (.cond .leaf .leaf))))))))) .leaf)))))) (.seq (.seq (.tree (.op 0 [] (.op 1 [] (.op 2 [] (.op 3 [] (.op 5 [] (.op 6 [] (.op 7 [] (.op 4 [] (.op 8 [] (.op 9 [] (.op 10 [] .done)))))))))))) (.cond (.seq .leaf .leaf) .leaf)) (.seq (.seq .leaf (.blk (.loop [] (.seq .leaf (.seq (.cond .leaf .leaf) (.jblk [] (.seq .leaf (.seq (.tree (.op 0 [] (.op 1 [] (.op 2 [] (.op 3 [] (.op 4 [] (.op 5 [] (.op 6 [] (.op 7 [] (.op 8 [] (.op 9 [] (.op 10 [] .done)))))))))))) (.join [] (.seq (.tree (.op 0 [] (.op 1 [] (.op 2 [] (.op 4 [] (.op 3 [4] (.op 5 [] (.op 6 [] .done)))))))) (.cond .leaf .leaf)) (.seq .leaf (.tree (.op 0 [] (.op 1 [] (.op 2 [] (.op 5 [] (.op 3 [] (.op 4 [] (.op 6 [] .done)))))))))))))))))) (.seq .leaf .leaf)))))))) Tryz.func60 hT
def zls (s:Option Addr) (d:Value) (R:Ending->World->Prop) (w:World):Prop:=
  zbm (Value.cells d) zf w fun b3 w_1=>
  xu (Option.isNone s) (
  R (.returned (Value.tuple #[(Value.slice none 0 0),(Value.int .i64 7)])) w_1) (
  zbn w_1 fun w_2=>
  zn s fun p=>
  ld .map (Addr.add p 2) w_2 fun (t14:(Option Nat))=>
  ldA P 32 (⟨b3,0,none⟩:Addr) w_2 fun t15=>
  z6v P (Instr.lookup jh (Value.map t14) (Value.agg t15) true) [.slc,.bool] w_2 fun (t16:((Option Addr×Nat×Nat)×Bool))=>
  xu (!t16.2) (
  R (.returned (Value.tuple #[(Value.slice none 0 0),(Value.int .i64 50)])) w_2) (
  zbn w_2 fun w_3=>
  ldA P 32 (⟨b3,0,none⟩:Addr) w_3 fun t23=>
  qy P zi7 #[(Value.slice t16.1.1 t16.1.2.1 t16.1.2.2)] [.any] false w_3 fun (t22:Value) w_4=>
  ((ldA P 32 (⟨b3,0,none⟩:Addr) w_4 fun t23_1=>
  (Value.agg t23_1)=(Value.agg t23)) /\
  zba P (eqM .neq zf (.tmp 22) (.tmp 23) t22 (Value.agg t23)) .bool w_4 fun (t24:Bool)=>
  xu t24 (
  R (.returned (Value.tuple #[(Value.slice none 0 0),(Value.int .i64 51)])) w_4) (
  qy P zck #[(Value.slice t16.1.1 t16.1.2.1 t16.1.2.2)] [.slc] false w_4 fun (t26:(Option Addr×Nat×Nat)) w_5=>
  R (.returned (Value.tuple #[(Value.slice t26.1 t26.2.1 t26.2.2),(Value.int .i64 0)])) w_5))))
theorem zq0 {s:Option Addr}{d:Value}{R:Ending->World->Prop}{w:World}(hT:zls s d R w):zy P zfz #[(Value.pointer s),d] w R:=
 fnT (.seq .leaf (.seq (.seq .leaf (.cond (.seq .leaf .leaf) .leaf)) (.seq (.tree (.op 0 [] (.op 1 [] (.op 2 [] (.op 3 [] (.op 4 [] (.op 5 [] (.op 6 [] (.op 7 [] (.op 8 [] (.op 9 [] (.op 10 [] .done)))))))))))) (.seq (.seq .leaf (.cond (.seq .leaf .leaf) .leaf)) (.seq (.seq (.tree (.op 0 [] (.op 2 [] (.op 1 [2] (.op 3 [] .done))))) (.cond (.seq .leaf .leaf) .leaf)) (.seq .leaf .leaf)))))) Tryz.func69 hT
def zko (s:Option Addr) (d:Value) (R:Ending->World->Prop) (w:World):Prop:=
  zbm (Value.cells d) zf w fun b3 w_1=>
  xu (Option.isNone s) (
  R (.returned (Value.int .i64 7)) w_1) (
  zbn w_1 fun w_2=>
  zn s fun p=>
  ld .map (Addr.add p 2) w_2 fun (t13:(Option Nat))=>
  ldA P 32 (⟨b3,0,none⟩:Addr) w_2 fun t14=>
  z6v P (Instr.lookup jh (Value.map t13) (Value.agg t14) true) [.slc,.bool] w_2 fun (t15:((Option Addr×Nat×Nat)×Bool))=>
  xu (!t15.2) (
  R (.returned (Value.int .i64 50)) w_2) (
  zn s fun p_1=>
  ld (.int .i64) (Addr.add p_1 1) w_2 fun (t23:Int)=>
  zk3 .i64 t23 (t15.1.2.1:Int) fun t26=>
  zn s fun p_2=>
  stC (Addr.add p_2 1) (Value.int .i64 t26) w_2 fun w_3=>
  zbn w_3 fun w_4=>
  zn s fun p_3=>
  ld .map (Addr.add p_3 2) w_4 fun (t32:(Option Nat))=>
  ldA P 32 (⟨b3,0,none⟩:Addr) w_4 fun t33=>
  zaw P (Builtin.delete_ #[jh,zf] zdb #[(Value.map t32),(Value.agg t33)]) .any w_4 fun (_:Value) w_5=>
  R (.returned (Value.int .i64 0)) w_5))
theorem zqb {s:Option Addr}{d:Value}{R:Ending->World->Prop}{w:World}(hT:zko s d R w):zy P zfg #[(Value.pointer s),d] w R:=
 fnT (.seq .leaf (.seq (.seq .leaf (.cond (.seq .leaf .leaf) .leaf)) (.seq (.tree (.op 0 [] (.op 1 [] (.op 2 [] (.op 3 [] (.op 4 [] (.op 5 [] (.op 6 [] (.op 7 [] (.op 8 [] (.op 9 [] (.op 10 [] .done)))))))))))) (.seq (.seq .leaf (.cond (.seq .leaf .leaf) .leaf)) (.seq .leaf (.seq (.tree (.op 0 [] (.op 1 [] (.op 2 [] (.op 3 [] (.op 4 [] (.op 5 [] .done))))))) (.seq .leaf .leaf))))))) Tryz.func74 hT
def zjn (s:Option Addr) (d:Value) (atv:Int) (turn:Int) (R:Ending->World->Prop) (w:World):Prop:=
  zbm (Value.cells d) zf w fun b5 w_1=>
  xu (Option.isNone s) (
  R (.returned (Value.int .i64 7)) w_1) (
  zbn w_1 fun w_2=>
  zn s fun p=>
  ld .map (Addr.add p 2) w_2 fun (t17:(Option Nat))=>
  ldA P 32 (⟨b5,0,none⟩:Addr) w_2 fun t18=>
  z6v P (Instr.lookup jh (Value.map t17) (Value.agg t18) true) [.slc,.bool] w_2 fun (t19:((Option Addr×Nat×Nat)×Bool))=>
  xu (!t19.2) (
  R (.returned (Value.int .i64 50)) w_2) (
  ku Unit (fun k=>
  xu (decide (atv < 0)) (
  R (.returned (Value.int .i64 1)) w_2) (
  xu (decide (atv>=(t19.1.2.1:Int))) (
  R (.returned (Value.int .i64 1)) w_2) (
  xu (turn==0) (
  R (.returned (Value.int .i64 1)) w_2) (
  k () w_2)))) (fun _ w_3=>
  ixS t19.1.1 t19.1.2.1 1 atv fun t38=>
  ld (.int .u8) t38 w_3 fun (t39:Int)=>
  zn3 .u8 t39 turn fun t41=>
  ixS t19.1.1 t19.1.2.1 1 atv fun t42=>
  stC t42 (Value.int .u8 t41) w_3 fun w_4=>
  R (.returned (Value.int .i64 0)) w_4)))
theorem zox {s:Option Addr}{d:Value}{atv:Int}{turn:Int}{R:Ending->World->Prop}{w:World}(hT:zjn s d atv turn R w):zy P zgp #[(Value.pointer s),d,(Value.int .i64 atv),(Value.int .u8 turn)] w R:=
 fnT (.seq .leaf (.seq (.seq .leaf (.cond (.seq .leaf .leaf) .leaf)) (.seq (.tree (.op 0 [] (.op 1 [] (.op 2 [] (.op 3 [] (.op 4 [] (.op 5 [] (.op 6 [] (.op 7 [] (.op 8 [] (.op 9 [] (.op 10 [] .done)))))))))))) (.seq (.seq .leaf (.cond (.seq .leaf .leaf) .leaf)) (.join [] (.seq .leaf (.cond (.seq .leaf .leaf) .leaf)) (.seq .leaf (.seq .leaf .leaf))))))) Tryz.func76 hT
def zd9 (seq:Value) (cmp:Value) (R:Ending->World->Prop) (w:World):Prop:=
  qy P zde #[seq] [.slc] false w fun (t7:(Option Addr×Nat×Nat)) w_1=>
  qy P zcq #[(Value.slice t7.1 t7.2.1 t7.2.2),cmp] [] true w_1 fun (_:Unit) w_2=>
  R (.returned (Value.slice t7.1 t7.2.1 t7.2.2)) w_2
theorem zg6 {seq:Value}{cmp:Value}{R:Ending->World->Prop}{w:World}(hT:zd9 seq cmp R w):zy P zbz #[seq,cmp] w R:=
 fnT (.seq .leaf (.seq .leaf (.seq .leaf (.seq .leaf .leaf)))) Tryz.func98 hT
def zcd (m:Option Nat) (R:Ending->World->Prop) (w:World):Prop:=
  zbm #[(Value.map m)] ji w fun b1 w_1=>
  zba P (Instr.makeFunc (Go.Fn.func zao) #[] #[(Value.pointer (some (⟨b1,0,none⟩:Addr)))]) .any w_1 fun (t3:Value)=>
  R (.returned t3) w_1
theorem zd8 {m:Option Nat}{R:Ending->World->Prop}{w:World}(hT:zcd m R w):zy P zbh #[(Value.map m)] w R:=
 fnT (.seq .leaf (.seq .leaf .leaf)) Tryz.func99 hT
def zl1 (s:Option Addr) (R:Ending->World->Prop) (w:World):Prop:=
  ku (Option Addr×Nat×Nat) (fun k=>
  xu (!(Option.isNone s)) (
  zn s fun p=>
  ld .map (Addr.add p 2) w fun (t9:(Option Nat))=>
  qy P za0 #[(Value.map t9)] [.any] false w fun (t10:Value) w_1=>
  qy P zbz #[t10,(Value.func (.func zed) #[] #[])] [.slc] false w_1 fun (t11:(Option Addr×Nat×Nat)) w_2=>
  k (t11.1,t11.2.1,t11.2.2) w_2) (
  k (none,0,0) w)) (fun s_1 w_3=>
  qy P zbr #[(Value.slice s_1.1 s_1.2.1 s_1.2.2)] [.any] false w_3 fun (t13:Value) w_4=>
  R (.returned t13) w_4)
theorem zq4 {s:Option Addr}{R:Ending->World->Prop}{w:World}(hT:zl1 s R w):zy P zhq #[(Value.pointer s)] w R:=
 fnT (.seq .leaf (.seq .leaf (.join [(3,.slc)] (.seq .leaf (.cond .leaf .leaf)) (.seq .leaf .leaf)))) Tryz.func102 hT
def zfm (s:Option Addr) (s_l s_c:Nat) (R:Ending->World->Prop) (w:World):Prop:=
  xu (Option.isNone s) (
  R (.returned (Value.slice none 0 0)) w) (
  zaw P (Instr.buildSlice zi 0 #[]) .slc w fun (t5:(Option Addr×Nat×Nat)) w_1=>
  zaw P (Builtin.append_ #[zi,zi] zi #[(Value.slice t5.1 t5.2.1 t5.2.2),(Value.slice s s_l s_c)]) .slc w_1 fun (t7:(Option Addr×Nat×Nat)) w_2=>
  R (.returned (Value.slice t7.1 t7.2.1 t7.2.2)) w_2)
theorem ziu {s:Option Addr}{s_l s_c:Nat}{R:Ending->World->Prop}{w:World}(hT:zfm s s_l s_c R w):zy P zck #[(Value.slice s s_l s_c)] w R:=
 fnT (.seq .leaf (.seq (.seq .leaf (.cond (.seq .leaf .leaf) .leaf)) (.seq .leaf .leaf))) Tryz.func115 hT
def zfc (seq:Value) (R:Ending->World->Prop) (w:World):Prop:=
  qy P zbi #[(Value.slice none 0 0),seq] [.slc] false w fun (t4:(Option Addr×Nat×Nat)) w_1=>
  R (.returned (Value.slice t4.1 t4.2.1 t4.2.2)) w_1
theorem zh4 {seq:Value}{R:Ending->World->Prop}{w:World}(hT:zfc seq R w):zy P zde #[seq] w R:=
 fnT (.seq .leaf (.seq .leaf .leaf)) Tryz.func148 hT
def zb6 (yield:Value) (c0:Option Addr) (R:Ending->World->Prop) (w:World):Prop:=
  zn c0 fun p=>
  ld .map p w fun (t4:(Option Nat))=>
  zaw P (Instr.range ji (Value.map t4)) .ptr w fun (t5:(Option Addr)) w_1=>
  za4 Unit (fun _ w_2 k=>
  zaw P (Instr.next (Value.pointer t5) false zdb) .any w_2 fun (t6:Value) w_3=>
  exV t6 0 .bool fun (t7:Bool)=>
  xu t7 (
  zba P (Instr.entry (Value.pointer t5)) .any w_3 fun (t8:Value)=>
  exV t8 0 .any fun (t9:Value)=>
  zbm (zc P zf) zf w_3 fun b3 w_4=>
  zb8 P (storeVar zf (⟨b3,0,none⟩:Addr) t9) w_4 fun w_5=>
  ldA P 32 (⟨b3,0,none⟩:Addr) w_5 fun t11=>
  zok P yield #[(Value.agg t11)] [.bool] false w_5 fun (t12:Bool) w_6=>
  xu (!t12) (
  R (.returned (Value.tuple #[])) w_6) (
  k () w_6)) (
  R (.returned (Value.tuple #[])) w_3)) () w_1
theorem zd0 {yield:Value}{c0:Option Addr}{R:Ending->World->Prop}{w:World}(hT:zb6 yield c0 R w):zy P zao #[yield,(Value.pointer c0)] w R:=
 fnT (.seq .leaf (.blk (.loop [] (.seq .leaf (.seq (.cond .leaf .leaf) (.blk (.seq .leaf (.seq .leaf (.cond .leaf .leaf))))))))) Tryz.func150 hT
def zl5 (a:Option Addr) (a_l a_c:Nat) (b:Option Addr) (b_l b_c:Nat) (R:Ending->World->Prop) (w:World):Prop:=
  qy P zfj #[(Value.slice a a_l a_c),(Value.slice b b_l b_c)] [.int .i64] false w fun (t7:Int) w_1=>
  R (.returned (Value.int .i64 t7)) w_1
theorem zsy {a:Option Addr}{a_l a_c:Nat}{b:Option Addr}{b_l b_c:Nat}{R:Ending->World->Prop}{w:World}(hT:zl5 a a_l a_c b b_l b_c R w):zy P ziy #[(Value.slice a a_l a_c),(Value.slice b b_l b_c)] w R:=
 fnT (.seq .leaf (.seq .leaf .leaf)) Tryz.func151 hT
def zby (m:Option Nat) (R:Ending->World->Prop) (w:World):Prop:=
  zbm #[(Value.map m)] jh w fun b1 w_1=>
  zba P (Instr.makeFunc (Go.Fn.func zaf) #[] #[(Value.pointer (some (⟨b1,0,none⟩:Addr)))]) .any w_1 fun (t3:Value)=>
  R (.returned t3) w_1
theorem zdj {m:Option Nat}{R:Ending->World->Prop}{w:World}(hT:zby m R w):zy P za0 #[(Value.map m)] w R:=
 fnT (.seq .leaf (.seq .leaf .leaf)) Tryz.func152 hT
def zcz (s:Option Addr) (s_l s_c:Nat) (R:Ending->World->Prop) (w:World):Prop:=
  zbm #[(Value.slice s s_l s_c)] zo w fun b1 w_1=>
  zba P (Instr.makeFunc (Go.Fn.func zaj) #[] #[(Value.pointer (some (⟨b1,0,none⟩:Addr)))]) .any w_1 fun (t3:Value)=>
  R (.returned t3) w_1
theorem ze7 {s:Option Addr}{s_l s_c:Nat}{R:Ending->World->Prop}{w:World}(hT:zcz s s_l s_c R w):zy P zbr #[(Value.slice s s_l s_c)] w R:=
 fnT (.seq .leaf (.seq .leaf .leaf)) Tryz.func153 hT
def zcg (s:Option Addr) (s_l s_c:Nat) (seq:Value) (R:Ending->World->Prop) (w:World):Prop:=
  zbm #[(Value.slice s s_l s_c)] zo w fun b2 w_1=>
  zul P [.any] seq w_1 (fun (x:Value) w_2 beg kc _ _=>
  zbm (zc P zf) zf w_2 fun b5 w_4=>
  zb8 P (storeVar zf (⟨b5,0,none⟩:Addr) x) w_4 fun w_5=>
  beg w_5 fun w_3=>
  ld .slc (⟨b2,0,none⟩:Addr) w_3 fun (t8:(Option Addr×Nat×Nat))=>
  ldA P 32 (⟨b5,0,none⟩:Addr) w_3 fun t9=>
  zaw P (Instr.buildSlice zo 1 #[(0,(Value.agg t9))]) .slc w_3 fun (t10:(Option Addr×Nat×Nat)) w_6=>
  zaw P (Builtin.append_ #[zo,zo] zo #[(Value.slice t8.1 t8.2.1 t8.2.2),(Value.slice t10.1 t10.2.1 t10.2.2)]) .slc w_6 fun (t11:(Option Addr×Nat×Nat)) w_7=>
  stC (⟨b2,0,none⟩:Addr) (Value.slice t11.1 t11.2.1 t11.2.2) w_7 fun w_8=>
  kc w_8) (fun D w_9=>
  ld .slc (⟨b2,0,none⟩:Addr) w_9 fun (t12:(Option Addr×Nat×Nat))=>
  (w_9.heap[D]?=some (.deferred (some []))/\∀ w_10,w_10=World.putObj w_9 D (.deferred none) ->
  R (.returned (Value.slice t12.1 t12.2.1 t12.2.2)) w_10)) (fun _D _w=>False) (fun _ _D _w=>False)
theorem zej {s:Option Addr}{s_l s_c:Nat}{seq:Value}{R:Ending->World->Prop}{w:World}(hT:zcg s s_l s_c seq R w):zy P zbi #[(Value.slice s s_l s_c),seq] w R:=
 fnU (.seq (.pure .leaf) (.seq (.seq (.pure .leaf) (.blk (.rng [(7,.any)] false [] .leaf (.blk .leaf)))) (.pure (.seq .leaf .leaf)))) Tryz.func182 hT
theorem zja {e:Array Value->Sem Value}(he:Extern.find Tryz.f184=some e) (args:Array Value) (w:World):(callFunc zfj args).run P w=((e args).run P w).andThen fun v w1=>.ok (.value v) w1:=
 Go.run_callFunc_extern Tryz.func184 (by kernel_rfl) (by kernel_rfl) (by kernel_rfl) he args w
def zbt (yield:Value) (c0:Option Addr) (R:Ending->World->Prop) (w:World):Prop:=
  zn c0 fun p=>
  ld .map p w fun (t4:(Option Nat))=>
  zaw P (Instr.range jh (Value.map t4)) .ptr w fun (t5:(Option Addr)) w_1=>
  za4 Unit (fun _ w_2 k=>
  zaw P (Instr.next (Value.pointer t5) false zdb) .any w_2 fun (t6:Value) w_3=>
  exV t6 0 .bool fun (t7:Bool)=>
  xu t7 (
  zba P (Instr.entry (Value.pointer t5)) .any w_3 fun (t8:Value)=>
  exV t8 0 .any fun (t9:Value)=>
  zbm (zc P zf) zf w_3 fun b3 w_4=>
  zb8 P (storeVar zf (⟨b3,0,none⟩:Addr) t9) w_4 fun w_5=>
  ldA P 32 (⟨b3,0,none⟩:Addr) w_5 fun t11=>
  zok P yield #[(Value.agg t11)] [.bool] false w_5 fun (t12:Bool) w_6=>
  xu (!t12) (
  R (.returned (Value.tuple #[])) w_6) (
  k () w_6)) (
  R (.returned (Value.tuple #[])) w_3)) () w_1
theorem zdd {yield:Value}{c0:Option Addr}{R:Ending->World->Prop}{w:World}(hT:zbt yield c0 R w):zy P zaf #[yield,(Value.pointer c0)] w R:=
 fnT (.seq .leaf (.blk (.loop [] (.seq .leaf (.seq (.cond .leaf .leaf) (.blk (.seq .leaf (.seq .leaf (.cond .leaf .leaf))))))))) Tryz.func185 hT
def zcr (yield:Value) (c0:Option Addr) (R:Ending->World->Prop) (w:World):Prop:=
  zn c0 fun p=>
  ld .slc p w fun (t5:(Option Addr×Nat×Nat))=>
  za4 Int (fun s w_1 k=>
  xu (decide (s < (t5.2.1:Int))) (
  ixS t5.1 t5.2.1 32 s fun t9=>
  ldA P 32 t9 w_1 fun t10=>
  zbm (zc P zf) zf w_1 fun b4 w_2=>
  zb8 P (storeVar zf (⟨b4,0,none⟩:Addr) (Value.agg t10)) w_2 fun w_3=>
  ldA P 32 (⟨b4,0,none⟩:Addr) w_3 fun t12=>
  zok P yield #[(Value.agg t12)] [.bool] false w_3 fun (t13:Bool) w_4=>
  xu (!t13) (
  R (.returned (Value.tuple #[])) w_4) (
  zbv .i64 s 1 fun t15=>
  k t15 w_4)) (
  R (.returned (Value.tuple #[])) w_1)) 0 w
theorem zeu {yield:Value}{c0:Option Addr}{R:Ending->World->Prop}{w:World}(hT:zcr yield c0 R w):zy P zaj #[yield,(Value.pointer c0)] w R:=
 fnT (.seq .leaf (.blk (.loop [(7,.int .i64)] (.seq .leaf (.seq (.cond .leaf .leaf) (.seq (.blk (.seq .leaf (.seq .leaf (.cond .leaf .leaf)))) .leaf)))))) Tryz.func186 hT
set_option maxRecDepth 100000
def z0x (quota:Int) (R:Ending->World->Prop) (w:World):Prop:=
  zba P (Builtin.max_ #[zbl,zbl] zbl #[(Value.int .i64 quota),(Value.int .i64 0)]) (.int .i64) w fun (t4:Int)=>
  zba P (Instr.build zf3 #[(0,(Value.int .i64 t4))]) .any w fun (t5:Value)=>
  zbm (Value.cells t5) zf3 w fun b6 w_1=>
  R (.returned (Value.pointer (some (⟨b6,0,none⟩:Addr)))) w_1
theorem z6u {quota:Int}{R:Ending->World->Prop}{w:World}(hT:z0x quota R w):zy P zvw #[(Value.int .i64 quota)] w R:=
 fnT (.seq .leaf (.seq .leaf .leaf)) Tryz.func13 hT
def zkd (s:Option Addr) (R:Ending->World->Prop) (w:World):Prop:=
  za4 (Int×Int) (fun s_1 w_1 k=>
  zn s fun p=>
  ld .slc (Addr.add p 1) w_1 fun (t9:(Option Addr×Nat×Nat))=>
  xu (decide (s_1.2 < (t9.2.1:Int))) (
  zn s fun p_1=>
  ld .slc (Addr.add p_1 1) w_1 fun (t18:(Option Addr×Nat×Nat))=>
  ixS t18.1 t18.2.1 33 s_1.2 fun t20=>
  ld .slc (Addr.add t20 32) w_1 fun (t22:(Option Addr×Nat×Nat))=>
  zbv .i64 s_1.1 (t22.2.1:Int) fun t24=>
  zbv .i64 s_1.2 1 fun t13=>
  k (t24,t13) w_1) (
  R (.returned (Value.int .i64 s_1.1)) w_1)) (0,0) w
theorem zqo {s:Option Addr}{R:Ending->World->Prop}{w:World}(hT:zkd s R w):zy P zfh #[(Value.pointer s)] w R:=
 fnT (.seq .leaf (.seq .leaf (.seq (.seq .leaf (.blk (.loop [(3,.int .i64),(4,.int .i64)] (.seq (.seq .leaf (.cond .leaf .leaf)) (.seq (.blk .leaf) .leaf))))) (.seq .leaf .leaf)))) Tryz.func19 hT
def zmd (s:Option Addr) (b:Option Addr) (b_l b_c:Nat) (R:Ending->World->Prop) (w:World):Prop:=
  zbm (zc P zf) zf w fun b4 w_1=>
  zaw P (Instr.buildSlice jq 1 #[(0,(Value.slice b b_l b_c))]) .slc w_1 fun (t9:(Option Addr×Nat×Nat)) w_2=>
  qy P zgj #[(Value.pointer s),(Value.slice t9.1 t9.2.1 t9.2.2)] [.int .i64] false w_2 fun (t10:Int) w_3=>
  xu (t10 != 0) (
  zba P (Instr.build zf #[]) .any w_3 fun (t13:Value)=>
  zb8 P (storeVar zf (⟨b4,0,none⟩:Addr) t13) w_3 fun w_4=>
  ldA P 32 (⟨b4,0,none⟩:Addr) w_4 fun t4=>
  R (.returned (Value.tuple #[(Value.agg t4),(Value.int .i64 t10)])) w_4) (
  qy P ziq #[(Value.slice b b_l b_c)] [.any] false w_3 fun (t16:Value) w_5=>
  zb8 P (storeVar zf (⟨b4,0,none⟩:Addr) t16) w_5 fun w_6=>
  ldA P 32 (⟨b4,0,none⟩:Addr) w_6 fun t4_1=>
  R (.returned (Value.tuple #[(Value.agg t4_1),(Value.int .i64 0)])) w_6)
theorem zs4 {s:Option Addr}{b:Option Addr}{b_l b_c:Nat}{R:Ending->World->Prop}{w:World}(hT:zmd s b b_l b_c R w):zy P zis #[(Value.pointer s),(Value.slice b b_l b_c)] w R:=
 fnT (.seq .leaf (.seq .leaf (.seq (.seq .leaf (.cond (.seq .leaf .leaf) .leaf)) (.seq .leaf .leaf)))) Tryz.func31 hT
def zmn (s:Option Addr) (d:Value) (R:Ending->World->Prop) (w:World):Prop:=
  zbm (Value.cells d) zf w fun b3 w_1=>
  ldA P 32 (⟨b3,0,none⟩:Addr) w_1 fun t10=>
  qy P zc3 #[(Value.pointer s),(Value.agg t10)] [.int .i64,.bool] true w_1 fun (t11:(Int×Bool)) w_2=>
  xu (!t11.2) (
  R (.returned (Value.tuple #[(Value.slice none 0 0),(Value.int .i64 50)])) w_2) (
  zbn w_2 fun w_3=>
  zn s fun p=>
  ld .slc (Addr.add p 1) w_3 fun (t19:(Option Addr×Nat×Nat))=>
  ixS t19.1 t19.2.1 33 t11.1 fun t21=>
  ld .slc (Addr.add t21 32) w_3 fun (t23:(Option Addr×Nat×Nat))=>
  ldA P 32 (⟨b3,0,none⟩:Addr) w_3 fun t25=>
  qy P ziq #[(Value.slice t23.1 t23.2.1 t23.2.2)] [.any] false w_3 fun (t24:Value) w_4=>
  ((ldA P 32 (⟨b3,0,none⟩:Addr) w_4 fun t25_1=>
  (Value.agg t25_1)=(Value.agg t25)) /\
  zba P (eqM .neq zf (.tmp 24) (.tmp 25) t24 (Value.agg t25)) .bool w_4 fun (t26:Bool)=>
  xu t26 (
  R (.returned (Value.tuple #[(Value.slice none 0 0),(Value.int .i64 51)])) w_4) (
  zaw P (Instr.buildSlice zi 0 #[]) .slc w_4 fun (t27:(Option Addr×Nat×Nat)) w_5=>
  zn s fun p_1=>
  ld .slc (Addr.add p_1 1) w_5 fun (t31:(Option Addr×Nat×Nat))=>
  ixS t31.1 t31.2.1 33 t11.1 fun t33=>
  ld .slc (Addr.add t33 32) w_5 fun (t35:(Option Addr×Nat×Nat))=>
  zaw P (Builtin.append_ #[zi,zi] zi #[(Value.slice t27.1 t27.2.1 t27.2.2),(Value.slice t35.1 t35.2.1 t35.2.2)]) .slc w_5 fun (t36:(Option Addr×Nat×Nat)) w_6=>
  R (.returned (Value.tuple #[(Value.slice t36.1 t36.2.1 t36.2.2),(Value.int .i64 0)])) w_6)))
theorem zs7 {s:Option Addr}{d:Value}{R:Ending->World->Prop}{w:World}(hT:zmn s d R w):zy P zif #[(Value.pointer s),d] w R:=
 fnT (.seq .leaf (.seq .leaf (.seq (.seq .leaf (.cond (.seq .leaf .leaf) .leaf)) (.seq (.seq (.tree (.op 0 [] (.op 1 [] (.op 2 [] (.op 4 [] (.op 3 [] (.op 5 [] (.op 6 [] (.op 7 [] (.op 9 [] (.op 8 [9] (.op 10 [] .done)))))))))))) (.cond (.seq .leaf .leaf) .leaf)) (.seq .leaf .leaf))))) Tryz.func35 hT
def zjk (s:Option Addr) (list:Option Addr) (list_l list_c:Nat) (R:Ending->World->Prop) (w:World):Prop:=
  za4 Int (fun s_1 w_1 k=>
  xu (decide (s_1 < (list_l:Int))) (
  ixS list list_l 1 s_1 fun t20=>
  ld .slc t20 w_1 fun (t21:(Option Addr×Nat×Nat))=>
  xu (decide ((t21.2.1:Int) > 4096)) (
  R (.returned (Value.int .i64 2)) w_1) (
  zbv .i64 s_1 1 fun t17=>
  k t17 w_1)) (
  qy P zg8 #[(Value.pointer s)] [.ptr] false w_1 fun (t25:(Option Addr)) w_2=>
  za4 Int (fun s_2 w_3 k_1=>
  xu (decide (s_2 < (list_l:Int))) (
  ku Unit (fun k_2=>
  ku Unit (fun k_3=>
  ixS list list_l 1 s_2 fun t34=>
  ld .slc t34 w_3 fun (t35:(Option Addr×Nat×Nat))=>
  qy P ziq #[(Value.slice t35.1 t35.2.1 t35.2.2)] [.any] false w_3 fun (t36:Value) w_4=>
  zbm (zc P zf) zf w_4 fun b8 w_5=>
  zb8 P (storeVar zf (⟨b8,0,none⟩:Addr) t36) w_5 fun w_6=>
  ldA P 32 (⟨b8,0,none⟩:Addr) w_6 fun t39=>
  qy P zc3 #[(Value.pointer t25),(Value.agg t39)] [.int .i64,.bool] true w_6 fun (t40:(Int×Bool)) w_7=>
  xu (!t40.2) (
  zaw P (Instr.buildSlice jc 0 #[]) .slc w_7 fun (t45:(Option Addr×Nat×Nat)) w_8=>
  zn t25 fun p=>
  ld .slc (Addr.add p 1) w_8 fun (t49:(Option Addr×Nat×Nat))=>
  zba P (Instr.sliceAt jc (Value.slice t49.1 t49.2.1 t49.2.2) none (some (Value.int .i64 t40.1)) none) .slc w_8 fun (t51:(Option Addr×Nat×Nat))=>
  zaw P (Builtin.append_ #[jc,jc] jc #[(Value.slice t45.1 t45.2.1 t45.2.2),(Value.slice t51.1 t51.2.1 t51.2.2)]) .slc w_8 fun (t52:(Option Addr×Nat×Nat)) w_9=>
  zbn w_9 fun w_10=>
  ixS list list_l 1 s_2 fun t58=>
  ldA P 32 (⟨b8,0,none⟩:Addr) w_10 fun t54=>
  ld .slc t58 w_10 fun (t59:(Option Addr×Nat×Nat))=>
  zaw P (Instr.buildSlice zi 0 #[]) .slc w_10 fun (t55:(Option Addr×Nat×Nat)) w_11=>
  ((ld .slc t58 w_11 fun (t59_1:(Option Addr×Nat×Nat))=>
  (Value.slice t59_1.1 t59_1.2.1 t59_1.2.2)=(Value.slice t59.1 t59.2.1 t59.2.2)) /\
  ((ldA P 32 (⟨b8,0,none⟩:Addr) w_11 fun t54_1=>
  (Value.agg t54_1)=(Value.agg t54)) /\
  zaw P (Builtin.append_ #[zi,zi] zi #[(Value.slice t55.1 t55.2.1 t55.2.2),(Value.slice t59.1 t59.2.1 t59.2.2)]) .slc w_11 fun (t60:(Option Addr×Nat×Nat)) w_12=>
  ((ldA P 32 (⟨b8,0,none⟩:Addr) w_12 fun t54_2=>
  (Value.agg t54_2)=(Value.agg t54)) /\
  zba P (Instr.build za2 #[(0,(Value.agg t54)),(1,(Value.slice t60.1 t60.2.1 t60.2.2))]) .any w_12 fun (t61:Value)=>
  zaw P (Instr.buildSlice jc 1 #[(0,t61)]) .slc w_12 fun (t62:(Option Addr×Nat×Nat)) w_13=>
  zaw P (Builtin.append_ #[jc,jc] jc #[(Value.slice t52.1 t52.2.1 t52.2.2),(Value.slice t62.1 t62.2.1 t62.2.2)]) .slc w_13 fun (t63:(Option Addr×Nat×Nat)) w_14=>
  zn t25 fun p_1=>
  ld .slc (Addr.add p_1 1) w_14 fun (t69:(Option Addr×Nat×Nat))=>
  zba P (Instr.sliceAt jc (Value.slice t69.1 t69.2.1 t69.2.2) (some (Value.int .i64 t40.1)) none none) .slc w_14 fun (t71:(Option Addr×Nat×Nat))=>
  zaw P (Builtin.append_ #[jc,jc] jc #[(Value.slice t63.1 t63.2.1 t63.2.2),(Value.slice t71.1 t71.2.1 t71.2.2)]) .slc w_14 fun (t72:(Option Addr×Nat×Nat)) w_15=>
  zn t25 fun p_2=>
  stC (Addr.add p_2 1) (Value.slice t72.1 t72.2.1 t72.2.2) w_15 fun w_16=>
  k_3 () w_16)))) (
  zbn w_7 fun w_17=>
  zn t25 fun p_3=>
  ld .slc (Addr.add p_3 1) w_17 fun (t78:(Option Addr×Nat×Nat))=>
  ixS t78.1 t78.2.1 33 t40.1 fun t80=>
  ld .slc (Addr.add t80 32) w_17 fun (t82:(Option Addr×Nat×Nat))=>
  ldA P 32 (⟨b8,0,none⟩:Addr) w_17 fun t84=>
  qy P ziq #[(Value.slice t82.1 t82.2.1 t82.2.2)] [.any] false w_17 fun (t83:Value) w_18=>
  ((ldA P 32 (⟨b8,0,none⟩:Addr) w_18 fun t84_1=>
  (Value.agg t84_1)=(Value.agg t84)) /\
  zba P (eqM .neq zf (.tmp 83) (.tmp 84) t83 (Value.agg t84)) .bool w_18 fun (t85:Bool)=>
  xu t85 (
  zbn w_18 fun w_19=>
  zn t25 fun p_4=>
  ixS list list_l 1 s_2 fun t94=>
  ld .slc (Addr.add p_4 1) w_19 fun (t89:(Option Addr×Nat×Nat))=>
  ld .slc t94 w_19 fun (t95:(Option Addr×Nat×Nat))=>
  zaw P (Instr.buildSlice zi 0 #[]) .slc w_19 fun (t91:(Option Addr×Nat×Nat)) w_20=>
  ((ld .slc t94 w_20 fun (t95_1:(Option Addr×Nat×Nat))=>
  (Value.slice t95_1.1 t95_1.2.1 t95_1.2.2)=(Value.slice t95.1 t95.2.1 t95.2.2)) /\
  ((ld .slc (Addr.add p_4 1) w_20 fun (t89_1:(Option Addr×Nat×Nat))=>
  (Value.slice t89_1.1 t89_1.2.1 t89_1.2.2)=(Value.slice t89.1 t89.2.1 t89.2.2)) /\
  zaw P (Builtin.append_ #[zi,zi] zi #[(Value.slice t91.1 t91.2.1 t91.2.2),(Value.slice t95.1 t95.2.1 t95.2.2)]) .slc w_20 fun (t96:(Option Addr×Nat×Nat)) w_21=>
  ((ld .slc (Addr.add p_4 1) w_21 fun (t89_2:(Option Addr×Nat×Nat))=>
  (Value.slice t89_2.1 t89_2.2.1 t89_2.2.2)=(Value.slice t89.1 t89.2.1 t89.2.2)) /\
  ixS t89.1 t89.2.1 33 t40.1 fun t97=>
  stC (Addr.add t97 32) (Value.slice t96.1 t96.2.1 t96.2.2) w_21 fun w_22=>
  k_3 () w_22)))) (
  k_3 () w_18)))) (fun _ w_23=>
  k_2 () w_23)) (fun _ w_24=>
  zbv .i64 s_2 1 fun t31=>
  k_1 t31 w_24)) (
  zbn w_3 fun w_25=>
  zn s fun p_5=>
  ld (.int .i64) p_5 w_25 fun (t105:Int)=>
  qy P zg5 #[(Value.pointer t25),(Value.pointer s)] [.int .i64] false w_25 fun (t101:Int) w_26=>
  ((ld (.int .i64) p_5 w_26 fun (t105_1:Int)=>
  (Value.int .i64 t105_1)=(Value.int .i64 t105)) /\
  qy P zfh #[(Value.pointer s)] [.int .i64] false w_26 fun (t107:Int) w_27=>
  ((ld (.int .i64) p_5 w_27 fun (t105_2:Int)=>
  (Value.int .i64 t105_2)=(Value.int .i64 t105)) /\
  zk3 .i64 t105 t107 fun t108=>
  xu (decide (t101 > t108)) (
  R (.returned (Value.int .i64 3)) w_27) (
  zn t25 fun p_6=>
  ld .slc (Addr.add p_6 1) w_27 fun (t114:(Option Addr×Nat×Nat))=>
  zn s fun p_7=>
  stC (Addr.add p_7 1) (Value.slice t114.1 t114.2.1 t114.2.2) w_27 fun w_28=>
  R (.returned (Value.int .i64 0)) w_28))))) 0 w_2)) 0 w
theorem zoq {s:Option Addr}{list:Option Addr}{list_l list_c:Nat}{R:Ending->World->Prop}{w:World}(hT:zjk s list list_l list_c R w):zy P zgj #[(Value.pointer s),(Value.slice list list_l list_c)] w R:=
 fnT (.seq .leaf (.seq (.seq .leaf (.blk (.loop [(5,.int .i64)] (.seq (.seq .leaf (.cond .leaf .leaf)) (.seq (.blk (.seq .leaf (.cond (.seq .leaf .leaf) .leaf))) .leaf))))) (.seq .leaf (.seq (.seq .leaf (.blk (.loop [(7,.int .i64)] (.seq (.seq .leaf (.cond .leaf .leaf)) (.join [] (.jblk [] (.seq .leaf (.seq .leaf (.seq .leaf (.cond (.seq .leaf (.seq (.tree (.op 0 [] (.op 3 [] (.op 4 [] (.op 5 [] (.op 1 [] (.op 6 [] (.op 2 [1,6] (.op 7 [1] (.op 8 [] (.op 9 [] (.op 10 [] (.op 11 [] .done))))))))))))) .leaf)) (.seq (.tree (.op 0 [] (.op 1 [] (.op 2 [] (.op 4 [] (.op 3 [] (.op 5 [] (.op 6 [] (.op 7 [] (.op 9 [] (.op 8 [9] (.op 10 [] .done)))))))))))) (.cond (.tree (.op 0 [] (.op 1 [] (.op 2 [] (.op 4 [] (.op 6 [] (.op 7 [] (.op 8 [] (.op 3 [] (.op 9 [] (.op 5 [3,9] (.op 10 [3] (.op 11 [] (.op 12 [] (.op 13 [] .done))))))))))))))) .leaf))))))) .leaf))))) (.seq (.seq (.tree (.op 0 [] (.op 1 [] (.op 3 [] (.op 4 [] (.op 5 [] (.op 7 [] (.op 6 [] (.op 2 [6] (.op 8 [6] (.op 9 [] (.op 10 [] .done)))))))))))) (.cond (.seq .leaf .leaf) .leaf)) (.seq .leaf (.seq .leaf .leaf))))))) Tryz.func63 hT
def zlv (s:Option Addr) (d:Value) (R:Ending->World->Prop) (w:World):Prop:=
  zbm (Value.cells d) zf w fun b3 w_1=>
  ldA P 32 (⟨b3,0,none⟩:Addr) w_1 fun t9=>
  qy P zc3 #[(Value.pointer s),(Value.agg t9)] [.int .i64,.bool] true w_1 fun (t10:(Int×Bool)) w_2=>
  xu (!t10.2) (
  R (.returned (Value.int .i64 50)) w_2) (
  zbn w_2 fun w_3=>
  zn s fun p=>
  zn s fun p_1=>
  zbv .i64 t10.1 1 fun t29=>
  ld .slc (Addr.add p 1) w_3 fun (t20:(Option Addr×Nat×Nat))=>
  zba P (Instr.sliceAt jc (Value.slice t20.1 t20.2.1 t20.2.2) none (some (Value.int .i64 t10.1)) none) .slc w_3 fun (t22:(Option Addr×Nat×Nat))=>
  ld .slc (Addr.add p_1 1) w_3 fun (t27:(Option Addr×Nat×Nat))=>
  zba P (Instr.sliceAt jc (Value.slice t27.1 t27.2.1 t27.2.2) (some (Value.int .i64 t29)) none none) .slc w_3 fun (t30:(Option Addr×Nat×Nat))=>
  zaw P (Instr.buildSlice jc 0 #[]) .slc w_3 fun (t16:(Option Addr×Nat×Nat)) w_4=>
  ((zba P (Instr.sliceAt jc (Value.slice t27.1 t27.2.1 t27.2.2) (some (Value.int .i64 t29)) none none) .slc w_4 fun (t30_1:(Option Addr×Nat×Nat))=>
  (Value.slice t30_1.1 t30_1.2.1 t30_1.2.2)=(Value.slice t30.1 t30.2.1 t30.2.2)) /\
  ((ld .slc (Addr.add p_1 1) w_4 fun (t27_1:(Option Addr×Nat×Nat))=>
  (Value.slice t27_1.1 t27_1.2.1 t27_1.2.2)=(Value.slice t27.1 t27.2.1 t27.2.2)) /\
  ((zba P (Instr.sliceAt jc (Value.slice t20.1 t20.2.1 t20.2.2) none (some (Value.int .i64 t10.1)) none) .slc w_4 fun (t22_1:(Option Addr×Nat×Nat))=>
  (Value.slice t22_1.1 t22_1.2.1 t22_1.2.2)=(Value.slice t22.1 t22.2.1 t22.2.2)) /\
  ((ld .slc (Addr.add p 1) w_4 fun (t20_1:(Option Addr×Nat×Nat))=>
  (Value.slice t20_1.1 t20_1.2.1 t20_1.2.2)=(Value.slice t20.1 t20.2.1 t20.2.2)) /\
  zaw P (Builtin.append_ #[jc,jc] jc #[(Value.slice t16.1 t16.2.1 t16.2.2),(Value.slice t22.1 t22.2.1 t22.2.2)]) .slc w_4 fun (t23:(Option Addr×Nat×Nat)) w_5=>
  ((zba P (Instr.sliceAt jc (Value.slice t27.1 t27.2.1 t27.2.2) (some (Value.int .i64 t29)) none none) .slc w_5 fun (t30_2:(Option Addr×Nat×Nat))=>
  (Value.slice t30_2.1 t30_2.2.1 t30_2.2.2)=(Value.slice t30.1 t30.2.1 t30.2.2)) /\
  ((ld .slc (Addr.add p_1 1) w_5 fun (t27_2:(Option Addr×Nat×Nat))=>
  (Value.slice t27_2.1 t27_2.2.1 t27_2.2.2)=(Value.slice t27.1 t27.2.1 t27.2.2)) /\
  zaw P (Builtin.append_ #[jc,jc] jc #[(Value.slice t23.1 t23.2.1 t23.2.2),(Value.slice t30.1 t30.2.1 t30.2.2)]) .slc w_5 fun (t31:(Option Addr×Nat×Nat)) w_6=>
  zn s fun p_2=>
  stC (Addr.add p_2 1) (Value.slice t31.1 t31.2.1 t31.2.2) w_6 fun w_7=>
  R (.returned (Value.int .i64 0)) w_7)))))))
theorem zq2 {s:Option Addr}{d:Value}{R:Ending->World->Prop}{w:World}(hT:zlv s d R w):zy P zhx #[(Value.pointer s),d] w R:=
 fnT (.seq .leaf (.seq .leaf (.seq (.seq .leaf (.cond (.seq .leaf .leaf) .leaf)) (.seq (.tree (.op 0 [] (.op 2 [] (.op 3 [] (.op 4 [] (.op 6 [] (.op 9 [] (.op 10 [] (.op 11 [] (.op 13 [] (.op 14 [] (.op 5 [] (.op 7 [] (.op 12 [] (.op 15 [] (.op 1 [5,7,12,15] (.op 8 [12,15] (.op 16 [] (.op 17 [] (.op 18 [] (.op 19 [] .done))))))))))))))))))))) (.seq .leaf .leaf))))) Tryz.func75 hT
def zkq (s:Option Addr) (d:Value) (atv:Int) (turn:Int) (R:Ending->World->Prop) (w:World):Prop:=
  zbm (Value.cells d) zf w fun b5 w_1=>
  ldA P 32 (⟨b5,0,none⟩:Addr) w_1 fun t13=>
  qy P zc3 #[(Value.pointer s),(Value.agg t13)] [.int .i64,.bool] true w_1 fun (t14:(Int×Bool)) w_2=>
  xu (!t14.2) (
  R (.returned (Value.int .i64 50)) w_2) (
  ku Unit (fun k=>
  xu (decide (atv < 0)) (
  R (.returned (Value.int .i64 1)) w_2) (
  zn s fun p=>
  ld .slc (Addr.add p 1) w_2 fun (t26:(Option Addr×Nat×Nat))=>
  ixS t26.1 t26.2.1 33 t14.1 fun t28=>
  ld .slc (Addr.add t28 32) w_2 fun (t30:(Option Addr×Nat×Nat))=>
  xu (decide (atv>=(t30.2.1:Int))) (
  R (.returned (Value.int .i64 1)) w_2) (
  xu (turn==0) (
  R (.returned (Value.int .i64 1)) w_2) (
  k () w_2)))) (fun _ w_3=>
  zn s fun p_1=>
  ld .slc (Addr.add p_1 1) w_3 fun (t41:(Option Addr×Nat×Nat))=>
  ixS t41.1 t41.2.1 33 t14.1 fun t43=>
  ld .slc (Addr.add t43 32) w_3 fun (t45:(Option Addr×Nat×Nat))=>
  ixS t45.1 t45.2.1 1 atv fun t47=>
  ld (.int .u8) t47 w_3 fun (t48:Int)=>
  zn3 .u8 t48 turn fun t50=>
  ixS t45.1 t45.2.1 1 atv fun t51=>
  stC t51 (Value.int .u8 t50) w_3 fun w_4=>
  R (.returned (Value.int .i64 0)) w_4))
theorem zo8 {s:Option Addr}{d:Value}{atv:Int}{turn:Int}{R:Ending->World->Prop}{w:World}(hT:zkq s d atv turn R w):zy P zha #[(Value.pointer s),d,(Value.int .i64 atv),(Value.int .u8 turn)] w R:=
 fnT (.seq .leaf (.seq .leaf (.seq (.seq .leaf (.cond (.seq .leaf .leaf) .leaf)) (.join [] (.seq .leaf (.cond (.seq .leaf .leaf) .leaf)) (.seq .leaf (.seq .leaf .leaf)))))) Tryz.func77 hT
def zlq (s:Option Addr) (d:Value) (R:Ending->World->Prop) (w:World):Prop:=
  zbm (Value.cells d) zf w fun b3 w_1=>
  ku Int (fun k=>
  za4 Int (fun s_1 w_2 k_1=>
  ku Unit (fun k_2=>
  zbn w_2 fun w_3=>
  zn s fun p=>
  ld .slc (Addr.add p 1) w_3 fun (t11:(Option Addr×Nat×Nat))=>
  xu (decide (s_1 < (t11.2.1:Int))) (
  zn s fun p_1=>
  ld .slc (Addr.add p_1 1) w_3 fun (t18:(Option Addr×Nat×Nat))=>
  ixS t18.1 t18.2.1 33 s_1 fun t20=>
  ldA P 32 t20 w_3 fun t22=>
  ldA P 32 (⟨b3,0,none⟩:Addr) w_3 fun t23=>
  qy P zia #[(Value.agg t22),(Value.agg t23)] [.int .i64] false w_3 fun (t24:Int) w_4=>
  xu (decide (t24 < 0)) (
  k_2 () w_4) (
  k s_1 w_4)) (
  k s_1 w_3)) (fun _ w_5=>
  zbv .i64 s_1 1 fun t28=>
  k_1 t28 w_5)) 0 w_1) (fun s_3 w_6=>
  zbn w_6 fun w_7=>
  zn s fun p_2=>
  ld .slc (Addr.add p_2 1) w_7 fun (t34:(Option Addr×Nat×Nat))=>
  xu (decide (s_3 < (t34.2.1:Int))) (
  zn s fun p_3=>
  ld .slc (Addr.add p_3 1) w_7 fun (t41:(Option Addr×Nat×Nat))=>
  ixS t41.1 t41.2.1 33 s_3 fun t43=>
  ldA P 32 t43 w_7 fun t45=>
  ldA P 32 (⟨b3,0,none⟩:Addr) w_7 fun t46=>
  zba P (eqM .eql zf (.tmp 45) (.tmp 46) (Value.agg t45) (Value.agg t46)) .bool w_7 fun (t47:Bool)=>
  R (.returned (Value.tuple #[(Value.int .i64 s_3),(Value.bool t47)])) w_7) (
  R (.returned (Value.tuple #[(Value.int .i64 s_3),(Value.bool false)])) w_7))
theorem zq5 {s:Option Addr}{d:Value}{R:Ending->World->Prop}{w:World}(hT:zlq s d R w):zy P zc3 #[(Value.pointer s),d] w R:=
 fnT (.seq .leaf (.seq .leaf (.seq (.jblk [(6,.int .i64)] (.loop [(6,.int .i64)] (.join [] (.seq (.tree (.op 0 [] (.op 1 [] (.op 2 [] (.op 3 [] (.op 4 [] (.op 5 [] (.op 6 [] (.op 7 [] (.op 8 [] (.op 9 [] (.op 10 [] (.op 12 [] (.op 11 [] (.op 13 [] (.op 14 [] (.op 15 [] (.op 16 [] (.op 17 [] (.op 18 [] (.op 19 [] .done))))))))))))))))))))) (.cond .leaf .leaf)) (.blk .leaf)))) (.seq (.tree (.op 0 [] (.op 1 [] (.op 2 [] (.op 3 [] (.op 4 [] (.op 5 [] (.op 6 [] (.op 7 [] (.op 8 [] (.op 9 [] (.op 10 [] (.op 11 [] (.op 13 [] (.op 20 [] (.op 12 [] (.op 14 [] (.op 15 [] (.op 16 [] (.op 17 [] (.op 18 [] (.op 19 [] (.op 21 [] .done))))))))))))))))))))))) .leaf)))) Tryz.func82 hT
def zkh (s:Option Addr) (R:Ending->World->Prop) (w:World):Prop:=
  zn s fun p=>
  ld (.int .i64) p w fun (t8:Int)=>
  zba P (Instr.build zf3 #[(0,(Value.int .i64 t8))]) .any w fun (t9:Value)=>
  zbm (Value.cells t9) zf3 w fun b10 w_1=>
  za4 Int (fun s_1 w_2 k=>
  zn s fun p_1=>
  ld .slc (Addr.add p_1 1) w_2 fun (t15:(Option Addr×Nat×Nat))=>
  xu (decide (s_1 < (t15.2.1:Int))) (
  zbn w_2 fun w_3=>
  zn s fun p_2=>
  zn s fun p_3=>
  ld .slc (⟨b10,1,none⟩:Addr) w_3 fun (t24:(Option Addr×Nat×Nat))=>
  ld .slc (Addr.add p_2 1) w_3 fun (t28:(Option Addr×Nat×Nat))=>
  ixS t28.1 t28.2.1 33 s_1 fun t30=>
  ldA P 32 t30 w_3 fun t32=>
  ld .slc (Addr.add p_3 1) w_3 fun (t37:(Option Addr×Nat×Nat))=>
  ixS t37.1 t37.2.1 33 s_1 fun t39=>
  ld .slc (Addr.add t39 32) w_3 fun (t41:(Option Addr×Nat×Nat))=>
  zaw P (Instr.buildSlice zi 0 #[]) .slc w_3 fun (t33:(Option Addr×Nat×Nat)) w_4=>
  ((ld .slc (Addr.add t39 32) w_4 fun (t41_1:(Option Addr×Nat×Nat))=>
  (Value.slice t41_1.1 t41_1.2.1 t41_1.2.2)=(Value.slice t41.1 t41.2.1 t41.2.2)) /\
  ((ld .slc (Addr.add p_3 1) w_4 fun (t37_1:(Option Addr×Nat×Nat))=>
  (Value.slice t37_1.1 t37_1.2.1 t37_1.2.2)=(Value.slice t37.1 t37.2.1 t37.2.2)) /\
  ((ldA P 32 t30 w_4 fun t32_1=>
  (Value.agg t32_1)=(Value.agg t32)) /\
  ((ld .slc (Addr.add p_2 1) w_4 fun (t28_1:(Option Addr×Nat×Nat))=>
  (Value.slice t28_1.1 t28_1.2.1 t28_1.2.2)=(Value.slice t28.1 t28.2.1 t28.2.2)) /\
  ((ld .slc (⟨b10,1,none⟩:Addr) w_4 fun (t24_1:(Option Addr×Nat×Nat))=>
  (Value.slice t24_1.1 t24_1.2.1 t24_1.2.2)=(Value.slice t24.1 t24.2.1 t24.2.2)) /\
  zaw P (Builtin.append_ #[zi,zi] zi #[(Value.slice t33.1 t33.2.1 t33.2.2),(Value.slice t41.1 t41.2.1 t41.2.2)]) .slc w_4 fun (t42:(Option Addr×Nat×Nat)) w_5=>
  ((ldA P 32 t30 w_5 fun t32_2=>
  (Value.agg t32_2)=(Value.agg t32)) /\
  ((ld .slc (Addr.add p_2 1) w_5 fun (t28_2:(Option Addr×Nat×Nat))=>
  (Value.slice t28_2.1 t28_2.2.1 t28_2.2.2)=(Value.slice t28.1 t28.2.1 t28.2.2)) /\
  ((ld .slc (⟨b10,1,none⟩:Addr) w_5 fun (t24_2:(Option Addr×Nat×Nat))=>
  (Value.slice t24_2.1 t24_2.2.1 t24_2.2.2)=(Value.slice t24.1 t24.2.1 t24.2.2)) /\
  zba P (Instr.build za2 #[(0,(Value.agg t32)),(1,(Value.slice t42.1 t42.2.1 t42.2.2))]) .any w_5 fun (t43:Value)=>
  zaw P (Instr.buildSlice jc 1 #[(0,t43)]) .slc w_5 fun (t44:(Option Addr×Nat×Nat)) w_6=>
  ((ld .slc (⟨b10,1,none⟩:Addr) w_6 fun (t24_3:(Option Addr×Nat×Nat))=>
  (Value.slice t24_3.1 t24_3.2.1 t24_3.2.2)=(Value.slice t24.1 t24.2.1 t24.2.2)) /\
  zaw P (Builtin.append_ #[jc,jc] jc #[(Value.slice t24.1 t24.2.1 t24.2.2),(Value.slice t44.1 t44.2.1 t44.2.2)]) .slc w_6 fun (t45:(Option Addr×Nat×Nat)) w_7=>
  stC (⟨b10,1,none⟩:Addr) (Value.slice t45.1 t45.2.1 t45.2.2) w_7 fun w_8=>
  zbv .i64 s_1 1 fun t19=>
  k t19 w_8)))))))))) (
  R (.returned (Value.pointer (some (⟨b10,0,none⟩:Addr)))) w_2)) 0 w_1
theorem zpq {s:Option Addr}{R:Ending->World->Prop}{w:World}(hT:zkh s R w):zy P zg8 #[(Value.pointer s)] w R:=
 fnT (.seq .leaf (.seq .leaf (.seq (.seq .leaf (.blk (.loop [(4,.int .i64)] (.seq (.seq .leaf (.cond .leaf .leaf)) (.seq (.blk (.tree (.op 0 [] (.op 1 [] (.op 2 [] (.op 3 [] (.op 5 [] (.op 6 [] (.op 7 [] (.op 9 [] (.op 14 [] (.op 15 [] (.op 16 [] (.op 18 [] (.op 4 [] (.op 8 [] (.op 10 [] (.op 11 [] (.op 12 [] (.op 17 [] (.op 19 [] (.op 20 [] (.op 21 [] (.op 13 [4,8,12,17,21] (.op 22 [4,8,12] (.op 23 [] (.op 24 [4] (.op 25 [] (.op 26 [] (.op 27 [] (.op 28 [] .done))))))))))))))))))))))))))))))) .leaf))))) (.seq .leaf .leaf)))) Tryz.func122 hT
def zki (s:Option Addr) (o:Option Addr) (R:Ending->World->Prop) (w:World):Prop:=
  za4 (Int×Int) (fun s_1 w_1 k=>
  zn s fun p=>
  ld .slc (Addr.add p 1) w_1 fun (t13:(Option Addr×Nat×Nat))=>
  xu (decide (s_1.2 < (t13.2.1:Int))) (
  ku Int (fun k_1=>
  zn s fun p_1=>
  ld .slc (Addr.add p_1 1) w_1 fun (t23:(Option Addr×Nat×Nat))=>
  ixS t23.1 t23.2.1 33 s_1.2 fun t25=>
  ldA P 32 t25 w_1 fun t27=>
  qy P zc3 #[(Value.pointer o),(Value.agg t27)] [.int .i64,.bool] true w_1 fun (t28:(Int×Bool)) w_2=>
  xu (!t28.2) (
  zn s fun p_2=>
  ld .slc (Addr.add p_2 1) w_2 fun (t37:(Option Addr×Nat×Nat))=>
  ixS t37.1 t37.2.1 33 s_1.2 fun t39=>
  ld .slc (Addr.add t39 32) w_2 fun (t41:(Option Addr×Nat×Nat))=>
  zbv .i64 s_1.1 (t41.2.1:Int) fun t43=>
  k_1 t43 w_2) (
  k_1 s_1.1 w_2)) (fun s_2 w_3=>
  zbv .i64 s_1.2 1 fun t17=>
  k (s_2,t17) w_3)) (
  R (.returned (Value.int .i64 s_1.1)) w_1)) (0,0) w
theorem zqn {s:Option Addr}{o:Option Addr}{R:Ending->World->Prop}{w:World}(hT:zki s o R w):zy P zg5 #[(Value.pointer s),(Value.pointer o)] w R:=
 fnT (.seq .leaf (.seq .leaf (.seq (.seq .leaf (.blk (.loop [(5,.int .i64),(6,.int .i64)] (.seq (.seq .leaf (.cond .leaf .leaf)) (.seq (.jblk [(5,.int .i64)] (.seq .leaf (.seq .leaf (.cond .leaf .leaf)))) .leaf))))) (.seq .leaf .leaf)))) Tryz.func123 hT
def znz (o:Option Addr) (n:Int) (R:Ending->World->Prop) (w:World):Prop:=
  xu (Option.isNone o) (
  R (.returned (Value.tuple #[])) w) (
  za4 Int (fun s w_1 k=>
  xu (decide (s > 127)) (
  zn o fun p=>
  ld .slc p w_1 fun (t14:(Option Addr×Nat×Nat))=>
  cvI .u8 s fun t16=>
  orI .u8 t16 128 fun t17=>
  zaw P (Instr.buildSlice zi 1 #[(0,(Value.int .u8 t17))]) .slc w_1 fun (t18:(Option Addr×Nat×Nat)) w_2=>
  zaw P (Builtin.append_ #[zi,zi] zi #[(Value.slice t14.1 t14.2.1 t14.2.2),(Value.slice t18.1 t18.2.1 t18.2.2)]) .slc w_2 fun (t19:(Option Addr×Nat×Nat)) w_3=>
  zn o fun p_1=>
  stC p_1 (Value.slice t19.1 t19.2.1 t19.2.2) w_3 fun w_4=>
  zzc .u64 s 7 fun t9=>
  k t9 w_4) (
  zn o fun p_2=>
  ld .slc p_2 w_1 fun (t26:(Option Addr×Nat×Nat))=>
  cvI .u8 s fun t28=>
  zaw P (Instr.buildSlice zi 1 #[(0,(Value.int .u8 t28))]) .slc w_1 fun (t29:(Option Addr×Nat×Nat)) w_5=>
  zaw P (Builtin.append_ #[zi,zi] zi #[(Value.slice t26.1 t26.2.1 t26.2.2),(Value.slice t29.1 t29.2.1 t29.2.2)]) .slc w_5 fun (t30:(Option Addr×Nat×Nat)) w_6=>
  zn o fun p_3=>
  stC p_3 (Value.slice t30.1 t30.2.1 t30.2.2) w_6 fun w_7=>
  R (.returned (Value.tuple #[])) w_7)) n w)
theorem zt6 {o:Option Addr}{n:Int}{R:Ending->World->Prop}{w:World}(hT:znz o n R w):zy P zdr #[(Value.pointer o),(Value.int .u64 n)] w R:=
 fnT (.seq (.seq .leaf (.cond .leaf .leaf)) (.seq (.blk (.loop [(1,.int .u64)] (.seq (.seq .leaf (.cond .leaf .leaf)) (.seq (.blk .leaf) .leaf)))) .leaf)) Tryz.func168 hT
def zl7 (o:Option Addr) (s:ByteArray) (R:Ending->World->Prop) (w:World):Prop:=
  xu (Option.isNone o) (
  R (.returned (Value.tuple #[])) w) (
  cvI .u64 (s.size:Int) fun t9=>
  qy P zdr #[(Value.pointer o),(Value.int .u64 t9)] [] true w fun (_:Unit) w_1=>
  zn o fun p=>
  ld .slc p w_1 fun (t15:(Option Addr×Nat×Nat))=>
  zaw P (Builtin.append_ #[zi,jw] zi #[(Value.slice t15.1 t15.2.1 t15.2.2),(Value.string s)]) .slc w_1 fun (t17:(Option Addr×Nat×Nat)) w_2=>
  zn o fun p_1=>
  stC p_1 (Value.slice t17.1 t17.2.1 t17.2.2) w_2 fun w_3=>
  R (.returned (Value.tuple #[])) w_3)
theorem zsw {o:Option Addr}{s:ByteArray}{R:Ending->World->Prop}{w:World}(hT:zl7 o s R w):zy P zgx #[(Value.pointer o),(Value.string s)] w R:=
 fnT (.seq (.seq .leaf (.cond .leaf .leaf)) (.seq .leaf .leaf)) Tryz.func169 hT
def zke (o:Option Addr) (d:Value) (R:Ending->World->Prop) (w:World):Prop:=
  zbm (Value.cells d) zf w fun b3 w_1=>
  xu (!(Option.isNone o)) (
  zbn w_1 fun w_2=>
  zn o fun p=>
  ld .slc p w_2 fun (t10:(Option Addr×Nat×Nat))=>
  zba P (Instr.sliceAt zf (Value.pointer (some (⟨b3,0,none⟩:Addr))) none none none) .slc w_2 fun (t11:(Option Addr×Nat×Nat))=>
  zaw P (Builtin.append_ #[zi,zi] zi #[(Value.slice t10.1 t10.2.1 t10.2.2),(Value.slice t11.1 t11.2.1 t11.2.2)]) .slc w_2 fun (t12:(Option Addr×Nat×Nat)) w_3=>
  zn o fun p_1=>
  stC p_1 (Value.slice t12.1 t12.2.1 t12.2.2) w_3 fun w_4=>
  R (.returned (Value.tuple #[])) w_4) (
  R (.returned (Value.tuple #[])) w_1)
theorem zps {o:Option Addr}{d:Value}{R:Ending->World->Prop}{w:World}(hT:zke o d R w):zy P zfi #[(Value.pointer o),d] w R:=
 fnT (.seq .leaf (.seq .leaf (.cond (.tree (.op 0 [] (.op 1 [] (.op 2 [] (.op 3 [] (.op 4 [] (.op 5 [] (.op 6 [] (.op 7 [] (.op 8 [] (.op 9 [] .done))))))))))) .leaf))) Tryz.func170 hT
def zlp (o:Option Addr) (R:Ending->World->Prop) (w:World):Prop:=
  xu (Option.isNone o) (
  R (.returned (Value.slice none 0 0)) w) (
  zn o fun p=>
  ld .slc p w fun (t8:(Option Addr×Nat×Nat))=>
  zaw P (Builtin.append_ #[zi,zi] zi #[(Value.slice none 0 0),(Value.slice t8.1 t8.2.1 t8.2.2)]) .slc w fun (t9:(Option Addr×Nat×Nat)) w_1=>
  R (.returned (Value.slice t9.1 t9.2.1 t9.2.2)) w_1)
theorem zq3 {o:Option Addr}{R:Ending->World->Prop}{w:World}(hT:zlp o R w):zy P zho #[(Value.pointer o)] w R:=
 fnT (.seq .leaf (.seq (.seq .leaf (.cond (.seq .leaf .leaf) .leaf)) (.seq .leaf .leaf))) Tryz.func171 hT
set_option maxRecDepth 100000
def zob (elems:Option Addr) (elems_l elems_c:Nat) (sep:ByteArray) (R:Ending->World->Prop) (w:World):Prop:=
  xu ((elems_l:Int)==0) (
  R (.returned (Value.string (ByteArray.mk #[]))) w) (
  xu ((elems_l:Int)==1) (
  ixS elems elems_l 1 0 fun t18=>
  ld .str t18 w fun (t19:ByteArray)=>
  R (.returned (Value.string t19)) w) (
  ku Int (fun k=>
  xu (decide ((sep.size:Int) > 0)) (
  ku Unit (fun k_1=>
  zk3 .i64 (elems_l:Int) 1 fun t27=>
  qe3 .i64 9223372036854775807 t27 fun t28=>
  xu (decide ((sep.size:Int)>=t28)) (
  zba P (Instr.makeInterface jw (Value.string (ByteArray.mk #[115,116,114,105,110,103,115,58,32,74,111,105,110,32,111,117,116,112,117,116,32,108,101,110,103,116,104,32,111,118,101,114,102,108,111,119]))) .any w fun (_:Value)=>
  False) (
  k_1 () w)) (fun _ w_1=>
  zk3 .i64 (elems_l:Int) 1 fun t36=>
  zv3 .i64 (sep.size:Int) t36 fun t37=>
  zbv .i64 0 t37 fun t38=>
  k t38 w_1)) (
  k 0 w)) (fun s_1 w_2=>
  za4 (Int×Int) (fun s_2 w_3 k_2=>
  xu (decide (s_2.2 < (elems_l:Int))) (
  ku Int (fun k_3=>
  ixS elems elems_l 1 s_2.2 fun t43=>
  ld .str t43 w_3 fun (t44:ByteArray)=>
  ku Unit (fun k_4=>
  zk3 .i64 9223372036854775807 s_2.1 fun t48=>
  xu (decide ((t44.size:Int) > t48)) (
  zba P (Instr.makeInterface jw (Value.string (ByteArray.mk #[115,116,114,105,110,103,115,58,32,74,111,105,110,32,111,117,116,112,117,116,32,108,101,110,103,116,104,32,111,118,101,114,102,108,111,119]))) .any w_3 fun (_:Value)=>
  False) (
  k_4 () w_3)) (fun _ w_4=>
  zbv .i64 s_2.1 (t44.size:Int) fun t54=>
  k_3 t54 w_4)) (fun s_4 w_5=>
  zbv .i64 s_2.2 1 fun t55=>
  k_2 (s_4,t55) w_5)) (
  zbm (zc P zal) zal w_3 fun b8 w_6=>
  qy P zey #[(Value.pointer (some (⟨b8,0,none⟩:Addr))),(Value.int .i64 s_2.1)] [] true w_6 fun (_:Unit) w_7=>
  ixS elems elems_l 1 0 fun t59=>
  ld .str t59 w_7 fun (t60:ByteArray)=>
  qy P zbj #[(Value.pointer (some (⟨b8,0,none⟩:Addr))),(Value.string t60)] [.int .i64,.any] true w_7 fun (_:(Int×Value)) w_8=>
  zba P (Instr.sliceAt zam (Value.slice elems elems_l elems_c) (some (Value.int .i64 1)) none none) .slc w_8 fun (t63:(Option Addr×Nat×Nat))=>
  za4 Int (fun s_5 w_9 k_5=>
  xu (decide (s_5 < (t63.2.1:Int))) (
  ixS t63.1 t63.2.1 1 s_5 fun t67=>
  ld .str t67 w_9 fun (t68:ByteArray)=>
  qy P zbj #[(Value.pointer (some (⟨b8,0,none⟩:Addr))),(Value.string sep)] [.int .i64,.any] true w_9 fun (_:(Int×Value)) w_10=>
  qy P zbj #[(Value.pointer (some (⟨b8,0,none⟩:Addr))),(Value.string t68)] [.int .i64,.any] true w_10 fun (_:(Int×Value)) w_11=>
  zbv .i64 s_5 1 fun t73=>
  k_5 t73 w_11) (
  qy P zd3 #[(Value.pointer (some (⟨b8,0,none⟩:Addr)))] [.str] false w_9 fun (t74:ByteArray) w_12=>
  R (.returned (Value.string t74)) w_12)) 0 w_8)) (s_1,0) w_2)))
theorem ztv {elems:Option Addr}{elems_l elems_c:Nat}{sep:ByteArray}{R:Ending->World->Prop}{w:World}(hT:zob elems elems_l elems_c sep R w):zy P zjy #[(Value.slice elems elems_l elems_c),(Value.string sep)] w R:=
 fnT (.seq .leaf (.seq (.seq .leaf (.blk (.seq .leaf (.cond (.seq .leaf .leaf) (.seq .leaf (.cond (.seq .leaf .leaf) .leaf)))))) (.seq .leaf (.join [(5,.int .i64)] (.seq .leaf (.cond (.join [] (.seq .leaf (.cond .leaf .leaf)) .leaf) .leaf)) (.seq (.seq .leaf (.blk (.loop [(5,.int .i64),(41,.int .i64)] (.seq .leaf (.seq (.cond .leaf .leaf) (.seq (.jblk [(5,.int .i64)] (.seq .leaf (.join [] (.seq .leaf (.cond .leaf .leaf)) .leaf))) .leaf)))))) (.seq .leaf (.seq .leaf (.seq .leaf (.seq (.seq .leaf (.blk (.loop [(65,.int .i64)] (.seq .leaf (.seq (.cond .leaf .leaf) (.seq (.blk (.seq .leaf (.seq .leaf .leaf))) .leaf)))))) (.seq .leaf .leaf)))))))))) Tryz.func112 hT
def zg0 (b:Option Addr) (n:Int) (R:Ending->World->Prop) (w:World):Prop:=
  qy P zce #[(Value.pointer b)] [] true w fun (_:Unit) w_1=>
  ku Unit (fun k=>
  xu (decide (n < 0)) (
  zba P (Instr.makeInterface jw (Value.string (ByteArray.mk #[115,116,114,105,110,103,115,46,66,117,105,108,100,101,114,46,71,114,111,119,58,32,110,101,103,97,116,105,118,101,32,99,111,117,110,116]))) .any w_1 fun (_:Value)=>
  False) (
  k () w_1)) (fun _ w_2=>
  zbn w_2 fun w_3=>
  zn b fun p=>
  zn b fun p_1=>
  ld .slc (Addr.add p 1) w_3 fun (t12:(Option Addr×Nat×Nat))=>
  zba P (Builtin.cap_ #[zi] zbl #[(Value.slice t12.1 t12.2.1 t12.2.2)]) (.int .i64) w_3 fun (t13:Int)=>
  ld .slc (Addr.add p_1 1) w_3 fun (t17:(Option Addr×Nat×Nat))=>
  zk3 .i64 t13 (t17.2.1:Int) fun t19=>
  xu (decide (t19 < n)) (
  qy P zex #[(Value.pointer b),(Value.int .i64 n)] [] true w_3 fun (_:Unit) w_4=>
  R (.returned (Value.tuple #[])) w_4) (
  R (.returned (Value.tuple #[])) w_3))
theorem zlo {b:Option Addr}{n:Int}{R:Ending->World->Prop}{w:World}(hT:zg0 b n R w):zy P zey #[(Value.pointer b),(Value.int .i64 n)] w R:=
 fnT (.seq .leaf (.join [] (.seq .leaf (.cond .leaf .leaf)) (.seq (.tree (.op 0 [] (.op 1 [] (.op 2 [] (.op 5 [] (.op 6 [] (.op 7 [] (.op 11 [] (.op 3 [] (.op 4 [] (.op 8 [] (.op 9 [] (.op 10 [] (.op 12 [] .done)))))))))))))) (.cond .leaf .leaf)))) Tryz.func164 hT
def zer (b:Option Addr) (s:ByteArray) (R:Ending->World->Prop) (w:World):Prop:=
  qy P zce #[(Value.pointer b)] [] true w fun (_:Unit) w_1=>
  zn b fun p=>
  ld .slc (Addr.add p 1) w_1 fun (t12:(Option Addr×Nat×Nat))=>
  zaw P (Builtin.append_ #[zi,jw] zi #[(Value.slice t12.1 t12.2.1 t12.2.2),(Value.string s)]) .slc w_1 fun (t14:(Option Addr×Nat×Nat)) w_2=>
  zn b fun p_1=>
  stC (Addr.add p_1 1) (Value.slice t14.1 t14.2.1 t14.2.2) w_2 fun w_3=>
  R (.returned (Value.tuple #[(Value.int .i64 (s.size:Int)),Value.nilIface])) w_3
theorem zhk {b:Option Addr}{s:ByteArray}{R:Ending->World->Prop}{w:World}(hT:zer b s R w):zy P zbj #[(Value.pointer b),(Value.string s)] w R:=
 fnT (.seq .leaf (.seq .leaf (.seq .leaf (.seq .leaf .leaf)))) Tryz.func165 hT
def zgb (b:Option Addr) (R:Ending->World->Prop) (w:World):Prop:=
  zbn w fun w_1=>
  zn b fun p=>
  zn b fun p_1=>
  ld .slc (Addr.add p 1) w_1 fun (t6:(Option Addr×Nat×Nat))=>
  ld .slc (Addr.add p_1 1) w_1 fun (t11:(Option Addr×Nat×Nat))=>
  zaw P (Builtin.unsafeSliceData_ #[zi] zql #[(Value.slice t6.1 t6.2.1 t6.2.2)]) .ptr w_1 fun (t7:(Option Addr)) w_2=>
  ((ld .slc (Addr.add p_1 1) w_2 fun (t11_1:(Option Addr×Nat×Nat))=>
  (Value.slice t11_1.1 t11_1.2.1 t11_1.2.2)=(Value.slice t11.1 t11.2.1 t11.2.2)) /\
  zaw P (Builtin.unsafeString_ #[zql,zbl] jw #[(Value.pointer t7),(Value.int .i64 (t11.2.1:Int))]) .str w_2 fun (t13:ByteArray) w_3=>
  R (.returned (Value.string t13)) w_3)
theorem zjx {b:Option Addr}{R:Ending->World->Prop}{w:World}(hT:zgb b R w):zy P zd3 #[(Value.pointer b)] w R:=
 fnT (.seq .leaf (.seq (.tree (.op 0 [] (.op 1 [] (.op 2 [] (.op 5 [] (.op 6 [] (.op 7 [] (.op 3 [] (.op 8 [] (.op 9 [] (.op 4 [8] (.op 10 [] (.op 11 [] .done))))))))))))) .leaf)) Tryz.func166 hT
def zpt (s:ByteArray) (sep:ByteArray) (R:Ending->World->Prop) (w:World):Prop:=
  qy P zdm #[(Value.string s),(Value.string sep)] [.str,.str,.bool] true w fun (t9:(ByteArray×ByteArray×Bool)) w_1=>
  R (.returned (Value.tuple #[(Value.string t9.1),(Value.string t9.2.1),(Value.bool t9.2.2)])) w_1
theorem zwg {s:ByteArray}{sep:ByteArray}{R:Ending->World->Prop}{w:World}(hT:zpt s sep R w):zy P zlb #[(Value.string s),(Value.string sep)] w R:=
 fnT (.seq .leaf (.seq .leaf .leaf)) Tryz.func189 hT
def ze9 (b:Option Addr) (R:Ending->World->Prop) (w:World):Prop:=
  zn b fun p=>
  ld .ptr p w fun (t5:(Option Addr))=>
  xu (Option.isNone t5) (
  zaw P (convert zel zhw (Value.pointer b)) .any w fun (t9:Value) w_1=>
  qy P zgq #[t9] [.any] false w_1 fun (t10:Value) w_2=>
  zaw P (convert zhw zel t10) .ptr w_2 fun (t11:(Option Addr)) w_3=>
  zn b fun p_1=>
  stC p_1 (Value.pointer t11) w_3 fun w_4=>
  R (.returned (Value.tuple #[])) w_4) (
  zn b fun p_2=>
  ld .ptr p_2 w fun (t17:(Option Addr))=>
  zba P (eqM .neq zel (.tmp 17) (.tmp 18) (Value.pointer t17) (Value.pointer b)) .bool w fun (t19:Bool)=>
  xu t19 (
  False) (
  R (.returned (Value.tuple #[])) w))
theorem zh6 {b:Option Addr}{R:Ending->World->Prop}{w:World}(hT:ze9 b R w):zy P zce #[(Value.pointer b)] w R:=
 fnT (.seq .leaf (.cond .leaf (.seq .leaf (.cond .leaf .leaf)))) Tryz.func201 hT
def zg1 (b:Option Addr) (n:Int) (R:Ending->World->Prop) (w:World):Prop:=
  zbn w fun w_1=>
  zn b fun p=>
  zn b fun p_1=>
  ld .slc (Addr.add p 1) w_1 fun (t8:(Option Addr×Nat×Nat))=>
  zba P (Builtin.cap_ #[zi] zbl #[(Value.slice t8.1 t8.2.1 t8.2.2)]) (.int .i64) w_1 fun (t9:Int)=>
  zv3 .i64 2 t9 fun t10=>
  zbv .i64 t10 n fun t12=>
  ld .slc (Addr.add p_1 1) w_1 fun (t17:(Option Addr×Nat×Nat))=>
  qy P zet #[(Value.int .i64 t12)] [.slc] false w_1 fun (t13:(Option Addr×Nat×Nat)) w_2=>
  ((ld .slc (Addr.add p_1 1) w_2 fun (t17_1:(Option Addr×Nat×Nat))=>
  (Value.slice t17_1.1 t17_1.2.1 t17_1.2.2)=(Value.slice t17.1 t17.2.1 t17.2.2)) /\
  zba P (Instr.sliceAt zi (Value.slice t13.1 t13.2.1 t13.2.2) none (some (Value.int .i64 (t17.2.1:Int))) none) .slc w_2 fun (t19:(Option Addr×Nat×Nat))=>
  zn b fun p_2=>
  ld .slc (Addr.add p_2 1) w_2 fun (t24:(Option Addr×Nat×Nat))=>
  zaw P (Builtin.copy_ #[zi,zi] zbl #[(Value.slice t19.1 t19.2.1 t19.2.2),(Value.slice t24.1 t24.2.1 t24.2.2)]) (.int .i64) w_2 fun (_:Int) w_3=>
  zn b fun p_3=>
  stC (Addr.add p_3 1) (Value.slice t19.1 t19.2.1 t19.2.2) w_3 fun w_4=>
  R (.returned (Value.tuple #[])) w_4)
theorem zk1 {b:Option Addr}{n:Int}{R:Ending->World->Prop}{w:World}(hT:zg1 b n R w):zy P zex #[(Value.pointer b),(Value.int .i64 n)] w R:=
 fnT (.seq (.tree (.op 0 [] (.op 1 [] (.op 2 [] (.op 6 [] (.op 9 [] (.op 10 [] (.op 11 [] (.op 3 [] (.op 4 [] (.op 5 [] (.op 7 [] (.op 12 [] (.op 13 [] (.op 8 [12] (.op 14 [] (.op 15 [] .done))))))))))))))))) (.seq .leaf .leaf)) Tryz.func202 hT
def zfk (s:ByteArray) (sep:ByteArray) (R:Ending->World->Prop) (w:World):Prop:=
  qy P zc7 #[(Value.string s),(Value.string sep)] [.int .i64] false w fun (t10:Int) w_1=>
  xu (decide (t10>=0)) (
  zbn w_1 fun w_2=>
  zbv .i64 t10 (sep.size:Int) fun t20=>
  zba P (Instr.sliceAt jw (Value.string s) none (some (Value.int .i64 t10)) none) .str w_2 fun (t15:ByteArray)=>
  zba P (Instr.sliceAt jw (Value.string s) (some (Value.int .i64 t20)) none none) .str w_2 fun (t21:ByteArray)=>
  R (.returned (Value.tuple #[(Value.string t15),(Value.string t21),(Value.bool true)])) w_2) (
  R (.returned (Value.tuple #[(Value.string s),(Value.string (ByteArray.mk #[])),(Value.bool false)])) w_1)
theorem zio {s:ByteArray}{sep:ByteArray}{R:Ending->World->Prop}{w:World}(hT:zfk s sep R w):zy P zdm #[(Value.string s),(Value.string sep)] w R:=
 fnT (.seq .leaf (.seq (.seq .leaf (.seq .leaf (.cond (.seq (.tree (.op 0 [] (.op 1 [] (.op 3 [] (.op 4 [] (.op 5 [] (.op 6 [] (.op 7 [] (.op 2 [] (.op 9 [] (.op 8 [] (.op 10 [] (.op 11 [] .done))))))))))))) .leaf) .leaf))) (.seq .leaf .leaf))) Tryz.func216 hT
theorem zks {e:Array Value->Sem Value}(he:Extern.find Tryz.f222=some e) (args:Array Value) (w:World):(callFunc zgq args).run P w=((e args).run P w).andThen fun v w1=>.ok (.value v) w1:=
 Go.run_callFunc_extern Tryz.func222 (by kernel_rfl) (by kernel_rfl) (by kernel_rfl) he args w
theorem zhr {e:Array Value->Sem Value}(he:Extern.find Tryz.f223=some e) (args:Array Value) (w:World):(callFunc zet args).run P w=((e args).run P w).andThen fun v w1=>.ok (.value v) w1:=
 Go.run_callFunc_extern Tryz.func223 (by kernel_rfl) (by kernel_rfl) (by kernel_rfl) he args w
def ze0 (s:ByteArray) (substr:ByteArray) (R:Ending->World->Prop) (w:World):Prop:=
  ku Unit (fun k=>
  ku Unit (fun k_1=>
  xu ((substr.size:Int)==0) (
  R (.returned (Value.int .i64 0)) w) (
  xu (substr.toList==s.toList) (
  R (.returned (Value.int .i64 0)) w) (
  xu ((substr.size:Int)==1) (
  zuk substr 0 fun t29=>
  qy P zbq #[(Value.string s),(Value.int .u8 t29)] [.int .i64] false w fun (t30:Int) w_1=>
  R (.returned (Value.int .i64 t30)) w_1) (
  xu (decide ((substr.size:Int)>=(s.size:Int))) (
  R (.returned (Value.int .i64 (-1))) w) (
  ld (.int .i64) (⟨1,0,none⟩:Addr) w fun (t38:Int)=>
  xu (decide ((substr.size:Int)<=t38)) (
  xu (decide ((s.size:Int)<=64)) (
  qy P zec #[(Value.string s),(Value.string substr)] [.int .i64] false w fun (t47:Int) w_2=>
  R (.returned (Value.int .i64 t47)) w_2) (
  k_1 () w)) (
  k_1 () w)))))) (fun _ w_3=>
  k () w_3)) (fun _ w_4=>
  zuk substr 0 fun t49=>
  zuk substr 1 fun t51=>
  zk3 .i64 (s.size:Int) (substr.size:Int) fun t55=>
  zbv .i64 t55 1 fun t56=>
  za4 (Int×Int) (fun s_3 w_5 k_2=>
  xu (decide (s_3.1 < t56)) (
  ku (Int×Int) (fun k_3=>
  ku Int (fun k_4=>
  zuk s s_3.1 fun t62=>
  xu (t62 != t49) (
  zbv .i64 s_3.1 1 fun t67=>
  zba P (Instr.sliceAt jw (Value.string s) (some (Value.int .i64 t67)) (some (Value.int .i64 t56)) none) .str w_5 fun (t69:ByteArray)=>
  qy P zbq #[(Value.string t69),(Value.int .u8 t49)] [.int .i64] false w_5 fun (t71:Int) w_6=>
  xu (decide (t71 < 0)) (
  R (.returned (Value.int .i64 (-1))) w_6) (
  zbv .i64 t71 1 fun t76=>
  zbv .i64 s_3.1 t76 fun t77=>
  k_4 t77 w_6)) (
  k_4 s_3.1 w_5)) (fun s_4 w_7=>
  ku Unit (fun k_5=>
  zbv .i64 s_4 1 fun t80=>
  zuk s t80 fun t81=>
  xu (t81==t51) (
  zbv .i64 s_4 (substr.size:Int) fun t89=>
  zba P (Instr.sliceAt jw (Value.string s) (some (Value.int .i64 s_4)) (some (Value.int .i64 t89)) none) .str w_7 fun (t90:ByteArray)=>
  xu (t90.toList==substr.toList) (
  R (.returned (Value.int .i64 s_4)) w_7) (
  k_5 () w_7)) (
  k_5 () w_7)) (fun _ w_8=>
  zbv .i64 s_4 1 fun t96=>
  zbv .i64 s_3.2 1 fun t98=>
  ku Bool (fun k_6=>
  ld (.int .i64) (⟨1,0,none⟩:Addr) w_8 fun (t100:Int)=>
  xu (decide ((substr.size:Int)<=t100)) (
  qy P zjb #[(Value.int .i64 t96)] [.int .i64] false w_8 fun (t105:Int) w_9=>
  k_6 (decide (t98 > t105)) w_9) (
  k_6 false w_8)) (fun s_6 w_10=>
  xu s_6 (
  zba P (Instr.sliceAt jw (Value.string s) (some (Value.int .i64 t96)) none none) .str w_10 fun (t110:ByteArray)=>
  qy P zec #[(Value.string t110),(Value.string substr)] [.int .i64] false w_10 fun (t112:Int) w_11=>
  xu (decide (t112>=0)) (
  zbv .i64 t112 t96 fun t117=>
  R (.returned (Value.int .i64 t117)) w_11) (
  R (.returned (Value.int .i64 (-1))) w_11)) (
  ld (.int .i64) (⟨1,0,none⟩:Addr) w_10 fun (t119:Int)=>
  xu (decide ((substr.size:Int) > t119)) (
  zzc .i64 t96 4 fun t124=>
  zbv .i64 4 t124 fun t125=>
  xu (decide (t98>=t125)) (
  xu (decide (t96 < t56)) (
  zba P (Instr.sliceAt jw (Value.string s) (some (Value.int .i64 t96)) none none) .str w_10 fun (t135:ByteArray)=>
  qy P ze5 #[(Value.string t135),(Value.string substr)] [.int .i64] false w_10 fun (t137:Int) w_12=>
  xu (decide (t137 < 0)) (
  R (.returned (Value.int .i64 (-1))) w_12) (
  zbv .i64 t96 t137 fun t142=>
  R (.returned (Value.int .i64 t142)) w_12)) (
  k_3 (t96,t98) w_10)) (
  k_3 (t96,t98) w_10)) (
  k_3 (t96,t98) w_10)))))) (fun s_7 w_13=>
  k_2 (s_7.1,s_7.2) w_13)) (
  R (.returned (Value.int .i64 (-1))) w_5)) (0,0) w_4)
theorem zht {s:ByteArray}{substr:ByteArray}{R:Ending->World->Prop}{w:World}(hT:ze0 s substr R w):zy P zc7 #[(Value.string s),(Value.string substr)] w R:=
 fnT (.seq .leaf (.seq .leaf (.join [] (.jblk [] (.seq .leaf (.cond (.seq .leaf .leaf) (.seq .leaf (.cond (.seq .leaf .leaf) (.seq .leaf (.cond (.seq .leaf .leaf) (.seq .leaf (.cond (.seq .leaf .leaf) .leaf))))))))) (.seq .leaf (.seq .leaf (.seq .leaf (.seq .leaf (.seq .leaf (.seq (.blk (.loop [(8,.int .i64),(10,.int .i64)] (.seq (.seq .leaf (.cond .leaf .leaf)) (.jblk [(8,.int .i64),(10,.int .i64)] (.join [(8,.int .i64)] (.seq .leaf (.cond (.seq .leaf (.seq (.seq .leaf (.cond (.seq .leaf .leaf) .leaf)) .leaf)) .leaf)) (.join [] (.seq .leaf (.cond (.seq .leaf .leaf) .leaf)) (.seq .leaf (.seq .leaf (.join [(107,.bool)] .leaf (.cond (.seq .leaf (.seq (.seq .leaf (.cond (.seq .leaf .leaf) .leaf)) (.seq .leaf .leaf))) (.seq .leaf (.cond (.seq .leaf (.seq (.seq .leaf (.cond (.seq .leaf .leaf) .leaf)) (.seq .leaf .leaf))) .leaf)))))))))))) (.seq .leaf .leaf)))))))))) Tryz.func228 hT
def zdx (s:ByteArray) (c:Int) (R:Ending->World->Prop) (w:World):Prop:=
  qy P zdk #[(Value.string s),(Value.int .u8 c)] [.int .i64] false w fun (t7:Int) w_1=>
  R (.returned (Value.int .i64 t7)) w_1
theorem zgo {s:ByteArray}{c:Int}{R:Ending->World->Prop}{w:World}(hT:zdx s c R w):zy P zbq #[(Value.string s),(Value.int .u8 c)] w R:=
 fnT (.seq .leaf (.seq .leaf .leaf)) Tryz.func231 hT
theorem zgf {e:Array Value->Sem Value}(he:Extern.find Tryz.f235=some e) (args:Array Value) (w:World):(callFunc zdk args).run P w=((e args).run P w).andThen fun v w1=>.ok (.value v) w1:=
 Go.run_callFunc_extern Tryz.func235 (by kernel_rfl) (by kernel_rfl) (by kernel_rfl) he args w
end Go.Proofs.YtbmegmbnlajbbaaGreatDoor
