/- Part 2 of the texts below the card, joined. -/
import Derived.Test.YtbmegmbnlajbbaaGreatDoorProg
import Derived.Test.YtbmegmbnlajbbaaGreatDoorTSma
namespace Go.Proofs.YtbmegmbnlajbbaaGreatDoor
open Go Go.Fw Go.Proofs
set_option maxRecDepth 100000
noncomputable abbrev P:Program:=Tryz.prog
def qs:List FuncId:=[93,203,172,157,200,156,187]
theorem mixed:P.follows .mixedOrders=true:=by kernel_rfl
abbrev zq2:FuncId:=4
abbrev zsa:FuncId:=12
abbrev zzd:FuncId:=13
abbrev zmf:FuncId:=14
abbrev zti:FuncId:=15
abbrev zlm:FuncId:=16
abbrev zma:FuncId:=18
abbrev zib:FuncId:=19
abbrev zt2:FuncId:=22
abbrev zkm:FuncId:=23
abbrev zr3:FuncId:=24
abbrev zul:FuncId:=25
abbrev zla:FuncId:=35
abbrev zi2:FuncId:=40
abbrev zol:FuncId:=53
abbrev zq6:FuncId:=54
abbrev zrt:FuncId:=55
abbrev zix:FuncId:=56
abbrev zci:FuncId:=57
abbrev ztf:FuncId:=58
abbrev zkx:FuncId:=59
abbrev zgz:FuncId:=60
abbrev zpj:FuncId:=61
abbrev ztl:FuncId:=62
abbrev zfi:FuncId:=63
abbrev zwb:FuncId:=64
abbrev zb6:FuncId:=65
abbrev zmc:FuncId:=66
abbrev zwk:FuncId:=67
abbrev ztd:FuncId:=68
abbrev zj2:FuncId:=69
abbrev zs9:FuncId:=72
abbrev zi3:FuncId:=73
abbrev zn9:FuncId:=77
abbrev zn5:FuncId:=78
abbrev zd4:FuncId:=82
abbrev zpe:FuncId:=85
abbrev zro:FuncId:=89
abbrev zd5:FuncId:=93
abbrev znm:FuncId:=94
abbrev zvs:FuncId:=100
abbrev zie:FuncId:=103
abbrev zcd:FuncId:=104
abbrev zow:FuncId:=105
abbrev zau:FuncId:=106
abbrev zm0:FuncId:=107
abbrev zng:FuncId:=108
abbrev zcw:FuncId:=109
abbrev zgb:FuncId:=110
abbrev zk2:FuncId:=111
abbrev zm9:FuncId:=112
abbrev zbt:FuncId:=113
abbrev zpq:FuncId:=114
abbrev zct:FuncId:=115
abbrev zog:FuncId:=116
abbrev zik:FuncId:=117
abbrev zi1:FuncId:=118
abbrev zij:FuncId:=119
abbrev zl9:FuncId:=120
abbrev zpv:FuncId:=121
abbrev zii:FuncId:=122
abbrev zih:FuncId:=123
abbrev zua:FuncId:=124
abbrev zrj:FuncId:=125
abbrev zou:FuncId:=126
abbrev zoq:FuncId:=127
abbrev zwn:FuncId:=129
abbrev zky:FuncId:=130
abbrev zsi:FuncId:=131
abbrev zvu:FuncId:=132
abbrev zd6:FuncId:=133
abbrev znj:FuncId:=134
abbrev zo6:FuncId:=135
abbrev zue:FuncId:=137
abbrev zte:FuncId:=138
abbrev zo3:FuncId:=139
abbrev zme:FuncId:=140
abbrev zfw:FuncId:=142
abbrev zki:FuncId:=143
abbrev zg8:FuncId:=144
abbrev zhb:FuncId:=145
abbrev zk7:FuncId:=151
abbrev zbu:FuncId:=154
abbrev zcc:FuncId:=155
abbrev zgy:FuncId:=156
abbrev zko:FuncId:=157
abbrev zna:FuncId:=158
abbrev zbq:FuncId:=159
abbrev zar:FuncId:=162
abbrev zei:FuncId:=163
abbrev zfg:FuncId:=164
abbrev zaz:FuncId:=165
abbrev zb3:FuncId:=166
abbrev za2:FuncId:=167
abbrev zee:FuncId:=168
abbrev zg9:FuncId:=169
abbrev zfy:FuncId:=170
abbrev zjq:FuncId:=171
abbrev zqg:FuncId:=172
abbrev zkf:FuncId:=173
abbrev zk8:FuncId:=174
abbrev zm4:FuncId:=175
abbrev zex:FuncId:=176
abbrev ziz:FuncId:=177
abbrev zi6:FuncId:=178
abbrev zgd:FuncId:=179
abbrev zpl:FuncId:=180
abbrev zch:FuncId:=181
abbrev zf2:FuncId:=184
abbrev zcn:FuncId:=187
abbrev zgf:FuncId:=188
abbrev zqi:FuncId:=189
abbrev zfk:FuncId:=200
abbrev zcg:FuncId:=201
abbrev zfe:FuncId:=202
abbrev jy:FuncId:=203
abbrev znb:FuncId:=204
abbrev zc1:FuncId:=205
abbrev zf8:FuncId:=206
abbrev zpi:FuncId:=207
abbrev zdz:FuncId:=216
abbrev zhh:FuncId:=222
abbrev ze8:FuncId:=223
abbrev zrm:FuncId:=224
abbrev zdj:FuncId:=228
abbrev zbk:FuncId:=231
abbrev zer:FuncId:=232
abbrev zl1:FuncId:=233
abbrev zfn:FuncId:=234
abbrev zdw:FuncId:=235
abbrev znd:TypeId:=0
abbrev zds:TypeId:=3
abbrev z9v:TypeId:=4
abbrev xu:TypeId:=5
abbrev qc:TypeId:=9
abbrev z6w:TypeId:=21
abbrev zu:TypeId:=22
abbrev zf:TypeId:=30
abbrev zeu:TypeId:=31
abbrev zac:TypeId:=37
abbrev zgh:TypeId:=39
abbrev zl:TypeId:=44
abbrev zk:TypeId:=45
abbrev jr:TypeId:=59
abbrev zbv:TypeId:=63
abbrev zad:TypeId:=84
abbrev ql:TypeId:=88
abbrev zah:TypeId:=102
abbrev zi4:TypeId:=104
abbrev za0:TypeId:=105
abbrev vg:TypeId:=108
abbrev ji:TypeId:=111
abbrev zc3:TypeId:=112
abbrev zh:TypeId:=114
abbrev qw:TypeId:=115
abbrev qm:TypeId:=117
abbrev zdv:TypeId:=162
abbrev zr4:TypeId:=163
abbrev ku:TypeId:=164
abbrev zao:TypeId:=165
abbrev zb2:TypeId:=187
abbrev zcj:TypeId:=198
abbrev zbm:TypeId:=207
abbrev za9:TypeId:=210
abbrev zr5:TypeId:=227
abbrev zey:TypeId:=247
abbrev jm:TypeId:=249
abbrev zg1:TypeId:=258
abbrev zwc:TypeId:=264
abbrev za1:TypeId:=266
abbrev zn7:TypeId:=267
abbrev zny:TypeId:=269
abbrev zuy:TypeId:=286
abbrev zj5:TypeId:=303
def zrv:Ann:=(.seq .leaf (.seq .leaf .leaf))
theorem qe6:okC P qs Tryz.f93.ntmps ((Tryz.f93.body).getD .skip) zrv=true:=by kernel_rfl
def zwt (x:Int) (n:Int) (R:Ending→World→Prop) (w:World):Prop :=
  z9b .u32 x n fun t7 =>
  zl4 .u64 32 n fun t10 =>
  qka .u32 x t10 fun t11 =>
  orI .u32 t7 t11 fun t12 =>
  R (.returned (Value.int .u32 t12)) w
theorem qdm (x:Int) (n:Int) (R:Ending→World→Prop) (w:World):tr P qs ((Tryz.f93.body).getD .skip) zrv (zb0 0 [(0,(Value.int .u32 x)),(0,(Value.int .u64 n))]) (zcb P Tryz.f93.results.toList R) w=zwt x n R w:=by kernel_rfl
theorem qdk {x:Int} {n:Int} {R:Ending→World→Prop} {w:World} (hT:zwt x n R w):qg P zd5 #[(Value.int .u32 x),(Value.int .u64 n)] w R :=
 zy (fn:=Tryz.f93) (c:=(Tryz.f93.body).getD .skip) (ann:=zrv) (args:=[(0,(Value.int .u32 x)),(0,(Value.int .u64 n))]) (qs:=qs) mixed Tryz.func93 rfl (by kernel_rfl) (by kernel_rfl) qe6 ((qdm x n R w).symm ▸ hT)
def zd2:Ann:=(.seq .leaf (.seq .leaf (.seq .leaf .leaf)))
theorem znk:okC P qs Tryz.f203.ntmps ((Tryz.f203.body).getD .skip) zd2=true:=by kernel_rfl
def zep (x:Int) (k:Int) (R:Ending→World→Prop) (w:World):Prop :=
  cvI .u64 k fun t7 =>
  qeq .u64 t7 31 fun t8 =>
  qka .u32 x t8 fun t11 =>
  zl4 .u64 32 t8 fun t14 =>
  z9b .u32 x t14 fun t15 =>
  orI .u32 t11 t15 fun t16 =>
  R (.returned (Value.int .u32 t16)) w
theorem zmj (x:Int) (k:Int) (R:Ending→World→Prop) (w:World):tr P qs ((Tryz.f203.body).getD .skip) zd2 (zb0 0 [(0,(Value.int .u32 x)),(0,(Value.int .i64 k))]) (zcb P Tryz.f203.results.toList R) w=zep x k R w:=by kernel_rfl
theorem znr {x:Int} {k:Int} {R:Ending→World→Prop} {w:World} (hT:zep x k R w):qg P jy #[(Value.int .u32 x),(Value.int .i64 k)] w R :=
 zy (fn:=Tryz.f203) (c:=(Tryz.f203.body).getD .skip) (ann:=zd2) (args:=[(0,(Value.int .u32 x)),(0,(Value.int .i64 k))]) (qs:=qs) mixed Tryz.func203 rfl (by kernel_rfl) (by kernel_rfl) znk ((zmj x k R w).symm ▸ hT)
def zo7:Ann:=(.seq .leaf (.seq .leaf .leaf))
theorem qcm:okC P qs Tryz.f172.ntmps ((Tryz.f172.body).getD .skip) zo7=true:=by kernel_rfl
def zs6 (c:Int) (R:Ending→World→Prop) (w:World):Prop :=
  xg (decide (c ≥ 97)) (
  xg (decide (c≤122)) (
  R (.returned (Value.bool true)) w) (
  xg (decide (c ≥ 65)) (
  xg (decide (c≤90)) (
  R (.returned (Value.bool true)) w) (
  xg (decide (c ≥ 48)) (
  xg (decide (c≤57)) (
  R (.returned (Value.bool true)) w) (
  xg (c == 46) (
  R (.returned (Value.bool true)) w) (
  xg (c == 95) (
  R (.returned (Value.bool true)) w) (
  R (.returned (Value.bool (c == 45))) w)))) (
  xg (c == 46) (
  R (.returned (Value.bool true)) w) (
  xg (c == 95) (
  R (.returned (Value.bool true)) w) (
  R (.returned (Value.bool (c == 45))) w))))) (
  xg (decide (c ≥ 48)) (
  xg (decide (c≤57)) (
  R (.returned (Value.bool true)) w) (
  xg (c == 46) (
  R (.returned (Value.bool true)) w) (
  xg (c == 95) (
  R (.returned (Value.bool true)) w) (
  R (.returned (Value.bool (c == 45))) w)))) (
  xg (c == 46) (
  R (.returned (Value.bool true)) w) (
  xg (c == 95) (
  R (.returned (Value.bool true)) w) (
  R (.returned (Value.bool (c == 45))) w)))))) (
  xg (decide (c ≥ 65)) (
  xg (decide (c≤90)) (
  R (.returned (Value.bool true)) w) (
  xg (decide (c ≥ 48)) (
  xg (decide (c≤57)) (
  R (.returned (Value.bool true)) w) (
  xg (c == 46) (
  R (.returned (Value.bool true)) w) (
  xg (c == 95) (
  R (.returned (Value.bool true)) w) (
  R (.returned (Value.bool (c == 45))) w)))) (
  xg (c == 46) (
  R (.returned (Value.bool true)) w) (
  xg (c == 95) (
  R (.returned (Value.bool true)) w) (
  R (.returned (Value.bool (c == 45))) w))))) (
  xg (decide (c ≥ 48)) (
  xg (decide (c≤57)) (
  R (.returned (Value.bool true)) w) (
  xg (c == 46) (
  R (.returned (Value.bool true)) w) (
  xg (c == 95) (
  R (.returned (Value.bool true)) w) (
  R (.returned (Value.bool (c == 45))) w)))) (
  xg (c == 46) (
  R (.returned (Value.bool true)) w) (
  xg (c == 95) (
  R (.returned (Value.bool true)) w) (
  R (.returned (Value.bool (c == 45))) w)))))
theorem qbe (c:Int) (R:Ending→World→Prop) (w:World):tr P qs ((Tryz.f172.body).getD .skip) zo7 (zb0 0 [(0,(Value.int .u8 c))]) (zcb P Tryz.f172.results.toList R) w=zs6 c R w:=by kernel_rfl
theorem z94 {c:Int} {R:Ending→World→Prop} {w:World} (hT:zs6 c R w):qg P zqg #[(Value.int .u8 c)] w R :=
 zy (fn:=Tryz.f172) (c:=(Tryz.f172.body).getD .skip) (ann:=zo7) (args:=[(0,(Value.int .u8 c))]) (qs:=qs) mixed Tryz.func172 rfl (by kernel_rfl) (by kernel_rfl) qcm ((qbe c R w).symm ▸ hT)
def zly:Ann:=(.seq .leaf (.join [] (.jblk [] (.join [] (.jblk [] (.jblk [] (.jblk [] (.join [] (.join [] (.seq .leaf (.cond .leaf .leaf)) (.join [] (.seq .leaf (.cond .leaf .leaf)) (.seq .leaf (.cond .leaf .leaf)))) .leaf)))) (.seq (.seq .leaf .leaf) .leaf))) (.seq .leaf .leaf)))
theorem z3f:okC P qs Tryz.f157.ntmps ((Tryz.f157.body).getD .skip) zly=true:=by kernel_rfl
def zoh (c:Int) (R:Ending→World→Prop) (w:World):Prop :=
  joinP Unit (fun k =>
  joinP Unit (fun k_1 =>
  joinP Unit (fun k_2 =>
  joinP Unit (fun k_3 =>
  joinP Unit (fun k_4 =>
  joinP Unit (fun k_5 =>
  joinP Unit (fun k_6 =>
  joinP Unit (fun k_7 =>
  xg (c == 46) (
  k_5 () w) (
  xg (c == 95) (
  k_5 () w) (
  xg (c == 45) (
  k_5 () w) (
  k_7 () w)))) (fun _ w_1 =>
  joinP Unit (fun k_8 =>
  xg (decide (c ≥ 48)) (
  xg (decide (c≤57)) (
  k_4 () w_1) (
  k_8 () w_1)) (
  k_8 () w_1)) (fun _ w_2 =>
  xg (decide (c ≥ 97)) (
  xg (decide (c≤122)) (
  k_3 () w_2) (
  k_6 () w_2)) (
  k_6 () w_2)))) (fun _ w_3 =>
  k_1 () w_3)) (fun _ w_4 =>
  k_4 () w_4)) (fun _ w_5 =>
  k_3 () w_5)) (fun _ w_6 =>
  k_2 () w_6)) (fun _ w_7 =>
  R (.returned (Value.bool true)) w_7)) (fun _ w_8 =>
  k () w_8)) (fun _ w_9 =>
  xg (decide (c ≥ 65)) (
  R (.returned (Value.bool (decide (c≤90)))) w_9) (
  R (.returned (Value.bool false)) w_9))
theorem z4d (c:Int) (R:Ending→World→Prop) (w:World):tr P qs ((Tryz.f157.body).getD .skip) zly (zb0 0 [(0,(Value.int .u8 c))]) (zcb P Tryz.f157.results.toList R) w=zoh c R w:=by kernel_rfl
theorem z2y {c:Int} {R:Ending→World→Prop} {w:World} (hT:zoh c R w):qg P zko #[(Value.int .u8 c)] w R :=
 zy (fn:=Tryz.f157) (c:=(Tryz.f157.body).getD .skip) (ann:=zly) (args:=[(0,(Value.int .u8 c))]) (qs:=qs) mixed Tryz.func157 rfl (by kernel_rfl) (by kernel_rfl) z3f ((z4d c R w).symm ▸ hT)
def zf4:Ann:=(.seq .leaf (.seq .leaf .leaf))
theorem zt8:okC P qs Tryz.f200.ntmps ((Tryz.f200.body).getD .skip) zf4=true:=by kernel_rfl
def zhy (x:ByteArray) (R:Ending→World→Prop) (w:World):Prop :=
  R (.returned (Value.bool (!(x.toList == x.toList)))) w
theorem zuj (x:ByteArray) (R:Ending→World→Prop) (w:World):tr P qs ((Tryz.f200.body).getD .skip) zf4 (zb0 0 [(0,(Value.string x))]) (zcb P Tryz.f200.results.toList R) w=zhy x R w:=by kernel_rfl
theorem zts {x:ByteArray} {R:Ending→World→Prop} {w:World} (hT:zhy x R w):qg P zfk #[(Value.string x)] w R :=
 zy (fn:=Tryz.f200) (c:=(Tryz.f200.body).getD .skip) (ann:=zf4) (args:=[(0,(Value.string x))]) (qs:=qs) mixed Tryz.func200 rfl (by kernel_rfl) (by kernel_rfl) zt8 ((zuj x R w).symm ▸ hT)
def zfp:Ann:=(.seq .leaf (.seq .leaf .leaf))
theorem zsm:okC P qs Tryz.f156.ntmps ((Tryz.f156.body).getD .skip) zfp=true:=by kernel_rfl
def zgt (s:ByteArray) (prefixv:ByteArray) (R:Ending→World→Prop) (w:World):Prop :=
  zg5 P zcn #[(Value.string s),(Value.string prefixv)] [.bool] false w fun (t7:Bool) =>
  R (.returned (Value.bool t7)) w
theorem zso (s:ByteArray) (prefixv:ByteArray) (R:Ending→World→Prop) (w:World):tr P qs ((Tryz.f156.body).getD .skip) zfp (zb0 0 [(0,(Value.string s)),(0,(Value.string prefixv))]) (zcb P Tryz.f156.results.toList R) w=zgt s prefixv R w:=by kernel_rfl
theorem zsp {s:ByteArray} {prefixv:ByteArray} {R:Ending→World→Prop} {w:World} (hT:zgt s prefixv R w):qg P zgy #[(Value.string s),(Value.string prefixv)] w R :=
 zy (fn:=Tryz.f156) (c:=(Tryz.f156.body).getD .skip) (ann:=zfp) (args:=[(0,(Value.string s)),(0,(Value.string prefixv))]) (qs:=qs) mixed Tryz.func156 rfl (by kernel_rfl) (by kernel_rfl) zsm ((zso s prefixv R w).symm ▸ hT)
def zb9:Ann:=(.seq .leaf (.seq .leaf .leaf))
theorem zhq:okC P qs Tryz.f187.ntmps ((Tryz.f187.body).getD .skip) zb9=true:=by kernel_rfl
def zcr (s:ByteArray) (prefixv:ByteArray) (R:Ending→World→Prop) (w:World):Prop :=
  xg (decide ((s.size:Int) ≥ (prefixv.size:Int))) (
  zay P (Instr.sliceAt qc (Value.string s) none (some (Value.int .i64 (prefixv.size:Int))) none) .str w fun (t14:ByteArray) =>
  R (.returned (Value.bool (t14.toList == prefixv.toList))) w) (
  R (.returned (Value.bool false)) w)
theorem zht (s:ByteArray) (prefixv:ByteArray) (R:Ending→World→Prop) (w:World):tr P qs ((Tryz.f187.body).getD .skip) zb9 (zb0 0 [(0,(Value.string s)),(0,(Value.string prefixv))]) (zcb P Tryz.f187.results.toList R) w=zcr s prefixv R w:=by kernel_rfl
theorem zhn {s:ByteArray} {prefixv:ByteArray} {R:Ending→World→Prop} {w:World} (hT:zcr s prefixv R w):qg P zcn #[(Value.string s),(Value.string prefixv)] w R :=
 zy (fn:=Tryz.f187) (c:=(Tryz.f187.body).getD .skip) (ann:=zb9) (args:=[(0,(Value.string s)),(0,(Value.string prefixv))]) (qs:=qs) mixed Tryz.func187 rfl (by kernel_rfl) (by kernel_rfl) zhq ((zht s prefixv R w).symm ▸ hT)
def zuh:Ann:=(.seq .leaf (.seq .leaf (.seq .leaf (.seq (.blk (.loop [(3,.slc)] (.seq (.seq .leaf (.cond .leaf .leaf)) (.blk .leaf)))) (.seq .leaf (.seq (.seq .leaf (.blk (.loop [(3,.slc),(5,.int .i64)] (.seq (.seq .leaf (.cond .leaf .leaf)) (.seq (.blk .leaf) .leaf))))) (.seq .leaf (.seq .leaf (.seq (.seq .leaf (.blk (.loop [(8,.int .i64)] (.seq (.seq .leaf (.cond .leaf .leaf)) (.seq (.blk (.seq (.seq .leaf (.blk (.loop [(9,.int .i64)] (.seq (.seq .leaf (.cond .leaf .leaf)) (.join [] (.jblk [] (.seq (.seq .leaf (.cond (.seq .leaf (.seq (.seq .leaf (.blk (.loop [(10,.int .i64)] (.seq (.seq .leaf (.cond .leaf .leaf)) (.seq (.blk (.tree (.op 0 [] (.op 1 [] (.op 2 [] (.op 5 [] (.op 6 [] (.op 7 [] (.op 8 [] (.op 9 [] (.op 10 [] (.op 11 [] (.op 12 [] (.op 3 [] (.op 4 [] (.op 13 [] (.op 14 [] (.op 15 [] (.op 16 [] (.op 17 [] .done)))))))))))))))))))) .leaf))))) .leaf)) .leaf)) (.seq .leaf (.seq .leaf (.tree (.op 0 [] (.op 1 [] (.op 3 [] (.op 6 [] (.op 7 [] (.op 9 [] (.op 10 [] (.op 11 [] (.op 14 [] (.op 16 [] (.op 19 [] (.op 20 [] (.op 23 [] (.op 24 [] (.op 25 [] (.op 2 [] (.op 4 [] (.op 5 [] (.op 8 [] (.op 12 [] (.op 13 [] (.op 15 [] (.op 17 [] (.op 18 [] (.op 21 [] (.op 22 [] (.op 26 [] (.op 27 [] (.op 28 [] (.op 29 [] .done))))))))))))))))))))))))))))))))))) .leaf))))) (.seq .leaf (.seq (.seq .leaf (.blk (.loop [(14,.int .i64)] (.seq (.seq .leaf (.cond .leaf .leaf)) (.seq (.blk (.seq .leaf (.seq .leaf (.seq (.tree (.op 0 [] (.op 2 [] (.op 4 [] (.op 7 [] (.op 11 [] (.op 12 [] (.op 15 [] (.op 16 [] (.op 17 [] (.op 22 [] (.op 25 [] (.op 26 [] (.op 1 [] (.op 3 [] (.op 5 [] (.op 6 [] (.op 8 [] (.op 9 [] (.op 10 [] (.op 13 [] (.op 14 [] (.op 18 [] (.op 19 [] (.op 20 [] (.op 21 [] (.op 27 [] (.op 23 [1,13,18,27] (.op 24 [] (.op 28 [] (.op 29 [] .done))))))))))))))))))))))))))))))) (.seq (.tree (.op 0 [] (.op 2 [] (.op 5 [] (.op 8 [] (.op 9 [] (.op 12 [] (.op 13 [] (.op 17 [] (.op 19 [] (.op 1 [] (.op 3 [] (.op 4 [] (.op 6 [] (.op 7 [] (.op 10 [] (.op 11 [] (.op 14 [] (.op 15 [] (.op 16 [] (.op 18 [] (.op 20 [] (.op 21 [] (.op 22 [] (.op 23 [] (.op 24 [] .done)))))))))))))))))))))))))) (.seq (.seq .leaf (.blk (.loop [(19,.int .i64)] (.seq (.seq .leaf (.cond .leaf .leaf)) (.seq (.blk .leaf) .leaf))))) (.seq .leaf .leaf))))))) .leaf))))) (.seq .leaf (.blk (.loop [(20,.int .i64)] (.seq (.seq .leaf (.cond .leaf .leaf)) (.seq (.blk (.tree (.op 0 [] (.op 1 [] (.op 2 [] (.op 4 [] (.op 5 [] (.op 3 [] (.op 6 [] (.op 7 [] (.op 8 [] (.op 9 [] .done)))))))))))) .leaf))))))))) .leaf))))) (.seq .leaf (.seq (.seq .leaf (.blk (.loop [(22,.int .i64)] (.seq (.seq .leaf (.cond .leaf .leaf)) (.seq (.blk .leaf) .leaf))))) (.seq .leaf .leaf))))))))))))
theorem qg5:okC P qs Tryz.f40.ntmps ((Tryz.f40.body).getD .skip) zuh=true:=by kernel_rfl
def z0h (b:Option Addr) (b_l b_c:Nat) (R:Ending→World→Prop) (w:World):Prop :=
  zbj (zc P zf) zf w fun b2 w_1 =>
  zaf P (Instr.buildSlice zk 0 #[]) .slc w_1 fun (t23:(Option Addr × Nat × Nat)) w_2 =>
  zaf P (Builtin.append_ #[zk,zk] zk #[(Value.slice t23.1 t23.2.1 t23.2.2),(Value.slice b b_l b_c)]) .slc w_2 fun (t25:(Option Addr × Nat × Nat)) w_3 =>
  zaf P (Instr.buildSlice zk 1 #[(0,(Value.int .u8 128))]) .slc w_3 fun (t27:(Option Addr × Nat × Nat)) w_4 =>
  zaf P (Builtin.append_ #[zk,zk] zk #[(Value.slice t25.1 t25.2.1 t25.2.2),(Value.slice t27.1 t27.2.1 t27.2.2)]) .slc w_4 fun (t28:(Option Addr × Nat × Nat)) w_5 =>
  zav (Option Addr × Nat × Nat) (fun s w_6 k =>
  qla (s.2.1:Int) 64 fun t31 =>
  xg (t31 != 56) (
  zaf P (Instr.buildSlice zk 1 #[(0,(Value.int .u8 0))]) .slc w_6 fun (t34:(Option Addr × Nat × Nat)) w_7 =>
  zaf P (Builtin.append_ #[zk,zk] zk #[(Value.slice s.1 s.2.1 s.2.2),(Value.slice t34.1 t34.2.1 t34.2.2)]) .slc w_7 fun (t35:(Option Addr × Nat × Nat)) w_8 =>
  k (t35.1,t35.2.1,t35.2.2) w_8) (
  cvI .u64 (b_l:Int) fun t38 =>
  zy3 .u64 t38 8 fun t39 =>
  zav ((Option Addr × Nat × Nat) × Int) (fun s_1 w_9 k_1 =>
  xg (decide (s_1.2 < 8)) (
  zy3 .i64 8 s_1.2 fun t47 =>
  zl4 .i64 56 t47 fun t48 =>
  cvI .u64 t48 fun t49 =>
  z9b .u64 t39 t49 fun t50 =>
  cvI .u8 t50 fun t51 =>
  zaf P (Instr.buildSlice zk 1 #[(0,(Value.int .u8 t51))]) .slc w_9 fun (t52:(Option Addr × Nat × Nat)) w_10 =>
  zaf P (Builtin.append_ #[zk,zk] zk #[(Value.slice s_1.1.1 s_1.1.2.1 s_1.1.2.2),(Value.slice t52.1 t52.2.1 t52.2.2)]) .slc w_10 fun (t53:(Option Addr × Nat × Nat)) w_11 =>
  za7 .i64 s_1.2 1 fun t43 =>
  k_1 ((t53.1,t53.2.1,t53.2.2),t43) w_11) (
  zay P (Instr.build ku #[(0,(Value.int .u32 1779033703)),(1,(Value.int .u32 3144134277)),(2,(Value.int .u32 1013904242)),(3,(Value.int .u32 2773480762)),(4,(Value.int .u32 1359893119)),(5,(Value.int .u32 2600822924)),(6,(Value.int .u32 528734635)),(7,(Value.int .u32 1541459225))]) .any w_9 fun (t54:Value) =>
  zbj (zc P ku) ku w_9 fun b6 w_12 =>
  zbs P (storeVar ku (⟨b6,0,none⟩:Addr) t54) w_12 fun w_13 =>
  zbj (zc P zao) zao w_13 fun b7 w_14 =>
  zav Int (fun s_2 w_15 k_2 =>
  xg (decide (s_2 < (s_1.1.2.1:Int))) (
  zav Int (fun s_3 w_16 k_3 =>
  xg (decide (s_3 < 64)) (
  joinP Unit (fun k_4 =>
  joinP Unit (fun k_5 =>
  xg (decide (s_3 < 16)) (
  ixR (⟨b7,0,none⟩:Addr) 64 1 s_3 fun t68 =>
  stC t68 (Value.int .u32 0) w_16 fun w_17 =>
  zav Int (fun s_4 w_18 k_6 =>
  xg (decide (s_4 < 4)) (
  zbd w_18 fun w_19 =>
  ixR (⟨b7,0,none⟩:Addr) 64 1 s_3 fun t75 =>
  zy3 .i64 4 s_3 fun t81 =>
  za7 .i64 s_2 t81 fun t82 =>
  za7 .i64 t82 s_4 fun t84 =>
  ixS s_1.1.1 s_1.1.2.1 1 t84 fun t85 =>
  ld (.int .u32) t75 w_19 fun (t76:Int) =>
  qka .u32 t76 8 fun t77 =>
  ld (.int .u8) t85 w_19 fun (t86:Int) =>
  cvI .u32 t86 fun t87 =>
  orI .u32 t77 t87 fun t88 =>
  ixR (⟨b7,0,none⟩:Addr) 64 1 s_3 fun t89 =>
  stC t89 (Value.int .u32 t88) w_19 fun w_20 =>
  za7 .i64 s_4 1 fun t72 =>
  k_6 t72 w_20) (
  k_5 () w_18)) 0 w_17) (
  zl4 .i64 s_3 2 fun t91 =>
  ixR (⟨b7,0,none⟩:Addr) 64 1 t91 fun t92 =>
  ld (.int .u32) t92 w_16 fun (t93:Int) =>
  zl4 .i64 s_3 15 fun t95 =>
  ixR (⟨b7,0,none⟩:Addr) 64 1 t95 fun t96 =>
  ld (.int .u32) t96 w_16 fun (t97:Int) =>
  zbd w_16 fun w_21 =>
  z9b .u32 t93 10 fun t105 =>
  zl4 .i64 s_3 7 fun t108 =>
  ixR (⟨b7,0,none⟩:Addr) 64 1 t108 fun t109 =>
  z9b .u32 t97 3 fun t118 =>
  zl4 .i64 s_3 16 fun t122 =>
  ixR (⟨b7,0,none⟩:Addr) 64 1 t122 fun t123 =>
  zg5 P zd5 #[(Value.int .u32 t93),(Value.int .u64 17)] [.int .u32] false w_21 fun (t100:Int) =>
  zg5 P zd5 #[(Value.int .u32 t93),(Value.int .u64 19)] [.int .u32] false w_21 fun (t102:Int) =>
  zt9 .u32 t100 t102 fun t103 =>
  zt9 .u32 t103 t105 fun t106 =>
  ld (.int .u32) t109 w_21 fun (t110:Int) =>
  za7 .u32 t106 t110 fun t111 =>
  zg5 P zd5 #[(Value.int .u32 t97),(Value.int .u64 7)] [.int .u32] false w_21 fun (t113:Int) =>
  zg5 P zd5 #[(Value.int .u32 t97),(Value.int .u64 18)] [.int .u32] false w_21 fun (t115:Int) =>
  zt9 .u32 t113 t115 fun t116 =>
  zt9 .u32 t116 t118 fun t119 =>
  za7 .u32 t111 t119 fun t120 =>
  ld (.int .u32) t123 w_21 fun (t124:Int) =>
  za7 .u32 t120 t124 fun t125 =>
  ixR (⟨b7,0,none⟩:Addr) 64 1 s_3 fun t126 =>
  stC t126 (Value.int .u32 t125) w_21 fun w_22 =>
  k_5 () w_22)) (fun _ w_23 =>
  k_4 () w_23)) (fun _ w_24 =>
  za7 .i64 s_3 1 fun t64 =>
  k_3 t64 w_24)) (
  ldA P 8 (⟨b6,0,none⟩:Addr) w_16 fun t127 =>
  zbj (zc P ku) ku w_16 fun b13 w_25 =>
  zbs P (storeVar ku (⟨b13,0,none⟩:Addr) (Value.agg t127)) w_25 fun w_26 =>
  zav Int (fun s_7 w_27 k_7 =>
  xg (decide (s_7 < 64)) (
  ld (.int .u32) (⟨b13,4,none⟩:Addr) w_27 fun (t133:Int) =>
  ld (.int .u32) (⟨b13,0,none⟩:Addr) w_27 fun (t135:Int) =>
  zbd w_27 fun w_28 =>
  zt9 .u32 4294967295 t133 fun t152 =>
  ixR (⟨b7,0,none⟩:Addr) 64 1 s_7 fun t162 =>
  ld (.int .u32) (⟨b13,7,none⟩:Addr) w_28 fun (t137:Int) =>
  zg5 P zd5 #[(Value.int .u32 t133),(Value.int .u64 6)] [.int .u32] false w_28 fun (t139:Int) =>
  zg5 P zd5 #[(Value.int .u32 t133),(Value.int .u64 11)] [.int .u32] false w_28 fun (t141:Int) =>
  zt9 .u32 t139 t141 fun t142 =>
  zg5 P zd5 #[(Value.int .u32 t133),(Value.int .u64 25)] [.int .u32] false w_28 fun (t144:Int) =>
  zt9 .u32 t142 t144 fun t145 =>
  za7 .u32 t137 t145 fun t146 =>
  ld (.int .u32) (⟨b13,5,none⟩:Addr) w_28 fun (t149:Int) =>
  qeq .u32 t133 t149 fun t150 =>
  ld (.int .u32) (⟨b13,6,none⟩:Addr) w_28 fun (t154:Int) =>
  qeq .u32 t152 t154 fun t155 =>
  zt9 .u32 t150 t155 fun t156 =>
  za7 .u32 t146 t156 fun t157 =>
  ld (.int .u32) t162 w_28 fun (t163:Int) =>
  qy P znm #[(Value.int .i64 s_7)] [.int .u32] false w_28 fun (t159:Int) w_29 =>
  ((ld (.int .u32) t162 w_29 fun (t163_1:Int) =>
  (Value.int .u32 t163_1)=(Value.int .u32 t163)) ∧
  ((ld (.int .u32) (⟨b13,6,none⟩:Addr) w_29 fun (t154_1:Int) =>
  (Value.int .u32 t154_1)=(Value.int .u32 t154)) ∧
  ((ld (.int .u32) (⟨b13,5,none⟩:Addr) w_29 fun (t149_1:Int) =>
  (Value.int .u32 t149_1)=(Value.int .u32 t149)) ∧
  ((ld (.int .u32) (⟨b13,7,none⟩:Addr) w_29 fun (t137_1:Int) =>
  (Value.int .u32 t137_1)=(Value.int .u32 t137)) ∧
  za7 .u32 t157 t159 fun t160 =>
  za7 .u32 t160 t163 fun t164 =>
  zbd w_29 fun w_30 =>
  zg5 P zd5 #[(Value.int .u32 t135),(Value.int .u64 2)] [.int .u32] false w_30 fun (t166:Int) =>
  zg5 P zd5 #[(Value.int .u32 t135),(Value.int .u64 13)] [.int .u32] false w_30 fun (t168:Int) =>
  zt9 .u32 t166 t168 fun t169 =>
  zg5 P zd5 #[(Value.int .u32 t135),(Value.int .u64 22)] [.int .u32] false w_30 fun (t171:Int) =>
  zt9 .u32 t169 t171 fun t172 =>
  ld (.int .u32) (⟨b13,1,none⟩:Addr) w_30 fun (t175:Int) =>
  qeq .u32 t135 t175 fun t176 =>
  ld (.int .u32) (⟨b13,2,none⟩:Addr) w_30 fun (t179:Int) =>
  qeq .u32 t135 t179 fun t180 =>
  zt9 .u32 t176 t180 fun t181 =>
  ld (.int .u32) (⟨b13,1,none⟩:Addr) w_30 fun (t183:Int) =>
  ld (.int .u32) (⟨b13,2,none⟩:Addr) w_30 fun (t185:Int) =>
  qeq .u32 t183 t185 fun t186 =>
  zt9 .u32 t181 t186 fun t187 =>
  za7 .u32 t172 t187 fun t188 =>
  zav Int (fun s_8 w_31 k_8 =>
  xg (decide (s_8 > 0)) (
  zl4 .i64 s_8 1 fun t195 =>
  ixR (⟨b13,0,none⟩:Addr) 8 1 t195 fun t196 =>
  ld (.int .u32) t196 w_31 fun (t197:Int) =>
  ixR (⟨b13,0,none⟩:Addr) 8 1 s_8 fun t198 =>
  stC t198 (Value.int .u32 t197) w_31 fun w_32 =>
  zl4 .i64 s_8 1 fun t192 =>
  k_8 t192 w_32) (
  ld (.int .u32) (⟨b13,4,none⟩:Addr) w_31 fun (t200:Int) =>
  za7 .u32 t200 t164 fun t202 =>
  stC (⟨b13,4,none⟩:Addr) (Value.int .u32 t202) w_31 fun w_33 =>
  za7 .u32 t164 t188 fun t206 =>
  stC (⟨b13,0,none⟩:Addr) (Value.int .u32 t206) w_33 fun w_34 =>
  za7 .i64 s_7 1 fun t131 =>
  k_7 t131 w_34)) 7 w_30))))) (
  zav Int (fun s_9 w_35 k_9 =>
  xg (decide (s_9 < 8)) (
  zbd w_35 fun w_36 =>
  ixR (⟨b6,0,none⟩:Addr) 8 1 s_9 fun t214 =>
  ixR (⟨b13,0,none⟩:Addr) 8 1 s_9 fun t217 =>
  ld (.int .u32) t214 w_36 fun (t215:Int) =>
  ld (.int .u32) t217 w_36 fun (t218:Int) =>
  za7 .u32 t215 t218 fun t219 =>
  ixR (⟨b6,0,none⟩:Addr) 8 1 s_9 fun t220 =>
  stC t220 (Value.int .u32 t219) w_36 fun w_37 =>
  za7 .i64 s_9 1 fun t211 =>
  k_9 t211 w_37) (
  za7 .i64 s_2 64 fun t60 =>
  k_2 t60 w_35)) 0 w_27)) 0 w_26)) 0 w_15) (
  zbj (zc P zf) zf w_15 fun b21 w_38 =>
  zav Int (fun s_10 w_39 k_10 =>
  xg (decide (s_10 < 32)) (
  qle .i64 s_10 4 fun t227 =>
  ixR (⟨b6,0,none⟩:Addr) 8 1 t227 fun t228 =>
  ld (.int .u32) t228 w_39 fun (t229:Int) =>
  qla s_10 4 fun t231 =>
  zy3 .i64 8 t231 fun t232 =>
  zl4 .i64 24 t232 fun t233 =>
  cvI .u64 t233 fun t234 =>
  z9b .u32 t229 t234 fun t235 =>
  cvI .u8 t235 fun t236 =>
  ixR (⟨b21,0,none⟩:Addr) 32 1 s_10 fun t237 =>
  stC t237 (Value.int .u8 t236) w_39 fun w_40 =>
  za7 .i64 s_10 1 fun t224 =>
  k_10 t224 w_40) (
  ldA P 32 (⟨b21,0,none⟩:Addr) w_39 fun t238 =>
  zbs P (storeVar zf (⟨b2,0,none⟩:Addr) (Value.agg t238)) w_39 fun w_41 =>
  ldA P 32 (⟨b2,0,none⟩:Addr) w_41 fun t2 =>
  R (.returned (Value.agg t2)) w_41)) 0 w_38)) 0 w_14)) ((s.1,s.2.1,s.2.2),0) w_6)) (t28.1,t28.2.1,t28.2.2) w_5
theorem qhz (b:Option Addr) (b_l b_c:Nat) (R:Ending→World→Prop) (w:World):tr P qs ((Tryz.f40.body).getD .skip) zuh (zb0 0 [(0,(Value.slice b b_l b_c))]) (zcb P Tryz.f40.results.toList R) w=z0h b b_l b_c R w:=by kernel_rfl
theorem qgv {b:Option Addr} {b_l b_c:Nat} {R:Ending→World→Prop} {w:World} (hT:z0h b b_l b_c R w):qg P zi2 #[(Value.slice b b_l b_c)] w R :=
 zy (fn:=Tryz.f40) (c:=(Tryz.f40.body).getD .skip) (ann:=zuh) (args:=[(0,(Value.slice b b_l b_c))]) (qs:=qs) mixed Tryz.func40 rfl (by kernel_rfl) (by kernel_rfl) qg5 ((qhz b b_l b_c R w).symm ▸ hT)
def znn:Ann:=(.seq .leaf (.seq .leaf .leaf))
theorem z8f:okC P qs Tryz.f57.ntmps ((Tryz.f57.body).getD .skip) znn=true:=by kernel_rfl
def zrp (names:Option Addr) (names_l names_c:Nat) (R:Ending→World→Prop) (w:World):Prop :=
  qy P zm9 #[(Value.slice names names_l names_c),(Value.string (ByteArray.mk #[47]))] [.str] false w fun (t4:ByteArray) w_1 =>
  qlf (ByteArray.mk #[47]) t4 fun t5 =>
  R (.returned (Value.string t5)) w_1
theorem z6r (names:Option Addr) (names_l names_c:Nat) (R:Ending→World→Prop) (w:World):tr P qs ((Tryz.f57.body).getD .skip) znn (zb0 0 [(0,(Value.slice names names_l names_c))]) (zcb P Tryz.f57.results.toList R) w=zrp names names_l names_c R w:=by kernel_rfl
theorem z8c {names:Option Addr} {names_l names_c:Nat} {R:Ending→World→Prop} {w:World} (hT:zrp names names_l names_c R w):qg P zci #[(Value.slice names names_l names_c)] w R :=
 zy (fn:=Tryz.f57) (c:=(Tryz.f57.body).getD .skip) (ann:=znn) (args:=[(0,(Value.slice names names_l names_c))]) (qs:=qs) mixed Tryz.func57 rfl (by kernel_rfl) (by kernel_rfl) z8f ((z6r names names_l names_c R w).symm ▸ hT)
def zt1:Ann:=(.seq .leaf (.seq .leaf (.seq .leaf (.seq .leaf .leaf))))
theorem qh7:okC P qs Tryz.f78.ntmps ((Tryz.f78.body).getD .skip) zt1=true:=by kernel_rfl
def zy8 (b:Option Addr) (b_l b_c:Nat) (R:Ending→World→Prop) (w:World):Prop :=
  zbj (zc P zf) zf w fun b2 w_1 =>
  qy P zvu #[] [.ptr] false w_1 fun (t4:(Option Addr)) w_2 =>
  qy P zd6 #[(Value.pointer t4),(Value.slice b b_l b_c)] [] true w_2 fun (_:Unit) w_3 =>
  qy P znj #[(Value.pointer t4)] [.any] false w_3 fun (t9:Value) w_4 =>
  zbs P (storeVar zf (⟨b2,0,none⟩:Addr) t9) w_4 fun w_5 =>
  ldA P 32 (⟨b2,0,none⟩:Addr) w_5 fun t2 =>
  R (.returned (Value.agg t2)) w_5
theorem qhu (b:Option Addr) (b_l b_c:Nat) (R:Ending→World→Prop) (w:World):tr P qs ((Tryz.f78.body).getD .skip) zt1 (zb0 0 [(0,(Value.slice b b_l b_c))]) (zcb P Tryz.f78.results.toList R) w=zy8 b b_l b_c R w:=by kernel_rfl
theorem qhw {b:Option Addr} {b_l b_c:Nat} {R:Ending→World→Prop} {w:World} (hT:zy8 b b_l b_c R w):qg P zn5 #[(Value.slice b b_l b_c)] w R :=
 zy (fn:=Tryz.f78) (c:=(Tryz.f78.body).getD .skip) (ann:=zt1) (args:=[(0,(Value.slice b b_l b_c))]) (qs:=qs) mixed Tryz.func78 rfl (by kernel_rfl) (by kernel_rfl) qh7 ((qhu b b_l b_c R w).symm ▸ hT)
def zjm:Ann:=(.seq .leaf (.seq .leaf (.seq .leaf .leaf)))
theorem z0s:okC P qs Tryz.f94.ntmps ((Tryz.f94.body).getD .skip) zjm=true:=by kernel_rfl
def zmk (t:Int) (R:Ending→World→Prop) (w:World):Prop :=
  zay P (Instr.build zao #[(0,(Value.int .u32 1116352408)),(1,(Value.int .u32 1899447441)),(2,(Value.int .u32 3049323471)),(3,(Value.int .u32 3921009573)),(4,(Value.int .u32 961987163)),(5,(Value.int .u32 1508970993)),(6,(Value.int .u32 2453635748)),(7,(Value.int .u32 2870763221)),(8,(Value.int .u32 3624381080)),(9,(Value.int .u32 310598401)),(10,(Value.int .u32 607225278)),(11,(Value.int .u32 1426881987)),(12,(Value.int .u32 1925078388)),(13,(Value.int .u32 2162078206)),(14,(Value.int .u32 2614888103)),(15,(Value.int .u32 3248222580)),(16,(Value.int .u32 3835390401)),(17,(Value.int .u32 4022224774)),(18,(Value.int .u32 264347078)),(19,(Value.int .u32 604807628)),(20,(Value.int .u32 770255983)),(21,(Value.int .u32 1249150122)),(22,(Value.int .u32 1555081692)),(23,(Value.int .u32 1996064986)),(24,(Value.int .u32 2554220882)),(25,(Value.int .u32 2821834349)),(26,(Value.int .u32 2952996808)),(27,(Value.int .u32 3210313671)),(28,(Value.int .u32 3336571891)),(29,(Value.int .u32 3584528711)),(30,(Value.int .u32 113926993)),(31,(Value.int .u32 338241895)),(32,(Value.int .u32 666307205)),(33,(Value.int .u32 773529912)),(34,(Value.int .u32 1294757372)),(35,(Value.int .u32 1396182291)),(36,(Value.int .u32 1695183700)),(37,(Value.int .u32 1986661051)),(38,(Value.int .u32 2177026350)),(39,(Value.int .u32 2456956037)),(40,(Value.int .u32 2730485921)),(41,(Value.int .u32 2820302411)),(42,(Value.int .u32 3259730800)),(43,(Value.int .u32 3345764771)),(44,(Value.int .u32 3516065817)),(45,(Value.int .u32 3600352804)),(46,(Value.int .u32 4094571909)),(47,(Value.int .u32 275423344)),(48,(Value.int .u32 430227734)),(49,(Value.int .u32 506948616)),(50,(Value.int .u32 659060556)),(51,(Value.int .u32 883997877)),(52,(Value.int .u32 958139571)),(53,(Value.int .u32 1322822218)),(54,(Value.int .u32 1537002063)),(55,(Value.int .u32 1747873779)),(56,(Value.int .u32 1955562222)),(57,(Value.int .u32 2024104815)),(58,(Value.int .u32 2227730452)),(59,(Value.int .u32 2361852424)),(60,(Value.int .u32 2428436474)),(61,(Value.int .u32 2756734187)),(62,(Value.int .u32 3204031479)),(63,(Value.int .u32 3329325298))]) .any w fun (t4:Value) =>
  zbj (zc P zao) zao w fun b3 w_1 =>
  zbs P (storeVar zao (⟨b3,0,none⟩:Addr) t4) w_1 fun w_2 =>
  ixR (⟨b3,0,none⟩:Addr) 64 1 t fun t6 =>
  ld (.int .u32) t6 w_2 fun (t7:Int) =>
  R (.returned (Value.int .u32 t7)) w_2
theorem z1h (t:Int) (R:Ending→World→Prop) (w:World):tr P qs ((Tryz.f94.body).getD .skip) zjm (zb0 0 [(0,(Value.int .i64 t))]) (zcb P Tryz.f94.results.toList R) w=zmk t R w:=by kernel_rfl
theorem z1q {t:Int} {R:Ending→World→Prop} {w:World} (hT:zmk t R w):qg P znm #[(Value.int .i64 t)] w R :=
 zy (fn:=Tryz.f94) (c:=(Tryz.f94.body).getD .skip) (ann:=zjm) (args:=[(0,(Value.int .i64 t))]) (qs:=qs) mixed Tryz.func94 rfl (by kernel_rfl) (by kernel_rfl) z0s ((z1h t R w).symm ▸ hT)
def zlv:Ann:=(.seq .leaf (.seq (.tree (.op 0 [] (.op 1 [] (.op 2 [] (.op 3 [] .done))))) .leaf))
theorem z2u:okC P qs Tryz.f100.ntmps ((Tryz.f100.body).getD .skip) zlv=true:=by kernel_rfl
def zom (a:Value) (b:Value) (R:Ending→World→Prop) (w:World):Prop :=
  zbj (Value.cells a) zf w fun b2 w_1 =>
  zbj (Value.cells b) zf w_1 fun b3 w_2 =>
  zbd w_2 fun w_3 =>
  zay P (Instr.sliceAt zf (Value.pointer (some (⟨b2,0,none⟩:Addr))) none none none) .slc w_3 fun (t5:(Option Addr × Nat × Nat)) =>
  zay P (Instr.sliceAt zf (Value.pointer (some (⟨b3,0,none⟩:Addr))) none none none) .slc w_3 fun (t6:(Option Addr × Nat × Nat)) =>
  qy P zk7 #[(Value.slice t5.1 t5.2.1 t5.2.2),(Value.slice t6.1 t6.2.1 t6.2.2)] [.int .i64] false w_3 fun (t7:Int) w_4 =>
  R (.returned (Value.int .i64 t7)) w_4
theorem z2f (a:Value) (b:Value) (R:Ending→World→Prop) (w:World):tr P qs ((Tryz.f100.body).getD .skip) zlv (zb0 0 [(1,a),(1,b)]) (zcb P Tryz.f100.results.toList R) w=zom a b R w:=by kernel_rfl
theorem z3m {a:Value} {b:Value} {R:Ending→World→Prop} {w:World} (hT:zom a b R w):qg P zvs #[a,b] w R :=
 zy (fn:=Tryz.f100) (c:=(Tryz.f100.body).getD .skip) (ann:=zlv) (args:=[(1,a),(1,b)]) (qs:=qs) mixed Tryz.func100 rfl (by kernel_rfl) (by kernel_rfl) z2u ((z2f a b R w).symm ▸ hT)
def zk0:Ann2:=(.seq (.pure .leaf) (.seq (.pure (.seq .leaf (.cond (.seq .leaf .leaf) .leaf))) (.seq (.pure (.seq .leaf (.cond (.seq .leaf .leaf) .leaf))) (.seq (.pure (.seq .leaf (.blk (.loop [(15,.int .i64)] (.seq .leaf (.seq (.cond .leaf .leaf) (.join [] (.jblk [] (.seq .leaf (.seq .leaf (.cond (.seq .leaf .leaf) .leaf)))) .leaf))))))) (.seq (.pure .leaf) (.seq (.seq (.pure .leaf) (.blk (.rng [(32,.str)] true [] .leaf (.jblk [] (.jblk [] (.seq .leaf (.cond (.seq .leaf .leaf) (.seq .leaf (.cond .leaf (.seq .leaf (.cond .leaf .leaf))))))))))) (.pure (.seq (.seq .leaf (.cond (.seq .leaf .leaf) .leaf)) (.seq .leaf .leaf)))))))))
theorem z2k:qdz P qs Tryz.f105.ntmps ((Tryz.f105.body).getD .skip) zk0=true:=by kernel_rfl
def zop (s:ByteArray) (R:Ending→World→Prop) (w:World):Prop :=
  zbj (zc P qw) qw w fun b2 w_1 =>
  zbj (zc P zeu) zeu w_1 fun b3 w_2 =>
  xg (decide ((s.size:Int) > 256)) (
  stC (⟨b2,0,none⟩:Addr) (Value.slice none 0 0) w_2 fun w_3 =>
  stC (⟨b3,0,none⟩:Addr) (Value.int .i64 2) w_3 fun w_4 =>
  ld .slc (⟨b2,0,none⟩:Addr) w_4 fun (t2:(Option Addr × Nat × Nat)) =>
  ld (.int .i64) (⟨b3,0,none⟩:Addr) w_4 fun (t3:Int) =>
  R (.returned (Value.tuple #[(Value.slice t2.1 t2.2.1 t2.2.2),(Value.int .i64 t3)])) w_4) (
  zg5 P zgy #[(Value.string s),(Value.string (ByteArray.mk #[47]))] [.bool] false w_2 fun (t11:Bool) =>
  xg (!t11) (
  stC (⟨b2,0,none⟩:Addr) (Value.slice none 0 0) w_2 fun w_5 =>
  stC (⟨b3,0,none⟩:Addr) (Value.int .i64 40) w_5 fun w_6 =>
  ld .slc (⟨b2,0,none⟩:Addr) w_6 fun (t2_1:(Option Addr × Nat × Nat)) =>
  ld (.int .i64) (⟨b3,0,none⟩:Addr) w_6 fun (t3_1:Int) =>
  R (.returned (Value.tuple #[(Value.slice t2_1.1 t2_1.2.1 t2_1.2.2),(Value.int .i64 t3_1)])) w_6) (
  zav Int (fun s_1 w_7 k =>
  xg (decide (s_1 < (s.size:Int))) (
  joinP Unit (fun k_1 =>
  joinP Unit (fun k_2 =>
  ztu s s_1 fun t20 =>
  xg (t20 != 47) (
  ztu s s_1 fun t25 =>
  zg5 P zko #[(Value.int .u8 t25)] [.bool] false w_7 fun (t26:Bool) =>
  xg (!t26) (
  stC (⟨b2,0,none⟩:Addr) (Value.slice none 0 0) w_7 fun w_8 =>
  stC (⟨b3,0,none⟩:Addr) (Value.int .i64 40) w_8 fun w_9 =>
  ld .slc (⟨b2,0,none⟩:Addr) w_9 fun (t2_2:(Option Addr × Nat × Nat)) =>
  ld (.int .i64) (⟨b3,0,none⟩:Addr) w_9 fun (t3_2:Int) =>
  R (.returned (Value.tuple #[(Value.slice t2_2.1 t2_2.2.1 t2_2.2.2),(Value.int .i64 t3_2)])) w_9) (
  k_2 () w_7)) (
  k_2 () w_7)) (fun _ w_10 =>
  k_1 () w_10)) (fun _ w_11 =>
  za7 .i64 s_1 1 fun t29 =>
  k t29 w_11)) (
  zbj (zc P qw) qw w_7 fun b5 w_12 =>
  qy P zna #[(Value.string s)] [.any] false w_12 fun (t31:Value) w_13 =>
  z5t P [.str] t31 w_13 (fun (x:ByteArray) w_14 beg kc kr _ =>
  beg w_14 fun w_15 =>
  joinP Unit (fun k_3 =>
  joinP Unit (fun k_4 =>
  xg (decide ((x.size:Int) > 16)) (
  stC (⟨b2,0,none⟩:Addr) (Value.slice none 0 0) w_15 fun w_16 =>
  stC (⟨b3,0,none⟩:Addr) (Value.int .i64 41) w_16 fun w_17 =>
  kr w_17) (
  xg (x.toList == (ByteArray.mk #[]).toList) (
  k_4 () w_15) (
  xg (x.toList == (ByteArray.mk #[46]).toList) (
  k_4 () w_15) (
  xg (x.toList == (ByteArray.mk #[46,46]).toList) (
  ld .slc (⟨b5,0,none⟩:Addr) w_15 fun (t51:(Option Addr × Nat × Nat)) =>
  ld .slc (⟨b5,0,none⟩:Addr) w_15 fun (t52:(Option Addr × Nat × Nat)) =>
  zl4 .i64 (t52.2.1:Int) 1 fun t54 =>
  zay P (Builtin.max_ #[zds,zds] zds #[(Value.int .i64 t54),(Value.int .i64 0)]) (.int .i64) w_15 fun (t55:Int) =>
  zay P (Instr.sliceAt qw (Value.slice t51.1 t51.2.1 t51.2.2) none (some (Value.int .i64 t55)) none) .slc w_15 fun (t56:(Option Addr × Nat × Nat)) =>
  stC (⟨b5,0,none⟩:Addr) (Value.slice t56.1 t56.2.1 t56.2.2) w_15 fun w_18 =>
  k_4 () w_18) (
  ld .slc (⟨b5,0,none⟩:Addr) w_15 fun (t33:(Option Addr × Nat × Nat)) =>
  zaf P (Instr.buildSlice qw 1 #[(0,(Value.string x))]) .slc w_15 fun (t35:(Option Addr × Nat × Nat)) w_19 =>
  zaf P (Builtin.append_ #[qw,qw] qw #[(Value.slice t33.1 t33.2.1 t33.2.2),(Value.slice t35.1 t35.2.1 t35.2.2)]) .slc w_19 fun (t36:(Option Addr × Nat × Nat)) w_20 =>
  stC (⟨b5,0,none⟩:Addr) (Value.slice t36.1 t36.2.1 t36.2.2) w_20 fun w_21 =>
  k_4 () w_21))))) (fun _ w_22 =>
  k_3 () w_22)) (fun _ w_23 =>
  kc w_23)) (fun D w_24 =>
  ld .slc (⟨b5,0,none⟩:Addr) w_24 fun (t57:(Option Addr × Nat × Nat)) =>
  xg (decide ((t57.2.1:Int) > 8)) (
  stC (⟨b2,0,none⟩:Addr) (Value.slice none 0 0) w_24 fun w_25 =>
  stC (⟨b3,0,none⟩:Addr) (Value.int .i64 42) w_25 fun w_26 =>
  (w_26.heap[D]?=some (.deferred (some []))∧∀ w_27,w_27=World.putObj w_26 D (.deferred none) →
  ld .slc (⟨b2,0,none⟩:Addr) w_27 fun (t2_3:(Option Addr × Nat × Nat)) =>
  ld (.int .i64) (⟨b3,0,none⟩:Addr) w_27 fun (t3_3:Int) =>
  R (.returned (Value.tuple #[(Value.slice t2_3.1 t2_3.2.1 t2_3.2.2),(Value.int .i64 t3_3)])) w_27)) (
  ld .slc (⟨b5,0,none⟩:Addr) w_24 fun (t60:(Option Addr × Nat × Nat)) =>
  stC (⟨b2,0,none⟩:Addr) (Value.slice t60.1 t60.2.1 t60.2.2) w_24 fun w_28 =>
  stC (⟨b3,0,none⟩:Addr) (Value.int .i64 0) w_28 fun w_29 =>
  (w_29.heap[D]?=some (.deferred (some []))∧∀ w_30,w_30=World.putObj w_29 D (.deferred none) →
  ld .slc (⟨b2,0,none⟩:Addr) w_30 fun (t2_4:(Option Addr × Nat × Nat)) =>
  ld (.int .i64) (⟨b3,0,none⟩:Addr) w_30 fun (t3_4:Int) =>
  R (.returned (Value.tuple #[(Value.slice t2_4.1 t2_4.2.1 t2_4.2.2),(Value.int .i64 t3_4)])) w_30))) (fun D_1 w_31 =>
  (w_31.heap[D_1]?=some (.deferred (some []))∧∀ w_32,w_32=World.putObj w_31 D_1 (.deferred none) →
  ld .slc (⟨b2,0,none⟩:Addr) w_32 fun (t2_5:(Option Addr × Nat × Nat)) =>
  ld (.int .i64) (⟨b3,0,none⟩:Addr) w_32 fun (t3_5:Int) =>
  R (.returned (Value.tuple #[(Value.slice t2_5.1 t2_5.2.1 t2_5.2.2),(Value.int .i64 t3_5)])) w_32)) (fun _ _ _=>False))) 0 w_2))
theorem z3o (s:ByteArray) (R:Ending→World→Prop) (w:World):tr2 P qs ((Tryz.f105.body).getD .skip) zk0 [] (zb0 0 [(0,(Value.string s))]) (qhj P Tryz.f105.results.toList R) w=zop s R w:=by kernel_rfl
theorem z3n {s:ByteArray} {R:Ending→World→Prop} {w:World} (hT:zop s R w):qg P zow #[(Value.string s)] w R :=
 z02 (fn:=Tryz.f105) (c:=(Tryz.f105.body).getD .skip) (ann:=zk0) (args:=[(0,(Value.string s))]) (qs:=qs) mixed Tryz.func105 rfl (by kernel_rfl) (by kernel_rfl) z2k ((z3o s R w).symm ▸ hT)
def zic:Ann:=(.seq .leaf (.seq .leaf .leaf))
theorem zyd:okC P qs Tryz.f111.ntmps ((Tryz.f111.body).getD .skip) zic=true:=by kernel_rfl
def zlb (a:Option Addr) (a_l a_c:Nat) (b:Option Addr) (b_l b_c:Nat) (R:Ending→World→Prop) (w:World):Prop :=
  qy P zar #[(Value.slice a a_l a_c),(Value.slice b b_l b_c),(Value.func (.func zei) #[] #[])] [.int .i64] false w fun (t7:Int) w_1 =>
  R (.returned (Value.int .i64 t7)) w_1
theorem zye (a:Option Addr) (a_l a_c:Nat) (b:Option Addr) (b_l b_c:Nat) (R:Ending→World→Prop) (w:World):tr P qs ((Tryz.f111.body).getD .skip) zic (zb0 0 [(0,(Value.slice a a_l a_c)),(0,(Value.slice b b_l b_c))]) (zcb P Tryz.f111.results.toList R) w=zlb a a_l a_c b b_l b_c R w:=by kernel_rfl
theorem zym {a:Option Addr} {a_l a_c:Nat} {b:Option Addr} {b_l b_c:Nat} {R:Ending→World→Prop} {w:World} (hT:zlb a a_l a_c b b_l b_c R w):qg P zk2 #[(Value.slice a a_l a_c),(Value.slice b b_l b_c)] w R :=
 zy (fn:=Tryz.f111) (c:=(Tryz.f111.body).getD .skip) (ann:=zic) (args:=[(0,(Value.slice a a_l a_c)),(0,(Value.slice b b_l b_c))]) (qs:=qs) mixed Tryz.func111 rfl (by kernel_rfl) (by kernel_rfl) zyd ((zye a a_l a_c b b_l b_c R w).symm ▸ hT)
def zp4:Ann:=(.seq .leaf (.seq (.seq .leaf (.cond (.seq .leaf .leaf) .leaf)) (.join [] (.seq .leaf (.cond (.seq .leaf .leaf) .leaf)) (.seq (.seq .leaf (.blk (.loop [(4,.int .i64)] (.seq (.seq .leaf (.cond .leaf .leaf)) (.join [] (.jblk [] (.seq .leaf (.cond (.seq .leaf .leaf) .leaf))) .leaf))))) (.seq .leaf (.seq .leaf (.seq (.seq .leaf (.blk (.loop [(5,.slc),(6,.int .i64),(7,.int .i64)] (.seq (.seq .leaf (.cond .leaf .leaf)) (.seq (.jblk [(5,.slc),(6,.int .i64)] (.join [] (.seq .leaf (.cond .leaf .leaf)) (.seq .leaf (.seq .leaf (.seq (.seq .leaf (.cond (.seq .leaf .leaf) .leaf)) (.join [(5,.slc)] (.seq .leaf (.cond .leaf .leaf)) (.seq .leaf (.cond .leaf .leaf)))))))) .leaf))))) (.seq (.seq .leaf (.cond (.seq .leaf .leaf) .leaf)) (.seq .leaf .leaf)))))))))
theorem qct:okC P qs Tryz.f116.ntmps ((Tryz.f116.body).getD .skip) zp4=true:=by kernel_rfl
def zto (s:ByteArray) (R:Ending→World→Prop) (w:World):Prop :=
  xg (decide ((s.size:Int) > 256)) (
  R (.returned (Value.tuple #[(Value.slice none 0 0),(Value.int .i64 2)])) w) (
  joinP Unit (fun k =>
  xg ((s.size:Int) == 0) (
  R (.returned (Value.tuple #[(Value.slice none 0 0),(Value.int .i64 40)])) w) (
  ztu s 0 fun t17 =>
  xg (t17 != 47) (
  R (.returned (Value.tuple #[(Value.slice none 0 0),(Value.int .i64 40)])) w) (
  k () w))) (fun _ w_1 =>
  zav Int (fun s_2 w_2 k_1 =>
  xg (decide (s_2 < (s.size:Int))) (
  joinP Unit (fun k_2 =>
  joinP Unit (fun k_3 =>
  ztu s s_2 fun t28 =>
  xg (t28 != 47) (
  ztu s s_2 fun t33 =>
  zg5 P zqg #[(Value.int .u8 t33)] [.bool] false w_2 fun (t34:Bool) =>
  xg (!t34) (
  R (.returned (Value.tuple #[(Value.slice none 0 0),(Value.int .i64 40)])) w_2) (
  k_3 () w_2)) (
  k_3 () w_2)) (fun _ w_3 =>
  k_2 () w_3)) (fun _ w_4 =>
  za7 .i64 s_2 1 fun t25 =>
  k_1 t25 w_4)) (
  zav ((Option Addr × Nat × Nat) × Int × Int) (fun s_5 w_5 k_4 =>
  xg (decide (s_5.2.2≤(s.size:Int))) (
  joinP ((Option Addr × Nat × Nat) × Int) (fun k_5 =>
  joinP Unit (fun k_6 =>
  xg (decide (s_5.2.2 < (s.size:Int))) (
  ztu s s_5.2.2 fun t50 =>
  xg (t50 != 47) (
  k_5 ((s_5.1.1,s_5.1.2.1,s_5.1.2.2),s_5.2.1) w_5) (
  k_6 () w_5)) (
  k_6 () w_5)) (fun _ w_6 =>
  zay P (Instr.sliceAt qc (Value.string s) (some (Value.int .i64 s_5.2.1)) (some (Value.int .i64 s_5.2.2)) none) .str w_6 fun (t56:ByteArray) =>
  za7 .i64 s_5.2.2 1 fun t58 =>
  xg (decide ((t56.size:Int) > 16)) (
  R (.returned (Value.tuple #[(Value.slice none 0 0),(Value.int .i64 41)])) w_6) (
  joinP (Option Addr × Nat × Nat) (fun k_7 =>
  xg (t56.toList == (ByteArray.mk #[46,46]).toList) (
  xg (decide ((s_5.1.2.1:Int) > 0)) (
  zaf P (Instr.buildSlice qw 0 #[]) .slc w_6 fun (t69:(Option Addr × Nat × Nat)) w_7 =>
  zl4 .i64 (s_5.1.2.1:Int) 1 fun t73 =>
  zay P (Instr.sliceAt qw (Value.slice s_5.1.1 s_5.1.2.1 s_5.1.2.2) none (some (Value.int .i64 t73)) none) .slc w_7 fun (t74:(Option Addr × Nat × Nat)) =>
  zaf P (Builtin.append_ #[qw,qw] qw #[(Value.slice t69.1 t69.2.1 t69.2.2),(Value.slice t74.1 t74.2.1 t74.2.2)]) .slc w_7 fun (t75:(Option Addr × Nat × Nat)) w_8 =>
  k_7 (t75.1,t75.2.1,t75.2.2) w_8) (
  k_7 (s_5.1.1,s_5.1.2.1,s_5.1.2.2) w_6)) (
  k_7 (s_5.1.1,s_5.1.2.1,s_5.1.2.2) w_6)) (fun s_7 w_9 =>
  xg (!(t56.toList == (ByteArray.mk #[]).toList)) (
  xg (!(t56.toList == (ByteArray.mk #[46]).toList)) (
  xg (!(t56.toList == (ByteArray.mk #[46,46]).toList)) (
  zaf P (Instr.buildSlice qw 1 #[(0,(Value.string t56))]) .slc w_9 fun (t88:(Option Addr × Nat × Nat)) w_10 =>
  zaf P (Builtin.append_ #[qw,qw] qw #[(Value.slice s_7.1 s_7.2.1 s_7.2.2),(Value.slice t88.1 t88.2.1 t88.2.2)]) .slc w_10 fun (t89:(Option Addr × Nat × Nat)) w_11 =>
  k_5 ((t89.1,t89.2.1,t89.2.2),t58) w_11) (
  k_5 ((s_7.1,s_7.2.1,s_7.2.2),t58) w_9)) (
  k_5 ((s_7.1,s_7.2.1,s_7.2.2),t58) w_9)) (
  k_5 ((s_7.1,s_7.2.1,s_7.2.2),t58) w_9))))) (fun s_8 w_12 =>
  za7 .i64 s_5.2.2 1 fun t42 =>
  k_4 ((s_8.1.1,s_8.1.2.1,s_8.1.2.2),s_8.2,t42) w_12)) (
  xg (decide ((s_5.1.2.1:Int) > 8)) (
  R (.returned (Value.tuple #[(Value.slice none 0 0),(Value.int .i64 42)])) w_5) (
  R (.returned (Value.tuple #[(Value.slice s_5.1.1 s_5.1.2.1 s_5.1.2.2),(Value.int .i64 0)])) w_5))) ((none,0,0),1,1) w_2)) 0 w_1))
theorem qar (s:ByteArray) (R:Ending→World→Prop) (w:World):tr P qs ((Tryz.f116.body).getD .skip) zp4 (zb0 0 [(0,(Value.string s))]) (zcb P Tryz.f116.results.toList R) w=zto s R w:=by kernel_rfl
theorem z9l {s:ByteArray} {R:Ending→World→Prop} {w:World} (hT:zto s R w):qg P zog #[(Value.string s)] w R :=
 zy (fn:=Tryz.f116) (c:=(Tryz.f116.body).getD .skip) (ann:=zp4) (args:=[(0,(Value.string s))]) (qs:=qs) mixed Tryz.func116 rfl (by kernel_rfl) (by kernel_rfl) qct ((qar s R w).symm ▸ hT)
def zmo:Ann:=(.seq .leaf (.seq (.seq .leaf (.cond (.seq .leaf .leaf) .leaf)) (.seq (.seq .leaf (.blk (.loop [(5,.int .i64)] (.seq (.seq .leaf (.cond .leaf .leaf)) (.seq (.blk (.seq (.tree (.op 0 [] (.op 1 [] (.op 2 [] (.op 4 [] (.op 5 [] (.op 6 [] (.op 3 [] (.op 7 [] (.op 8 [] .done)))))))))) (.cond (.seq .leaf .leaf) .leaf))) .leaf))))) (.seq .leaf .leaf))))
theorem z7c:okC P qs Tryz.f118.ntmps ((Tryz.f118.body).getD .skip) zmo=true:=by kernel_rfl
def zry (path:Option Addr) (path_l zsv:Nat) (of:Option Addr) (of_l of_c:Nat) (R:Ending→World→Prop) (w:World):Prop :=
  xg (decide ((path_l:Int) < (of_l:Int))) (
  R (.returned (Value.bool false)) w) (
  zav Int (fun s w_1 k =>
  xg (decide (s < (of_l:Int))) (
  zbd w_1 fun w_2 =>
  ixS path path_l 1 s fun t19 =>
  ixS of of_l 1 s fun t23 =>
  ld .str t19 w_2 fun (t20:ByteArray) =>
  ld .str t23 w_2 fun (t24:ByteArray) =>
  xg (!(t20.toList == t24.toList)) (
  R (.returned (Value.bool false)) w_2) (
  za7 .i64 s 1 fun t16 =>
  k t16 w_2)) (
  R (.returned (Value.bool true)) w_1)) 0 w)
theorem z8q (path:Option Addr) (path_l zsv:Nat) (of:Option Addr) (of_l of_c:Nat) (R:Ending→World→Prop) (w:World):tr P qs ((Tryz.f118.body).getD .skip) zmo (zb0 0 [(0,(Value.slice path path_l zsv)),(0,(Value.slice of of_l of_c))]) (zcb P Tryz.f118.results.toList R) w=zry path path_l zsv of of_l of_c R w:=by kernel_rfl
theorem z6i {path:Option Addr} {path_l zsv:Nat} {of:Option Addr} {of_l of_c:Nat} {R:Ending→World→Prop} {w:World} (hT:zry path path_l zsv of of_l of_c R w):qg P zi1 #[(Value.slice path path_l zsv),(Value.slice of of_l of_c)] w R :=
 zy (fn:=Tryz.f118) (c:=(Tryz.f118.body).getD .skip) (ann:=zmo) (args:=[(0,(Value.slice path path_l zsv)),(0,(Value.slice of of_l of_c))]) (qs:=qs) mixed Tryz.func118 rfl (by kernel_rfl) (by kernel_rfl) z7c ((z8q path path_l zsv of of_l of_c R w).symm ▸ hT)
def zr2:Ann:=(.seq .leaf (.seq (.seq .leaf (.cond (.seq .leaf .leaf) .leaf)) (.seq .leaf (.seq (.seq .leaf (.blk (.loop [(3,.str),(4,.int .i64)] (.seq (.seq .leaf (.cond .leaf .leaf)) (.seq (.blk .leaf) .leaf))))) (.seq .leaf .leaf)))))
theorem qep:okC P qs Tryz.f119.ntmps ((Tryz.f119.body).getD .skip) zr2=true:=by kernel_rfl
def zwq (names:Option Addr) (names_l names_c:Nat) (R:Ending→World→Prop) (w:World):Prop :=
  xg ((names_l:Int) == 0) (
  R (.returned (Value.string (ByteArray.mk #[47]))) w) (
  zav (ByteArray × Int) (fun s w_1 k =>
  xg (decide (s.2 < (names_l:Int))) (
  qlf s.1 (ByteArray.mk #[47]) fun t15 =>
  ixS names names_l 1 s.2 fun t18 =>
  ld .str t18 w_1 fun (t19:ByteArray) =>
  qlf t15 t19 fun t20 =>
  za7 .i64 s.2 1 fun t13 =>
  k (t20,t13) w_1) (
  R (.returned (Value.string s.1)) w_1)) ((ByteArray.mk #[]),0) w)
theorem qdh (names:Option Addr) (names_l names_c:Nat) (R:Ending→World→Prop) (w:World):tr P qs ((Tryz.f119.body).getD .skip) zr2 (zb0 0 [(0,(Value.slice names names_l names_c))]) (zcb P Tryz.f119.results.toList R) w=zwq names names_l names_c R w:=by kernel_rfl
theorem qdl {names:Option Addr} {names_l names_c:Nat} {R:Ending→World→Prop} {w:World} (hT:zwq names names_l names_c R w):qg P zij #[(Value.slice names names_l names_c)] w R :=
 zy (fn:=Tryz.f119) (c:=(Tryz.f119.body).getD .skip) (ann:=zr2) (args:=[(0,(Value.slice names names_l names_c))]) (qs:=qs) mixed Tryz.func119 rfl (by kernel_rfl) (by kernel_rfl) qep ((qdh names names_l names_c R w).symm ▸ hT)
def zrk:Ann:=(.seq .leaf (.join [] (.seq .leaf (.cond (.seq .leaf .leaf) .leaf)) (.seq (.seq .leaf (.blk (.loop [(3,.int .i64)] (.seq (.seq .leaf (.cond .leaf .leaf)) (.seq (.blk (.seq .leaf (.cond (.seq .leaf .leaf) .leaf))) .leaf))))) (.seq .leaf .leaf))))
theorem qec:okC P qs Tryz.f129.ntmps ((Tryz.f129.body).getD .skip) zrk=true:=by kernel_rfl
def zwv (s:ByteArray) (R:Ending→World→Prop) (w:World):Prop :=
  joinP Unit (fun k =>
  xg (decide ((s.size:Int) < 1)) (
  R (.returned (Value.bool false)) w) (
  xg (decide ((s.size:Int) > 16)) (
  R (.returned (Value.bool false)) w) (
  xg (s.toList == (ByteArray.mk #[46]).toList) (
  R (.returned (Value.bool false)) w) (
  xg (s.toList == (ByteArray.mk #[46,46]).toList) (
  R (.returned (Value.bool false)) w) (
  k () w))))) (fun _ w_1 =>
  zav Int (fun s_2 w_2 k_1 =>
  xg (decide (s_2 < (s.size:Int))) (
  ztu s s_2 fun t28 =>
  zg5 P zqg #[(Value.int .u8 t28)] [.bool] false w_2 fun (t29:Bool) =>
  xg (!t29) (
  R (.returned (Value.bool false)) w_2) (
  za7 .i64 s_2 1 fun t25 =>
  k_1 t25 w_2)) (
  R (.returned (Value.bool true)) w_2)) 0 w_1)
theorem qdd (s:ByteArray) (R:Ending→World→Prop) (w:World):tr P qs ((Tryz.f129.body).getD .skip) zrk (zb0 0 [(0,(Value.string s))]) (zcb P Tryz.f129.results.toList R) w=zwv s R w:=by kernel_rfl
theorem qew {s:ByteArray} {R:Ending→World→Prop} {w:World} (hT:zwv s R w):qg P zwn #[(Value.string s)] w R :=
 zy (fn:=Tryz.f129) (c:=(Tryz.f129.body).getD .skip) (ann:=zrk) (args:=[(0,(Value.string s))]) (qs:=qs) mixed Tryz.func129 rfl (by kernel_rfl) (by kernel_rfl) qec ((qdd s R w).symm ▸ hT)
def zsz:Ann:=(.seq .leaf (.seq .leaf .leaf))
theorem qhy:okC P qs Tryz.f132.ntmps ((Tryz.f132.body).getD .skip) zsz=true:=by kernel_rfl
def z0c  (R:Ending→World→Prop) (w:World):Prop :=
  zay P (Instr.build ku #[(0,(Value.int .u32 1779033703)),(1,(Value.int .u32 3144134277)),(2,(Value.int .u32 1013904242)),(3,(Value.int .u32 2773480762)),(4,(Value.int .u32 1359893119)),(5,(Value.int .u32 2600822924)),(6,(Value.int .u32 528734635)),(7,(Value.int .u32 1541459225))]) .any w fun (t1:Value) =>
  zay P (Instr.build za1 #[(0,t1)]) .any w fun (t2:Value) =>
  zbj (Value.cells t2) za1 w fun b3 w_1 =>
  R (.returned (Value.pointer (some (⟨b3,0,none⟩:Addr)))) w_1
theorem qg2  (R:Ending→World→Prop) (w:World):tr P qs ((Tryz.f132.body).getD .skip) zsz (zb0 0 []) (zcb P Tryz.f132.results.toList R) w=z0c  R w:=by kernel_rfl
theorem qii  {R:Ending→World→Prop} {w:World} (hT:z0c  R w):qg P zvu #[] w R :=
 zy (fn:=Tryz.f132) (c:=(Tryz.f132.body).getD .skip) (ann:=zsz) (args:=[]) (qs:=qs) mixed Tryz.func132 rfl (by kernel_rfl) (by kernel_rfl) qhy ((qg2  R w).symm ▸ hT)
def zhm:Ann:=(.seq (.seq .leaf (.cond .leaf .leaf)) (.seq .leaf (.blk (.loop [(1,.slc)] (.seq (.seq .leaf (.cond .leaf .leaf)) (.jblk [(1,.slc)] (.seq (.tree (.op 0 [] (.op 1 [] (.op 2 [] (.op 3 [] (.op 4 [] (.op 5 [] (.op 8 [] (.op 6 [] (.op 7 [] (.op 9 [] (.op 10 [] .done)))))))))))) (.seq (.tree (.op 0 [] (.op 1 [] (.op 2 [] (.op 3 [] (.op 5 [] (.op 7 [] (.op 8 [] (.op 4 [] (.op 6 [] (.op 10 [] (.op 11 [] (.op 9 [] (.op 12 [9] (.op 13 [] .done))))))))))))))) (.seq .leaf (.cond (.seq .leaf .leaf) .leaf))))))))))
theorem zv9:okC P qs Tryz.f133.ntmps ((Tryz.f133.body).getD .skip) zhm=true:=by kernel_rfl
def zjx (hv:Option Addr) (b:Option Addr) (b_l b_c:Nat) (R:Ending→World→Prop) (w:World):Prop :=
  xg (Option.isNone hv) (
  R (.returned (Value.tuple #[])) w) (
  zx hv fun p =>
  ld (.int .i64) (Addr.add p 73) w fun (t10:Int) =>
  za7 .i64 t10 (b_l:Int) fun t13 =>
  zx hv fun p_1 =>
  stC (Addr.add p_1 73) (Value.int .i64 t13) w fun w_1 =>
  zav (Option Addr × Nat × Nat) (fun s w_2 k =>
  xg (decide ((s.2.1:Int) > 0)) (
  joinP (Option Addr × Nat × Nat) (fun k_1 =>
  zbd w_2 fun w_3 =>
  zx hv fun p_2 =>
  zx hv fun p_3 =>
  ld (.int .i64) (Addr.add p_3 72) w_3 fun (t25:Int) =>
  zay P (Instr.sliceAt zwc (Value.pointer (some (Addr.add p_2 8))) (some (Value.int .i64 t25)) none none) .slc w_3 fun (t26:(Option Addr × Nat × Nat)) =>
  zaf P (Builtin.copy_ #[zk,zk] zds #[(Value.slice t26.1 t26.2.1 t26.2.2),(Value.slice s.1 s.2.1 s.2.2)]) (.int .i64) w_3 fun (t28:Int) w_4 =>
  zbd w_4 fun w_5 =>
  zx hv fun p_4 =>
  ld (.int .i64) (Addr.add p_4 72) w_5 fun (t33:Int) =>
  za7 .i64 t33 t28 fun t35 =>
  zx hv fun p_5 =>
  zay P (Instr.sliceAt zk (Value.slice s.1 s.2.1 s.2.2) (some (Value.int .i64 t28)) none none) .slc w_5 fun (t38:(Option Addr × Nat × Nat)) =>
  stC (Addr.add p_5 72) (Value.int .i64 t35) w_5 fun w_6 =>
  ((zay P (Instr.sliceAt zk (Value.slice s.1 s.2.1 s.2.2) (some (Value.int .i64 t28)) none none) .slc w_6 fun (t38_1:(Option Addr × Nat × Nat)) =>
  (Value.slice t38_1.1 t38_1.2.1 t38_1.2.2)=(Value.slice t38.1 t38.2.1 t38.2.2)) ∧
  zx hv fun p_6 =>
  ld (.int .i64) (Addr.add p_6 72) w_6 fun (t44:Int) =>
  xg (t44 == 64) (
  zx hv fun p_7 =>
  zay P (Instr.sliceAt zwc (Value.pointer (some (Addr.add p_7 8))) none none none) .slc w_6 fun (t50:(Option Addr × Nat × Nat)) =>
  qy P zm4 #[(Value.pointer hv),(Value.slice t50.1 t50.2.1 t50.2.2)] [] true w_6 fun (_:Unit) w_7 =>
  zx hv fun p_8 =>
  stC (Addr.add p_8 72) (Value.int .i64 0) w_7 fun w_8 =>
  k_1 (t38.1,t38.2.1,t38.2.2) w_8) (
  k_1 (t38.1,t38.2.1,t38.2.2) w_6))) (fun s_1 w_9 =>
  k (s_1.1,s_1.2.1,s_1.2.2) w_9)) (
  R (.returned (Value.tuple #[])) w_2)) (b,b_l,b_c) w_1)
theorem zxc (hv:Option Addr) (b:Option Addr) (b_l b_c:Nat) (R:Ending→World→Prop) (w:World):tr P qs ((Tryz.f133.body).getD .skip) zhm (zb0 0 [(0,(Value.pointer hv)),(0,(Value.slice b b_l b_c))]) (zcb P Tryz.f133.results.toList R) w=zjx hv b b_l b_c R w:=by kernel_rfl
theorem zxa {hv:Option Addr} {b:Option Addr} {b_l b_c:Nat} {R:Ending→World→Prop} {w:World} (hT:zjx hv b b_l b_c R w):qg P zd6 #[(Value.pointer hv),(Value.slice b b_l b_c)] w R :=
 zy (fn:=Tryz.f133) (c:=(Tryz.f133.body).getD .skip) (ann:=zhm) (args:=[(0,(Value.pointer hv)),(0,(Value.slice b b_l b_c))]) (qs:=qs) mixed Tryz.func133 rfl (by kernel_rfl) (by kernel_rfl) zv9 ((zxc hv b b_l b_c R w).symm ▸ hT)
def zjy:Ann:=(.seq .leaf (.join [(0,.ptr)] (.seq .leaf (.cond .leaf .leaf)) (.seq .leaf (.seq .leaf (.seq .leaf (.seq (.blk (.loop [] (.seq (.seq .leaf (.cond .leaf .leaf)) (.blk .leaf)))) (.seq .leaf (.seq (.seq .leaf (.blk (.loop [(27,.int .i64)] (.seq .leaf (.seq (.cond .leaf .leaf) (.seq (.blk (.seq .leaf .leaf)) .leaf)))))) (.seq .leaf (.seq .leaf (.seq (.seq .leaf (.blk (.loop [(43,.int .i64)] (.seq .leaf (.seq (.cond .leaf .leaf) (.seq (.blk (.seq .leaf .leaf)) .leaf)))))) (.seq .leaf .leaf))))))))))))
theorem zzy:okC P qs Tryz.f134.ntmps ((Tryz.f134.body).getD .skip) zjy=true:=by kernel_rfl
def zmq (hv:Option Addr) (R:Ending→World→Prop) (w:World):Prop :=
  zbj (zc P zf) zf w fun b2 w_1 =>
  joinP (Option Addr) (fun k =>
  xg (Option.isNone hv) (
  qy P zvu #[] [.ptr] false w_1 fun (t12:(Option Addr)) w_2 =>
  k t12 w_2) (
  k hv w_1)) (fun s w_3 =>
  zx s fun p =>
  ldA P 74 p w_3 fun t15 =>
  zbj (zc P za1) za1 w_3 fun b3 w_4 =>
  zbs P (storeVar za1 (⟨b3,0,none⟩:Addr) (Value.agg t15)) w_4 fun w_5 =>
  ld (.int .i64) (⟨b3,73,none⟩:Addr) w_5 fun (t17:Int) =>
  cvI .u64 t17 fun t18 =>
  zy3 .u64 t18 8 fun t19 =>
  zaf P (Instr.buildSlice zk 1 #[(0,(Value.int .u8 128))]) .slc w_5 fun (t20:(Option Addr × Nat × Nat)) w_6 =>
  qy P zd6 #[(Value.pointer (some (⟨b3,0,none⟩:Addr))),(Value.slice t20.1 t20.2.1 t20.2.2)] [] true w_6 fun (_:Unit) w_7 =>
  zav Unit (fun _ w_8 k_1 =>
  ld (.int .i64) (⟨b3,72,none⟩:Addr) w_8 fun (t23:Int) =>
  xg (t23 != 56) (
  zaf P (Instr.buildSlice zk 1 #[(0,(Value.int .u8 0))]) .slc w_8 fun (t25:(Option Addr × Nat × Nat)) w_9 =>
  qy P zd6 #[(Value.pointer (some (⟨b3,0,none⟩:Addr))),(Value.slice t25.1 t25.2.1 t25.2.2)] [] true w_9 fun (_:Unit) w_10 =>
  k_1 () w_10) (
  zbj (zc P zn7) zn7 w_8 fun b5 w_11 =>
  zav Int (fun s_2 w_12 k_2 =>
  xg (decide (s_2 < 8)) (
  zy3 .i64 8 s_2 fun t33 =>
  zl4 .i64 56 t33 fun t34 =>
  z9b .u64 t19 t34 fun t35 =>
  cvI .u8 t35 fun t36 =>
  ixR (⟨b5,0,none⟩:Addr) 8 1 s_2 fun t37 =>
  stC t37 (Value.int .u8 t36) w_12 fun w_13 =>
  za7 .i64 s_2 1 fun t38 =>
  k_2 t38 w_13) (
  zay P (Instr.sliceAt zn7 (Value.pointer (some (⟨b5,0,none⟩:Addr))) none none none) .slc w_12 fun (t39:(Option Addr × Nat × Nat)) =>
  qy P zd6 #[(Value.pointer (some (⟨b3,0,none⟩:Addr))),(Value.slice t39.1 t39.2.1 t39.2.2)] [] true w_12 fun (_:Unit) w_14 =>
  zbj (zc P zf) zf w_14 fun b7 w_15 =>
  ldA P 8 (⟨b3,0,none⟩:Addr) w_15 fun t42 =>
  zav Int (fun s_3 w_16 k_3 =>
  xg (decide (s_3 < 8)) (
  zay P (Instr.index ku (Value.agg t42) (Value.int .i64 s_3)) (.int .u32) w_16 fun (t46:Int) =>
  zy3 .i64 4 s_3 fun t48 =>
  zy3 .i64 4 s_3 fun t50 =>
  za7 .i64 t50 1 fun t51 =>
  zy3 .i64 4 s_3 fun t53 =>
  za7 .i64 t53 2 fun t54 =>
  zy3 .i64 4 s_3 fun t56 =>
  za7 .i64 t56 3 fun t57 =>
  z9b .u32 t46 24 fun t59 =>
  cvI .u8 t59 fun t60 =>
  z9b .u32 t46 16 fun t62 =>
  cvI .u8 t62 fun t63 =>
  z9b .u32 t46 8 fun t65 =>
  cvI .u8 t65 fun t66 =>
  cvI .u8 t46 fun t68 =>
  ixR (⟨b7,0,none⟩:Addr) 32 1 t48 fun t69 =>
  stC t69 (Value.int .u8 t60) w_16 fun w_17 =>
  ixR (⟨b7,0,none⟩:Addr) 32 1 t51 fun t70 =>
  stC t70 (Value.int .u8 t63) w_17 fun w_18 =>
  ixR (⟨b7,0,none⟩:Addr) 32 1 t54 fun t71 =>
  stC t71 (Value.int .u8 t66) w_18 fun w_19 =>
  ixR (⟨b7,0,none⟩:Addr) 32 1 t57 fun t72 =>
  stC t72 (Value.int .u8 t68) w_19 fun w_20 =>
  za7 .i64 s_3 1 fun t73 =>
  k_3 t73 w_20) (
  ldA P 32 (⟨b7,0,none⟩:Addr) w_16 fun t74 =>
  zbs P (storeVar zf (⟨b2,0,none⟩:Addr) (Value.agg t74)) w_16 fun w_21 =>
  ldA P 32 (⟨b2,0,none⟩:Addr) w_21 fun t2 =>
  R (.returned (Value.agg t2)) w_21)) 0 w_15)) 0 w_11)) () w_7)
theorem z1c (hv:Option Addr) (R:Ending→World→Prop) (w:World):tr P qs ((Tryz.f134.body).getD .skip) zjy (zb0 0 [(0,(Value.pointer hv))]) (zcb P Tryz.f134.results.toList R) w=zmq hv R w:=by kernel_rfl
theorem zz8 {hv:Option Addr} {R:Ending→World→Prop} {w:World} (hT:zmq hv R w):qg P znj #[(Value.pointer hv)] w R :=
 zy (fn:=Tryz.f134) (c:=(Tryz.f134.body).getD .skip) (ann:=zjy) (args:=[(0,(Value.pointer hv))]) (qs:=qs) mixed Tryz.func134 rfl (by kernel_rfl) (by kernel_rfl) zzy ((z1c hv R w).symm ▸ hT)
def zk9:Ann:=(.seq .leaf (.seq (.seq .leaf (.blk (.loop [(5,.int .i64)] (.seq (.seq .leaf (.cond .leaf .leaf)) (.seq (.blk (.seq (.seq (.tree (.op 0 [] (.op 1 [] (.op 3 [] (.op 4 [] (.op 2 [] (.op 5 [] (.op 6 [] .done)))))))) (.cond (.seq .leaf .leaf) .leaf)) (.seq (.tree (.op 0 [] (.op 1 [] (.op 3 [] (.op 4 [] (.op 2 [] (.op 5 [] (.op 6 [] .done)))))))) (.cond (.seq .leaf .leaf) .leaf)))) .leaf))))) (.seq .leaf .leaf)))
theorem z3z:okC P qs Tryz.f135.ntmps ((Tryz.f135.body).getD .skip) zk9=true:=by kernel_rfl
def zqf (a:Value) (b:Value) (R:Ending→World→Prop) (w:World):Prop :=
  zbj (Value.cells a) zf w fun b2 w_1 =>
  zbj (Value.cells b) zf w_1 fun b3 w_2 =>
  zav Int (fun s w_3 k =>
  xg (decide (s < 32)) (
  zbd w_3 fun w_4 =>
  ixR (⟨b2,0,none⟩:Addr) 32 1 s fun t11 =>
  ixR (⟨b3,0,none⟩:Addr) 32 1 s fun t14 =>
  ld (.int .u8) t11 w_4 fun (t12:Int) =>
  ld (.int .u8) t14 w_4 fun (t15:Int) =>
  xg (decide (t12 < t15)) (
  R (.returned (Value.int .i64 (-1))) w_4) (
  zbd w_4 fun w_5 =>
  ixR (⟨b2,0,none⟩:Addr) 32 1 s fun t18 =>
  ixR (⟨b3,0,none⟩:Addr) 32 1 s fun t21 =>
  ld (.int .u8) t18 w_5 fun (t19:Int) =>
  ld (.int .u8) t21 w_5 fun (t22:Int) =>
  xg (decide (t19 > t22)) (
  R (.returned (Value.int .i64 1)) w_5) (
  za7 .i64 s 1 fun t9 =>
  k t9 w_5))) (
  R (.returned (Value.int .i64 0)) w_3)) 0 w_2
theorem z2r (a:Value) (b:Value) (R:Ending→World→Prop) (w:World):tr P qs ((Tryz.f135.body).getD .skip) zk9 (zb0 0 [(1,a),(1,b)]) (zcb P Tryz.f135.results.toList R) w=zqf a b R w:=by kernel_rfl
theorem z2c {a:Value} {b:Value} {R:Ending→World→Prop} {w:World} (hT:zqf a b R w):qg P zo6 #[a,b] w R :=
 zy (fn:=Tryz.f135) (c:=(Tryz.f135.body).getD .skip) (ann:=zk9) (args:=[(1,a),(1,b)]) (qs:=qs) mixed Tryz.func135 rfl (by kernel_rfl) (by kernel_rfl) z3z ((z2r a b R w).symm ▸ hT)
def zjc:Ann:=(.seq .leaf (.seq .leaf .leaf))
theorem z08:okC P qs Tryz.f158.ntmps ((Tryz.f158.body).getD .skip) zjc=true:=by kernel_rfl
def znl (s:ByteArray) (R:Ending→World→Prop) (w:World):Prop :=
  zbj #[(Value.string s)] qc w fun b1 w_1 =>
  zay P (Instr.makeFunc (Go.Fn.func zgf) #[] #[(Value.pointer (some (⟨b1,0,none⟩:Addr)))]) .any w_1 fun (t3:Value) =>
  R (.returned t3) w_1
theorem z0r (s:ByteArray) (R:Ending→World→Prop) (w:World):tr P qs ((Tryz.f158.body).getD .skip) zjc (zb0 0 [(0,(Value.string s))]) (zcb P Tryz.f158.results.toList R) w=znl s R w:=by kernel_rfl
theorem zzo {s:ByteArray} {R:Ending→World→Prop} {w:World} (hT:znl s R w):qg P zna #[(Value.string s)] w R :=
 zy (fn:=Tryz.f158) (c:=(Tryz.f158.body).getD .skip) (ann:=zjc) (args:=[(0,(Value.string s))]) (qs:=qs) mixed Tryz.func158 rfl (by kernel_rfl) (by kernel_rfl) z08 ((z0r s R w).symm ▸ hT)
def zal:Ann:=(.seq .leaf (.seq (.seq .leaf (.blk (.loop [(13,.int .i64)] (.seq .leaf (.seq (.cond .leaf .leaf) (.seq (.blk (.seq .leaf (.seq (.seq .leaf (.cond (.seq .leaf .leaf) .leaf)) (.seq .leaf (.seq .leaf (.seq .leaf (.cond (.seq .leaf .leaf) .leaf))))))) .leaf)))))) (.seq (.seq .leaf (.cond (.seq .leaf .leaf) .leaf)) (.seq .leaf .leaf))))
theorem zdk:okC P qs Tryz.f162.ntmps ((Tryz.f162.body).getD .skip) zal=true:=by kernel_rfl
def zas (s1:Option Addr) (s1_l s1_c:Nat) (s2:Option Addr) (s2_l s2_c:Nat) (cmp:Value) (R:Ending→World→Prop) (w:World):Prop :=
  zav Int (fun s w_1 k =>
  xg (decide (s < (s1_l:Int))) (
  ixS s1 s1_l 1 s fun t16 =>
  ld .str t16 w_1 fun (t17:ByteArray) =>
  xg (decide (s ≥ (s2_l:Int))) (
  R (.returned (Value.int .i64 1)) w_1) (
  ixS s2 s2_l 1 s fun t24 =>
  ld .str t24 w_1 fun (t25:ByteArray) =>
  z3w P cmp #[(Value.string t17),(Value.string t25)] [.int .i64] false w_1 fun (t29:Int) w_2 =>
  xg (t29 != 0) (
  R (.returned (Value.int .i64 t29)) w_2) (
  za7 .i64 s 1 fun t33 =>
  k t33 w_2))) (
  xg (decide ((s1_l:Int) < (s2_l:Int))) (
  R (.returned (Value.int .i64 (-1))) w_1) (
  R (.returned (Value.int .i64 0)) w_1))) 0 w
theorem zdm (s1:Option Addr) (s1_l s1_c:Nat) (s2:Option Addr) (s2_l s2_c:Nat) (cmp:Value) (R:Ending→World→Prop) (w:World):tr P qs ((Tryz.f162.body).getD .skip) zal (zb0 0 [(0,(Value.slice s1 s1_l s1_c)),(0,(Value.slice s2 s2_l s2_c)),(1,cmp)]) (zcb P Tryz.f162.results.toList R) w=zas s1 s1_l s1_c s2 s2_l s2_c cmp R w:=by kernel_rfl
theorem zdi {s1:Option Addr} {s1_l s1_c:Nat} {s2:Option Addr} {s2_l s2_c:Nat} {cmp:Value} {R:Ending→World→Prop} {w:World} (hT:zas s1 s1_l s1_c s2 s2_l s2_c cmp R w):qg P zar #[(Value.slice s1 s1_l s1_c),(Value.slice s2 s2_l s2_c),cmp] w R :=
 zy (fn:=Tryz.f162) (c:=(Tryz.f162.body).getD .skip) (ann:=zal) (args:=[(0,(Value.slice s1 s1_l s1_c)),(0,(Value.slice s2 s2_l s2_c)),(1,cmp)]) (qs:=qs) mixed Tryz.func162 rfl (by kernel_rfl) (by kernel_rfl) zdk ((zdm s1 s1_l s1_c s2 s2_l s2_c cmp R w).symm ▸ hT)
def zfd:Ann:=(.seq .leaf (.seq .leaf (.seq .leaf (.seq (.seq .leaf (.cond (.seq (.seq .leaf (.cond (.seq .leaf .leaf) .leaf)) (.seq .leaf .leaf)) .leaf)) (.seq (.seq .leaf (.cond (.seq .leaf .leaf) .leaf)) (.seq (.seq .leaf (.cond (.seq .leaf .leaf) .leaf)) (.seq (.seq .leaf (.cond (.seq .leaf .leaf) .leaf)) (.seq .leaf .leaf))))))))
theorem zrr:okC P qs Tryz.f163.ntmps ((Tryz.f163.body).getD .skip) zfd=true:=by kernel_rfl
def zf6 (x:ByteArray) (y:ByteArray) (R:Ending→World→Prop) (w:World):Prop :=
  zg5 P zfk #[(Value.string x)] [.bool] false w fun (t8:Bool) =>
  zg5 P zfk #[(Value.string y)] [.bool] false w fun (t10:Bool) =>
  xg t8 (
  xg t10 (
  R (.returned (Value.int .i64 0)) w) (
  R (.returned (Value.int .i64 (-1))) w)) (
  xg t10 (
  R (.returned (Value.int .i64 1)) w) (
  xg (Op.bytesLess x.toList y.toList) (
  R (.returned (Value.int .i64 (-1))) w) (
  xg (!((Op.bytesLess x.toList y.toList) || (x.toList == y.toList))) (
  R (.returned (Value.int .i64 1)) w) (
  R (.returned (Value.int .i64 0)) w))))
theorem zq7 (x:ByteArray) (y:ByteArray) (R:Ending→World→Prop) (w:World):tr P qs ((Tryz.f163.body).getD .skip) zfd (zb0 0 [(0,(Value.string x)),(0,(Value.string y))]) (zcb P Tryz.f163.results.toList R) w=zf6 x y R w:=by kernel_rfl
theorem zrg {x:ByteArray} {y:ByteArray} {R:Ending→World→Prop} {w:World} (hT:zf6 x y R w):qg P zei #[(Value.string x),(Value.string y)] w R :=
 zy (fn:=Tryz.f163) (c:=(Tryz.f163.body).getD .skip) (ann:=zfd) (args:=[(0,(Value.string x)),(0,(Value.string y))]) (qs:=qs) mixed Tryz.func163 rfl (by kernel_rfl) (by kernel_rfl) zrr ((zq7 x y R w).symm ▸ hT)
def zll:Ann:=(.seq .leaf (.join [] (.seq .leaf (.jblk [] (.loop [(5,.int .i64)] (.join [] (.seq .leaf (.cond .leaf .leaf)) (.seq (.blk (.seq (.seq (.tree (.op 0 [] (.op 1 [] (.op 2 [] (.op 4 [] (.op 5 [] (.op 6 [] (.op 3 [] (.op 7 [] (.op 8 [] .done)))))))))) (.cond (.seq .leaf .leaf) .leaf)) (.seq (.tree (.op 0 [] (.op 1 [] (.op 2 [] (.op 4 [] (.op 5 [] (.op 6 [] (.op 3 [] (.op 7 [] (.op 8 [] .done)))))))))) (.cond (.seq .leaf .leaf) .leaf)))) .leaf))))) (.seq (.seq .leaf (.cond (.seq .leaf .leaf) .leaf)) (.seq (.seq .leaf (.cond (.seq .leaf .leaf) .leaf)) (.seq .leaf .leaf)))))
theorem z3t:okC P qs Tryz.f173.ntmps ((Tryz.f173.body).getD .skip) zll=true:=by kernel_rfl
def zp8 (a:Option Addr) (a_l a_c:Nat) (b:Option Addr) (b_l b_c:Nat) (R:Ending→World→Prop) (w:World):Prop :=
  joinP Unit (fun k =>
  joinP Unit (fun k_1 =>
  zav Int (fun s w_1 k_2 =>
  joinP Unit (fun k_3 =>
  xg (decide (s < (a_l:Int))) (
  xg (decide (s < (b_l:Int))) (
  k_3 () w_1) (
  k_1 () w_1)) (
  k_1 () w_1)) (fun _ w_2 =>
  zbd w_2 fun w_3 =>
  ixS a a_l 1 s fun t20 =>
  ixS b b_l 1 s fun t24 =>
  ld .str t20 w_3 fun (t21:ByteArray) =>
  ld .str t24 w_3 fun (t25:ByteArray) =>
  xg (Op.bytesLess t21.toList t25.toList) (
  R (.returned (Value.int .i64 (-1))) w_3) (
  zbd w_3 fun w_4 =>
  ixS a a_l 1 s fun t29 =>
  ixS b b_l 1 s fun t33 =>
  ld .str t29 w_4 fun (t30:ByteArray) =>
  ld .str t33 w_4 fun (t34:ByteArray) =>
  xg (!((Op.bytesLess t30.toList t34.toList) || (t30.toList == t34.toList))) (
  R (.returned (Value.int .i64 1)) w_4) (
  za7 .i64 s 1 fun t17 =>
  k_2 t17 w_4)))) 0 w) (fun _ w_5 =>
  k () w_5)) (fun _ w_6 =>
  xg (decide ((a_l:Int) < (b_l:Int))) (
  R (.returned (Value.int .i64 (-1))) w_6) (
  xg (decide ((a_l:Int) > (b_l:Int))) (
  R (.returned (Value.int .i64 1)) w_6) (
  R (.returned (Value.int .i64 0)) w_6)))
theorem z3q (a:Option Addr) (a_l a_c:Nat) (b:Option Addr) (b_l b_c:Nat) (R:Ending→World→Prop) (w:World):tr P qs ((Tryz.f173.body).getD .skip) zll (zb0 0 [(0,(Value.slice a a_l a_c)),(0,(Value.slice b b_l b_c))]) (zcb P Tryz.f173.results.toList R) w=zp8 a a_l a_c b b_l b_c R w:=by kernel_rfl
theorem z3p {a:Option Addr} {a_l a_c:Nat} {b:Option Addr} {b_l b_c:Nat} {R:Ending→World→Prop} {w:World} (hT:zp8 a a_l a_c b b_l b_c R w):qg P zkf #[(Value.slice a a_l a_c),(Value.slice b b_l b_c)] w R :=
 zy (fn:=Tryz.f173) (c:=(Tryz.f173.body).getD .skip) (ann:=zll) (args:=[(0,(Value.slice a a_l a_c)),(0,(Value.slice b b_l b_c))]) (qs:=qs) mixed Tryz.func173 rfl (by kernel_rfl) (by kernel_rfl) z3t ((z3q a a_l a_c b b_l b_c R w).symm ▸ hT)
def zja:Ann:=(.seq .leaf (.seq (.seq .leaf (.blk (.loop [(18,.int .i64)] (.seq .leaf (.seq (.cond .leaf .leaf) (.seq (.blk (.seq .leaf (.tree (.op 0 [] (.op 1 [] (.op 2 [] (.op 3 [] (.op 4 [] (.op 8 [] (.op 9 [] (.op 10 [] (.op 11 [] (.op 12 [] (.op 17 [] (.op 18 [] (.op 19 [] (.op 20 [] (.op 21 [] (.op 26 [] (.op 27 [] (.op 28 [] (.op 29 [] (.op 30 [] (.op 5 [] (.op 6 [] (.op 7 [] (.op 13 [] (.op 14 [] (.op 15 [] (.op 16 [] (.op 22 [] (.op 23 [] (.op 24 [] (.op 25 [] (.op 31 [] (.op 32 [] (.op 33 [] (.op 34 [] (.op 35 [] .done))))))))))))))))))))))))))))))))))))))) .leaf)))))) (.seq (.seq .leaf (.blk (.loop [(6,.int .i64)] (.seq (.seq .leaf (.cond .leaf .leaf)) (.seq (.blk (.seq (.tree (.op 0 [] (.op 1 [] (.op 2 [] (.op 4 [] (.op 5 [] (.op 6 [] (.op 3 [] (.op 8 [] (.op 7 [] (.op 9 [] .done))))))))))) (.seq .leaf (.seq .leaf (.tree (.op 0 [] (.op 1 [] (.op 2 [] (.op 3 [] (.op 4 [] (.op 7 [] (.op 9 [] (.op 10 [] (.op 11 [] (.op 5 [] (.op 6 [] (.op 8 [] (.op 12 [] (.op 13 [] (.op 14 [] (.op 15 [] .done))))))))))))))))))))) .leaf))))) (.seq .leaf (.seq (.seq .leaf (.blk (.loop [(104,.int .i64)] (.seq .leaf (.seq (.cond .leaf .leaf) (.seq (.blk (.seq .leaf (.seq (.tree (.op 0 [] (.op 3 [] (.op 7 [] (.op 1 [] (.op 2 [] (.op 4 [] (.op 5 [] (.op 6 [] (.op 8 [] (.op 9 [] (.op 10 [] (.op 11 [] .done))))))))))))) (.seq (.tree (.op 0 [] (.op 2 [] (.op 4 [] (.op 6 [] (.op 9 [] (.op 12 [] (.op 17 [] (.op 18 [] (.op 21 [] (.op 22 [] (.op 1 [] (.op 3 [] (.op 5 [] (.op 7 [] (.op 8 [] (.op 10 [] (.op 11 [] (.op 13 [] (.op 14 [] (.op 15 [] (.op 16 [] (.op 19 [] (.op 20 [] (.op 23 [] (.op 24 [] (.op 25 [] .done))))))))))))))))))))))))))) (.seq (.tree (.op 0 [] (.op 3 [] (.op 7 [] (.op 1 [] (.op 2 [] (.op 4 [] (.op 5 [] (.op 6 [] (.op 8 [] (.op 9 [] (.op 10 [] (.op 11 [] .done))))))))))))) (.seq .leaf .leaf)))))) .leaf)))))) (.seq .leaf (.blk (.loop [(194,.int .i64)] (.seq .leaf (.seq (.cond .leaf .leaf) (.seq (.blk (.seq .leaf (.tree (.op 0 [] (.op 1 [] (.op 2 [] (.op 3 [] (.op 4 [] (.op 6 [] (.op 7 [] (.op 10 [] (.op 11 [] (.op 5 [] (.op 8 [] (.op 9 [] (.op 12 [] (.op 13 [] .done))))))))))))))))) .leaf)))))))))))
theorem zz2:okC P qs Tryz.f175.ntmps ((Tryz.f175.body).getD .skip) zja=true:=by kernel_rfl
def zne (hv:Option Addr) (b:Option Addr) (b_l b_c:Nat) (R:Ending→World→Prop) (w:World):Prop :=
  zbj (zc P zao) zao w fun b4 w_1 =>
  zav Int (fun s w_2 k =>
  xg (decide (s < 16)) (
  zbd w_2 fun w_3 =>
  zy3 .i64 4 s fun t24 =>
  ixS b b_l 1 t24 fun t25 =>
  zy3 .i64 4 s fun t31 =>
  za7 .i64 t31 1 fun t32 =>
  ixS b b_l 1 t32 fun t33 =>
  zy3 .i64 4 s fun t40 =>
  za7 .i64 t40 2 fun t41 =>
  ixS b b_l 1 t41 fun t42 =>
  zy3 .i64 4 s fun t49 =>
  za7 .i64 t49 3 fun t50 =>
  ixS b b_l 1 t50 fun t51 =>
  ld (.int .u8) t25 w_3 fun (t26:Int) =>
  cvI .u32 t26 fun t27 =>
  qka .u32 t27 24 fun t28 =>
  ld (.int .u8) t33 w_3 fun (t34:Int) =>
  cvI .u32 t34 fun t35 =>
  qka .u32 t35 16 fun t36 =>
  orI .u32 t28 t36 fun t37 =>
  ld (.int .u8) t42 w_3 fun (t43:Int) =>
  cvI .u32 t43 fun t44 =>
  qka .u32 t44 8 fun t45 =>
  orI .u32 t37 t45 fun t46 =>
  ld (.int .u8) t51 w_3 fun (t52:Int) =>
  cvI .u32 t52 fun t53 =>
  orI .u32 t46 t53 fun t54 =>
  ixR (⟨b4,0,none⟩:Addr) 64 1 s fun t55 =>
  stC t55 (Value.int .u32 t54) w_3 fun w_4 =>
  za7 .i64 s 1 fun t56 =>
  k t56 w_4) (
  zav Int (fun s_1 w_5 k_1 =>
  xg (decide (s_1 < 64)) (
  zbd w_5 fun w_6 =>
  zl4 .i64 s_1 2 fun t62 =>
  ixR (⟨b4,0,none⟩:Addr) 64 1 t62 fun t63 =>
  zl4 .i64 s_1 15 fun t66 =>
  ixR (⟨b4,0,none⟩:Addr) 64 1 t66 fun t67 =>
  ld (.int .u32) t63 w_6 fun (t64:Int) =>
  ld (.int .u32) t67 w_6 fun (t68:Int) =>
  zg5 P jy #[(Value.int .u32 t64),(Value.int .i64 (-17))] [.int .u32] false w_6 fun (t70:Int) =>
  zg5 P jy #[(Value.int .u32 t64),(Value.int .i64 (-19))] [.int .u32] false w_6 fun (t72:Int) =>
  zt9 .u32 t70 t72 fun t73 =>
  z9b .u32 t64 10 fun t75 =>
  zt9 .u32 t73 t75 fun t76 =>
  zg5 P jy #[(Value.int .u32 t68),(Value.int .i64 (-7))] [.int .u32] false w_6 fun (t78:Int) =>
  zg5 P jy #[(Value.int .u32 t68),(Value.int .i64 (-18))] [.int .u32] false w_6 fun (t80:Int) =>
  zt9 .u32 t78 t80 fun t81 =>
  z9b .u32 t68 3 fun t83 =>
  zt9 .u32 t81 t83 fun t84 =>
  zbd w_6 fun w_7 =>
  zl4 .i64 s_1 7 fun t88 =>
  ixR (⟨b4,0,none⟩:Addr) 64 1 t88 fun t89 =>
  zl4 .i64 s_1 16 fun t95 =>
  ixR (⟨b4,0,none⟩:Addr) 64 1 t95 fun t96 =>
  ld (.int .u32) t89 w_7 fun (t90:Int) =>
  za7 .u32 t76 t90 fun t91 =>
  za7 .u32 t91 t84 fun t93 =>
  ld (.int .u32) t96 w_7 fun (t97:Int) =>
  za7 .u32 t93 t97 fun t98 =>
  ixR (⟨b4,0,none⟩:Addr) 64 1 s_1 fun t99 =>
  stC t99 (Value.int .u32 t98) w_7 fun w_8 =>
  za7 .i64 s_1 1 fun t60 =>
  k_1 t60 w_8) (
  zx hv fun p =>
  ldA P 8 p w_5 fun t103 =>
  zbj (zc P ku) ku w_5 fun b11 w_9 =>
  zbs P (storeVar ku (⟨b11,0,none⟩:Addr) (Value.agg t103)) w_9 fun w_10 =>
  zav Int (fun s_2 w_11 k_2 =>
  xg (decide (s_2 < 64)) (
  zbd w_11 fun w_12 =>
  ld (.int .u32) (⟨b11,4,none⟩:Addr) w_12 fun (t108:Int) =>
  zg5 P jy #[(Value.int .u32 t108),(Value.int .i64 (-6))] [.int .u32] false w_12 fun (t109:Int) =>
  ld (.int .u32) (⟨b11,4,none⟩:Addr) w_12 fun (t111:Int) =>
  zg5 P jy #[(Value.int .u32 t111),(Value.int .i64 (-11))] [.int .u32] false w_12 fun (t112:Int) =>
  zt9 .u32 t109 t112 fun t113 =>
  ld (.int .u32) (⟨b11,4,none⟩:Addr) w_12 fun (t115:Int) =>
  zg5 P jy #[(Value.int .u32 t115),(Value.int .i64 (-25))] [.int .u32] false w_12 fun (t116:Int) =>
  zt9 .u32 t113 t116 fun t117 =>
  zbd w_12 fun w_13 =>
  ixR (⟨0,0,none⟩:Addr) 64 1 s_2 fun t136 =>
  ixR (⟨b4,0,none⟩:Addr) 64 1 s_2 fun t140 =>
  ld (.int .u32) (⟨b11,7,none⟩:Addr) w_13 fun (t119:Int) =>
  za7 .u32 t119 t117 fun t121 =>
  ld (.int .u32) (⟨b11,4,none⟩:Addr) w_13 fun (t123:Int) =>
  ld (.int .u32) (⟨b11,5,none⟩:Addr) w_13 fun (t125:Int) =>
  qeq .u32 t123 t125 fun t126 =>
  ld (.int .u32) (⟨b11,4,none⟩:Addr) w_13 fun (t128:Int) =>
  zt9 .u32 (IntKind.max .u32) t128 fun t129 =>
  ld (.int .u32) (⟨b11,6,none⟩:Addr) w_13 fun (t131:Int) =>
  qeq .u32 t129 t131 fun t132 =>
  zt9 .u32 t126 t132 fun t133 =>
  za7 .u32 t121 t133 fun t134 =>
  ld (.int .u32) t136 w_13 fun (t137:Int) =>
  za7 .u32 t134 t137 fun t138 =>
  ld (.int .u32) t140 w_13 fun (t141:Int) =>
  za7 .u32 t138 t141 fun t142 =>
  zbd w_13 fun w_14 =>
  ld (.int .u32) (⟨b11,0,none⟩:Addr) w_14 fun (t144:Int) =>
  zg5 P jy #[(Value.int .u32 t144),(Value.int .i64 (-2))] [.int .u32] false w_14 fun (t145:Int) =>
  ld (.int .u32) (⟨b11,0,none⟩:Addr) w_14 fun (t147:Int) =>
  zg5 P jy #[(Value.int .u32 t147),(Value.int .i64 (-13))] [.int .u32] false w_14 fun (t148:Int) =>
  zt9 .u32 t145 t148 fun t149 =>
  ld (.int .u32) (⟨b11,0,none⟩:Addr) w_14 fun (t151:Int) =>
  zg5 P jy #[(Value.int .u32 t151),(Value.int .i64 (-22))] [.int .u32] false w_14 fun (t152:Int) =>
  zt9 .u32 t149 t152 fun t153 =>
  ld (.int .u32) (⟨b11,0,none⟩:Addr) w_14 fun (t156:Int) =>
  ld (.int .u32) (⟨b11,1,none⟩:Addr) w_14 fun (t158:Int) =>
  qeq .u32 t156 t158 fun t159 =>
  ld (.int .u32) (⟨b11,0,none⟩:Addr) w_14 fun (t161:Int) =>
  ld (.int .u32) (⟨b11,2,none⟩:Addr) w_14 fun (t163:Int) =>
  qeq .u32 t161 t163 fun t164 =>
  zt9 .u32 t159 t164 fun t165 =>
  ld (.int .u32) (⟨b11,1,none⟩:Addr) w_14 fun (t167:Int) =>
  ld (.int .u32) (⟨b11,2,none⟩:Addr) w_14 fun (t169:Int) =>
  qeq .u32 t167 t169 fun t170 =>
  zt9 .u32 t165 t170 fun t171 =>
  za7 .u32 t153 t171 fun t172 =>
  za7 .u32 t142 t172 fun t175 =>
  ld (.int .u32) (⟨b11,0,none⟩:Addr) w_14 fun (t177:Int) =>
  ld (.int .u32) (⟨b11,1,none⟩:Addr) w_14 fun (t179:Int) =>
  ld (.int .u32) (⟨b11,2,none⟩:Addr) w_14 fun (t181:Int) =>
  ld (.int .u32) (⟨b11,3,none⟩:Addr) w_14 fun (t183:Int) =>
  za7 .u32 t183 t142 fun t185 =>
  ld (.int .u32) (⟨b11,4,none⟩:Addr) w_14 fun (t187:Int) =>
  ld (.int .u32) (⟨b11,5,none⟩:Addr) w_14 fun (t189:Int) =>
  ld (.int .u32) (⟨b11,6,none⟩:Addr) w_14 fun (t191:Int) =>
  zay P (Instr.build ku #[(0,(Value.int .u32 t175)),(1,(Value.int .u32 t177)),(2,(Value.int .u32 t179)),(3,(Value.int .u32 t181)),(4,(Value.int .u32 t185)),(5,(Value.int .u32 t187)),(6,(Value.int .u32 t189)),(7,(Value.int .u32 t191))]) .any w_14 fun (t192:Value) =>
  zbs P (storeVar ku (⟨b11,0,none⟩:Addr) t192) w_14 fun w_15 =>
  za7 .i64 s_2 1 fun t193 =>
  k_2 t193 w_15) (
  zav Int (fun s_3 w_16 k_3 =>
  xg (decide (s_3 < 8)) (
  zbd w_16 fun w_17 =>
  zx hv fun p_1 =>
  ixR p_1 8 1 s_3 fun t201 =>
  ixR (⟨b11,0,none⟩:Addr) 8 1 s_3 fun t204 =>
  zx hv fun p_2 =>
  ld (.int .u32) t201 w_17 fun (t202:Int) =>
  ld (.int .u32) t204 w_17 fun (t205:Int) =>
  za7 .u32 t202 t205 fun t206 =>
  ixR p_2 8 1 s_3 fun t209 =>
  stC t209 (Value.int .u32 t206) w_17 fun w_18 =>
  za7 .i64 s_3 1 fun t210 =>
  k_3 t210 w_18) (
  R (.returned (Value.tuple #[])) w_16)) 0 w_11)) 0 w_10)) 16 w_2)) 0 w_1
theorem zzm (hv:Option Addr) (b:Option Addr) (b_l b_c:Nat) (R:Ending→World→Prop) (w:World):tr P qs ((Tryz.f175.body).getD .skip) zja (zb0 0 [(0,(Value.pointer hv)),(0,(Value.slice b b_l b_c))]) (zcb P Tryz.f175.results.toList R) w=zne hv b b_l b_c R w:=by kernel_rfl
theorem z0a {hv:Option Addr} {b:Option Addr} {b_l b_c:Nat} {R:Ending→World→Prop} {w:World} (hT:zne hv b b_l b_c R w):qg P zm4 #[(Value.pointer hv),(Value.slice b b_l b_c)] w R :=
 zy (fn:=Tryz.f175) (c:=(Tryz.f175.body).getD .skip) (ann:=zja) (args:=[(0,(Value.pointer hv)),(0,(Value.slice b b_l b_c))]) (qs:=qs) mixed Tryz.func175 rfl (by kernel_rfl) (by kernel_rfl) zz2 ((zzm hv b b_l b_c R w).symm ▸ hT)
def zhs:Ann:=(.blk (.loop [] (.seq (.seq .leaf (.cond .leaf .leaf)) (.blk (.seq .leaf (.seq (.seq .leaf (.cond .leaf .leaf)) .leaf))))))
theorem zw0:okC P qs Tryz.f188.ntmps ((Tryz.f188.body).getD .skip) zhs=true:=by kernel_rfl
def zj1 (yield:Value) (c0:Option Addr) (R:Ending→World→Prop) (w:World):Prop :=
  zav Unit (fun _ w_1 k =>
  zx c0 fun p =>
  ld .str p w_1 fun (t6:ByteArray) =>
  xg (!(t6.toList == (ByteArray.mk #[]).toList)) (
  zx c0 fun p_1 =>
  ld .str p_1 w_1 fun (t9:ByteArray) =>
  qy P zqi #[(Value.string t9),(Value.string (ByteArray.mk #[47]))] [.str,.str,.bool] true w_1 fun (t10:(ByteArray × ByteArray × Bool)) w_2 =>
  z3w P yield #[(Value.string t10.1)] [.bool] false w_2 fun (t16:Bool) w_3 =>
  xg (!t16) (
  R (.returned (Value.tuple #[])) w_3) (
  zx c0 fun p_2 =>
  stC p_2 (Value.string t10.2.1) w_3 fun w_4 =>
  k () w_4)) (
  R (.returned (Value.tuple #[])) w_1)) () w
theorem zxd (yield:Value) (c0:Option Addr) (R:Ending→World→Prop) (w:World):tr P qs ((Tryz.f188.body).getD .skip) zhs (zb0 0 [(1,yield),(0,(Value.pointer c0))]) (zcb P Tryz.f188.results.toList R) w=zj1 yield c0 R w:=by kernel_rfl
theorem zw5 {yield:Value} {c0:Option Addr} {R:Ending→World→Prop} {w:World} (hT:zj1 yield c0 R w):qg P zgf #[yield,(Value.pointer c0)] w R :=
 zy (fn:=Tryz.f188) (c:=(Tryz.f188.body).getD .skip) (ann:=zhs) (args:=[(1,yield),(0,(Value.pointer c0))]) (qs:=qs) mixed Tryz.func188 rfl (by kernel_rfl) (by kernel_rfl) zw0 ((zxd yield c0 R w).symm ▸ hT)
def zlr:Ann:=(.seq .leaf (.seq (.seq .leaf (.blk (.loop [(7,.int .i64)] (.seq .leaf (.seq (.cond .leaf .leaf) (.seq (.blk (.seq .leaf (.seq .leaf (.cond (.seq .leaf .leaf) .leaf)))) .leaf)))))) (.seq (.seq .leaf (.cond (.seq .leaf .leaf) .leaf)) (.seq .leaf .leaf))))
theorem z2m:okC P qs Tryz.f207.ntmps ((Tryz.f207.body).getD .skip) zlr=true:=by kernel_rfl
def zot (names:Option Addr) (names_l names_c:Nat) (R:Ending→World→Prop) (w:World):Prop :=
  zav Int (fun s w_1 k =>
  xg (decide (s < (names_l:Int))) (
  ixS names names_l 1 s fun t9 =>
  ld .str t9 w_1 fun (t10:ByteArray) =>
  qy P zrm #[(Value.string t10)] [.bool] false w_1 fun (t12:Bool) w_2 =>
  xg (!t12) (
  R (.returned (Value.int .i64 41)) w_2) (
  za7 .i64 s 1 fun t14 =>
  k t14 w_2)) (
  xg (decide ((names_l:Int) > 8)) (
  R (.returned (Value.int .i64 42)) w_1) (
  R (.returned (Value.int .i64 0)) w_1))) 0 w
theorem z2d (names:Option Addr) (names_l names_c:Nat) (R:Ending→World→Prop) (w:World):tr P qs ((Tryz.f207.body).getD .skip) zlr (zb0 0 [(0,(Value.slice names names_l names_c))]) (zcb P Tryz.f207.results.toList R) w=zot names names_l names_c R w:=by kernel_rfl
theorem z2e {names:Option Addr} {names_l names_c:Nat} {R:Ending→World→Prop} {w:World} (hT:zot names names_l names_c R w):qg P zpi #[(Value.slice names names_l names_c)] w R :=
 zy (fn:=Tryz.f207) (c:=(Tryz.f207.body).getD .skip) (ann:=zlr) (args:=[(0,(Value.slice names names_l names_c))]) (qs:=qs) mixed Tryz.func207 rfl (by kernel_rfl) (by kernel_rfl) z2m ((z2d names names_l names_c R w).symm ▸ hT)
def zni:Ann:=(.seq .leaf (.join [] (.seq .leaf (.cond (.seq .leaf .leaf) .leaf)) (.seq (.seq .leaf (.blk (.loop [(21,.int .i64)] (.seq .leaf (.seq (.cond .leaf .leaf) (.seq (.blk (.seq .leaf (.seq .leaf (.cond (.seq .leaf .leaf) .leaf)))) .leaf)))))) (.seq .leaf .leaf))))
theorem z8a:okC P qs Tryz.f224.ntmps ((Tryz.f224.body).getD .skip) zni=true:=by kernel_rfl
def zqu (s:ByteArray) (R:Ending→World→Prop) (w:World):Prop :=
  joinP Unit (fun k =>
  xg (s.toList == (ByteArray.mk #[]).toList) (
  R (.returned (Value.bool false)) w) (
  xg (decide ((s.size:Int) > 16)) (
  R (.returned (Value.bool false)) w) (
  xg (s.toList == (ByteArray.mk #[46]).toList) (
  R (.returned (Value.bool false)) w) (
  xg (s.toList == (ByteArray.mk #[46,46]).toList) (
  R (.returned (Value.bool false)) w) (
  k () w))))) (fun _ w_1 =>
  zav Int (fun s_2 w_2 k_1 =>
  xg (decide (s_2 < (s.size:Int))) (
  ztu s s_2 fun t26 =>
  zg5 P zko #[(Value.int .u8 t26)] [.bool] false w_2 fun (t27:Bool) =>
  xg (!t27) (
  R (.returned (Value.bool false)) w_2) (
  za7 .i64 s_2 1 fun t29 =>
  k_1 t29 w_2)) (
  R (.returned (Value.bool true)) w_2)) 0 w_1)
theorem z8j (s:ByteArray) (R:Ending→World→Prop) (w:World):tr P qs ((Tryz.f224.body).getD .skip) zni (zb0 0 [(0,(Value.string s))]) (zcb P Tryz.f224.results.toList R) w=zqu s R w:=by kernel_rfl
theorem z7q {s:ByteArray} {R:Ending→World→Prop} {w:World} (hT:zqu s R w):qg P zrm #[(Value.string s)] w R :=
 zy (fn:=Tryz.f224) (c:=(Tryz.f224.body).getD .skip) (ann:=zni) (args:=[(0,(Value.string s))]) (qs:=qs) mixed Tryz.func224 rfl (by kernel_rfl) (by kernel_rfl) z8a ((z8j s R w).symm ▸ hT)
set_option maxRecDepth 100000
def zrb:Ann:=(.seq .leaf (.seq .leaf .leaf))
theorem qev:okC P qs Tryz.f12.ntmps ((Tryz.f12.body).getD .skip) zrb=true:=by kernel_rfl
def zxi (quota:Int) (R:Ending→World→Prop) (w:World):Prop :=
  zay P (Builtin.max_ #[zds,zds] zds #[(Value.int .i64 quota),(Value.int .i64 0)]) (.int .i64) w fun (t4:Int) =>
  zaf P (Instr.makeMap zah none) .map w fun (t5:(Option Nat)) w_1 =>
  zay P (Instr.build zi4 #[(0,(Value.int .i64 t4)),(2,(Value.map t5))]) .any w_1 fun (t6:Value) =>
  zbj (Value.cells t6) zi4 w_1 fun b7 w_2 =>
  R (.returned (Value.pointer (some (⟨b7,0,none⟩:Addr)))) w_2
theorem qdg (quota:Int) (R:Ending→World→Prop) (w:World):tr P qs ((Tryz.f12.body).getD .skip) zrb (zb0 0 [(0,(Value.int .i64 quota))]) (zcb P Tryz.f12.results.toList R) w=zxi quota R w:=by kernel_rfl
theorem qdr {quota:Int} {R:Ending→World→Prop} {w:World} (hT:zxi quota R w):qg P zsa #[(Value.int .i64 quota)] w R :=
 zy (fn:=Tryz.f12) (c:=(Tryz.f12.body).getD .skip) (ann:=zrb) (args:=[(0,(Value.int .i64 quota))]) (qs:=qs) mixed Tryz.func12 rfl (by kernel_rfl) (by kernel_rfl) qev ((qdg quota R w).symm ▸ hT)
def zf5:Ann:=(.seq .leaf (.seq (.seq .leaf (.cond (.seq .leaf .leaf) .leaf)) (.seq .leaf .leaf)))
theorem ztc:okC P qs Tryz.f18.ntmps ((Tryz.f18.body).getD .skip) zf5=true:=by kernel_rfl
def zg7 (s:Option Addr) (R:Ending→World→Prop) (w:World):Prop :=
  xg (Option.isNone s) (
  R (.returned (Value.int .i64 0)) w) (
  zx s fun p =>
  ld (.int .i64) (Addr.add p 1) w fun (t8:Int) =>
  R (.returned (Value.int .i64 t8)) w)
theorem zt5 (s:Option Addr) (R:Ending→World→Prop) (w:World):tr P qs ((Tryz.f18.body).getD .skip) zf5 (zb0 0 [(0,(Value.pointer s))]) (zcb P Tryz.f18.results.toList R) w=zg7 s R w:=by kernel_rfl
theorem ztq {s:Option Addr} {R:Ending→World→Prop} {w:World} (hT:zg7 s R w):qg P zma #[(Value.pointer s)] w R :=
 zy (fn:=Tryz.f18) (c:=(Tryz.f18.body).getD .skip) (ann:=zf5) (args:=[(0,(Value.pointer s))]) (qs:=qs) mixed Tryz.func18 rfl (by kernel_rfl) (by kernel_rfl) ztc ((zt5 s R w).symm ▸ hT)
def zfv:Ann:=(.seq .leaf (.seq (.seq .leaf (.cond (.seq .leaf .leaf) .leaf)) (.seq .leaf (.seq .leaf (.seq (.seq .leaf (.blk (.loop [(6,.int .i64),(23,.int .i64)] (.seq .leaf (.seq (.cond .leaf .leaf) (.seq (.jblk [(6,.int .i64)] (.seq .leaf (.seq (.seq .leaf (.cond (.seq .leaf .leaf) .leaf)) (.seq .leaf (.seq (.seq .leaf (.seq .leaf (.cond .leaf .leaf))) (.seq (.tree (.op 0 [] (.op 2 [] (.op 1 [] (.op 3 [1] (.op 4 [] .done)))))) (.seq (.tree (.op 0 [] (.op 1 [] (.op 2 [] (.op 3 [] (.op 4 [] (.op 5 [] (.op 6 [] (.op 7 [] (.op 8 [] (.op 9 [] (.op 10 [] .done)))))))))))) (.seq .leaf (.cond .leaf .leaf))))))))) .leaf)))))) (.seq (.seq (.tree (.op 0 [] (.op 1 [] (.op 2 [] (.op 3 [] (.op 5 [] (.op 6 [] (.op 7 [] (.op 4 [] (.op 8 [] (.op 9 [] (.op 10 [] .done)))))))))))) (.cond (.seq .leaf .leaf) .leaf)) (.seq (.seq .leaf (.blk (.loop [] (.seq .leaf (.seq (.cond .leaf .leaf) (.jblk [] (.seq .leaf (.seq (.tree (.op 0 [] (.op 1 [] (.op 2 [] (.op 3 [] (.op 4 [] (.op 5 [] (.op 6 [] (.op 7 [] (.op 8 [] (.op 9 [] (.op 10 [] .done)))))))))))) (.join [] (.seq (.tree (.op 0 [] (.op 1 [] (.op 2 [] (.op 4 [] (.op 3 [4] (.op 5 [] (.op 6 [] .done)))))))) (.cond .leaf .leaf)) (.seq .leaf (.tree (.op 0 [] (.op 1 [] (.op 2 [] (.op 5 [] (.op 3 [] (.op 4 [] (.op 6 [] .done)))))))))))))))))) (.seq .leaf .leaf))))))))
theorem zsn:okC P qs Tryz.f60.ntmps ((Tryz.f60.body).getD .skip) zfv=true:=by kernel_rfl
def zgn (s:Option Addr) (list:Option Addr) (list_l list_c:Nat) (R:Ending→World→Prop) (w:World):Prop :=
  xg (Option.isNone s) (
  R (.returned (Value.int .i64 7)) w) (
  zaf P (Instr.makeMap zah none) .map w fun (t20:(Option Nat)) w_1 =>
  zav (Int × Int) (fun s_1 w_2 k =>
  xg (decide (s_1.2 < (list_l:Int))) (
  joinP Int (fun k_1 =>
  ixS list list_l 1 s_1.2 fun t25 =>
  ld .slc t25 w_2 fun (t26:(Option Addr × Nat × Nat)) =>
  xg (decide ((t26.2.1:Int) > 4096)) (
  R (.returned (Value.int .i64 2)) w_2) (
  qy P zn5 #[(Value.slice t26.1 t26.2.1 t26.2.2)] [.any] false w_2 fun (t31:Value) w_3 =>
  zbj (zc P zf) zf w_3 fun b9 w_4 =>
  zbs P (storeVar zf (⟨b9,0,none⟩:Addr) t31) w_4 fun w_5 =>
  ldA P 32 (⟨b9,0,none⟩:Addr) w_5 fun t34 =>
  qlg P (Instr.lookup zah (Value.map t20) (Value.agg t34) true) [.slc,.bool] w_5 fun (t35:((Option Addr × Nat × Nat) × Bool)) =>
  xg t35.2 (
  k_1 s_1.1 w_5) (
  zbd w_5 fun w_6 =>
  ldA P 32 (⟨b9,0,none⟩:Addr) w_6 fun t40 =>
  qy P zct #[(Value.slice t26.1 t26.2.1 t26.2.2)] [.slc] false w_6 fun (t42:(Option Addr × Nat × Nat)) w_7 =>
  ((ldA P 32 (⟨b9,0,none⟩:Addr) w_7 fun t40_1 =>
  (Value.agg t40_1)=(Value.agg t40)) ∧
  zbs P (Instr.mapUpdate zah (Value.map t20) (Value.agg t40) (Value.slice t42.1 t42.2.1 t42.2.2)) w_7 fun w_8 =>
  zbd w_8 fun w_9 =>
  zx s fun p =>
  ld .map (Addr.add p 2) w_9 fun (t47:(Option Nat)) =>
  ldA P 32 (⟨b9,0,none⟩:Addr) w_9 fun t48 =>
  qlg P (Instr.lookup zah (Value.map t47) (Value.agg t48) true) [.slc,.bool] w_9 fun (t49:((Option Addr × Nat × Nat) × Bool)) =>
  xg (!t49.2) (
  za7 .i64 s_1.1 (t26.2.1:Int) fun t57 =>
  k_1 t57 w_9) (
  k_1 s_1.1 w_9))))) (fun s_2 w_10 =>
  za7 .i64 s_1.2 1 fun t58 =>
  k (s_2,t58) w_10)) (
  zbd w_2 fun w_11 =>
  zx s fun p_1 =>
  zx s fun p_2 =>
  ld (.int .i64) p_1 w_11 fun (t63:Int) =>
  ld (.int .i64) (Addr.add p_2 1) w_11 fun (t67:Int) =>
  zl4 .i64 t63 t67 fun t68 =>
  xg (decide (s_1.1 > t68)) (
  R (.returned (Value.int .i64 3)) w_11) (
  zaf P (Instr.range zah (Value.map t20)) .ptr w_11 fun (t71:(Option Addr)) w_12 =>
  zav Unit (fun _ w_13 k_2 =>
  zaf P (Instr.next (Value.pointer t71) false znd) .any w_13 fun (t72:Value) w_14 =>
  exV t72 0 .bool fun (t73:Bool) =>
  xg t73 (
  joinP Unit (fun k_3 =>
  zay P (Instr.entry (Value.pointer t71)) .any w_14 fun (t74:Value) =>
  exV t74 0 .any fun (t75:Value) =>
  exV t74 1 .slc fun (t76:(Option Addr × Nat × Nat)) =>
  zbj (zc P zf) zf w_14 fun b14 w_15 =>
  zbs P (storeVar zf (⟨b14,0,none⟩:Addr) t75) w_15 fun w_16 =>
  zbd w_16 fun w_17 =>
  zx s fun p_3 =>
  ld .map (Addr.add p_3 2) w_17 fun (t81:(Option Nat)) =>
  ldA P 32 (⟨b14,0,none⟩:Addr) w_17 fun t82 =>
  qlg P (Instr.lookup zah (Value.map t81) (Value.agg t82) true) [.slc,.bool] w_17 fun (t83:((Option Addr × Nat × Nat) × Bool)) =>
  joinP Unit (fun k_4 =>
  zbd w_17 fun w_18 =>
  xg t83.2 (
  ldA P 32 (⟨b14,0,none⟩:Addr) w_18 fun t90 =>
  qy P zn5 #[(Value.slice t83.1.1 t83.1.2.1 t83.1.2.2)] [.any] false w_18 fun (t89:Value) w_19 =>
  ((ldA P 32 (⟨b14,0,none⟩:Addr) w_19 fun t90_1 =>
  (Value.agg t90_1)=(Value.agg t90)) ∧
  zay P (eqM .eql zf (.tmp 89) (.tmp 90) t89 (Value.agg t90)) .bool w_19 fun (t91:Bool) =>
  xg t91 (
  k_3 () w_19) (
  k_4 () w_19))) (
  ((undef=undef) ∧
  k_4 () w_18))) (fun _ w_20 =>
  zx s fun p_4 =>
  ld (.int .i64) (Addr.add p_4 1) w_20 fun (t96:Int) =>
  zl4 .i64 (t76.2.1:Int) (t83.1.2.1:Int) fun t101 =>
  za7 .i64 t96 t101 fun t102 =>
  zx s fun p_5 =>
  stC (Addr.add p_5 1) (Value.int .i64 t102) w_20 fun w_21 =>
  zbd w_21 fun w_22 =>
  zx s fun p_6 =>
  ld .map (Addr.add p_6 2) w_22 fun (t108:(Option Nat)) =>
  ldA P 32 (⟨b14,0,none⟩:Addr) w_22 fun t109 =>
  zbs P (Instr.mapUpdate zah (Value.map t108) (Value.agg t109) (Value.slice t76.1 t76.2.1 t76.2.2)) w_22 fun w_23 =>
  k_3 () w_23)) (fun _ w_24 =>
  k_2 () w_24)) (
  R (.returned (Value.int .i64 0)) w_14)) () w_12))) (0,0) w_1)
theorem zsl (s:Option Addr) (list:Option Addr) (list_l list_c:Nat) (R:Ending→World→Prop) (w:World):tr P qs ((Tryz.f60.body).getD .skip) zfv (zb0 0 [(0,(Value.pointer s)),(0,(Value.slice list list_l list_c))]) (zcb P Tryz.f60.results.toList R) w=zgn s list list_l list_c R w:=by kernel_rfl
theorem zsk {s:Option Addr} {list:Option Addr} {list_l list_c:Nat} {R:Ending→World→Prop} {w:World} (hT:zgn s list list_l list_c R w):qg P zgz #[(Value.pointer s),(Value.slice list list_l list_c)] w R :=
 zy (fn:=Tryz.f60) (c:=(Tryz.f60.body).getD .skip) (ann:=zfv) (args:=[(0,(Value.pointer s)),(0,(Value.slice list list_l list_c))]) (qs:=qs) mixed Tryz.func60 rfl (by kernel_rfl) (by kernel_rfl) zsn ((zsl s list list_l list_c R w).symm ▸ hT)
def zhi:Ann:=(.seq .leaf (.seq (.seq .leaf (.cond (.seq .leaf .leaf) .leaf)) (.seq (.tree (.op 0 [] (.op 1 [] (.op 2 [] (.op 3 [] (.op 4 [] (.op 5 [] (.op 6 [] (.op 7 [] (.op 8 [] (.op 9 [] (.op 10 [] .done)))))))))))) (.seq (.seq .leaf (.cond (.seq .leaf .leaf) .leaf)) (.seq (.seq (.tree (.op 0 [] (.op 2 [] (.op 1 [2] (.op 3 [] .done))))) (.cond (.seq .leaf .leaf) .leaf)) (.seq .leaf .leaf))))))
theorem zw4:okC P qs Tryz.f69.ntmps ((Tryz.f69.body).getD .skip) zhi=true:=by kernel_rfl
def zjv (s:Option Addr) (d:Value) (R:Ending→World→Prop) (w:World):Prop :=
  zbj (Value.cells d) zf w fun b3 w_1 =>
  xg (Option.isNone s) (
  R (.returned (Value.tuple #[(Value.slice none 0 0),(Value.int .i64 7)])) w_1) (
  zbd w_1 fun w_2 =>
  zx s fun p =>
  ld .map (Addr.add p 2) w_2 fun (t14:(Option Nat)) =>
  ldA P 32 (⟨b3,0,none⟩:Addr) w_2 fun t15 =>
  qlg P (Instr.lookup zah (Value.map t14) (Value.agg t15) true) [.slc,.bool] w_2 fun (t16:((Option Addr × Nat × Nat) × Bool)) =>
  xg (!t16.2) (
  R (.returned (Value.tuple #[(Value.slice none 0 0),(Value.int .i64 50)])) w_2) (
  zbd w_2 fun w_3 =>
  ldA P 32 (⟨b3,0,none⟩:Addr) w_3 fun t23 =>
  qy P zn5 #[(Value.slice t16.1.1 t16.1.2.1 t16.1.2.2)] [.any] false w_3 fun (t22:Value) w_4 =>
  ((ldA P 32 (⟨b3,0,none⟩:Addr) w_4 fun t23_1 =>
  (Value.agg t23_1)=(Value.agg t23)) ∧
  zay P (eqM .neq zf (.tmp 22) (.tmp 23) t22 (Value.agg t23)) .bool w_4 fun (t24:Bool) =>
  xg t24 (
  R (.returned (Value.tuple #[(Value.slice none 0 0),(Value.int .i64 51)])) w_4) (
  qy P zct #[(Value.slice t16.1.1 t16.1.2.1 t16.1.2.2)] [.slc] false w_4 fun (t26:(Option Addr × Nat × Nat)) w_5 =>
  R (.returned (Value.tuple #[(Value.slice t26.1 t26.2.1 t26.2.2),(Value.int .i64 0)])) w_5))))
theorem zwi (s:Option Addr) (d:Value) (R:Ending→World→Prop) (w:World):tr P qs ((Tryz.f69.body).getD .skip) zhi (zb0 0 [(0,(Value.pointer s)),(1,d)]) (zcb P Tryz.f69.results.toList R) w=zjv s d R w:=by kernel_rfl
theorem zw1 {s:Option Addr} {d:Value} {R:Ending→World→Prop} {w:World} (hT:zjv s d R w):qg P zj2 #[(Value.pointer s),d] w R :=
 zy (fn:=Tryz.f69) (c:=(Tryz.f69.body).getD .skip) (ann:=zhi) (args:=[(0,(Value.pointer s)),(1,d)]) (qs:=qs) mixed Tryz.func69 rfl (by kernel_rfl) (by kernel_rfl) zw4 ((zwi s d R w).symm ▸ hT)
def zdf:Ann:=(.seq .leaf (.seq (.seq .leaf (.cond (.seq .leaf .leaf) .leaf)) (.seq .leaf .leaf)))
theorem zkz:okC P qs Tryz.f115.ntmps ((Tryz.f115.body).getD .skip) zdf=true:=by kernel_rfl
def zd0 (s:Option Addr) (s_l s_c:Nat) (R:Ending→World→Prop) (w:World):Prop :=
  xg (Option.isNone s) (
  R (.returned (Value.slice none 0 0)) w) (
  zaf P (Instr.buildSlice zk 0 #[]) .slc w fun (t5:(Option Addr × Nat × Nat)) w_1 =>
  zaf P (Builtin.append_ #[zk,zk] zk #[(Value.slice t5.1 t5.2.1 t5.2.2),(Value.slice s s_l s_c)]) .slc w_1 fun (t7:(Option Addr × Nat × Nat)) w_2 =>
  R (.returned (Value.slice t7.1 t7.2.1 t7.2.2)) w_2)
theorem zlj (s:Option Addr) (s_l s_c:Nat) (R:Ending→World→Prop) (w:World):tr P qs ((Tryz.f115.body).getD .skip) zdf (zb0 0 [(0,(Value.slice s s_l s_c))]) (zcb P Tryz.f115.results.toList R) w=zd0 s s_l s_c R w:=by kernel_rfl
theorem zlo {s:Option Addr} {s_l s_c:Nat} {R:Ending→World→Prop} {w:World} (hT:zd0 s s_l s_c R w):qg P zct #[(Value.slice s s_l s_c)] w R :=
 zy (fn:=Tryz.f115) (c:=(Tryz.f115.body).getD .skip) (ann:=zdf) (args:=[(0,(Value.slice s s_l s_c))]) (qs:=qs) mixed Tryz.func115 rfl (by kernel_rfl) (by kernel_rfl) zkz ((zlj s s_l s_c R w).symm ▸ hT)
def zh5:Ann:=(.seq .leaf (.seq .leaf .leaf))
theorem zx3:okC P qs Tryz.f151.ntmps ((Tryz.f151.body).getD .skip) zh5=true:=by kernel_rfl
def zk6 (a:Option Addr) (a_l a_c:Nat) (b:Option Addr) (b_l b_c:Nat) (R:Ending→World→Prop) (w:World):Prop :=
  qy P zf2 #[(Value.slice a a_l a_c),(Value.slice b b_l b_c)] [.int .i64] false w fun (t7:Int) w_1 =>
  R (.returned (Value.int .i64 t7)) w_1
theorem zyf (a:Option Addr) (a_l a_c:Nat) (b:Option Addr) (b_l b_c:Nat) (R:Ending→World→Prop) (w:World):tr P qs ((Tryz.f151.body).getD .skip) zh5 (zb0 0 [(0,(Value.slice a a_l a_c)),(0,(Value.slice b b_l b_c))]) (zcb P Tryz.f151.results.toList R) w=zk6 a a_l a_c b b_l b_c R w:=by kernel_rfl
theorem zyc {a:Option Addr} {a_l a_c:Nat} {b:Option Addr} {b_l b_c:Nat} {R:Ending→World→Prop} {w:World} (hT:zk6 a a_l a_c b b_l b_c R w):qg P zk7 #[(Value.slice a a_l a_c),(Value.slice b b_l b_c)] w R :=
 zy (fn:=Tryz.f151) (c:=(Tryz.f151.body).getD .skip) (ann:=zh5) (args:=[(0,(Value.slice a a_l a_c)),(0,(Value.slice b b_l b_c))]) (qs:=qs) mixed Tryz.func151 rfl (by kernel_rfl) (by kernel_rfl) zx3 ((zyf a a_l a_c b b_l b_c R w).symm ▸ hT)
def zcq:Ann:=(.seq .leaf (.seq (.seq .leaf (.cond (.seq .leaf .leaf) .leaf)) (.seq .leaf .leaf)))
theorem zif:okC P qs Tryz.f154.ntmps ((Tryz.f154.body).getD .skip) zcq=true:=by kernel_rfl
def zc5 (s:Option Addr) (s_l s_c:Nat) (R:Ending→World→Prop) (w:World):Prop :=
  xg (Option.isNone s) (
  R (.returned (Value.slice none 0 0)) w) (
  zaf P (Instr.buildSlice qw 0 #[]) .slc w fun (t5:(Option Addr × Nat × Nat)) w_1 =>
  zaf P (Builtin.append_ #[qw,qw] qw #[(Value.slice t5.1 t5.2.1 t5.2.2),(Value.slice s s_l s_c)]) .slc w_1 fun (t7:(Option Addr × Nat × Nat)) w_2 =>
  R (.returned (Value.slice t7.1 t7.2.1 t7.2.2)) w_2)
theorem zh3 (s:Option Addr) (s_l s_c:Nat) (R:Ending→World→Prop) (w:World):tr P qs ((Tryz.f154.body).getD .skip) zcq (zb0 0 [(0,(Value.slice s s_l s_c))]) (zcb P Tryz.f154.results.toList R) w=zc5 s s_l s_c R w:=by kernel_rfl
theorem zin {s:Option Addr} {s_l s_c:Nat} {R:Ending→World→Prop} {w:World} (hT:zc5 s s_l s_c R w):qg P zbu #[(Value.slice s s_l s_c)] w R :=
 zy (fn:=Tryz.f154) (c:=(Tryz.f154.body).getD .skip) (ann:=zcq) (args:=[(0,(Value.slice s s_l s_c))]) (qs:=qs) mixed Tryz.func154 rfl (by kernel_rfl) (by kernel_rfl) zif ((zh3 s s_l s_c R w).symm ▸ hT)
theorem zl5 {e:Array Value→Sem Value} (he:Extern.find Tryz.f184=some e) (args:Array Value) (w:World):(callFunc zf2 args).run P w=((e args).run P w).andThen fun v w1=>.ok (.value v) w1 :=
 Go.run_callFunc_extern Tryz.func184 (by kernel_rfl) (by kernel_rfl) (by kernel_rfl) he args w
set_option maxRecDepth 100000
def zth:Ann:=(.seq .leaf (.seq .leaf .leaf))
theorem qh0:okC P qs Tryz.f13.ntmps ((Tryz.f13.body).getD .skip) zth=true:=by kernel_rfl
def zz0 (quota:Int) (R:Ending→World→Prop) (w:World):Prop :=
  zay P (Builtin.max_ #[zds,zds] zds #[(Value.int .i64 quota),(Value.int .i64 0)]) (.int .i64) w fun (t4:Int) =>
  zay P (Instr.build zgh #[(0,(Value.int .i64 t4))]) .any w fun (t5:Value) =>
  zbj (Value.cells t5) zgh w fun b6 w_1 =>
  R (.returned (Value.pointer (some (⟨b6,0,none⟩:Addr)))) w_1
theorem qgw (quota:Int) (R:Ending→World→Prop) (w:World):tr P qs ((Tryz.f13.body).getD .skip) zth (zb0 0 [(0,(Value.int .i64 quota))]) (zcb P Tryz.f13.results.toList R) w=zz0 quota R w:=by kernel_rfl
theorem qh8 {quota:Int} {R:Ending→World→Prop} {w:World} (hT:zz0 quota R w):qg P zzd #[(Value.int .i64 quota)] w R :=
 zy (fn:=Tryz.f13) (c:=(Tryz.f13.body).getD .skip) (ann:=zth) (args:=[(0,(Value.int .i64 quota))]) (qs:=qs) mixed Tryz.func13 rfl (by kernel_rfl) (by kernel_rfl) qh0 ((qgw quota R w).symm ▸ hT)
def zgw:Ann:=(.seq .leaf (.seq .leaf (.seq (.seq .leaf (.blk (.loop [(3,.int .i64),(4,.int .i64)] (.seq (.seq .leaf (.cond .leaf .leaf)) (.seq (.blk .leaf) .leaf))))) (.seq .leaf .leaf))))
theorem zu3:okC P qs Tryz.f19.ntmps ((Tryz.f19.body).getD .skip) zgw=true:=by kernel_rfl
def zh1 (s:Option Addr) (R:Ending→World→Prop) (w:World):Prop :=
  zav (Int × Int) (fun s_1 w_1 k =>
  zx s fun p =>
  ld .slc (Addr.add p 1) w_1 fun (t9:(Option Addr × Nat × Nat)) =>
  xg (decide (s_1.2 < (t9.2.1:Int))) (
  zx s fun p_1 =>
  ld .slc (Addr.add p_1 1) w_1 fun (t18:(Option Addr × Nat × Nat)) =>
  ixS t18.1 t18.2.1 33 s_1.2 fun t20 =>
  ld .slc (Addr.add t20 32) w_1 fun (t22:(Option Addr × Nat × Nat)) =>
  za7 .i64 s_1.1 (t22.2.1:Int) fun t24 =>
  za7 .i64 s_1.2 1 fun t13 =>
  k (t24,t13) w_1) (
  R (.returned (Value.int .i64 s_1.1)) w_1)) (0,0) w
theorem zv1 (s:Option Addr) (R:Ending→World→Prop) (w:World):tr P qs ((Tryz.f19.body).getD .skip) zgw (zb0 0 [(0,(Value.pointer s))]) (zcb P Tryz.f19.results.toList R) w=zh1 s R w:=by kernel_rfl
theorem zu6 {s:Option Addr} {R:Ending→World→Prop} {w:World} (hT:zh1 s R w):qg P zib #[(Value.pointer s)] w R :=
 zy (fn:=Tryz.f19) (c:=(Tryz.f19.body).getD .skip) (ann:=zgw) (args:=[(0,(Value.pointer s))]) (qs:=qs) mixed Tryz.func19 rfl (by kernel_rfl) (by kernel_rfl) zu3 ((zv1 s R w).symm ▸ hT)
def zia:Ann:=(.seq .leaf (.seq .leaf (.seq (.seq .leaf (.cond (.seq .leaf .leaf) .leaf)) (.seq (.seq (.tree (.op 0 [] (.op 1 [] (.op 2 [] (.op 4 [] (.op 3 [] (.op 5 [] (.op 6 [] (.op 7 [] (.op 9 [] (.op 8 [9] (.op 10 [] .done)))))))))))) (.cond (.seq .leaf .leaf) .leaf)) (.seq .leaf .leaf)))))
theorem zyk:okC P qs Tryz.f35.ntmps ((Tryz.f35.body).getD .skip) zia=true:=by kernel_rfl
def zk5 (s:Option Addr) (d:Value) (R:Ending→World→Prop) (w:World):Prop :=
  zbj (Value.cells d) zf w fun b3 w_1 =>
  ldA P 32 (⟨b3,0,none⟩:Addr) w_1 fun t10 =>
  qy P zd4 #[(Value.pointer s),(Value.agg t10)] [.int .i64,.bool] true w_1 fun (t11:(Int × Bool)) w_2 =>
  xg (!t11.2) (
  R (.returned (Value.tuple #[(Value.slice none 0 0),(Value.int .i64 50)])) w_2) (
  zbd w_2 fun w_3 =>
  zx s fun p =>
  ld .slc (Addr.add p 1) w_3 fun (t19:(Option Addr × Nat × Nat)) =>
  ixS t19.1 t19.2.1 33 t11.1 fun t21 =>
  ld .slc (Addr.add t21 32) w_3 fun (t23:(Option Addr × Nat × Nat)) =>
  ldA P 32 (⟨b3,0,none⟩:Addr) w_3 fun t25 =>
  qy P zi2 #[(Value.slice t23.1 t23.2.1 t23.2.2)] [.any] false w_3 fun (t24:Value) w_4 =>
  ((ldA P 32 (⟨b3,0,none⟩:Addr) w_4 fun t25_1 =>
  (Value.agg t25_1)=(Value.agg t25)) ∧
  zay P (eqM .neq zf (.tmp 24) (.tmp 25) t24 (Value.agg t25)) .bool w_4 fun (t26:Bool) =>
  xg t26 (
  R (.returned (Value.tuple #[(Value.slice none 0 0),(Value.int .i64 51)])) w_4) (
  zaf P (Instr.buildSlice zk 0 #[]) .slc w_4 fun (t27:(Option Addr × Nat × Nat)) w_5 =>
  zx s fun p_1 =>
  ld .slc (Addr.add p_1 1) w_5 fun (t31:(Option Addr × Nat × Nat)) =>
  ixS t31.1 t31.2.1 33 t11.1 fun t33 =>
  ld .slc (Addr.add t33 32) w_5 fun (t35:(Option Addr × Nat × Nat)) =>
  zaf P (Builtin.append_ #[zk,zk] zk #[(Value.slice t27.1 t27.2.1 t27.2.2),(Value.slice t35.1 t35.2.1 t35.2.2)]) .slc w_5 fun (t36:(Option Addr × Nat × Nat)) w_6 =>
  R (.returned (Value.tuple #[(Value.slice t36.1 t36.2.1 t36.2.2),(Value.int .i64 0)])) w_6)))
theorem zx4 (s:Option Addr) (d:Value) (R:Ending→World→Prop) (w:World):tr P qs ((Tryz.f35.body).getD .skip) zia (zb0 0 [(0,(Value.pointer s)),(1,d)]) (zcb P Tryz.f35.results.toList R) w=zk5 s d R w:=by kernel_rfl
theorem zyo {s:Option Addr} {d:Value} {R:Ending→World→Prop} {w:World} (hT:zk5 s d R w):qg P zla #[(Value.pointer s),d] w R :=
 zy (fn:=Tryz.f35) (c:=(Tryz.f35.body).getD .skip) (ann:=zia) (args:=[(0,(Value.pointer s)),(1,d)]) (qs:=qs) mixed Tryz.func35 rfl (by kernel_rfl) (by kernel_rfl) zyk ((zx4 s d R w).symm ▸ hT)
def zf3:Ann:=(.seq .leaf (.seq (.seq .leaf (.blk (.loop [(5,.int .i64)] (.seq (.seq .leaf (.cond .leaf .leaf)) (.seq (.blk (.seq .leaf (.cond (.seq .leaf .leaf) .leaf))) .leaf))))) (.seq .leaf (.seq (.seq .leaf (.blk (.loop [(7,.int .i64)] (.seq (.seq .leaf (.cond .leaf .leaf)) (.join [] (.jblk [] (.seq .leaf (.seq .leaf (.seq .leaf (.cond (.seq .leaf (.seq (.tree (.op 0 [] (.op 3 [] (.op 4 [] (.op 5 [] (.op 1 [] (.op 6 [] (.op 2 [1,6] (.op 7 [1] (.op 8 [] (.op 9 [] (.op 10 [] (.op 11 [] .done))))))))))))) .leaf)) (.seq (.tree (.op 0 [] (.op 1 [] (.op 2 [] (.op 4 [] (.op 3 [] (.op 5 [] (.op 6 [] (.op 7 [] (.op 9 [] (.op 8 [9] (.op 10 [] .done)))))))))))) (.cond (.tree (.op 0 [] (.op 1 [] (.op 2 [] (.op 4 [] (.op 6 [] (.op 7 [] (.op 8 [] (.op 3 [] (.op 9 [] (.op 5 [3,9] (.op 10 [3] (.op 11 [] (.op 12 [] (.op 13 [] .done))))))))))))))) .leaf))))))) .leaf))))) (.seq (.seq (.tree (.op 0 [] (.op 1 [] (.op 3 [] (.op 4 [] (.op 5 [] (.op 7 [] (.op 6 [] (.op 2 [6] (.op 8 [6] (.op 9 [] (.op 10 [] .done)))))))))))) (.cond (.seq .leaf .leaf) .leaf)) (.seq .leaf (.seq .leaf .leaf)))))))
theorem zuf:okC P qs Tryz.f63.ntmps ((Tryz.f63.body).getD .skip) zf3=true:=by kernel_rfl
def zhg (s:Option Addr) (list:Option Addr) (list_l list_c:Nat) (R:Ending→World→Prop) (w:World):Prop :=
  zav Int (fun s_1 w_1 k =>
  xg (decide (s_1 < (list_l:Int))) (
  ixS list list_l 1 s_1 fun t20 =>
  ld .slc t20 w_1 fun (t21:(Option Addr × Nat × Nat)) =>
  xg (decide ((t21.2.1:Int) > 4096)) (
  R (.returned (Value.int .i64 2)) w_1) (
  za7 .i64 s_1 1 fun t17 =>
  k t17 w_1)) (
  qy P zii #[(Value.pointer s)] [.ptr] false w_1 fun (t25:(Option Addr)) w_2 =>
  zav Int (fun s_2 w_3 k_1 =>
  xg (decide (s_2 < (list_l:Int))) (
  joinP Unit (fun k_2 =>
  joinP Unit (fun k_3 =>
  ixS list list_l 1 s_2 fun t34 =>
  ld .slc t34 w_3 fun (t35:(Option Addr × Nat × Nat)) =>
  qy P zi2 #[(Value.slice t35.1 t35.2.1 t35.2.2)] [.any] false w_3 fun (t36:Value) w_4 =>
  zbj (zc P zf) zf w_4 fun b8 w_5 =>
  zbs P (storeVar zf (⟨b8,0,none⟩:Addr) t36) w_5 fun w_6 =>
  ldA P 32 (⟨b8,0,none⟩:Addr) w_6 fun t39 =>
  qy P zd4 #[(Value.pointer t25),(Value.agg t39)] [.int .i64,.bool] true w_6 fun (t40:(Int × Bool)) w_7 =>
  xg (!t40.2) (
  zaf P (Instr.buildSlice zac 0 #[]) .slc w_7 fun (t45:(Option Addr × Nat × Nat)) w_8 =>
  zx t25 fun p =>
  ld .slc (Addr.add p 1) w_8 fun (t49:(Option Addr × Nat × Nat)) =>
  zay P (Instr.sliceAt zac (Value.slice t49.1 t49.2.1 t49.2.2) none (some (Value.int .i64 t40.1)) none) .slc w_8 fun (t51:(Option Addr × Nat × Nat)) =>
  zaf P (Builtin.append_ #[zac,zac] zac #[(Value.slice t45.1 t45.2.1 t45.2.2),(Value.slice t51.1 t51.2.1 t51.2.2)]) .slc w_8 fun (t52:(Option Addr × Nat × Nat)) w_9 =>
  zbd w_9 fun w_10 =>
  ixS list list_l 1 s_2 fun t58 =>
  ldA P 32 (⟨b8,0,none⟩:Addr) w_10 fun t54 =>
  ld .slc t58 w_10 fun (t59:(Option Addr × Nat × Nat)) =>
  zaf P (Instr.buildSlice zk 0 #[]) .slc w_10 fun (t55:(Option Addr × Nat × Nat)) w_11 =>
  ((ld .slc t58 w_11 fun (t59_1:(Option Addr × Nat × Nat)) =>
  (Value.slice t59_1.1 t59_1.2.1 t59_1.2.2)=(Value.slice t59.1 t59.2.1 t59.2.2)) ∧
  ((ldA P 32 (⟨b8,0,none⟩:Addr) w_11 fun t54_1 =>
  (Value.agg t54_1)=(Value.agg t54)) ∧
  zaf P (Builtin.append_ #[zk,zk] zk #[(Value.slice t55.1 t55.2.1 t55.2.2),(Value.slice t59.1 t59.2.1 t59.2.2)]) .slc w_11 fun (t60:(Option Addr × Nat × Nat)) w_12 =>
  ((ldA P 32 (⟨b8,0,none⟩:Addr) w_12 fun t54_2 =>
  (Value.agg t54_2)=(Value.agg t54)) ∧
  zay P (Instr.build zbv #[(0,(Value.agg t54)),(1,(Value.slice t60.1 t60.2.1 t60.2.2))]) .any w_12 fun (t61:Value) =>
  zaf P (Instr.buildSlice zac 1 #[(0,t61)]) .slc w_12 fun (t62:(Option Addr × Nat × Nat)) w_13 =>
  zaf P (Builtin.append_ #[zac,zac] zac #[(Value.slice t52.1 t52.2.1 t52.2.2),(Value.slice t62.1 t62.2.1 t62.2.2)]) .slc w_13 fun (t63:(Option Addr × Nat × Nat)) w_14 =>
  zx t25 fun p_1 =>
  ld .slc (Addr.add p_1 1) w_14 fun (t69:(Option Addr × Nat × Nat)) =>
  zay P (Instr.sliceAt zac (Value.slice t69.1 t69.2.1 t69.2.2) (some (Value.int .i64 t40.1)) none none) .slc w_14 fun (t71:(Option Addr × Nat × Nat)) =>
  zaf P (Builtin.append_ #[zac,zac] zac #[(Value.slice t63.1 t63.2.1 t63.2.2),(Value.slice t71.1 t71.2.1 t71.2.2)]) .slc w_14 fun (t72:(Option Addr × Nat × Nat)) w_15 =>
  zx t25 fun p_2 =>
  stC (Addr.add p_2 1) (Value.slice t72.1 t72.2.1 t72.2.2) w_15 fun w_16 =>
  k_3 () w_16)))) (
  zbd w_7 fun w_17 =>
  zx t25 fun p_3 =>
  ld .slc (Addr.add p_3 1) w_17 fun (t78:(Option Addr × Nat × Nat)) =>
  ixS t78.1 t78.2.1 33 t40.1 fun t80 =>
  ld .slc (Addr.add t80 32) w_17 fun (t82:(Option Addr × Nat × Nat)) =>
  ldA P 32 (⟨b8,0,none⟩:Addr) w_17 fun t84 =>
  qy P zi2 #[(Value.slice t82.1 t82.2.1 t82.2.2)] [.any] false w_17 fun (t83:Value) w_18 =>
  ((ldA P 32 (⟨b8,0,none⟩:Addr) w_18 fun t84_1 =>
  (Value.agg t84_1)=(Value.agg t84)) ∧
  zay P (eqM .neq zf (.tmp 83) (.tmp 84) t83 (Value.agg t84)) .bool w_18 fun (t85:Bool) =>
  xg t85 (
  zbd w_18 fun w_19 =>
  zx t25 fun p_4 =>
  ixS list list_l 1 s_2 fun t94 =>
  ld .slc (Addr.add p_4 1) w_19 fun (t89:(Option Addr × Nat × Nat)) =>
  ld .slc t94 w_19 fun (t95:(Option Addr × Nat × Nat)) =>
  zaf P (Instr.buildSlice zk 0 #[]) .slc w_19 fun (t91:(Option Addr × Nat × Nat)) w_20 =>
  ((ld .slc t94 w_20 fun (t95_1:(Option Addr × Nat × Nat)) =>
  (Value.slice t95_1.1 t95_1.2.1 t95_1.2.2)=(Value.slice t95.1 t95.2.1 t95.2.2)) ∧
  ((ld .slc (Addr.add p_4 1) w_20 fun (t89_1:(Option Addr × Nat × Nat)) =>
  (Value.slice t89_1.1 t89_1.2.1 t89_1.2.2)=(Value.slice t89.1 t89.2.1 t89.2.2)) ∧
  zaf P (Builtin.append_ #[zk,zk] zk #[(Value.slice t91.1 t91.2.1 t91.2.2),(Value.slice t95.1 t95.2.1 t95.2.2)]) .slc w_20 fun (t96:(Option Addr × Nat × Nat)) w_21 =>
  ((ld .slc (Addr.add p_4 1) w_21 fun (t89_2:(Option Addr × Nat × Nat)) =>
  (Value.slice t89_2.1 t89_2.2.1 t89_2.2.2)=(Value.slice t89.1 t89.2.1 t89.2.2)) ∧
  ixS t89.1 t89.2.1 33 t40.1 fun t97 =>
  stC (Addr.add t97 32) (Value.slice t96.1 t96.2.1 t96.2.2) w_21 fun w_22 =>
  k_3 () w_22)))) (
  k_3 () w_18)))) (fun _ w_23 =>
  k_2 () w_23)) (fun _ w_24 =>
  za7 .i64 s_2 1 fun t31 =>
  k_1 t31 w_24)) (
  zbd w_3 fun w_25 =>
  zx s fun p_5 =>
  ld (.int .i64) p_5 w_25 fun (t105:Int) =>
  qy P zih #[(Value.pointer t25),(Value.pointer s)] [.int .i64] false w_25 fun (t101:Int) w_26 =>
  ((ld (.int .i64) p_5 w_26 fun (t105_1:Int) =>
  (Value.int .i64 t105_1)=(Value.int .i64 t105)) ∧
  qy P zib #[(Value.pointer s)] [.int .i64] false w_26 fun (t107:Int) w_27 =>
  ((ld (.int .i64) p_5 w_27 fun (t105_2:Int) =>
  (Value.int .i64 t105_2)=(Value.int .i64 t105)) ∧
  zl4 .i64 t105 t107 fun t108 =>
  xg (decide (t101 > t108)) (
  R (.returned (Value.int .i64 3)) w_27) (
  zx t25 fun p_6 =>
  ld .slc (Addr.add p_6 1) w_27 fun (t114:(Option Addr × Nat × Nat)) =>
  zx s fun p_7 =>
  stC (Addr.add p_7 1) (Value.slice t114.1 t114.2.1 t114.2.2) w_27 fun w_28 =>
  R (.returned (Value.int .i64 0)) w_28))))) 0 w_2)) 0 w
theorem zty (s:Option Addr) (list:Option Addr) (list_l list_c:Nat) (R:Ending→World→Prop) (w:World):tr P qs ((Tryz.f63.body).getD .skip) zf3 (zb0 0 [(0,(Value.pointer s)),(0,(Value.slice list list_l list_c))]) (zcb P Tryz.f63.results.toList R) w=zhg s list list_l list_c R w:=by kernel_rfl
theorem zt0 {s:Option Addr} {list:Option Addr} {list_l list_c:Nat} {R:Ending→World→Prop} {w:World} (hT:zhg s list list_l list_c R w):qg P zfi #[(Value.pointer s),(Value.slice list list_l list_c)] w R :=
 zy (fn:=Tryz.f63) (c:=(Tryz.f63.body).getD .skip) (ann:=zf3) (args:=[(0,(Value.pointer s)),(0,(Value.slice list list_l list_c))]) (qs:=qs) mixed Tryz.func63 rfl (by kernel_rfl) (by kernel_rfl) zuf ((zty s list list_l list_c R w).symm ▸ hT)
def zg0:Ann:=(.seq .leaf (.seq .leaf (.seq (.seq .leaf (.cond (.seq .leaf .leaf) .leaf)) (.join [] (.seq .leaf (.cond (.seq .leaf .leaf) .leaf)) (.seq .leaf (.seq .leaf .leaf))))))
theorem zu5:okC P qs Tryz.f77.ntmps ((Tryz.f77.body).getD .skip) zg0=true:=by kernel_rfl
def zit (s:Option Addr) (d:Value) (atv:Int) (turn:Int) (R:Ending→World→Prop) (w:World):Prop :=
  zbj (Value.cells d) zf w fun b5 w_1 =>
  ldA P 32 (⟨b5,0,none⟩:Addr) w_1 fun t13 =>
  qy P zd4 #[(Value.pointer s),(Value.agg t13)] [.int .i64,.bool] true w_1 fun (t14:(Int × Bool)) w_2 =>
  xg (!t14.2) (
  R (.returned (Value.int .i64 50)) w_2) (
  joinP Unit (fun k =>
  xg (decide (atv < 0)) (
  R (.returned (Value.int .i64 1)) w_2) (
  zx s fun p =>
  ld .slc (Addr.add p 1) w_2 fun (t26:(Option Addr × Nat × Nat)) =>
  ixS t26.1 t26.2.1 33 t14.1 fun t28 =>
  ld .slc (Addr.add t28 32) w_2 fun (t30:(Option Addr × Nat × Nat)) =>
  xg (decide (atv ≥ (t30.2.1:Int))) (
  R (.returned (Value.int .i64 1)) w_2) (
  xg (turn == 0) (
  R (.returned (Value.int .i64 1)) w_2) (
  k () w_2)))) (fun _ w_3 =>
  zx s fun p_1 =>
  ld .slc (Addr.add p_1 1) w_3 fun (t41:(Option Addr × Nat × Nat)) =>
  ixS t41.1 t41.2.1 33 t14.1 fun t43 =>
  ld .slc (Addr.add t43 32) w_3 fun (t45:(Option Addr × Nat × Nat)) =>
  ixS t45.1 t45.2.1 1 atv fun t47 =>
  ld (.int .u8) t47 w_3 fun (t48:Int) =>
  zt9 .u8 t48 turn fun t50 =>
  ixS t45.1 t45.2.1 1 atv fun t51 =>
  stC t51 (Value.int .u8 t50) w_3 fun w_4 =>
  R (.returned (Value.int .i64 0)) w_4))
theorem zvf (s:Option Addr) (d:Value) (atv:Int) (turn:Int) (R:Ending→World→Prop) (w:World):tr P qs ((Tryz.f77.body).getD .skip) zg0 (zb0 0 [(0,(Value.pointer s)),(1,d),(0,(Value.int .i64 atv)),(0,(Value.int .u8 turn))]) (zcb P Tryz.f77.results.toList R) w=zit s d atv turn R w:=by kernel_rfl
theorem zu1 {s:Option Addr} {d:Value} {atv:Int} {turn:Int} {R:Ending→World→Prop} {w:World} (hT:zit s d atv turn R w):qg P zn9 #[(Value.pointer s),d,(Value.int .i64 atv),(Value.int .u8 turn)] w R :=
 zy (fn:=Tryz.f77) (c:=(Tryz.f77.body).getD .skip) (ann:=zg0) (args:=[(0,(Value.pointer s)),(1,d),(0,(Value.int .i64 atv)),(0,(Value.int .u8 turn))]) (qs:=qs) mixed Tryz.func77 rfl (by kernel_rfl) (by kernel_rfl) zu5 ((zvf s d atv turn R w).symm ▸ hT)
def zhx:Ann:=(.seq .leaf (.seq .leaf (.seq (.jblk [(6,.int .i64)] (.loop [(6,.int .i64)] (.join [] (.seq (.tree (.op 0 [] (.op 1 [] (.op 2 [] (.op 3 [] (.op 4 [] (.op 5 [] (.op 6 [] (.op 7 [] (.op 8 [] (.op 9 [] (.op 10 [] (.op 12 [] (.op 11 [] (.op 13 [] (.op 14 [] (.op 15 [] (.op 16 [] (.op 17 [] (.op 18 [] (.op 19 [] .done))))))))))))))))))))) (.cond .leaf .leaf)) (.blk .leaf)))) (.seq (.tree (.op 0 [] (.op 1 [] (.op 2 [] (.op 3 [] (.op 4 [] (.op 5 [] (.op 6 [] (.op 7 [] (.op 8 [] (.op 9 [] (.op 10 [] (.op 11 [] (.op 13 [] (.op 20 [] (.op 12 [] (.op 14 [] (.op 15 [] (.op 16 [] (.op 17 [] (.op 18 [] (.op 19 [] (.op 21 [] .done))))))))))))))))))))))) .leaf))))
theorem zwu:okC P qs Tryz.f82.ntmps ((Tryz.f82.body).getD .skip) zhx=true:=by kernel_rfl
def zjf (s:Option Addr) (d:Value) (R:Ending→World→Prop) (w:World):Prop :=
  zbj (Value.cells d) zf w fun b3 w_1 =>
  joinP Int (fun k =>
  zav Int (fun s_1 w_2 k_1 =>
  joinP Unit (fun k_2 =>
  zbd w_2 fun w_3 =>
  zx s fun p =>
  ld .slc (Addr.add p 1) w_3 fun (t11:(Option Addr × Nat × Nat)) =>
  xg (decide (s_1 < (t11.2.1:Int))) (
  zx s fun p_1 =>
  ld .slc (Addr.add p_1 1) w_3 fun (t18:(Option Addr × Nat × Nat)) =>
  ixS t18.1 t18.2.1 33 s_1 fun t20 =>
  ldA P 32 t20 w_3 fun t22 =>
  ldA P 32 (⟨b3,0,none⟩:Addr) w_3 fun t23 =>
  qy P zo6 #[(Value.agg t22),(Value.agg t23)] [.int .i64] false w_3 fun (t24:Int) w_4 =>
  xg (decide (t24 < 0)) (
  k_2 () w_4) (
  k s_1 w_4)) (
  k s_1 w_3)) (fun _ w_5 =>
  za7 .i64 s_1 1 fun t28 =>
  k_1 t28 w_5)) 0 w_1) (fun s_3 w_6 =>
  zbd w_6 fun w_7 =>
  zx s fun p_2 =>
  ld .slc (Addr.add p_2 1) w_7 fun (t34:(Option Addr × Nat × Nat)) =>
  xg (decide (s_3 < (t34.2.1:Int))) (
  zx s fun p_3 =>
  ld .slc (Addr.add p_3 1) w_7 fun (t41:(Option Addr × Nat × Nat)) =>
  ixS t41.1 t41.2.1 33 s_3 fun t43 =>
  ldA P 32 t43 w_7 fun t45 =>
  ldA P 32 (⟨b3,0,none⟩:Addr) w_7 fun t46 =>
  zay P (eqM .eql zf (.tmp 45) (.tmp 46) (Value.agg t45) (Value.agg t46)) .bool w_7 fun (t47:Bool) =>
  R (.returned (Value.tuple #[(Value.int .i64 s_3),(Value.bool t47)])) w_7) (
  R (.returned (Value.tuple #[(Value.int .i64 s_3),(Value.bool false)])) w_7))
theorem zwe (s:Option Addr) (d:Value) (R:Ending→World→Prop) (w:World):tr P qs ((Tryz.f82.body).getD .skip) zhx (zb0 0 [(0,(Value.pointer s)),(1,d)]) (zcb P Tryz.f82.results.toList R) w=zjf s d R w:=by kernel_rfl
theorem zww {s:Option Addr} {d:Value} {R:Ending→World→Prop} {w:World} (hT:zjf s d R w):qg P zd4 #[(Value.pointer s),d] w R :=
 zy (fn:=Tryz.f82) (c:=(Tryz.f82.body).getD .skip) (ann:=zhx) (args:=[(0,(Value.pointer s)),(1,d)]) (qs:=qs) mixed Tryz.func82 rfl (by kernel_rfl) (by kernel_rfl) zwu ((zwe s d R w).symm ▸ hT)
def zgm:Ann:=(.seq .leaf (.seq .leaf (.seq (.seq .leaf (.blk (.loop [(4,.int .i64)] (.seq (.seq .leaf (.cond .leaf .leaf)) (.seq (.blk (.tree (.op 0 [] (.op 1 [] (.op 2 [] (.op 3 [] (.op 5 [] (.op 6 [] (.op 7 [] (.op 9 [] (.op 14 [] (.op 15 [] (.op 16 [] (.op 18 [] (.op 4 [] (.op 8 [] (.op 10 [] (.op 11 [] (.op 12 [] (.op 17 [] (.op 19 [] (.op 20 [] (.op 21 [] (.op 13 [4,8,12,17,21] (.op 22 [4,8,12] (.op 23 [] (.op 24 [4] (.op 25 [] (.op 26 [] (.op 27 [] (.op 28 [] .done))))))))))))))))))))))))))))))) .leaf))))) (.seq .leaf .leaf))))
theorem zuq:okC P qs Tryz.f122.ntmps ((Tryz.f122.body).getD .skip) zgm=true:=by kernel_rfl
def zim (s:Option Addr) (R:Ending→World→Prop) (w:World):Prop :=
  zx s fun p =>
  ld (.int .i64) p w fun (t8:Int) =>
  zay P (Instr.build zgh #[(0,(Value.int .i64 t8))]) .any w fun (t9:Value) =>
  zbj (Value.cells t9) zgh w fun b10 w_1 =>
  zav Int (fun s_1 w_2 k =>
  zx s fun p_1 =>
  ld .slc (Addr.add p_1 1) w_2 fun (t15:(Option Addr × Nat × Nat)) =>
  xg (decide (s_1 < (t15.2.1:Int))) (
  zbd w_2 fun w_3 =>
  zx s fun p_2 =>
  zx s fun p_3 =>
  ld .slc (⟨b10,1,none⟩:Addr) w_3 fun (t24:(Option Addr × Nat × Nat)) =>
  ld .slc (Addr.add p_2 1) w_3 fun (t28:(Option Addr × Nat × Nat)) =>
  ixS t28.1 t28.2.1 33 s_1 fun t30 =>
  ldA P 32 t30 w_3 fun t32 =>
  ld .slc (Addr.add p_3 1) w_3 fun (t37:(Option Addr × Nat × Nat)) =>
  ixS t37.1 t37.2.1 33 s_1 fun t39 =>
  ld .slc (Addr.add t39 32) w_3 fun (t41:(Option Addr × Nat × Nat)) =>
  zaf P (Instr.buildSlice zk 0 #[]) .slc w_3 fun (t33:(Option Addr × Nat × Nat)) w_4 =>
  ((ld .slc (Addr.add t39 32) w_4 fun (t41_1:(Option Addr × Nat × Nat)) =>
  (Value.slice t41_1.1 t41_1.2.1 t41_1.2.2)=(Value.slice t41.1 t41.2.1 t41.2.2)) ∧
  ((ld .slc (Addr.add p_3 1) w_4 fun (t37_1:(Option Addr × Nat × Nat)) =>
  (Value.slice t37_1.1 t37_1.2.1 t37_1.2.2)=(Value.slice t37.1 t37.2.1 t37.2.2)) ∧
  ((ldA P 32 t30 w_4 fun t32_1 =>
  (Value.agg t32_1)=(Value.agg t32)) ∧
  ((ld .slc (Addr.add p_2 1) w_4 fun (t28_1:(Option Addr × Nat × Nat)) =>
  (Value.slice t28_1.1 t28_1.2.1 t28_1.2.2)=(Value.slice t28.1 t28.2.1 t28.2.2)) ∧
  ((ld .slc (⟨b10,1,none⟩:Addr) w_4 fun (t24_1:(Option Addr × Nat × Nat)) =>
  (Value.slice t24_1.1 t24_1.2.1 t24_1.2.2)=(Value.slice t24.1 t24.2.1 t24.2.2)) ∧
  zaf P (Builtin.append_ #[zk,zk] zk #[(Value.slice t33.1 t33.2.1 t33.2.2),(Value.slice t41.1 t41.2.1 t41.2.2)]) .slc w_4 fun (t42:(Option Addr × Nat × Nat)) w_5 =>
  ((ldA P 32 t30 w_5 fun t32_2 =>
  (Value.agg t32_2)=(Value.agg t32)) ∧
  ((ld .slc (Addr.add p_2 1) w_5 fun (t28_2:(Option Addr × Nat × Nat)) =>
  (Value.slice t28_2.1 t28_2.2.1 t28_2.2.2)=(Value.slice t28.1 t28.2.1 t28.2.2)) ∧
  ((ld .slc (⟨b10,1,none⟩:Addr) w_5 fun (t24_2:(Option Addr × Nat × Nat)) =>
  (Value.slice t24_2.1 t24_2.2.1 t24_2.2.2)=(Value.slice t24.1 t24.2.1 t24.2.2)) ∧
  zay P (Instr.build zbv #[(0,(Value.agg t32)),(1,(Value.slice t42.1 t42.2.1 t42.2.2))]) .any w_5 fun (t43:Value) =>
  zaf P (Instr.buildSlice zac 1 #[(0,t43)]) .slc w_5 fun (t44:(Option Addr × Nat × Nat)) w_6 =>
  ((ld .slc (⟨b10,1,none⟩:Addr) w_6 fun (t24_3:(Option Addr × Nat × Nat)) =>
  (Value.slice t24_3.1 t24_3.2.1 t24_3.2.2)=(Value.slice t24.1 t24.2.1 t24.2.2)) ∧
  zaf P (Builtin.append_ #[zac,zac] zac #[(Value.slice t24.1 t24.2.1 t24.2.2),(Value.slice t44.1 t44.2.1 t44.2.2)]) .slc w_6 fun (t45:(Option Addr × Nat × Nat)) w_7 =>
  stC (⟨b10,1,none⟩:Addr) (Value.slice t45.1 t45.2.1 t45.2.2) w_7 fun w_8 =>
  za7 .i64 s_1 1 fun t19 =>
  k t19 w_8)))))))))) (
  R (.returned (Value.pointer (some (⟨b10,0,none⟩:Addr)))) w_2)) 0 w_1
theorem zu7 (s:Option Addr) (R:Ending→World→Prop) (w:World):tr P qs ((Tryz.f122.body).getD .skip) zgm (zb0 0 [(0,(Value.pointer s))]) (zcb P Tryz.f122.results.toList R) w=zim s R w:=by kernel_rfl
theorem zuu {s:Option Addr} {R:Ending→World→Prop} {w:World} (hT:zim s R w):qg P zii #[(Value.pointer s)] w R :=
 zy (fn:=Tryz.f122) (c:=(Tryz.f122.body).getD .skip) (ann:=zgm) (args:=[(0,(Value.pointer s))]) (qs:=qs) mixed Tryz.func122 rfl (by kernel_rfl) (by kernel_rfl) zuq ((zu7 s R w).symm ▸ hT)
def zgp:Ann:=(.seq .leaf (.seq .leaf (.seq (.seq .leaf (.blk (.loop [(5,.int .i64),(6,.int .i64)] (.seq (.seq .leaf (.cond .leaf .leaf)) (.seq (.jblk [(5,.int .i64)] (.seq .leaf (.seq .leaf (.cond .leaf .leaf)))) .leaf))))) (.seq .leaf .leaf))))
theorem zvk:okC P qs Tryz.f123.ntmps ((Tryz.f123.body).getD .skip) zgp=true:=by kernel_rfl
def zir (s:Option Addr) (o:Option Addr) (R:Ending→World→Prop) (w:World):Prop :=
  zav (Int × Int) (fun s_1 w_1 k =>
  zx s fun p =>
  ld .slc (Addr.add p 1) w_1 fun (t13:(Option Addr × Nat × Nat)) =>
  xg (decide (s_1.2 < (t13.2.1:Int))) (
  joinP Int (fun k_1 =>
  zx s fun p_1 =>
  ld .slc (Addr.add p_1 1) w_1 fun (t23:(Option Addr × Nat × Nat)) =>
  ixS t23.1 t23.2.1 33 s_1.2 fun t25 =>
  ldA P 32 t25 w_1 fun t27 =>
  qy P zd4 #[(Value.pointer o),(Value.agg t27)] [.int .i64,.bool] true w_1 fun (t28:(Int × Bool)) w_2 =>
  xg (!t28.2) (
  zx s fun p_2 =>
  ld .slc (Addr.add p_2 1) w_2 fun (t37:(Option Addr × Nat × Nat)) =>
  ixS t37.1 t37.2.1 33 s_1.2 fun t39 =>
  ld .slc (Addr.add t39 32) w_2 fun (t41:(Option Addr × Nat × Nat)) =>
  za7 .i64 s_1.1 (t41.2.1:Int) fun t43 =>
  k_1 t43 w_2) (
  k_1 s_1.1 w_2)) (fun s_2 w_3 =>
  za7 .i64 s_1.2 1 fun t17 =>
  k (s_2,t17) w_3)) (
  R (.returned (Value.int .i64 s_1.1)) w_1)) (0,0) w
theorem zuz (s:Option Addr) (o:Option Addr) (R:Ending→World→Prop) (w:World):tr P qs ((Tryz.f123.body).getD .skip) zgp (zb0 0 [(0,(Value.pointer s)),(0,(Value.pointer o))]) (zcb P Tryz.f123.results.toList R) w=zir s o R w:=by kernel_rfl
theorem zuw {s:Option Addr} {o:Option Addr} {R:Ending→World→Prop} {w:World} (hT:zir s o R w):qg P zih #[(Value.pointer s),(Value.pointer o)] w R :=
 zy (fn:=Tryz.f123) (c:=(Tryz.f123.body).getD .skip) (ann:=zgp) (args:=[(0,(Value.pointer s)),(0,(Value.pointer o))]) (qs:=qs) mixed Tryz.func123 rfl (by kernel_rfl) (by kernel_rfl) zvk ((zuz s o R w).symm ▸ hT)
def zjk:Ann:=(.seq (.seq .leaf (.cond .leaf .leaf)) (.seq (.blk (.loop [(1,.int .u64)] (.seq (.seq .leaf (.cond .leaf .leaf)) (.seq (.blk .leaf) .leaf)))) .leaf))
theorem z00:okC P qs Tryz.f168.ntmps ((Tryz.f168.body).getD .skip) zjk=true:=by kernel_rfl
def zmm (o:Option Addr) (n:Int) (R:Ending→World→Prop) (w:World):Prop :=
  xg (Option.isNone o) (
  R (.returned (Value.tuple #[])) w) (
  zav Int (fun s w_1 k =>
  xg (decide (s > 127)) (
  zx o fun p =>
  ld .slc p w_1 fun (t14:(Option Addr × Nat × Nat)) =>
  cvI .u8 s fun t16 =>
  orI .u8 t16 128 fun t17 =>
  zaf P (Instr.buildSlice zk 1 #[(0,(Value.int .u8 t17))]) .slc w_1 fun (t18:(Option Addr × Nat × Nat)) w_2 =>
  zaf P (Builtin.append_ #[zk,zk] zk #[(Value.slice t14.1 t14.2.1 t14.2.2),(Value.slice t18.1 t18.2.1 t18.2.2)]) .slc w_2 fun (t19:(Option Addr × Nat × Nat)) w_3 =>
  zx o fun p_1 =>
  stC p_1 (Value.slice t19.1 t19.2.1 t19.2.2) w_3 fun w_4 =>
  z9b .u64 s 7 fun t9 =>
  k t9 w_4) (
  zx o fun p_2 =>
  ld .slc p_2 w_1 fun (t26:(Option Addr × Nat × Nat)) =>
  cvI .u8 s fun t28 =>
  zaf P (Instr.buildSlice zk 1 #[(0,(Value.int .u8 t28))]) .slc w_1 fun (t29:(Option Addr × Nat × Nat)) w_5 =>
  zaf P (Builtin.append_ #[zk,zk] zk #[(Value.slice t26.1 t26.2.1 t26.2.2),(Value.slice t29.1 t29.2.1 t29.2.2)]) .slc w_5 fun (t30:(Option Addr × Nat × Nat)) w_6 =>
  zx o fun p_3 =>
  stC p_3 (Value.slice t30.1 t30.2.1 t30.2.2) w_6 fun w_7 =>
  R (.returned (Value.tuple #[])) w_7)) n w)
theorem z0d (o:Option Addr) (n:Int) (R:Ending→World→Prop) (w:World):tr P qs ((Tryz.f168.body).getD .skip) zjk (zb0 0 [(0,(Value.pointer o)),(0,(Value.int .u64 n))]) (zcb P Tryz.f168.results.toList R) w=zmm o n R w:=by kernel_rfl
theorem zzv {o:Option Addr} {n:Int} {R:Ending→World→Prop} {w:World} (hT:zmm o n R w):qg P zee #[(Value.pointer o),(Value.int .u64 n)] w R :=
 zy (fn:=Tryz.f168) (c:=(Tryz.f168.body).getD .skip) (ann:=zjk) (args:=[(0,(Value.pointer o)),(0,(Value.int .u64 n))]) (qs:=qs) mixed Tryz.func168 rfl (by kernel_rfl) (by kernel_rfl) z00 ((z0d o n R w).symm ▸ hT)
def ziq:Ann:=(.seq (.seq .leaf (.cond .leaf .leaf)) (.seq .leaf .leaf))
theorem zyh:okC P qs Tryz.f169.ntmps ((Tryz.f169.body).getD .skip) ziq=true:=by kernel_rfl
def zlh (o:Option Addr) (s:ByteArray) (R:Ending→World→Prop) (w:World):Prop :=
  xg (Option.isNone o) (
  R (.returned (Value.tuple #[])) w) (
  cvI .u64 (s.size:Int) fun t9 =>
  qy P zee #[(Value.pointer o),(Value.int .u64 t9)] [] true w fun (_:Unit) w_1 =>
  zx o fun p =>
  ld .slc p w_1 fun (t15:(Option Addr × Nat × Nat)) =>
  zaf P (Builtin.append_ #[zk,qc] zk #[(Value.slice t15.1 t15.2.1 t15.2.2),(Value.string s)]) .slc w_1 fun (t17:(Option Addr × Nat × Nat)) w_2 =>
  zx o fun p_1 =>
  stC p_1 (Value.slice t17.1 t17.2.1 t17.2.2) w_2 fun w_3 =>
  R (.returned (Value.tuple #[])) w_3)
theorem zyj (o:Option Addr) (s:ByteArray) (R:Ending→World→Prop) (w:World):tr P qs ((Tryz.f169.body).getD .skip) ziq (zb0 0 [(0,(Value.pointer o)),(0,(Value.string s))]) (zcb P Tryz.f169.results.toList R) w=zlh o s R w:=by kernel_rfl
theorem zyl {o:Option Addr} {s:ByteArray} {R:Ending→World→Prop} {w:World} (hT:zlh o s R w):qg P zg9 #[(Value.pointer o),(Value.string s)] w R :=
 zy (fn:=Tryz.f169) (c:=(Tryz.f169.body).getD .skip) (ann:=ziq) (args:=[(0,(Value.pointer o)),(0,(Value.string s))]) (qs:=qs) mixed Tryz.func169 rfl (by kernel_rfl) (by kernel_rfl) zyh ((zyj o s R w).symm ▸ hT)
def zgi:Ann:=(.seq .leaf (.seq .leaf (.cond (.tree (.op 0 [] (.op 1 [] (.op 2 [] (.op 3 [] (.op 4 [] (.op 5 [] (.op 6 [] (.op 7 [] (.op 8 [] (.op 9 [] .done))))))))))) .leaf)))
theorem zvb:okC P qs Tryz.f170.ntmps ((Tryz.f170.body).getD .skip) zgi=true:=by kernel_rfl
def zis (o:Option Addr) (d:Value) (R:Ending→World→Prop) (w:World):Prop :=
  zbj (Value.cells d) zf w fun b3 w_1 =>
  xg (!(Option.isNone o)) (
  zbd w_1 fun w_2 =>
  zx o fun p =>
  ld .slc p w_2 fun (t10:(Option Addr × Nat × Nat)) =>
  zay P (Instr.sliceAt zf (Value.pointer (some (⟨b3,0,none⟩:Addr))) none none none) .slc w_2 fun (t11:(Option Addr × Nat × Nat)) =>
  zaf P (Builtin.append_ #[zk,zk] zk #[(Value.slice t10.1 t10.2.1 t10.2.2),(Value.slice t11.1 t11.2.1 t11.2.2)]) .slc w_2 fun (t12:(Option Addr × Nat × Nat)) w_3 =>
  zx o fun p_1 =>
  stC p_1 (Value.slice t12.1 t12.2.1 t12.2.2) w_3 fun w_4 =>
  R (.returned (Value.tuple #[])) w_4) (
  R (.returned (Value.tuple #[])) w_1)
theorem zvi (o:Option Addr) (d:Value) (R:Ending→World→Prop) (w:World):tr P qs ((Tryz.f170.body).getD .skip) zgi (zb0 0 [(0,(Value.pointer o)),(1,d)]) (zcb P Tryz.f170.results.toList R) w=zis o d R w:=by kernel_rfl
theorem zvq {o:Option Addr} {d:Value} {R:Ending→World→Prop} {w:World} (hT:zis o d R w):qg P zfy #[(Value.pointer o),d] w R :=
 zy (fn:=Tryz.f170) (c:=(Tryz.f170.body).getD .skip) (ann:=zgi) (args:=[(0,(Value.pointer o)),(1,d)]) (qs:=qs) mixed Tryz.func170 rfl (by kernel_rfl) (by kernel_rfl) zvb ((zvi o d R w).symm ▸ hT)
def zg6:Ann:=(.seq .leaf (.seq (.seq .leaf (.cond (.seq .leaf .leaf) .leaf)) (.seq .leaf .leaf)))
theorem zwj:okC P qs Tryz.f171.ntmps ((Tryz.f171.body).getD .skip) zg6=true:=by kernel_rfl
def zjo (o:Option Addr) (R:Ending→World→Prop) (w:World):Prop :=
  xg (Option.isNone o) (
  R (.returned (Value.slice none 0 0)) w) (
  zx o fun p =>
  ld .slc p w fun (t8:(Option Addr × Nat × Nat)) =>
  zaf P (Builtin.append_ #[zk,zk] zk #[(Value.slice none 0 0),(Value.slice t8.1 t8.2.1 t8.2.2)]) .slc w fun (t9:(Option Addr × Nat × Nat)) w_1 =>
  R (.returned (Value.slice t9.1 t9.2.1 t9.2.2)) w_1)
theorem zw9 (o:Option Addr) (R:Ending→World→Prop) (w:World):tr P qs ((Tryz.f171.body).getD .skip) zg6 (zb0 0 [(0,(Value.pointer o))]) (zcb P Tryz.f171.results.toList R) w=zjo o R w:=by kernel_rfl
theorem zw8 {o:Option Addr} {R:Ending→World→Prop} {w:World} (hT:zjo o R w):qg P zjq #[(Value.pointer o)] w R :=
 zy (fn:=Tryz.f171) (c:=(Tryz.f171.body).getD .skip) (ann:=zg6) (args:=[(0,(Value.pointer o))]) (qs:=qs) mixed Tryz.func171 rfl (by kernel_rfl) (by kernel_rfl) zwj ((zw9 o R w).symm ▸ hT)
set_option maxRecDepth 100000
def zji:Ann:=(.seq .leaf (.seq (.seq .leaf (.blk (.seq .leaf (.cond (.seq .leaf .leaf) (.seq .leaf (.cond (.seq .leaf .leaf) .leaf)))))) (.seq .leaf (.join [(5,.int .i64)] (.seq .leaf (.cond (.join [] (.seq .leaf (.cond .leaf .leaf)) .leaf) .leaf)) (.seq (.seq .leaf (.blk (.loop [(5,.int .i64),(41,.int .i64)] (.seq .leaf (.seq (.cond .leaf .leaf) (.seq (.jblk [(5,.int .i64)] (.seq .leaf (.join [] (.seq .leaf (.cond .leaf .leaf)) .leaf))) .leaf)))))) (.seq .leaf (.seq .leaf (.seq .leaf (.seq (.seq .leaf (.blk (.loop [(65,.int .i64)] (.seq .leaf (.seq (.cond .leaf .leaf) (.seq (.blk (.seq .leaf (.seq .leaf .leaf))) .leaf)))))) (.seq .leaf .leaf))))))))))
theorem zy7:okC P qs Tryz.f112.ntmps ((Tryz.f112.body).getD .skip) zji=true:=by kernel_rfl
def zm3 (elems:Option Addr) (elems_l elems_c:Nat) (sep:ByteArray) (R:Ending→World→Prop) (w:World):Prop :=
  xg ((elems_l:Int) == 0) (
  R (.returned (Value.string (ByteArray.mk #[]))) w) (
  xg ((elems_l:Int) == 1) (
  ixS elems elems_l 1 0 fun t18 =>
  ld .str t18 w fun (t19:ByteArray) =>
  R (.returned (Value.string t19)) w) (
  joinP Int (fun k =>
  xg (decide ((sep.size:Int) > 0)) (
  joinP Unit (fun k_1 =>
  zl4 .i64 (elems_l:Int) 1 fun t27 =>
  qle .i64 9223372036854775807 t27 fun t28 =>
  xg (decide ((sep.size:Int) ≥ t28)) (
  zay P (Instr.makeInterface qc (Value.string (ByteArray.mk #[115,116,114,105,110,103,115,58,32,74,111,105,110,32,111,117,116,112,117,116,32,108,101,110,103,116,104,32,111,118,101,114,102,108,111,119]))) .any w fun (_:Value) =>
  False) (
  k_1 () w)) (fun _ w_1 =>
  zl4 .i64 (elems_l:Int) 1 fun t36 =>
  zy3 .i64 (sep.size:Int) t36 fun t37 =>
  za7 .i64 0 t37 fun t38 =>
  k t38 w_1)) (
  k 0 w)) (fun s_1 w_2 =>
  zav (Int × Int) (fun s_2 w_3 k_2 =>
  xg (decide (s_2.2 < (elems_l:Int))) (
  joinP Int (fun k_3 =>
  ixS elems elems_l 1 s_2.2 fun t43 =>
  ld .str t43 w_3 fun (t44:ByteArray) =>
  joinP Unit (fun k_4 =>
  zl4 .i64 9223372036854775807 s_2.1 fun t48 =>
  xg (decide ((t44.size:Int) > t48)) (
  zay P (Instr.makeInterface qc (Value.string (ByteArray.mk #[115,116,114,105,110,103,115,58,32,74,111,105,110,32,111,117,116,112,117,116,32,108,101,110,103,116,104,32,111,118,101,114,102,108,111,119]))) .any w_3 fun (_:Value) =>
  False) (
  k_4 () w_3)) (fun _ w_4 =>
  za7 .i64 s_2.1 (t44.size:Int) fun t54 =>
  k_3 t54 w_4)) (fun s_4 w_5 =>
  za7 .i64 s_2.2 1 fun t55 =>
  k_2 (s_4,t55) w_5)) (
  zbj (zc P jm) jm w_3 fun b8 w_6 =>
  qy P zfg #[(Value.pointer (some (⟨b8,0,none⟩:Addr))),(Value.int .i64 s_2.1)] [] true w_6 fun (_:Unit) w_7 =>
  ixS elems elems_l 1 0 fun t59 =>
  ld .str t59 w_7 fun (t60:ByteArray) =>
  qy P zaz #[(Value.pointer (some (⟨b8,0,none⟩:Addr))),(Value.string t60)] [.int .i64,.any] true w_7 fun (_:(Int × Value)) w_8 =>
  zay P (Instr.sliceAt qw (Value.slice elems elems_l elems_c) (some (Value.int .i64 1)) none none) .slc w_8 fun (t63:(Option Addr × Nat × Nat)) =>
  zav Int (fun s_5 w_9 k_5 =>
  xg (decide (s_5 < (t63.2.1:Int))) (
  ixS t63.1 t63.2.1 1 s_5 fun t67 =>
  ld .str t67 w_9 fun (t68:ByteArray) =>
  qy P zaz #[(Value.pointer (some (⟨b8,0,none⟩:Addr))),(Value.string sep)] [.int .i64,.any] true w_9 fun (_:(Int × Value)) w_10 =>
  qy P zaz #[(Value.pointer (some (⟨b8,0,none⟩:Addr))),(Value.string t68)] [.int .i64,.any] true w_10 fun (_:(Int × Value)) w_11 =>
  za7 .i64 s_5 1 fun t73 =>
  k_5 t73 w_11) (
  qy P zb3 #[(Value.pointer (some (⟨b8,0,none⟩:Addr)))] [.str] false w_9 fun (t74:ByteArray) w_12 =>
  R (.returned (Value.string t74)) w_12)) 0 w_8)) (s_1,0) w_2)))
theorem z0i (elems:Option Addr) (elems_l elems_c:Nat) (sep:ByteArray) (R:Ending→World→Prop) (w:World):tr P qs ((Tryz.f112.body).getD .skip) zji (zb0 0 [(0,(Value.slice elems elems_l elems_c)),(0,(Value.string sep))]) (zcb P Tryz.f112.results.toList R) w=zm3 elems elems_l elems_c sep R w:=by kernel_rfl
theorem z1s {elems:Option Addr} {elems_l elems_c:Nat} {sep:ByteArray} {R:Ending→World→Prop} {w:World} (hT:zm3 elems elems_l elems_c sep R w):qg P zm9 #[(Value.slice elems elems_l elems_c),(Value.string sep)] w R :=
 zy (fn:=Tryz.f112) (c:=(Tryz.f112.body).getD .skip) (ann:=zji) (args:=[(0,(Value.slice elems elems_l elems_c)),(0,(Value.string sep))]) (qs:=qs) mixed Tryz.func112 rfl (by kernel_rfl) (by kernel_rfl) zy7 ((z0i elems elems_l elems_c sep R w).symm ▸ hT)
def zek:Ann:=(.seq .leaf (.join [] (.seq .leaf (.cond .leaf .leaf)) (.seq (.tree (.op 0 [] (.op 1 [] (.op 2 [] (.op 5 [] (.op 6 [] (.op 7 [] (.op 11 [] (.op 3 [] (.op 4 [] (.op 8 [] (.op 9 [] (.op 10 [] (.op 12 [] .done)))))))))))))) (.cond .leaf .leaf))))
theorem zqe:okC P qs Tryz.f164.ntmps ((Tryz.f164.body).getD .skip) zek=true:=by kernel_rfl
def zfc (b:Option Addr) (n:Int) (R:Ending→World→Prop) (w:World):Prop :=
  qy P zcg #[(Value.pointer b)] [] true w fun (_:Unit) w_1 =>
  joinP Unit (fun k =>
  xg (decide (n < 0)) (
  zay P (Instr.makeInterface qc (Value.string (ByteArray.mk #[115,116,114,105,110,103,115,46,66,117,105,108,100,101,114,46,71,114,111,119,58,32,110,101,103,97,116,105,118,101,32,99,111,117,110,116]))) .any w_1 fun (_:Value) =>
  False) (
  k () w_1)) (fun _ w_2 =>
  zbd w_2 fun w_3 =>
  zx b fun p =>
  zx b fun p_1 =>
  ld .slc (Addr.add p 1) w_3 fun (t12:(Option Addr × Nat × Nat)) =>
  zay P (Builtin.cap_ #[zk] zds #[(Value.slice t12.1 t12.2.1 t12.2.2)]) (.int .i64) w_3 fun (t13:Int) =>
  ld .slc (Addr.add p_1 1) w_3 fun (t17:(Option Addr × Nat × Nat)) =>
  zl4 .i64 t13 (t17.2.1:Int) fun t19 =>
  xg (decide (t19 < n)) (
  qy P zfe #[(Value.pointer b),(Value.int .i64 n)] [] true w_3 fun (_:Unit) w_4 =>
  R (.returned (Value.tuple #[])) w_4) (
  R (.returned (Value.tuple #[])) w_3))
theorem zob (b:Option Addr) (n:Int) (R:Ending→World→Prop) (w:World):tr P qs ((Tryz.f164.body).getD .skip) zek (zb0 0 [(0,(Value.pointer b)),(0,(Value.int .i64 n))]) (zcb P Tryz.f164.results.toList R) w=zfc b n R w:=by kernel_rfl
theorem zpb {b:Option Addr} {n:Int} {R:Ending→World→Prop} {w:World} (hT:zfc b n R w):qg P zfg #[(Value.pointer b),(Value.int .i64 n)] w R :=
 zy (fn:=Tryz.f164) (c:=(Tryz.f164.body).getD .skip) (ann:=zek) (args:=[(0,(Value.pointer b)),(0,(Value.int .i64 n))]) (qs:=qs) mixed Tryz.func164 rfl (by kernel_rfl) (by kernel_rfl) zqe ((zob b n R w).symm ▸ hT)
def zcz:Ann:=(.seq .leaf (.seq .leaf (.seq .leaf (.seq .leaf .leaf))))
theorem zi9:okC P qs Tryz.f165.ntmps ((Tryz.f165.body).getD .skip) zcz=true:=by kernel_rfl
def zdb (b:Option Addr) (s:ByteArray) (R:Ending→World→Prop) (w:World):Prop :=
  qy P zcg #[(Value.pointer b)] [] true w fun (_:Unit) w_1 =>
  zx b fun p =>
  ld .slc (Addr.add p 1) w_1 fun (t12:(Option Addr × Nat × Nat)) =>
  zaf P (Builtin.append_ #[zk,qc] zk #[(Value.slice t12.1 t12.2.1 t12.2.2),(Value.string s)]) .slc w_1 fun (t14:(Option Addr × Nat × Nat)) w_2 =>
  zx b fun p_1 =>
  stC (Addr.add p_1 1) (Value.slice t14.1 t14.2.1 t14.2.2) w_2 fun w_3 =>
  R (.returned (Value.tuple #[(Value.int .i64 (s.size:Int)),Value.nilIface])) w_3
theorem zi0 (b:Option Addr) (s:ByteArray) (R:Ending→World→Prop) (w:World):tr P qs ((Tryz.f165.body).getD .skip) zcz (zb0 0 [(0,(Value.pointer b)),(0,(Value.string s))]) (zcb P Tryz.f165.results.toList R) w=zdb b s R w:=by kernel_rfl
theorem zi8 {b:Option Addr} {s:ByteArray} {R:Ending→World→Prop} {w:World} (hT:zdb b s R w):qg P zaz #[(Value.pointer b),(Value.string s)] w R :=
 zy (fn:=Tryz.f165) (c:=(Tryz.f165.body).getD .skip) (ann:=zcz) (args:=[(0,(Value.pointer b)),(0,(Value.string s))]) (qs:=qs) mixed Tryz.func165 rfl (by kernel_rfl) (by kernel_rfl) zi9 ((zi0 b s R w).symm ▸ hT)
def zd3:Ann:=(.seq .leaf (.seq (.tree (.op 0 [] (.op 1 [] (.op 2 [] (.op 5 [] (.op 6 [] (.op 7 [] (.op 3 [] (.op 8 [] (.op 9 [] (.op 4 [8] (.op 10 [] (.op 11 [] .done))))))))))))) .leaf))
theorem znv:okC P qs Tryz.f166.ntmps ((Tryz.f166.body).getD .skip) zd3=true:=by kernel_rfl
def zda (b:Option Addr) (R:Ending→World→Prop) (w:World):Prop :=
  zbd w fun w_1 =>
  zx b fun p =>
  zx b fun p_1 =>
  ld .slc (Addr.add p 1) w_1 fun (t6:(Option Addr × Nat × Nat)) =>
  ld .slc (Addr.add p_1 1) w_1 fun (t11:(Option Addr × Nat × Nat)) =>
  zaf P (Builtin.unsafeSliceData_ #[zk] zuy #[(Value.slice t6.1 t6.2.1 t6.2.2)]) .ptr w_1 fun (t7:(Option Addr)) w_2 =>
  ((ld .slc (Addr.add p_1 1) w_2 fun (t11_1:(Option Addr × Nat × Nat)) =>
  (Value.slice t11_1.1 t11_1.2.1 t11_1.2.2)=(Value.slice t11.1 t11.2.1 t11.2.2)) ∧
  zaf P (Builtin.unsafeString_ #[zuy,zds] qc #[(Value.pointer t7),(Value.int .i64 (t11.2.1:Int))]) .str w_2 fun (t13:ByteArray) w_3 =>
  R (.returned (Value.string t13)) w_3)
theorem zmz (b:Option Addr) (R:Ending→World→Prop) (w:World):tr P qs ((Tryz.f166.body).getD .skip) zd3 (zb0 0 [(0,(Value.pointer b))]) (zcb P Tryz.f166.results.toList R) w=zda b R w:=by kernel_rfl
theorem zgc {b:Option Addr} {R:Ending→World→Prop} {w:World} (hT:zda b R w):qg P zb3 #[(Value.pointer b)] w R :=
 zy (fn:=Tryz.f166) (c:=(Tryz.f166.body).getD .skip) (ann:=zd3) (args:=[(0,(Value.pointer b))]) (qs:=qs) mixed Tryz.func166 rfl (by kernel_rfl) (by kernel_rfl) znv ((zmz b R w).symm ▸ hT)
def zk4:Ann:=(.seq .leaf (.seq .leaf .leaf))
theorem z2w:okC P qs Tryz.f189.ntmps ((Tryz.f189.body).getD .skip) zk4=true:=by kernel_rfl
def zpf (s:ByteArray) (sep:ByteArray) (R:Ending→World→Prop) (w:World):Prop :=
  qy P zdz #[(Value.string s),(Value.string sep)] [.str,.str,.bool] true w fun (t9:(ByteArray × ByteArray × Bool)) w_1 =>
  R (.returned (Value.tuple #[(Value.string t9.1),(Value.string t9.2.1),(Value.bool t9.2.2)])) w_1
theorem z3b (s:ByteArray) (sep:ByteArray) (R:Ending→World→Prop) (w:World):tr P qs ((Tryz.f189.body).getD .skip) zk4 (zb0 0 [(0,(Value.string s)),(0,(Value.string sep))]) (zcb P Tryz.f189.results.toList R) w=zpf s sep R w:=by kernel_rfl
theorem z4e {s:ByteArray} {sep:ByteArray} {R:Ending→World→Prop} {w:World} (hT:zpf s sep R w):qg P zqi #[(Value.string s),(Value.string sep)] w R :=
 zy (fn:=Tryz.f189) (c:=(Tryz.f189.body).getD .skip) (ann:=zk4) (args:=[(0,(Value.string s)),(0,(Value.string sep))]) (qs:=qs) mixed Tryz.func189 rfl (by kernel_rfl) (by kernel_rfl) z2w ((z3b s sep R w).symm ▸ hT)
def zdd:Ann:=(.seq .leaf (.cond .leaf (.seq .leaf (.cond .leaf .leaf))))
theorem zke:okC P qs Tryz.f201.ntmps ((Tryz.f201.body).getD .skip) zdd=true:=by kernel_rfl
def zdu (b:Option Addr) (R:Ending→World→Prop) (w:World):Prop :=
  zx b fun p =>
  ld .ptr p w fun (t5:(Option Addr)) =>
  xg (Option.isNone t5) (
  zaf P (convert zey zj5 (Value.pointer b)) .any w fun (t9:Value) w_1 =>
  qy P zhh #[t9] [.any] false w_1 fun (t10:Value) w_2 =>
  zaf P (convert zj5 zey t10) .ptr w_2 fun (t11:(Option Addr)) w_3 =>
  zx b fun p_1 =>
  stC p_1 (Value.pointer t11) w_3 fun w_4 =>
  R (.returned (Value.tuple #[])) w_4) (
  zx b fun p_2 =>
  ld .ptr p_2 w fun (t17:(Option Addr)) =>
  zay P (eqM .neq zey (.tmp 17) (.tmp 18) (Value.pointer t17) (Value.pointer b)) .bool w fun (t19:Bool) =>
  xg t19 (
  False) (
  R (.returned (Value.tuple #[])) w))
theorem zkj (b:Option Addr) (R:Ending→World→Prop) (w:World):tr P qs ((Tryz.f201.body).getD .skip) zdd (zb0 0 [(0,(Value.pointer b))]) (zcb P Tryz.f201.results.toList R) w=zdu b R w:=by kernel_rfl
theorem zkd {b:Option Addr} {R:Ending→World→Prop} {w:World} (hT:zdu b R w):qg P zcg #[(Value.pointer b)] w R :=
 zy (fn:=Tryz.f201) (c:=(Tryz.f201.body).getD .skip) (ann:=zdd) (args:=[(0,(Value.pointer b))]) (qs:=qs) mixed Tryz.func201 rfl (by kernel_rfl) (by kernel_rfl) zke ((zkj b R w).symm ▸ hT)
def zem:Ann:=(.seq (.tree (.op 0 [] (.op 1 [] (.op 2 [] (.op 6 [] (.op 9 [] (.op 10 [] (.op 11 [] (.op 3 [] (.op 4 [] (.op 5 [] (.op 7 [] (.op 12 [] (.op 13 [] (.op 8 [12] (.op 14 [] (.op 15 [] .done))))))))))))))))) (.seq .leaf .leaf))
theorem zqb:okC P qs Tryz.f202.ntmps ((Tryz.f202.body).getD .skip) zem=true:=by kernel_rfl
def zfh (b:Option Addr) (n:Int) (R:Ending→World→Prop) (w:World):Prop :=
  zbd w fun w_1 =>
  zx b fun p =>
  zx b fun p_1 =>
  ld .slc (Addr.add p 1) w_1 fun (t8:(Option Addr × Nat × Nat)) =>
  zay P (Builtin.cap_ #[zk] zds #[(Value.slice t8.1 t8.2.1 t8.2.2)]) (.int .i64) w_1 fun (t9:Int) =>
  zy3 .i64 2 t9 fun t10 =>
  za7 .i64 t10 n fun t12 =>
  ld .slc (Addr.add p_1 1) w_1 fun (t17:(Option Addr × Nat × Nat)) =>
  qy P ze8 #[(Value.int .i64 t12)] [.slc] false w_1 fun (t13:(Option Addr × Nat × Nat)) w_2 =>
  ((ld .slc (Addr.add p_1 1) w_2 fun (t17_1:(Option Addr × Nat × Nat)) =>
  (Value.slice t17_1.1 t17_1.2.1 t17_1.2.2)=(Value.slice t17.1 t17.2.1 t17.2.2)) ∧
  zay P (Instr.sliceAt zk (Value.slice t13.1 t13.2.1 t13.2.2) none (some (Value.int .i64 (t17.2.1:Int))) none) .slc w_2 fun (t19:(Option Addr × Nat × Nat)) =>
  zx b fun p_2 =>
  ld .slc (Addr.add p_2 1) w_2 fun (t24:(Option Addr × Nat × Nat)) =>
  zaf P (Builtin.copy_ #[zk,zk] zds #[(Value.slice t19.1 t19.2.1 t19.2.2),(Value.slice t24.1 t24.2.1 t24.2.2)]) (.int .i64) w_2 fun (_:Int) w_3 =>
  zx b fun p_3 =>
  stC (Addr.add p_3 1) (Value.slice t19.1 t19.2.1 t19.2.2) w_3 fun w_4 =>
  R (.returned (Value.tuple #[])) w_4)
theorem zoy (b:Option Addr) (n:Int) (R:Ending→World→Prop) (w:World):tr P qs ((Tryz.f202.body).getD .skip) zem (zb0 0 [(0,(Value.pointer b)),(0,(Value.int .i64 n))]) (zcb P Tryz.f202.results.toList R) w=zfh b n R w:=by kernel_rfl
theorem zpr {b:Option Addr} {n:Int} {R:Ending→World→Prop} {w:World} (hT:zfh b n R w):qg P zfe #[(Value.pointer b),(Value.int .i64 n)] w R :=
 zy (fn:=Tryz.f202) (c:=(Tryz.f202.body).getD .skip) (ann:=zem) (args:=[(0,(Value.pointer b)),(0,(Value.int .i64 n))]) (qs:=qs) mixed Tryz.func202 rfl (by kernel_rfl) (by kernel_rfl) zqb ((zoy b n R w).symm ▸ hT)
def zdh:Ann:=(.seq .leaf (.seq (.seq .leaf (.seq .leaf (.cond (.seq (.tree (.op 0 [] (.op 1 [] (.op 3 [] (.op 4 [] (.op 5 [] (.op 6 [] (.op 7 [] (.op 2 [] (.op 9 [] (.op 8 [] (.op 10 [] (.op 11 [] .done))))))))))))) .leaf) .leaf))) (.seq .leaf .leaf)))
theorem zlq:okC P qs Tryz.f216.ntmps ((Tryz.f216.body).getD .skip) zdh=true:=by kernel_rfl
def zdy (s:ByteArray) (sep:ByteArray) (R:Ending→World→Prop) (w:World):Prop :=
  qy P zdj #[(Value.string s),(Value.string sep)] [.int .i64] false w fun (t10:Int) w_1 =>
  xg (decide (t10 ≥ 0)) (
  zbd w_1 fun w_2 =>
  za7 .i64 t10 (sep.size:Int) fun t20 =>
  zay P (Instr.sliceAt qc (Value.string s) none (some (Value.int .i64 t10)) none) .str w_2 fun (t15:ByteArray) =>
  zay P (Instr.sliceAt qc (Value.string s) (some (Value.int .i64 t20)) none none) .str w_2 fun (t21:ByteArray) =>
  R (.returned (Value.tuple #[(Value.string t15),(Value.string t21),(Value.bool true)])) w_2) (
  R (.returned (Value.tuple #[(Value.string s),(Value.string (ByteArray.mk #[])),(Value.bool false)])) w_1)
theorem zli (s:ByteArray) (sep:ByteArray) (R:Ending→World→Prop) (w:World):tr P qs ((Tryz.f216.body).getD .skip) zdh (zb0 0 [(0,(Value.string s)),(0,(Value.string sep))]) (zcb P Tryz.f216.results.toList R) w=zdy s sep R w:=by kernel_rfl
theorem zln {s:ByteArray} {sep:ByteArray} {R:Ending→World→Prop} {w:World} (hT:zdy s sep R w):qg P zdz #[(Value.string s),(Value.string sep)] w R :=
 zy (fn:=Tryz.f216) (c:=(Tryz.f216.body).getD .skip) (ann:=zdh) (args:=[(0,(Value.string s)),(0,(Value.string sep))]) (qs:=qs) mixed Tryz.func216 rfl (by kernel_rfl) (by kernel_rfl) zlq ((zli s sep R w).symm ▸ hT)
theorem zo8 {e:Array Value→Sem Value} (he:Extern.find Tryz.f222=some e) (args:Array Value) (w:World):(callFunc zhh args).run P w=((e args).run P w).andThen fun v w1=>.ok (.value v) w1 :=
 Go.run_callFunc_extern Tryz.func222 (by kernel_rfl) (by kernel_rfl) (by kernel_rfl) he args w
theorem zju {e:Array Value→Sem Value} (he:Extern.find Tryz.f223=some e) (args:Array Value) (w:World):(callFunc ze8 args).run P w=((e args).run P w).andThen fun v w1=>.ok (.value v) w1 :=
 Go.run_callFunc_extern Tryz.func223 (by kernel_rfl) (by kernel_rfl) (by kernel_rfl) he args w
def zc4:Ann:=(.seq .leaf (.seq .leaf (.join [] (.jblk [] (.seq .leaf (.cond (.seq .leaf .leaf) (.seq .leaf (.cond (.seq .leaf .leaf) (.seq .leaf (.cond (.seq .leaf .leaf) (.seq .leaf (.cond (.seq .leaf .leaf) .leaf))))))))) (.seq .leaf (.seq .leaf (.seq .leaf (.seq .leaf (.seq .leaf (.seq (.blk (.loop [(8,.int .i64),(10,.int .i64)] (.seq (.seq .leaf (.cond .leaf .leaf)) (.jblk [(8,.int .i64),(10,.int .i64)] (.join [(8,.int .i64)] (.seq .leaf (.cond (.seq .leaf (.seq (.seq .leaf (.cond (.seq .leaf .leaf) .leaf)) .leaf)) .leaf)) (.join [] (.seq .leaf (.cond (.seq .leaf .leaf) .leaf)) (.seq .leaf (.seq .leaf (.join [(107,.bool)] .leaf (.cond (.seq .leaf (.seq (.seq .leaf (.cond (.seq .leaf .leaf) .leaf)) (.seq .leaf .leaf))) (.seq .leaf (.cond (.seq .leaf (.seq (.seq .leaf (.cond (.seq .leaf .leaf) .leaf)) (.seq .leaf .leaf))) .leaf)))))))))))) (.seq .leaf .leaf))))))))))
theorem zjl:okC P qs Tryz.f228.ntmps ((Tryz.f228.body).getD .skip) zc4=true:=by kernel_rfl
def zdg (s:ByteArray) (substr:ByteArray) (R:Ending→World→Prop) (w:World):Prop :=
  joinP Unit (fun k =>
  joinP Unit (fun k_1 =>
  xg ((substr.size:Int) == 0) (
  R (.returned (Value.int .i64 0)) w) (
  xg (substr.toList == s.toList) (
  R (.returned (Value.int .i64 0)) w) (
  xg ((substr.size:Int) == 1) (
  ztu substr 0 fun t29 =>
  qy P zbk #[(Value.string s),(Value.int .u8 t29)] [.int .i64] false w fun (t30:Int) w_1 =>
  R (.returned (Value.int .i64 t30)) w_1) (
  xg (decide ((substr.size:Int) ≥ (s.size:Int))) (
  R (.returned (Value.int .i64 (-1))) w) (
  ld (.int .i64) (⟨1,0,none⟩:Addr) w fun (t38:Int) =>
  xg (decide ((substr.size:Int)≤t38)) (
  xg (decide ((s.size:Int)≤64)) (
  qy P zer #[(Value.string s),(Value.string substr)] [.int .i64] false w fun (t47:Int) w_2 =>
  R (.returned (Value.int .i64 t47)) w_2) (
  k_1 () w)) (
  k_1 () w)))))) (fun _ w_3 =>
  k () w_3)) (fun _ w_4 =>
  ztu substr 0 fun t49 =>
  ztu substr 1 fun t51 =>
  zl4 .i64 (s.size:Int) (substr.size:Int) fun t55 =>
  za7 .i64 t55 1 fun t56 =>
  zav (Int × Int) (fun s_3 w_5 k_2 =>
  xg (decide (s_3.1 < t56)) (
  joinP (Int × Int) (fun k_3 =>
  joinP Int (fun k_4 =>
  ztu s s_3.1 fun t62 =>
  xg (t62 != t49) (
  za7 .i64 s_3.1 1 fun t67 =>
  zay P (Instr.sliceAt qc (Value.string s) (some (Value.int .i64 t67)) (some (Value.int .i64 t56)) none) .str w_5 fun (t69:ByteArray) =>
  qy P zbk #[(Value.string t69),(Value.int .u8 t49)] [.int .i64] false w_5 fun (t71:Int) w_6 =>
  xg (decide (t71 < 0)) (
  R (.returned (Value.int .i64 (-1))) w_6) (
  za7 .i64 t71 1 fun t76 =>
  za7 .i64 s_3.1 t76 fun t77 =>
  k_4 t77 w_6)) (
  k_4 s_3.1 w_5)) (fun s_4 w_7 =>
  joinP Unit (fun k_5 =>
  za7 .i64 s_4 1 fun t80 =>
  ztu s t80 fun t81 =>
  xg (t81 == t51) (
  za7 .i64 s_4 (substr.size:Int) fun t89 =>
  zay P (Instr.sliceAt qc (Value.string s) (some (Value.int .i64 s_4)) (some (Value.int .i64 t89)) none) .str w_7 fun (t90:ByteArray) =>
  xg (t90.toList == substr.toList) (
  R (.returned (Value.int .i64 s_4)) w_7) (
  k_5 () w_7)) (
  k_5 () w_7)) (fun _ w_8 =>
  za7 .i64 s_4 1 fun t96 =>
  za7 .i64 s_3.2 1 fun t98 =>
  joinP Bool (fun k_6 =>
  ld (.int .i64) (⟨1,0,none⟩:Addr) w_8 fun (t100:Int) =>
  xg (decide ((substr.size:Int)≤t100)) (
  qy P zl1 #[(Value.int .i64 t96)] [.int .i64] false w_8 fun (t105:Int) w_9 =>
  k_6 (decide (t98 > t105)) w_9) (
  k_6 false w_8)) (fun s_6 w_10 =>
  xg s_6 (
  zay P (Instr.sliceAt qc (Value.string s) (some (Value.int .i64 t96)) none none) .str w_10 fun (t110:ByteArray) =>
  qy P zer #[(Value.string t110),(Value.string substr)] [.int .i64] false w_10 fun (t112:Int) w_11 =>
  xg (decide (t112 ≥ 0)) (
  za7 .i64 t112 t96 fun t117 =>
  R (.returned (Value.int .i64 t117)) w_11) (
  R (.returned (Value.int .i64 (-1))) w_11)) (
  ld (.int .i64) (⟨1,0,none⟩:Addr) w_10 fun (t119:Int) =>
  xg (decide ((substr.size:Int) > t119)) (
  z9b .i64 t96 4 fun t124 =>
  za7 .i64 4 t124 fun t125 =>
  xg (decide (t98 ≥ t125)) (
  xg (decide (t96 < t56)) (
  zay P (Instr.sliceAt qc (Value.string s) (some (Value.int .i64 t96)) none none) .str w_10 fun (t135:ByteArray) =>
  qy P zfn #[(Value.string t135),(Value.string substr)] [.int .i64] false w_10 fun (t137:Int) w_12 =>
  xg (decide (t137 < 0)) (
  R (.returned (Value.int .i64 (-1))) w_12) (
  za7 .i64 t96 t137 fun t142 =>
  R (.returned (Value.int .i64 t142)) w_12)) (
  k_3 (t96,t98) w_10)) (
  k_3 (t96,t98) w_10)) (
  k_3 (t96,t98) w_10)))))) (fun s_7 w_13 =>
  k_2 (s_7.1,s_7.2) w_13)) (
  R (.returned (Value.int .i64 (-1))) w_5)) (0,0) w_4)
theorem zjw (s:ByteArray) (substr:ByteArray) (R:Ending→World→Prop) (w:World):tr P qs ((Tryz.f228.body).getD .skip) zc4 (zb0 0 [(0,(Value.string s)),(0,(Value.string substr))]) (zcb P Tryz.f228.results.toList R) w=zdg s substr R w:=by kernel_rfl
theorem zjj {s:ByteArray} {substr:ByteArray} {R:Ending→World→Prop} {w:World} (hT:zdg s substr R w):qg P zdj #[(Value.string s),(Value.string substr)] w R :=
 zy (fn:=Tryz.f228) (c:=(Tryz.f228.body).getD .skip) (ann:=zc4) (args:=[(0,(Value.string s)),(0,(Value.string substr))]) (qs:=qs) mixed Tryz.func228 rfl (by kernel_rfl) (by kernel_rfl) zjl ((zjw s substr R w).symm ▸ hT)
def zca:Ann:=(.seq .leaf (.seq .leaf .leaf))
theorem zhr:okC P qs Tryz.f231.ntmps ((Tryz.f231.body).getD .skip) zca=true:=by kernel_rfl
def zcp (s:ByteArray) (c:Int) (R:Ending→World→Prop) (w:World):Prop :=
  qy P zdw #[(Value.string s),(Value.int .u8 c)] [.int .i64] false w fun (t7:Int) w_1 =>
  R (.returned (Value.int .i64 t7)) w_1
theorem zhd (s:ByteArray) (c:Int) (R:Ending→World→Prop) (w:World):tr P qs ((Tryz.f231.body).getD .skip) zca (zb0 0 [(0,(Value.string s)),(0,(Value.int .u8 c))]) (zcb P Tryz.f231.results.toList R) w=zcp s c R w:=by kernel_rfl
theorem zha {s:ByteArray} {c:Int} {R:Ending→World→Prop} {w:World} (hT:zcp s c R w):qg P zbk #[(Value.string s),(Value.int .u8 c)] w R :=
 zy (fn:=Tryz.f231) (c:=(Tryz.f231.body).getD .skip) (ann:=zca) (args:=[(0,(Value.string s)),(0,(Value.int .u8 c))]) (qs:=qs) mixed Tryz.func231 rfl (by kernel_rfl) (by kernel_rfl) zhr ((zhd s c R w).symm ▸ hT)
theorem zg4 {e:Array Value→Sem Value} (he:Extern.find Tryz.f235=some e) (args:Array Value) (w:World):(callFunc zdw args).run P w=((e args).run P w).andThen fun v w1=>.ok (.value v) w1 :=
 Go.run_callFunc_extern Tryz.func235 (by kernel_rfl) (by kernel_rfl) (by kernel_rfl) he args w
end Go.Proofs.YtbmegmbnlajbbaaGreatDoor
