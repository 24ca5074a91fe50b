/- Part 2 of the texts below the card, joined. -/
import Derived.Test.YtbmegmbnlajbbaaGreatDoorProg
import Derived.Test.YtbmegmbnlajbbaaGreatDoorTSpa
namespace Go.Proofs.YtbmegmbnlajbbaaGreatDoor
open Go Go.Fw Go.Proofs
set_option maxRecDepth 100000
noncomputable abbrev P:Program:=Tryz.prog
def qs:List FuncId:=[93,203,172,157,200,156,187]
theorem mixed:P.follows .mixedOrders=true:=by kernel_rfl
abbrev zp6:FuncId:=5
abbrev zm7:FuncId:=12
abbrev ztf:FuncId:=13
abbrev zpp:FuncId:=14
abbrev zr7:FuncId:=15
abbrev zsi:FuncId:=16
abbrev zho:FuncId:=17
abbrev zhn:FuncId:=18
abbrev zfh:FuncId:=19
abbrev zr4:FuncId:=22
abbrev zo5:FuncId:=23
abbrev zf9:FuncId:=25
abbrev zqo:FuncId:=26
abbrev zsf:FuncId:=27
abbrev zkc:FuncId:=40
abbrev znt:FuncId:=53
abbrev zpg:FuncId:=54
abbrev zqd:FuncId:=55
abbrev zim:FuncId:=56
abbrev zca:FuncId:=57
abbrev zsc:FuncId:=58
abbrev zle:FuncId:=59
abbrev zga:FuncId:=60
abbrev zn6:FuncId:=61
abbrev zr9:FuncId:=62
abbrev ze2:FuncId:=63
abbrev zvz:FuncId:=64
abbrev zbv:FuncId:=65
abbrev zlj:FuncId:=66
abbrev zsh:FuncId:=68
abbrev zja:FuncId:=69
abbrev ziu:FuncId:=73
abbrev zna:FuncId:=77
abbrev zm9:FuncId:=78
abbrev zeo:FuncId:=82
abbrev zou:FuncId:=85
abbrev zdp:FuncId:=93
abbrev zme:FuncId:=94
abbrev ztk:FuncId:=100
abbrev zh7:FuncId:=103
abbrev zb4:FuncId:=104
abbrev znm:FuncId:=105
abbrev zam:FuncId:=106
abbrev zmh:FuncId:=107
abbrev zmi:FuncId:=108
abbrev zcm:FuncId:=109
abbrev zfx:FuncId:=110
abbrev zk8:FuncId:=111
abbrev zlu:FuncId:=112
abbrev zbf:FuncId:=113
abbrev zn1:FuncId:=114
abbrev zck:FuncId:=115
abbrev znj:FuncId:=116
abbrev zic:FuncId:=117
abbrev zir:FuncId:=118
abbrev zqq:FuncId:=119
abbrev zlr:FuncId:=120
abbrev zn2:FuncId:=121
abbrev zh4:FuncId:=122
abbrev zib:FuncId:=123
abbrev zss:FuncId:=124
abbrev zla:FuncId:=130
abbrev zqr:FuncId:=131
abbrev zum:FuncId:=132
abbrev zdq:FuncId:=133
abbrev zl6:FuncId:=134
abbrev zok:FuncId:=135
abbrev zsz:FuncId:=137
abbrev zr5:FuncId:=138
abbrev zn7:FuncId:=139
abbrev zlo:FuncId:=140
abbrev zlc:FuncId:=151
abbrev zbh:FuncId:=154
abbrev zbz:FuncId:=155
abbrev zgd:FuncId:=156
abbrev zj7:FuncId:=157
abbrev zmf:FuncId:=158
abbrev zbd:FuncId:=159
abbrev zak:FuncId:=162
abbrev zdz:FuncId:=163
abbrev zeu:FuncId:=164
abbrev zao:FuncId:=165
abbrev zbq:FuncId:=166
abbrev zat:FuncId:=167
abbrev zdx:FuncId:=168
abbrev zhq:FuncId:=169
abbrev zfl:FuncId:=170
abbrev zjs:FuncId:=171
abbrev zrz:FuncId:=172
abbrev zj6:FuncId:=173
abbrev zk4:FuncId:=174
abbrev zm0:FuncId:=175
abbrev zef:FuncId:=176
abbrev zik:FuncId:=177
abbrev ziv:FuncId:=178
abbrev zf1:FuncId:=179
abbrev zo8:FuncId:=180
abbrev zfm:FuncId:=184
abbrev zce:FuncId:=187
abbrev zf3:FuncId:=188
abbrev zoy:FuncId:=189
abbrev ze0:FuncId:=200
abbrev zb0:FuncId:=201
abbrev zew:FuncId:=202
abbrev jm:FuncId:=203
abbrev zl9:FuncId:=204
abbrev zct:FuncId:=205
abbrev zfu:FuncId:=206
abbrev znc:FuncId:=207
abbrev zdk:FuncId:=216
abbrev zg9:FuncId:=222
abbrev zel:FuncId:=223
abbrev zpo:FuncId:=224
abbrev zc9:FuncId:=228
abbrev za8:FuncId:=231
abbrev zd9:FuncId:=232
abbrev zlg:FuncId:=233
abbrev ze3:FuncId:=234
abbrev zdj:FuncId:=235
abbrev zmp:TypeId:=0
abbrev zdf:TypeId:=3
abbrev qkk:TypeId:=4
abbrev qy:TypeId:=5
abbrev qc:TypeId:=9
abbrev z5i:TypeId:=21
abbrev zo:TypeId:=22
abbrev zf:TypeId:=30
abbrev zed:TypeId:=31
abbrev vk:TypeId:=37
abbrev zfb:TypeId:=39
abbrev zk:TypeId:=44
abbrev zh:TypeId:=45
abbrev ku:TypeId:=59
abbrev zbk:TypeId:=63
abbrev zai:TypeId:=84
abbrev ql:TypeId:=88
abbrev zaa:TypeId:=102
abbrev ziq:TypeId:=104
abbrev zar:TypeId:=105
abbrev jq:TypeId:=108
abbrev jg:TypeId:=111
abbrev zcs:TypeId:=112
abbrev zi:TypeId:=114
abbrev qp:TypeId:=115
abbrev zy:TypeId:=117
abbrev zdi:TypeId:=162
abbrev zqm:TypeId:=163
abbrev jo:TypeId:=164
abbrev zah:TypeId:=165
abbrev zbp:TypeId:=187
abbrev zb6:TypeId:=198
abbrev zwi:TypeId:=207
abbrev zv1:TypeId:=210
abbrev qji:TypeId:=227
abbrev zec:TypeId:=247
abbrev ji:TypeId:=249
abbrev zgu:TypeId:=258
abbrev zvp:TypeId:=264
abbrev zas:TypeId:=266
abbrev zm2:TypeId:=267
abbrev zm3:TypeId:=269
abbrev zt2:TypeId:=286
abbrev zjk:TypeId:=303
def zqf:Ann:=(.seq .leaf (.seq .leaf .leaf))
theorem qak:okC P qs Tryz.f93.ntmps ((Tryz.f93.body).getD .skip) zqf=true:=by kernel_rfl
def zvb (x:Int) (n:Int) (R:Ending→World→Prop) (w:World):Prop :=
  z5y .u32 x n fun t7 =>
  zo9 .u64 32 n fun t10 =>
  qia .u32 x t10 fun t11 =>
  orI .u32 t7 t11 fun t12 =>
  R (.returned (Value.int .u32 t12)) w
theorem qaw (x:Int) (n:Int) (R:Ending→World→Prop) (w:World):tr P qs ((Tryz.f93.body).getD .skip) zqf (zb5 0 [(0,(Value.int .u32 x)),(0,(Value.int .u64 n))]) (zco P Tryz.f93.results.toList R) w=zvb x n R w:=by kernel_rfl
theorem qbl {x:Int} {n:Int} {R:Ending→World→Prop} {w:World} (hT:zvb x n R w):qj P zdp #[(Value.int .u32 x),(Value.int .u64 n)] w R :=
 zx (fn:=Tryz.f93) (c:=(Tryz.f93.body).getD .skip) (ann:=zqf) (args:=[(0,(Value.int .u32 x)),(0,(Value.int .u64 n))]) (qs:=qs) mixed Tryz.func93 rfl (by kernel_rfl) (by kernel_rfl) qak ((qaw x n R w).symm ▸ hT)
def zdn:Ann:=(.seq .leaf (.seq .leaf (.seq .leaf .leaf)))
theorem zmc:okC P qs Tryz.f203.ntmps ((Tryz.f203.body).getD .skip) zdn=true:=by kernel_rfl
def zd5 (x:Int) (k:Int) (R:Ending→World→Prop) (w:World):Prop :=
  cvI .u64 k fun t7 =>
  qbj .u64 t7 31 fun t8 =>
  qia .u32 x t8 fun t11 =>
  zo9 .u64 32 t8 fun t14 =>
  z5y .u32 x t14 fun t15 =>
  orI .u32 t11 t15 fun t16 =>
  R (.returned (Value.int .u32 t16)) w
theorem zmm (x:Int) (k:Int) (R:Ending→World→Prop) (w:World):tr P qs ((Tryz.f203.body).getD .skip) zdn (zb5 0 [(0,(Value.int .u32 x)),(0,(Value.int .i64 k))]) (zco P Tryz.f203.results.toList R) w=zd5 x k R w:=by kernel_rfl
theorem zl7 {x:Int} {k:Int} {R:Ending→World→Prop} {w:World} (hT:zd5 x k R w):qj P jm #[(Value.int .u32 x),(Value.int .i64 k)] w R :=
 zx (fn:=Tryz.f203) (c:=(Tryz.f203.body).getD .skip) (ann:=zdn) (args:=[(0,(Value.int .u32 x)),(0,(Value.int .i64 k))]) (qs:=qs) mixed Tryz.func203 rfl (by kernel_rfl) (by kernel_rfl) zmc ((zmm x k R w).symm ▸ hT)
def zos:Ann:=(.seq .leaf (.seq .leaf .leaf))
theorem z9a:okC P qs Tryz.f172.ntmps ((Tryz.f172.body).getD .skip) zos=true:=by kernel_rfl
def zrx (c:Int) (R:Ending→World→Prop) (w:World):Prop :=
  xk (decide (c ≥ 97)) (
  xk (decide (c≤122)) (
  R (.returned (Value.bool true)) w) (
  xk (decide (c ≥ 65)) (
  xk (decide (c≤90)) (
  R (.returned (Value.bool true)) w) (
  xk (decide (c ≥ 48)) (
  xk (decide (c≤57)) (
  R (.returned (Value.bool true)) w) (
  xk (c == 46) (
  R (.returned (Value.bool true)) w) (
  xk (c == 95) (
  R (.returned (Value.bool true)) w) (
  R (.returned (Value.bool (c == 45))) w)))) (
  xk (c == 46) (
  R (.returned (Value.bool true)) w) (
  xk (c == 95) (
  R (.returned (Value.bool true)) w) (
  R (.returned (Value.bool (c == 45))) w))))) (
  xk (decide (c ≥ 48)) (
  xk (decide (c≤57)) (
  R (.returned (Value.bool true)) w) (
  xk (c == 46) (
  R (.returned (Value.bool true)) w) (
  xk (c == 95) (
  R (.returned (Value.bool true)) w) (
  R (.returned (Value.bool (c == 45))) w)))) (
  xk (c == 46) (
  R (.returned (Value.bool true)) w) (
  xk (c == 95) (
  R (.returned (Value.bool true)) w) (
  R (.returned (Value.bool (c == 45))) w)))))) (
  xk (decide (c ≥ 65)) (
  xk (decide (c≤90)) (
  R (.returned (Value.bool true)) w) (
  xk (decide (c ≥ 48)) (
  xk (decide (c≤57)) (
  R (.returned (Value.bool true)) w) (
  xk (c == 46) (
  R (.returned (Value.bool true)) w) (
  xk (c == 95) (
  R (.returned (Value.bool true)) w) (
  R (.returned (Value.bool (c == 45))) w)))) (
  xk (c == 46) (
  R (.returned (Value.bool true)) w) (
  xk (c == 95) (
  R (.returned (Value.bool true)) w) (
  R (.returned (Value.bool (c == 45))) w))))) (
  xk (decide (c ≥ 48)) (
  xk (decide (c≤57)) (
  R (.returned (Value.bool true)) w) (
  xk (c == 46) (
  R (.returned (Value.bool true)) w) (
  xk (c == 95) (
  R (.returned (Value.bool true)) w) (
  R (.returned (Value.bool (c == 45))) w)))) (
  xk (c == 46) (
  R (.returned (Value.bool true)) w) (
  xk (c == 95) (
  R (.returned (Value.bool true)) w) (
  R (.returned (Value.bool (c == 45))) w)))))
theorem z8t (c:Int) (R:Ending→World→Prop) (w:World):tr P qs ((Tryz.f172.body).getD .skip) zos (zb5 0 [(0,(Value.int .u8 c))]) (zco P Tryz.f172.results.toList R) w=zrx c R w:=by kernel_rfl
theorem z9k {c:Int} {R:Ending→World→Prop} {w:World} (hT:zrx c R w):qj P zrz #[(Value.int .u8 c)] w R :=
 zx (fn:=Tryz.f172) (c:=(Tryz.f172.body).getD .skip) (ann:=zos) (args:=[(0,(Value.int .u8 c))]) (qs:=qs) mixed Tryz.func172 rfl (by kernel_rfl) (by kernel_rfl) z9a ((z8t c R w).symm ▸ hT)
def zkz:Ann:=(.seq .leaf (.join [] (.jblk [] (.join [] (.jblk [] (.jblk [] (.jblk [] (.join [] (.join [] (.seq .leaf (.cond .leaf .leaf)) (.join [] (.seq .leaf (.cond .leaf .leaf)) (.seq .leaf (.cond .leaf .leaf)))) .leaf)))) (.seq (.seq .leaf .leaf) .leaf))) (.seq .leaf .leaf)))
theorem z08:okC P qs Tryz.f157.ntmps ((Tryz.f157.body).getD .skip) zkz=true:=by kernel_rfl
def zoz (c:Int) (R:Ending→World→Prop) (w:World):Prop :=
  joinP Unit (fun k =>
  joinP Unit (fun k_1 =>
  joinP Unit (fun k_2 =>
  joinP Unit (fun k_3 =>
  joinP Unit (fun k_4 =>
  joinP Unit (fun k_5 =>
  joinP Unit (fun k_6 =>
  joinP Unit (fun k_7 =>
  xk (c == 46) (
  k_5 () w) (
  xk (c == 95) (
  k_5 () w) (
  xk (c == 45) (
  k_5 () w) (
  k_7 () w)))) (fun _ w_1 =>
  joinP Unit (fun k_8 =>
  xk (decide (c ≥ 48)) (
  xk (decide (c≤57)) (
  k_4 () w_1) (
  k_8 () w_1)) (
  k_8 () w_1)) (fun _ w_2 =>
  xk (decide (c ≥ 97)) (
  xk (decide (c≤122)) (
  k_3 () w_2) (
  k_6 () w_2)) (
  k_6 () w_2)))) (fun _ w_3 =>
  k_1 () w_3)) (fun _ w_4 =>
  k_4 () w_4)) (fun _ w_5 =>
  k_3 () w_5)) (fun _ w_6 =>
  k_2 () w_6)) (fun _ w_7 =>
  R (.returned (Value.bool true)) w_7)) (fun _ w_8 =>
  k () w_8)) (fun _ w_9 =>
  xk (decide (c ≥ 65)) (
  R (.returned (Value.bool (decide (c≤90)))) w_9) (
  R (.returned (Value.bool false)) w_9))
theorem z0z (c:Int) (R:Ending→World→Prop) (w:World):tr P qs ((Tryz.f157.body).getD .skip) zkz (zb5 0 [(0,(Value.int .u8 c))]) (zco P Tryz.f157.results.toList R) w=zoz c R w:=by kernel_rfl
theorem z0j {c:Int} {R:Ending→World→Prop} {w:World} (hT:zoz c R w):qj P zj7 #[(Value.int .u8 c)] w R :=
 zx (fn:=Tryz.f157) (c:=(Tryz.f157.body).getD .skip) (ann:=zkz) (args:=[(0,(Value.int .u8 c))]) (qs:=qs) mixed Tryz.func157 rfl (by kernel_rfl) (by kernel_rfl) z08 ((z0z c R w).symm ▸ hT)
def zfr:Ann:=(.seq .leaf (.seq .leaf .leaf))
theorem zr1:okC P qs Tryz.f200.ntmps ((Tryz.f200.body).getD .skip) zfr=true:=by kernel_rfl
def zhp (x:ByteArray) (R:Ending→World→Prop) (w:World):Prop :=
  R (.returned (Value.bool (!(x.toList == x.toList)))) w
theorem zri (x:ByteArray) (R:Ending→World→Prop) (w:World):tr P qs ((Tryz.f200.body).getD .skip) zfr (zb5 0 [(0,(Value.string x))]) (zco P Tryz.f200.results.toList R) w=zhp x R w:=by kernel_rfl
theorem zry {x:ByteArray} {R:Ending→World→Prop} {w:World} (hT:zhp x R w):qj P ze0 #[(Value.string x)] w R :=
 zx (fn:=Tryz.f200) (c:=(Tryz.f200.body).getD .skip) (ann:=zfr) (args:=[(0,(Value.string x))]) (qs:=qs) mixed Tryz.func200 rfl (by kernel_rfl) (by kernel_rfl) zr1 ((zri x R w).symm ▸ hT)
def ze7:Ann:=(.seq .leaf (.seq .leaf .leaf))
theorem zq0:okC P qs Tryz.f156.ntmps ((Tryz.f156.body).getD .skip) ze7=true:=by kernel_rfl
def zgr (s:ByteArray) (prefixv:ByteArray) (R:Ending→World→Prop) (w:World):Prop :=
  zhe P zce #[(Value.string s),(Value.string prefixv)] [.bool] false w fun (t7:Bool) =>
  R (.returned (Value.bool t7)) w
theorem zq1 (s:ByteArray) (prefixv:ByteArray) (R:Ending→World→Prop) (w:World):tr P qs ((Tryz.f156.body).getD .skip) ze7 (zb5 0 [(0,(Value.string s)),(0,(Value.string prefixv))]) (zco P Tryz.f156.results.toList R) w=zgr s prefixv R w:=by kernel_rfl
theorem zqx {s:ByteArray} {prefixv:ByteArray} {R:Ending→World→Prop} {w:World} (hT:zgr s prefixv R w):qj P zgd #[(Value.string s),(Value.string prefixv)] w R :=
 zx (fn:=Tryz.f156) (c:=(Tryz.f156.body).getD .skip) (ann:=ze7) (args:=[(0,(Value.string s)),(0,(Value.string prefixv))]) (qs:=qs) mixed Tryz.func156 rfl (by kernel_rfl) (by kernel_rfl) zq0 ((zq1 s prefixv R w).symm ▸ hT)
def zbx:Ann:=(.seq .leaf (.seq .leaf .leaf))
theorem zhh:okC P qs Tryz.f187.ntmps ((Tryz.f187.body).getD .skip) zbx=true:=by kernel_rfl
def zcf (s:ByteArray) (prefixv:ByteArray) (R:Ending→World→Prop) (w:World):Prop :=
  xk (decide ((s.size:Int) ≥ (prefixv.size:Int))) (
  zaz P (Instr.sliceAt qc (Value.string s) none (some (Value.int .i64 (prefixv.size:Int))) none) .str w fun (t14:ByteArray) =>
  R (.returned (Value.bool (t14.toList == prefixv.toList))) w) (
  R (.returned (Value.bool false)) w)
theorem zg6 (s:ByteArray) (prefixv:ByteArray) (R:Ending→World→Prop) (w:World):tr P qs ((Tryz.f187.body).getD .skip) zbx (zb5 0 [(0,(Value.string s)),(0,(Value.string prefixv))]) (zco P Tryz.f187.results.toList R) w=zcf s prefixv R w:=by kernel_rfl
theorem zg3 {s:ByteArray} {prefixv:ByteArray} {R:Ending→World→Prop} {w:World} (hT:zcf s prefixv R w):qj P zce #[(Value.string s),(Value.string prefixv)] w R :=
 zx (fn:=Tryz.f187) (c:=(Tryz.f187.body).getD .skip) (ann:=zbx) (args:=[(0,(Value.string s)),(0,(Value.string prefixv))]) (qs:=qs) mixed Tryz.func187 rfl (by kernel_rfl) (by kernel_rfl) zhh ((zg6 s prefixv R w).symm ▸ hT)
def zrb:Ann:=(.seq .leaf (.seq .leaf (.seq .leaf (.seq (.blk (.loop [(3,.slc)] (.seq (.seq .leaf (.cond .leaf .leaf)) (.blk .leaf)))) (.seq .leaf (.seq (.seq .leaf (.blk (.loop [(3,.slc),(5,.int .i64)] (.seq (.seq .leaf (.cond .leaf .leaf)) (.seq (.blk .leaf) .leaf))))) (.seq .leaf (.seq .leaf (.seq (.seq .leaf (.blk (.loop [(8,.int .i64)] (.seq (.seq .leaf (.cond .leaf .leaf)) (.seq (.blk (.seq (.seq .leaf (.blk (.loop [(9,.int .i64)] (.seq (.seq .leaf (.cond .leaf .leaf)) (.join [] (.jblk [] (.seq (.seq .leaf (.cond (.seq .leaf (.seq (.seq .leaf (.blk (.loop [(10,.int .i64)] (.seq (.seq .leaf (.cond .leaf .leaf)) (.seq (.blk (.tree (.op 0 [] (.op 1 [] (.op 2 [] (.op 5 [] (.op 6 [] (.op 7 [] (.op 8 [] (.op 9 [] (.op 10 [] (.op 11 [] (.op 12 [] (.op 3 [] (.op 4 [] (.op 13 [] (.op 14 [] (.op 15 [] (.op 16 [] (.op 17 [] .done)))))))))))))))))))) .leaf))))) .leaf)) .leaf)) (.seq .leaf (.seq .leaf (.tree (.op 0 [] (.op 1 [] (.op 3 [] (.op 6 [] (.op 7 [] (.op 9 [] (.op 10 [] (.op 11 [] (.op 14 [] (.op 16 [] (.op 19 [] (.op 20 [] (.op 23 [] (.op 24 [] (.op 25 [] (.op 2 [] (.op 4 [] (.op 5 [] (.op 8 [] (.op 12 [] (.op 13 [] (.op 15 [] (.op 17 [] (.op 18 [] (.op 21 [] (.op 22 [] (.op 26 [] (.op 27 [] (.op 28 [] (.op 29 [] .done))))))))))))))))))))))))))))))))))) .leaf))))) (.seq .leaf (.seq (.seq .leaf (.blk (.loop [(14,.int .i64)] (.seq (.seq .leaf (.cond .leaf .leaf)) (.seq (.blk (.seq .leaf (.seq .leaf (.seq (.tree (.op 0 [] (.op 2 [] (.op 4 [] (.op 7 [] (.op 11 [] (.op 12 [] (.op 15 [] (.op 16 [] (.op 17 [] (.op 22 [] (.op 25 [] (.op 26 [] (.op 1 [] (.op 3 [] (.op 5 [] (.op 6 [] (.op 8 [] (.op 9 [] (.op 10 [] (.op 13 [] (.op 14 [] (.op 18 [] (.op 19 [] (.op 20 [] (.op 21 [] (.op 27 [] (.op 23 [1,13,18,27] (.op 24 [] (.op 28 [] (.op 29 [] .done))))))))))))))))))))))))))))))) (.seq (.tree (.op 0 [] (.op 2 [] (.op 5 [] (.op 8 [] (.op 9 [] (.op 12 [] (.op 13 [] (.op 17 [] (.op 19 [] (.op 1 [] (.op 3 [] (.op 4 [] (.op 6 [] (.op 7 [] (.op 10 [] (.op 11 [] (.op 14 [] (.op 15 [] (.op 16 [] (.op 18 [] (.op 20 [] (.op 21 [] (.op 22 [] (.op 23 [] (.op 24 [] .done)))))))))))))))))))))))))) (.seq (.seq .leaf (.blk (.loop [(19,.int .i64)] (.seq (.seq .leaf (.cond .leaf .leaf)) (.seq (.blk .leaf) .leaf))))) (.seq .leaf .leaf))))))) .leaf))))) (.seq .leaf (.blk (.loop [(20,.int .i64)] (.seq (.seq .leaf (.cond .leaf .leaf)) (.seq (.blk (.tree (.op 0 [] (.op 1 [] (.op 2 [] (.op 4 [] (.op 5 [] (.op 3 [] (.op 6 [] (.op 7 [] (.op 8 [] (.op 9 [] .done)))))))))))) .leaf))))))))) .leaf))))) (.seq .leaf (.seq (.seq .leaf (.blk (.loop [(22,.int .i64)] (.seq (.seq .leaf (.cond .leaf .leaf)) (.seq (.blk .leaf) .leaf))))) (.seq .leaf .leaf))))))))))))
theorem qe9:okC P qs Tryz.f40.ntmps ((Tryz.f40.body).getD .skip) zrb=true:=by kernel_rfl
def zyi (b:Option Addr) (b_l b_c:Nat) (R:Ending→World→Prop) (w:World):Prop :=
  zbn (zc P zf) zf w fun b2 w_1 =>
  zal P (Instr.buildSlice zh 0 #[]) .slc w_1 fun (t23:(Option Addr × Nat × Nat)) w_2 =>
  zal P (Builtin.append_ #[zh,zh] zh #[(Value.slice t23.1 t23.2.1 t23.2.2),(Value.slice b b_l b_c)]) .slc w_2 fun (t25:(Option Addr × Nat × Nat)) w_3 =>
  zal P (Instr.buildSlice zh 1 #[(0,(Value.int .u8 128))]) .slc w_3 fun (t27:(Option Addr × Nat × Nat)) w_4 =>
  zal P (Builtin.append_ #[zh,zh] zh #[(Value.slice t25.1 t25.2.1 t25.2.2),(Value.slice t27.1 t27.2.1 t27.2.2)]) .slc w_4 fun (t28:(Option Addr × Nat × Nat)) w_5 =>
  zaw (Option Addr × Nat × Nat) (fun s w_6 k =>
  qju (s.2.1:Int) 64 fun t31 =>
  xk (t31 != 56) (
  zal P (Instr.buildSlice zh 1 #[(0,(Value.int .u8 0))]) .slc w_6 fun (t34:(Option Addr × Nat × Nat)) w_7 =>
  zal P (Builtin.append_ #[zh,zh] zh #[(Value.slice s.1 s.2.1 s.2.2),(Value.slice t34.1 t34.2.1 t34.2.2)]) .slc w_7 fun (t35:(Option Addr × Nat × Nat)) w_8 =>
  k (t35.1,t35.2.1,t35.2.2) w_8) (
  cvI .u64 (b_l:Int) fun t38 =>
  z0d .u64 t38 8 fun t39 =>
  zaw ((Option Addr × Nat × Nat) × Int) (fun s_1 w_9 k_1 =>
  xk (decide (s_1.2 < 8)) (
  z0d .i64 8 s_1.2 fun t47 =>
  zo9 .i64 56 t47 fun t48 =>
  cvI .u64 t48 fun t49 =>
  z5y .u64 t39 t49 fun t50 =>
  cvI .u8 t50 fun t51 =>
  zal P (Instr.buildSlice zh 1 #[(0,(Value.int .u8 t51))]) .slc w_9 fun (t52:(Option Addr × Nat × Nat)) w_10 =>
  zal P (Builtin.append_ #[zh,zh] zh #[(Value.slice s_1.1.1 s_1.1.2.1 s_1.1.2.2),(Value.slice t52.1 t52.2.1 t52.2.2)]) .slc w_10 fun (t53:(Option Addr × Nat × Nat)) w_11 =>
  zba .i64 s_1.2 1 fun t43 =>
  k_1 ((t53.1,t53.2.1,t53.2.2),t43) w_11) (
  zaz P (Instr.build jo #[(0,(Value.int .u32 1779033703)),(1,(Value.int .u32 3144134277)),(2,(Value.int .u32 1013904242)),(3,(Value.int .u32 2773480762)),(4,(Value.int .u32 1359893119)),(5,(Value.int .u32 2600822924)),(6,(Value.int .u32 528734635)),(7,(Value.int .u32 1541459225))]) .any w_9 fun (t54:Value) =>
  zbn (zc P jo) jo w_9 fun b6 w_12 =>
  zby P (storeVar jo (⟨b6,0,none⟩:Addr) t54) w_12 fun w_13 =>
  zbn (zc P zah) zah w_13 fun b7 w_14 =>
  zaw Int (fun s_2 w_15 k_2 =>
  xk (decide (s_2 < (s_1.1.2.1:Int))) (
  zaw Int (fun s_3 w_16 k_3 =>
  xk (decide (s_3 < 64)) (
  joinP Unit (fun k_4 =>
  joinP Unit (fun k_5 =>
  xk (decide (s_3 < 16)) (
  ixR (⟨b7,0,none⟩:Addr) 64 1 s_3 fun t68 =>
  stC t68 (Value.int .u32 0) w_16 fun w_17 =>
  zaw Int (fun s_4 w_18 k_6 =>
  xk (decide (s_4 < 4)) (
  zbi w_18 fun w_19 =>
  ixR (⟨b7,0,none⟩:Addr) 64 1 s_3 fun t75 =>
  z0d .i64 4 s_3 fun t81 =>
  zba .i64 s_2 t81 fun t82 =>
  zba .i64 t82 s_4 fun t84 =>
  ixS s_1.1.1 s_1.1.2.1 1 t84 fun t85 =>
  ld (.int .u32) t75 w_19 fun (t76:Int) =>
  qia .u32 t76 8 fun t77 =>
  ld (.int .u8) t85 w_19 fun (t86:Int) =>
  cvI .u32 t86 fun t87 =>
  orI .u32 t77 t87 fun t88 =>
  ixR (⟨b7,0,none⟩:Addr) 64 1 s_3 fun t89 =>
  stC t89 (Value.int .u32 t88) w_19 fun w_20 =>
  zba .i64 s_4 1 fun t72 =>
  k_6 t72 w_20) (
  k_5 () w_18)) 0 w_17) (
  zo9 .i64 s_3 2 fun t91 =>
  ixR (⟨b7,0,none⟩:Addr) 64 1 t91 fun t92 =>
  ld (.int .u32) t92 w_16 fun (t93:Int) =>
  zo9 .i64 s_3 15 fun t95 =>
  ixR (⟨b7,0,none⟩:Addr) 64 1 t95 fun t96 =>
  ld (.int .u32) t96 w_16 fun (t97:Int) =>
  zbi w_16 fun w_21 =>
  z5y .u32 t93 10 fun t105 =>
  zo9 .i64 s_3 7 fun t108 =>
  ixR (⟨b7,0,none⟩:Addr) 64 1 t108 fun t109 =>
  z5y .u32 t97 3 fun t118 =>
  zo9 .i64 s_3 16 fun t122 =>
  ixR (⟨b7,0,none⟩:Addr) 64 1 t122 fun t123 =>
  zhe P zdp #[(Value.int .u32 t93),(Value.int .u64 17)] [.int .u32] false w_21 fun (t100:Int) =>
  zhe P zdp #[(Value.int .u32 t93),(Value.int .u64 19)] [.int .u32] false w_21 fun (t102:Int) =>
  zrj .u32 t100 t102 fun t103 =>
  zrj .u32 t103 t105 fun t106 =>
  ld (.int .u32) t109 w_21 fun (t110:Int) =>
  zba .u32 t106 t110 fun t111 =>
  zhe P zdp #[(Value.int .u32 t97),(Value.int .u64 7)] [.int .u32] false w_21 fun (t113:Int) =>
  zhe P zdp #[(Value.int .u32 t97),(Value.int .u64 18)] [.int .u32] false w_21 fun (t115:Int) =>
  zrj .u32 t113 t115 fun t116 =>
  zrj .u32 t116 t118 fun t119 =>
  zba .u32 t111 t119 fun t120 =>
  ld (.int .u32) t123 w_21 fun (t124:Int) =>
  zba .u32 t120 t124 fun t125 =>
  ixR (⟨b7,0,none⟩:Addr) 64 1 s_3 fun t126 =>
  stC t126 (Value.int .u32 t125) w_21 fun w_22 =>
  k_5 () w_22)) (fun _ w_23 =>
  k_4 () w_23)) (fun _ w_24 =>
  zba .i64 s_3 1 fun t64 =>
  k_3 t64 w_24)) (
  ldA P 8 (⟨b6,0,none⟩:Addr) w_16 fun t127 =>
  zbn (zc P jo) jo w_16 fun b13 w_25 =>
  zby P (storeVar jo (⟨b13,0,none⟩:Addr) (Value.agg t127)) w_25 fun w_26 =>
  zaw Int (fun s_7 w_27 k_7 =>
  xk (decide (s_7 < 64)) (
  ld (.int .u32) (⟨b13,4,none⟩:Addr) w_27 fun (t133:Int) =>
  ld (.int .u32) (⟨b13,0,none⟩:Addr) w_27 fun (t135:Int) =>
  zbi w_27 fun w_28 =>
  zrj .u32 4294967295 t133 fun t152 =>
  ixR (⟨b7,0,none⟩:Addr) 64 1 s_7 fun t162 =>
  ld (.int .u32) (⟨b13,7,none⟩:Addr) w_28 fun (t137:Int) =>
  zhe P zdp #[(Value.int .u32 t133),(Value.int .u64 6)] [.int .u32] false w_28 fun (t139:Int) =>
  zhe P zdp #[(Value.int .u32 t133),(Value.int .u64 11)] [.int .u32] false w_28 fun (t141:Int) =>
  zrj .u32 t139 t141 fun t142 =>
  zhe P zdp #[(Value.int .u32 t133),(Value.int .u64 25)] [.int .u32] false w_28 fun (t144:Int) =>
  zrj .u32 t142 t144 fun t145 =>
  zba .u32 t137 t145 fun t146 =>
  ld (.int .u32) (⟨b13,5,none⟩:Addr) w_28 fun (t149:Int) =>
  qbj .u32 t133 t149 fun t150 =>
  ld (.int .u32) (⟨b13,6,none⟩:Addr) w_28 fun (t154:Int) =>
  qbj .u32 t152 t154 fun t155 =>
  zrj .u32 t150 t155 fun t156 =>
  zba .u32 t146 t156 fun t157 =>
  ld (.int .u32) t162 w_28 fun (t163:Int) =>
  xg P zme #[(Value.int .i64 s_7)] [.int .u32] false w_28 fun (t159:Int) w_29 =>
  ((ld (.int .u32) t162 w_29 fun (t163_1:Int) =>
  (Value.int .u32 t163_1)=(Value.int .u32 t163)) ∧
  ((ld (.int .u32) (⟨b13,6,none⟩:Addr) w_29 fun (t154_1:Int) =>
  (Value.int .u32 t154_1)=(Value.int .u32 t154)) ∧
  ((ld (.int .u32) (⟨b13,5,none⟩:Addr) w_29 fun (t149_1:Int) =>
  (Value.int .u32 t149_1)=(Value.int .u32 t149)) ∧
  ((ld (.int .u32) (⟨b13,7,none⟩:Addr) w_29 fun (t137_1:Int) =>
  (Value.int .u32 t137_1)=(Value.int .u32 t137)) ∧
  zba .u32 t157 t159 fun t160 =>
  zba .u32 t160 t163 fun t164 =>
  zbi w_29 fun w_30 =>
  zhe P zdp #[(Value.int .u32 t135),(Value.int .u64 2)] [.int .u32] false w_30 fun (t166:Int) =>
  zhe P zdp #[(Value.int .u32 t135),(Value.int .u64 13)] [.int .u32] false w_30 fun (t168:Int) =>
  zrj .u32 t166 t168 fun t169 =>
  zhe P zdp #[(Value.int .u32 t135),(Value.int .u64 22)] [.int .u32] false w_30 fun (t171:Int) =>
  zrj .u32 t169 t171 fun t172 =>
  ld (.int .u32) (⟨b13,1,none⟩:Addr) w_30 fun (t175:Int) =>
  qbj .u32 t135 t175 fun t176 =>
  ld (.int .u32) (⟨b13,2,none⟩:Addr) w_30 fun (t179:Int) =>
  qbj .u32 t135 t179 fun t180 =>
  zrj .u32 t176 t180 fun t181 =>
  ld (.int .u32) (⟨b13,1,none⟩:Addr) w_30 fun (t183:Int) =>
  ld (.int .u32) (⟨b13,2,none⟩:Addr) w_30 fun (t185:Int) =>
  qbj .u32 t183 t185 fun t186 =>
  zrj .u32 t181 t186 fun t187 =>
  zba .u32 t172 t187 fun t188 =>
  zaw Int (fun s_8 w_31 k_8 =>
  xk (decide (s_8 > 0)) (
  zo9 .i64 s_8 1 fun t195 =>
  ixR (⟨b13,0,none⟩:Addr) 8 1 t195 fun t196 =>
  ld (.int .u32) t196 w_31 fun (t197:Int) =>
  ixR (⟨b13,0,none⟩:Addr) 8 1 s_8 fun t198 =>
  stC t198 (Value.int .u32 t197) w_31 fun w_32 =>
  zo9 .i64 s_8 1 fun t192 =>
  k_8 t192 w_32) (
  ld (.int .u32) (⟨b13,4,none⟩:Addr) w_31 fun (t200:Int) =>
  zba .u32 t200 t164 fun t202 =>
  stC (⟨b13,4,none⟩:Addr) (Value.int .u32 t202) w_31 fun w_33 =>
  zba .u32 t164 t188 fun t206 =>
  stC (⟨b13,0,none⟩:Addr) (Value.int .u32 t206) w_33 fun w_34 =>
  zba .i64 s_7 1 fun t131 =>
  k_7 t131 w_34)) 7 w_30))))) (
  zaw Int (fun s_9 w_35 k_9 =>
  xk (decide (s_9 < 8)) (
  zbi w_35 fun w_36 =>
  ixR (⟨b6,0,none⟩:Addr) 8 1 s_9 fun t214 =>
  ixR (⟨b13,0,none⟩:Addr) 8 1 s_9 fun t217 =>
  ld (.int .u32) t214 w_36 fun (t215:Int) =>
  ld (.int .u32) t217 w_36 fun (t218:Int) =>
  zba .u32 t215 t218 fun t219 =>
  ixR (⟨b6,0,none⟩:Addr) 8 1 s_9 fun t220 =>
  stC t220 (Value.int .u32 t219) w_36 fun w_37 =>
  zba .i64 s_9 1 fun t211 =>
  k_9 t211 w_37) (
  zba .i64 s_2 64 fun t60 =>
  k_2 t60 w_35)) 0 w_27)) 0 w_26)) 0 w_15) (
  zbn (zc P zf) zf w_15 fun b21 w_38 =>
  zaw Int (fun s_10 w_39 k_10 =>
  xk (decide (s_10 < 32)) (
  qig .i64 s_10 4 fun t227 =>
  ixR (⟨b6,0,none⟩:Addr) 8 1 t227 fun t228 =>
  ld (.int .u32) t228 w_39 fun (t229:Int) =>
  qju s_10 4 fun t231 =>
  z0d .i64 8 t231 fun t232 =>
  zo9 .i64 24 t232 fun t233 =>
  cvI .u64 t233 fun t234 =>
  z5y .u32 t229 t234 fun t235 =>
  cvI .u8 t235 fun t236 =>
  ixR (⟨b21,0,none⟩:Addr) 32 1 s_10 fun t237 =>
  stC t237 (Value.int .u8 t236) w_39 fun w_40 =>
  zba .i64 s_10 1 fun t224 =>
  k_10 t224 w_40) (
  ldA P 32 (⟨b21,0,none⟩:Addr) w_39 fun t238 =>
  zby P (storeVar zf (⟨b2,0,none⟩:Addr) (Value.agg t238)) w_39 fun w_41 =>
  ldA P 32 (⟨b2,0,none⟩:Addr) w_41 fun t2 =>
  R (.returned (Value.agg t2)) w_41)) 0 w_38)) 0 w_14)) ((s.1,s.2.1,s.2.2),0) w_6)) (t28.1,t28.2.1,t28.2.2) w_5
theorem qd7 (b:Option Addr) (b_l b_c:Nat) (R:Ending→World→Prop) (w:World):tr P qs ((Tryz.f40.body).getD .skip) zrb (zb5 0 [(0,(Value.slice b b_l b_c))]) (zco P Tryz.f40.results.toList R) w=zyi b b_l b_c R w:=by kernel_rfl
theorem qeb {b:Option Addr} {b_l b_c:Nat} {R:Ending→World→Prop} {w:World} (hT:zyi b b_l b_c R w):qj P zkc #[(Value.slice b b_l b_c)] w R :=
 zx (fn:=Tryz.f40) (c:=(Tryz.f40.body).getD .skip) (ann:=zrb) (args:=[(0,(Value.slice b b_l b_c))]) (qs:=qs) mixed Tryz.func40 rfl (by kernel_rfl) (by kernel_rfl) qe9 ((qd7 b b_l b_c R w).symm ▸ hT)
def zly:Ann:=(.seq .leaf (.seq .leaf .leaf))
theorem z5q:okC P qs Tryz.f57.ntmps ((Tryz.f57.body).getD .skip) zly=true:=by kernel_rfl
def zp5 (names:Option Addr) (names_l names_c:Nat) (R:Ending→World→Prop) (w:World):Prop :=
  xg P zlu #[(Value.slice names names_l names_c),(Value.string (ByteArray.mk #[47]))] [.str] false w fun (t4:ByteArray) w_1 =>
  qjd (ByteArray.mk #[47]) t4 fun t5 =>
  R (.returned (Value.string t5)) w_1
theorem z3y (names:Option Addr) (names_l names_c:Nat) (R:Ending→World→Prop) (w:World):tr P qs ((Tryz.f57.body).getD .skip) zly (zb5 0 [(0,(Value.slice names names_l names_c))]) (zco P Tryz.f57.results.toList R) w=zp5 names names_l names_c R w:=by kernel_rfl
theorem z5e {names:Option Addr} {names_l names_c:Nat} {R:Ending→World→Prop} {w:World} (hT:zp5 names names_l names_c R w):qj P zca #[(Value.slice names names_l names_c)] w R :=
 zx (fn:=Tryz.f57) (c:=(Tryz.f57.body).getD .skip) (ann:=zly) (args:=[(0,(Value.slice names names_l names_c))]) (qs:=qs) mixed Tryz.func57 rfl (by kernel_rfl) (by kernel_rfl) z5q ((z3y names names_l names_c R w).symm ▸ hT)
def zsm:Ann:=(.seq .leaf (.seq .leaf (.seq .leaf (.seq .leaf .leaf))))
theorem qee:okC P qs Tryz.f78.ntmps ((Tryz.f78.body).getD .skip) zsm=true:=by kernel_rfl
def zyx (b:Option Addr) (b_l b_c:Nat) (R:Ending→World→Prop) (w:World):Prop :=
  zbn (zc P zf) zf w fun b2 w_1 =>
  xg P zum #[] [.ptr] false w_1 fun (t4:(Option Addr)) w_2 =>
  xg P zdq #[(Value.pointer t4),(Value.slice b b_l b_c)] [] true w_2 fun (_:Unit) w_3 =>
  xg P zl6 #[(Value.pointer t4)] [.any] false w_3 fun (t9:Value) w_4 =>
  zby P (storeVar zf (⟨b2,0,none⟩:Addr) t9) w_4 fun w_5 =>
  ldA P 32 (⟨b2,0,none⟩:Addr) w_5 fun t2 =>
  R (.returned (Value.agg t2)) w_5
theorem qdz (b:Option Addr) (b_l b_c:Nat) (R:Ending→World→Prop) (w:World):tr P qs ((Tryz.f78.body).getD .skip) zsm (zb5 0 [(0,(Value.slice b b_l b_c))]) (zco P Tryz.f78.results.toList R) w=zyx b b_l b_c R w:=by kernel_rfl
theorem qfh {b:Option Addr} {b_l b_c:Nat} {R:Ending→World→Prop} {w:World} (hT:zyx b b_l b_c R w):qj P zm9 #[(Value.slice b b_l b_c)] w R :=
 zx (fn:=Tryz.f78) (c:=(Tryz.f78.body).getD .skip) (ann:=zsm) (args:=[(0,(Value.slice b b_l b_c))]) (qs:=qs) mixed Tryz.func78 rfl (by kernel_rfl) (by kernel_rfl) qee ((qdz b b_l b_c R w).symm ▸ hT)
def zjr:Ann:=(.seq .leaf (.seq .leaf (.seq .leaf .leaf)))
theorem zze:okC P qs Tryz.f94.ntmps ((Tryz.f94.body).getD .skip) zjr=true:=by kernel_rfl
def zl4 (t:Int) (R:Ending→World→Prop) (w:World):Prop :=
  zaz P (Instr.build zah #[(0,(Value.int .u32 1116352408)),(1,(Value.int .u32 1899447441)),(2,(Value.int .u32 3049323471)),(3,(Value.int .u32 3921009573)),(4,(Value.int .u32 961987163)),(5,(Value.int .u32 1508970993)),(6,(Value.int .u32 2453635748)),(7,(Value.int .u32 2870763221)),(8,(Value.int .u32 3624381080)),(9,(Value.int .u32 310598401)),(10,(Value.int .u32 607225278)),(11,(Value.int .u32 1426881987)),(12,(Value.int .u32 1925078388)),(13,(Value.int .u32 2162078206)),(14,(Value.int .u32 2614888103)),(15,(Value.int .u32 3248222580)),(16,(Value.int .u32 3835390401)),(17,(Value.int .u32 4022224774)),(18,(Value.int .u32 264347078)),(19,(Value.int .u32 604807628)),(20,(Value.int .u32 770255983)),(21,(Value.int .u32 1249150122)),(22,(Value.int .u32 1555081692)),(23,(Value.int .u32 1996064986)),(24,(Value.int .u32 2554220882)),(25,(Value.int .u32 2821834349)),(26,(Value.int .u32 2952996808)),(27,(Value.int .u32 3210313671)),(28,(Value.int .u32 3336571891)),(29,(Value.int .u32 3584528711)),(30,(Value.int .u32 113926993)),(31,(Value.int .u32 338241895)),(32,(Value.int .u32 666307205)),(33,(Value.int .u32 773529912)),(34,(Value.int .u32 1294757372)),(35,(Value.int .u32 1396182291)),(36,(Value.int .u32 1695183700)),(37,(Value.int .u32 1986661051)),(38,(Value.int .u32 2177026350)),(39,(Value.int .u32 2456956037)),(40,(Value.int .u32 2730485921)),(41,(Value.int .u32 2820302411)),(42,(Value.int .u32 3259730800)),(43,(Value.int .u32 3345764771)),(44,(Value.int .u32 3516065817)),(45,(Value.int .u32 3600352804)),(46,(Value.int .u32 4094571909)),(47,(Value.int .u32 275423344)),(48,(Value.int .u32 430227734)),(49,(Value.int .u32 506948616)),(50,(Value.int .u32 659060556)),(51,(Value.int .u32 883997877)),(52,(Value.int .u32 958139571)),(53,(Value.int .u32 1322822218)),(54,(Value.int .u32 1537002063)),(55,(Value.int .u32 1747873779)),(56,(Value.int .u32 1955562222)),(57,(Value.int .u32 2024104815)),(58,(Value.int .u32 2227730452)),(59,(Value.int .u32 2361852424)),(60,(Value.int .u32 2428436474)),(61,(Value.int .u32 2756734187)),(62,(Value.int .u32 3204031479)),(63,(Value.int .u32 3329325298))]) .any w fun (t4:Value) =>
  zbn (zc P zah) zah w fun b3 w_1 =>
  zby P (storeVar zah (⟨b3,0,none⟩:Addr) t4) w_1 fun w_2 =>
  ixR (⟨b3,0,none⟩:Addr) 64 1 t fun t6 =>
  ld (.int .u32) t6 w_2 fun (t7:Int) =>
  R (.returned (Value.int .u32 t7)) w_2
theorem zx1 (t:Int) (R:Ending→World→Prop) (w:World):tr P qs ((Tryz.f94.body).getD .skip) zjr (zb5 0 [(0,(Value.int .i64 t))]) (zco P Tryz.f94.results.toList R) w=zl4 t R w:=by kernel_rfl
theorem zyn {t:Int} {R:Ending→World→Prop} {w:World} (hT:zl4 t R w):qj P zme #[(Value.int .i64 t)] w R :=
 zx (fn:=Tryz.f94) (c:=(Tryz.f94.body).getD .skip) (ann:=zjr) (args:=[(0,(Value.int .i64 t))]) (qs:=qs) mixed Tryz.func94 rfl (by kernel_rfl) (by kernel_rfl) zze ((zx1 t R w).symm ▸ hT)
def zks:Ann:=(.seq .leaf (.seq (.tree (.op 0 [] (.op 1 [] (.op 2 [] (.op 3 [] .done))))) .leaf))
theorem z0w:okC P qs Tryz.f100.ntmps ((Tryz.f100.body).getD .skip) zks=true:=by kernel_rfl
def zo2 (a:Value) (b:Value) (R:Ending→World→Prop) (w:World):Prop :=
  zbn (Value.cells a) zf w fun b2 w_1 =>
  zbn (Value.cells b) zf w_1 fun b3 w_2 =>
  zbi w_2 fun w_3 =>
  zaz P (Instr.sliceAt zf (Value.pointer (some (⟨b2,0,none⟩:Addr))) none none none) .slc w_3 fun (t5:(Option Addr × Nat × Nat)) =>
  zaz P (Instr.sliceAt zf (Value.pointer (some (⟨b3,0,none⟩:Addr))) none none none) .slc w_3 fun (t6:(Option Addr × Nat × Nat)) =>
  xg P zlc #[(Value.slice t5.1 t5.2.1 t5.2.2),(Value.slice t6.1 t6.2.1 t6.2.2)] [.int .i64] false w_3 fun (t7:Int) w_4 =>
  R (.returned (Value.int .i64 t7)) w_4
theorem z0k (a:Value) (b:Value) (R:Ending→World→Prop) (w:World):tr P qs ((Tryz.f100.body).getD .skip) zks (zb5 0 [(1,a),(1,b)]) (zco P Tryz.f100.results.toList R) w=zo2 a b R w:=by kernel_rfl
theorem z1g {a:Value} {b:Value} {R:Ending→World→Prop} {w:World} (hT:zo2 a b R w):qj P ztk #[a,b] w R :=
 zx (fn:=Tryz.f100) (c:=(Tryz.f100.body).getD .skip) (ann:=zks) (args:=[(1,a),(1,b)]) (qs:=qs) mixed Tryz.func100 rfl (by kernel_rfl) (by kernel_rfl) z0w ((z0k a b R w).symm ▸ hT)
def zkt:Ann2:=(.seq (.pure .leaf) (.seq (.pure (.seq .leaf (.cond (.seq .leaf .leaf) .leaf))) (.seq (.pure (.seq .leaf (.cond (.seq .leaf .leaf) .leaf))) (.seq (.pure (.seq .leaf (.blk (.loop [(15,.int .i64)] (.seq .leaf (.seq (.cond .leaf .leaf) (.join [] (.jblk [] (.seq .leaf (.seq .leaf (.cond (.seq .leaf .leaf) .leaf)))) .leaf))))))) (.seq (.pure .leaf) (.seq (.seq (.pure .leaf) (.blk (.rng [(32,.str)] true [] .leaf (.jblk [] (.jblk [] (.seq .leaf (.cond (.seq .leaf .leaf) (.seq .leaf (.cond .leaf (.seq .leaf (.cond .leaf .leaf))))))))))) (.pure (.seq (.seq .leaf (.cond (.seq .leaf .leaf) .leaf)) (.seq .leaf .leaf)))))))))
theorem z0y:qa5 P qs Tryz.f105.ntmps ((Tryz.f105.body).getD .skip) zkt=true:=by kernel_rfl
def zo0 (s:ByteArray) (R:Ending→World→Prop) (w:World):Prop :=
  zbn (zc P qp) qp w fun b2 w_1 =>
  zbn (zc P zed) zed w_1 fun b3 w_2 =>
  xk (decide ((s.size:Int) > 256)) (
  stC (⟨b2,0,none⟩:Addr) (Value.slice none 0 0) w_2 fun w_3 =>
  stC (⟨b3,0,none⟩:Addr) (Value.int .i64 2) w_3 fun w_4 =>
  ld .slc (⟨b2,0,none⟩:Addr) w_4 fun (t2:(Option Addr × Nat × Nat)) =>
  ld (.int .i64) (⟨b3,0,none⟩:Addr) w_4 fun (t3:Int) =>
  R (.returned (Value.tuple #[(Value.slice t2.1 t2.2.1 t2.2.2),(Value.int .i64 t3)])) w_4) (
  zhe P zgd #[(Value.string s),(Value.string (ByteArray.mk #[47]))] [.bool] false w_2 fun (t11:Bool) =>
  xk (!t11) (
  stC (⟨b2,0,none⟩:Addr) (Value.slice none 0 0) w_2 fun w_5 =>
  stC (⟨b3,0,none⟩:Addr) (Value.int .i64 40) w_5 fun w_6 =>
  ld .slc (⟨b2,0,none⟩:Addr) w_6 fun (t2_1:(Option Addr × Nat × Nat)) =>
  ld (.int .i64) (⟨b3,0,none⟩:Addr) w_6 fun (t3_1:Int) =>
  R (.returned (Value.tuple #[(Value.slice t2_1.1 t2_1.2.1 t2_1.2.2),(Value.int .i64 t3_1)])) w_6) (
  zaw Int (fun s_1 w_7 k =>
  xk (decide (s_1 < (s.size:Int))) (
  joinP Unit (fun k_1 =>
  joinP Unit (fun k_2 =>
  ztl s s_1 fun t20 =>
  xk (t20 != 47) (
  ztl s s_1 fun t25 =>
  zhe P zj7 #[(Value.int .u8 t25)] [.bool] false w_7 fun (t26:Bool) =>
  xk (!t26) (
  stC (⟨b2,0,none⟩:Addr) (Value.slice none 0 0) w_7 fun w_8 =>
  stC (⟨b3,0,none⟩:Addr) (Value.int .i64 40) w_8 fun w_9 =>
  ld .slc (⟨b2,0,none⟩:Addr) w_9 fun (t2_2:(Option Addr × Nat × Nat)) =>
  ld (.int .i64) (⟨b3,0,none⟩:Addr) w_9 fun (t3_2:Int) =>
  R (.returned (Value.tuple #[(Value.slice t2_2.1 t2_2.2.1 t2_2.2.2),(Value.int .i64 t3_2)])) w_9) (
  k_2 () w_7)) (
  k_2 () w_7)) (fun _ w_10 =>
  k_1 () w_10)) (fun _ w_11 =>
  zba .i64 s_1 1 fun t29 =>
  k t29 w_11)) (
  zbn (zc P qp) qp w_7 fun b5 w_12 =>
  xg P zmf #[(Value.string s)] [.any] false w_12 fun (t31:Value) w_13 =>
  z3d P [.str] t31 w_13 (fun (x:ByteArray) w_14 beg kc kr _ =>
  beg w_14 fun w_15 =>
  joinP Unit (fun k_3 =>
  joinP Unit (fun k_4 =>
  xk (decide ((x.size:Int) > 16)) (
  stC (⟨b2,0,none⟩:Addr) (Value.slice none 0 0) w_15 fun w_16 =>
  stC (⟨b3,0,none⟩:Addr) (Value.int .i64 41) w_16 fun w_17 =>
  kr w_17) (
  xk (x.toList == (ByteArray.mk #[]).toList) (
  k_4 () w_15) (
  xk (x.toList == (ByteArray.mk #[46]).toList) (
  k_4 () w_15) (
  xk (x.toList == (ByteArray.mk #[46,46]).toList) (
  ld .slc (⟨b5,0,none⟩:Addr) w_15 fun (t51:(Option Addr × Nat × Nat)) =>
  ld .slc (⟨b5,0,none⟩:Addr) w_15 fun (t52:(Option Addr × Nat × Nat)) =>
  zo9 .i64 (t52.2.1:Int) 1 fun t54 =>
  zaz P (Builtin.max_ #[zdf,zdf] zdf #[(Value.int .i64 t54),(Value.int .i64 0)]) (.int .i64) w_15 fun (t55:Int) =>
  zaz P (Instr.sliceAt qp (Value.slice t51.1 t51.2.1 t51.2.2) none (some (Value.int .i64 t55)) none) .slc w_15 fun (t56:(Option Addr × Nat × Nat)) =>
  stC (⟨b5,0,none⟩:Addr) (Value.slice t56.1 t56.2.1 t56.2.2) w_15 fun w_18 =>
  k_4 () w_18) (
  ld .slc (⟨b5,0,none⟩:Addr) w_15 fun (t33:(Option Addr × Nat × Nat)) =>
  zal P (Instr.buildSlice qp 1 #[(0,(Value.string x))]) .slc w_15 fun (t35:(Option Addr × Nat × Nat)) w_19 =>
  zal P (Builtin.append_ #[qp,qp] qp #[(Value.slice t33.1 t33.2.1 t33.2.2),(Value.slice t35.1 t35.2.1 t35.2.2)]) .slc w_19 fun (t36:(Option Addr × Nat × Nat)) w_20 =>
  stC (⟨b5,0,none⟩:Addr) (Value.slice t36.1 t36.2.1 t36.2.2) w_20 fun w_21 =>
  k_4 () w_21))))) (fun _ w_22 =>
  k_3 () w_22)) (fun _ w_23 =>
  kc w_23)) (fun D w_24 =>
  ld .slc (⟨b5,0,none⟩:Addr) w_24 fun (t57:(Option Addr × Nat × Nat)) =>
  xk (decide ((t57.2.1:Int) > 8)) (
  stC (⟨b2,0,none⟩:Addr) (Value.slice none 0 0) w_24 fun w_25 =>
  stC (⟨b3,0,none⟩:Addr) (Value.int .i64 42) w_25 fun w_26 =>
  (w_26.heap[D]?=some (.deferred (some []))∧∀ w_27,w_27=World.putObj w_26 D (.deferred none) →
  ld .slc (⟨b2,0,none⟩:Addr) w_27 fun (t2_3:(Option Addr × Nat × Nat)) =>
  ld (.int .i64) (⟨b3,0,none⟩:Addr) w_27 fun (t3_3:Int) =>
  R (.returned (Value.tuple #[(Value.slice t2_3.1 t2_3.2.1 t2_3.2.2),(Value.int .i64 t3_3)])) w_27)) (
  ld .slc (⟨b5,0,none⟩:Addr) w_24 fun (t60:(Option Addr × Nat × Nat)) =>
  stC (⟨b2,0,none⟩:Addr) (Value.slice t60.1 t60.2.1 t60.2.2) w_24 fun w_28 =>
  stC (⟨b3,0,none⟩:Addr) (Value.int .i64 0) w_28 fun w_29 =>
  (w_29.heap[D]?=some (.deferred (some []))∧∀ w_30,w_30=World.putObj w_29 D (.deferred none) →
  ld .slc (⟨b2,0,none⟩:Addr) w_30 fun (t2_4:(Option Addr × Nat × Nat)) =>
  ld (.int .i64) (⟨b3,0,none⟩:Addr) w_30 fun (t3_4:Int) =>
  R (.returned (Value.tuple #[(Value.slice t2_4.1 t2_4.2.1 t2_4.2.2),(Value.int .i64 t3_4)])) w_30))) (fun D_1 w_31 =>
  (w_31.heap[D_1]?=some (.deferred (some []))∧∀ w_32,w_32=World.putObj w_31 D_1 (.deferred none) →
  ld .slc (⟨b2,0,none⟩:Addr) w_32 fun (t2_5:(Option Addr × Nat × Nat)) =>
  ld (.int .i64) (⟨b3,0,none⟩:Addr) w_32 fun (t3_5:Int) =>
  R (.returned (Value.tuple #[(Value.slice t2_5.1 t2_5.2.1 t2_5.2.2),(Value.int .i64 t3_5)])) w_32)) (fun _ _ _=>False))) 0 w_2))
theorem z09 (s:ByteArray) (R:Ending→World→Prop) (w:World):tr2 P qs ((Tryz.f105.body).getD .skip) zkt [] (zb5 0 [(0,(Value.string s))]) (qeq P Tryz.f105.results.toList R) w=zo0 s R w:=by kernel_rfl
theorem z0q {s:ByteArray} {R:Ending→World→Prop} {w:World} (hT:zo0 s R w):qj P znm #[(Value.string s)] w R :=
 zyo (fn:=Tryz.f105) (c:=(Tryz.f105.body).getD .skip) (ann:=zkt) (args:=[(0,(Value.string s))]) (qs:=qs) mixed Tryz.func105 rfl (by kernel_rfl) (by kernel_rfl) z0y ((z09 s R w).symm ▸ hT)
def zh6:Ann:=(.seq .leaf (.seq .leaf .leaf))
theorem zwv:okC P qs Tryz.f111.ntmps ((Tryz.f111.body).getD .skip) zh6=true:=by kernel_rfl
def zki (a:Option Addr) (a_l a_c:Nat) (b:Option Addr) (b_l b_c:Nat) (R:Ending→World→Prop) (w:World):Prop :=
  xg P zak #[(Value.slice a a_l a_c),(Value.slice b b_l b_c),(Value.func (.func zdz) #[] #[])] [.int .i64] false w fun (t7:Int) w_1 =>
  R (.returned (Value.int .i64 t7)) w_1
theorem zwu (a:Option Addr) (a_l a_c:Nat) (b:Option Addr) (b_l b_c:Nat) (R:Ending→World→Prop) (w:World):tr P qs ((Tryz.f111.body).getD .skip) zh6 (zb5 0 [(0,(Value.slice a a_l a_c)),(0,(Value.slice b b_l b_c))]) (zco P Tryz.f111.results.toList R) w=zki a a_l a_c b b_l b_c R w:=by kernel_rfl
theorem zwz {a:Option Addr} {a_l a_c:Nat} {b:Option Addr} {b_l b_c:Nat} {R:Ending→World→Prop} {w:World} (hT:zki a a_l a_c b b_l b_c R w):qj P zk8 #[(Value.slice a a_l a_c),(Value.slice b b_l b_c)] w R :=
 zx (fn:=Tryz.f111) (c:=(Tryz.f111.body).getD .skip) (ann:=zh6) (args:=[(0,(Value.slice a a_l a_c)),(0,(Value.slice b b_l b_c))]) (qs:=qs) mixed Tryz.func111 rfl (by kernel_rfl) (by kernel_rfl) zwv ((zwu a a_l a_c b b_l b_c R w).symm ▸ hT)
def zni:Ann:=(.seq .leaf (.seq (.seq .leaf (.cond (.seq .leaf .leaf) .leaf)) (.join [] (.seq .leaf (.cond (.seq .leaf .leaf) .leaf)) (.seq (.seq .leaf (.blk (.loop [(4,.int .i64)] (.seq (.seq .leaf (.cond .leaf .leaf)) (.join [] (.jblk [] (.seq .leaf (.cond (.seq .leaf .leaf) .leaf))) .leaf))))) (.seq .leaf (.seq .leaf (.seq (.seq .leaf (.blk (.loop [(5,.slc),(6,.int .i64),(7,.int .i64)] (.seq (.seq .leaf (.cond .leaf .leaf)) (.seq (.jblk [(5,.slc),(6,.int .i64)] (.join [] (.seq .leaf (.cond .leaf .leaf)) (.seq .leaf (.seq .leaf (.seq (.seq .leaf (.cond (.seq .leaf .leaf) .leaf)) (.join [(5,.slc)] (.seq .leaf (.cond .leaf .leaf)) (.seq .leaf (.cond .leaf .leaf)))))))) .leaf))))) (.seq (.seq .leaf (.cond (.seq .leaf .leaf) .leaf)) (.seq .leaf .leaf)))))))))
theorem z92:okC P qs Tryz.f116.ntmps ((Tryz.f116.body).getD .skip) zni=true:=by kernel_rfl
def zrm (s:ByteArray) (R:Ending→World→Prop) (w:World):Prop :=
  xk (decide ((s.size:Int) > 256)) (
  R (.returned (Value.tuple #[(Value.slice none 0 0),(Value.int .i64 2)])) w) (
  joinP Unit (fun k =>
  xk ((s.size:Int) == 0) (
  R (.returned (Value.tuple #[(Value.slice none 0 0),(Value.int .i64 40)])) w) (
  ztl s 0 fun t17 =>
  xk (t17 != 47) (
  R (.returned (Value.tuple #[(Value.slice none 0 0),(Value.int .i64 40)])) w) (
  k () w))) (fun _ w_1 =>
  zaw Int (fun s_2 w_2 k_1 =>
  xk (decide (s_2 < (s.size:Int))) (
  joinP Unit (fun k_2 =>
  joinP Unit (fun k_3 =>
  ztl s s_2 fun t28 =>
  xk (t28 != 47) (
  ztl s s_2 fun t33 =>
  zhe P zrz #[(Value.int .u8 t33)] [.bool] false w_2 fun (t34:Bool) =>
  xk (!t34) (
  R (.returned (Value.tuple #[(Value.slice none 0 0),(Value.int .i64 40)])) w_2) (
  k_3 () w_2)) (
  k_3 () w_2)) (fun _ w_3 =>
  k_2 () w_3)) (fun _ w_4 =>
  zba .i64 s_2 1 fun t25 =>
  k_1 t25 w_4)) (
  zaw ((Option Addr × Nat × Nat) × Int × Int) (fun s_5 w_5 k_4 =>
  xk (decide (s_5.2.2≤(s.size:Int))) (
  joinP ((Option Addr × Nat × Nat) × Int) (fun k_5 =>
  joinP Unit (fun k_6 =>
  xk (decide (s_5.2.2 < (s.size:Int))) (
  ztl s s_5.2.2 fun t50 =>
  xk (t50 != 47) (
  k_5 ((s_5.1.1,s_5.1.2.1,s_5.1.2.2),s_5.2.1) w_5) (
  k_6 () w_5)) (
  k_6 () w_5)) (fun _ w_6 =>
  zaz P (Instr.sliceAt qc (Value.string s) (some (Value.int .i64 s_5.2.1)) (some (Value.int .i64 s_5.2.2)) none) .str w_6 fun (t56:ByteArray) =>
  zba .i64 s_5.2.2 1 fun t58 =>
  xk (decide ((t56.size:Int) > 16)) (
  R (.returned (Value.tuple #[(Value.slice none 0 0),(Value.int .i64 41)])) w_6) (
  joinP (Option Addr × Nat × Nat) (fun k_7 =>
  xk (t56.toList == (ByteArray.mk #[46,46]).toList) (
  xk (decide ((s_5.1.2.1:Int) > 0)) (
  zal P (Instr.buildSlice qp 0 #[]) .slc w_6 fun (t69:(Option Addr × Nat × Nat)) w_7 =>
  zo9 .i64 (s_5.1.2.1:Int) 1 fun t73 =>
  zaz P (Instr.sliceAt qp (Value.slice s_5.1.1 s_5.1.2.1 s_5.1.2.2) none (some (Value.int .i64 t73)) none) .slc w_7 fun (t74:(Option Addr × Nat × Nat)) =>
  zal P (Builtin.append_ #[qp,qp] qp #[(Value.slice t69.1 t69.2.1 t69.2.2),(Value.slice t74.1 t74.2.1 t74.2.2)]) .slc w_7 fun (t75:(Option Addr × Nat × Nat)) w_8 =>
  k_7 (t75.1,t75.2.1,t75.2.2) w_8) (
  k_7 (s_5.1.1,s_5.1.2.1,s_5.1.2.2) w_6)) (
  k_7 (s_5.1.1,s_5.1.2.1,s_5.1.2.2) w_6)) (fun s_7 w_9 =>
  xk (!(t56.toList == (ByteArray.mk #[]).toList)) (
  xk (!(t56.toList == (ByteArray.mk #[46]).toList)) (
  xk (!(t56.toList == (ByteArray.mk #[46,46]).toList)) (
  zal P (Instr.buildSlice qp 1 #[(0,(Value.string t56))]) .slc w_9 fun (t88:(Option Addr × Nat × Nat)) w_10 =>
  zal P (Builtin.append_ #[qp,qp] qp #[(Value.slice s_7.1 s_7.2.1 s_7.2.2),(Value.slice t88.1 t88.2.1 t88.2.2)]) .slc w_10 fun (t89:(Option Addr × Nat × Nat)) w_11 =>
  k_5 ((t89.1,t89.2.1,t89.2.2),t58) w_11) (
  k_5 ((s_7.1,s_7.2.1,s_7.2.2),t58) w_9)) (
  k_5 ((s_7.1,s_7.2.1,s_7.2.2),t58) w_9)) (
  k_5 ((s_7.1,s_7.2.1,s_7.2.2),t58) w_9))))) (fun s_8 w_12 =>
  zba .i64 s_5.2.2 1 fun t42 =>
  k_4 ((s_8.1.1,s_8.1.2.1,s_8.1.2.2),s_8.2,t42) w_12)) (
  xk (decide ((s_5.1.2.1:Int) > 8)) (
  R (.returned (Value.tuple #[(Value.slice none 0 0),(Value.int .i64 42)])) w_5) (
  R (.returned (Value.tuple #[(Value.slice s_5.1.1 s_5.1.2.1 s_5.1.2.2),(Value.int .i64 0)])) w_5))) ((none,0,0),1,1) w_2)) 0 w_1))
theorem z6y (s:ByteArray) (R:Ending→World→Prop) (w:World):tr P qs ((Tryz.f116.body).getD .skip) zni (zb5 0 [(0,(Value.string s))]) (zco P Tryz.f116.results.toList R) w=zrm s R w:=by kernel_rfl
theorem z6t {s:ByteArray} {R:Ending→World→Prop} {w:World} (hT:zrm s R w):qj P znj #[(Value.string s)] w R :=
 zx (fn:=Tryz.f116) (c:=(Tryz.f116.body).getD .skip) (ann:=zni) (args:=[(0,(Value.string s))]) (qs:=qs) mixed Tryz.func116 rfl (by kernel_rfl) (by kernel_rfl) z92 ((z6y s R w).symm ▸ hT)
def zl8:Ann:=(.seq .leaf (.seq (.seq .leaf (.cond (.seq .leaf .leaf) .leaf)) (.seq (.seq .leaf (.blk (.loop [(5,.int .i64)] (.seq (.seq .leaf (.cond .leaf .leaf)) (.seq (.blk (.seq (.tree (.op 0 [] (.op 1 [] (.op 2 [] (.op 4 [] (.op 5 [] (.op 6 [] (.op 3 [] (.op 7 [] (.op 8 [] .done)))))))))) (.cond (.seq .leaf .leaf) .leaf))) .leaf))))) (.seq .leaf .leaf))))
theorem z3z:okC P qs Tryz.f118.ntmps ((Tryz.f118.body).getD .skip) zl8=true:=by kernel_rfl
def zpi (path:Option Addr) (path_l zq6:Nat) (of:Option Addr) (of_l of_c:Nat) (R:Ending→World→Prop) (w:World):Prop :=
  xk (decide ((path_l:Int) < (of_l:Int))) (
  R (.returned (Value.bool false)) w) (
  zaw Int (fun s w_1 k =>
  xk (decide (s < (of_l:Int))) (
  zbi w_1 fun w_2 =>
  ixS path path_l 1 s fun t19 =>
  ixS of of_l 1 s fun t23 =>
  ld .str t19 w_2 fun (t20:ByteArray) =>
  ld .str t23 w_2 fun (t24:ByteArray) =>
  xk (!(t20.toList == t24.toList)) (
  R (.returned (Value.bool false)) w_2) (
  zba .i64 s 1 fun t16 =>
  k t16 w_2)) (
  R (.returned (Value.bool true)) w_1)) 0 w)
theorem z3w (path:Option Addr) (path_l zq6:Nat) (of:Option Addr) (of_l of_c:Nat) (R:Ending→World→Prop) (w:World):tr P qs ((Tryz.f118.body).getD .skip) zl8 (zb5 0 [(0,(Value.slice path path_l zq6)),(0,(Value.slice of of_l of_c))]) (zco P Tryz.f118.results.toList R) w=zpi path path_l zq6 of of_l of_c R w:=by kernel_rfl
theorem z4n {path:Option Addr} {path_l zq6:Nat} {of:Option Addr} {of_l of_c:Nat} {R:Ending→World→Prop} {w:World} (hT:zpi path path_l zq6 of of_l of_c R w):qj P zir #[(Value.slice path path_l zq6),(Value.slice of of_l of_c)] w R :=
 zx (fn:=Tryz.f118) (c:=(Tryz.f118.body).getD .skip) (ann:=zl8) (args:=[(0,(Value.slice path path_l zq6)),(0,(Value.slice of of_l of_c))]) (qs:=qs) mixed Tryz.func118 rfl (by kernel_rfl) (by kernel_rfl) z3z ((z3w path path_l zq6 of of_l of_c R w).symm ▸ hT)
def zp4:Ann:=(.seq .leaf (.seq (.seq .leaf (.cond (.seq .leaf .leaf) .leaf)) (.seq .leaf (.seq (.seq .leaf (.blk (.loop [(3,.str),(4,.int .i64)] (.seq (.seq .leaf (.cond .leaf .leaf)) (.seq (.blk .leaf) .leaf))))) (.seq .leaf .leaf)))))
theorem qb3:okC P qs Tryz.f119.ntmps ((Tryz.f119.body).getD .skip) zp4=true:=by kernel_rfl
def zvy (names:Option Addr) (names_l names_c:Nat) (R:Ending→World→Prop) (w:World):Prop :=
  xk ((names_l:Int) == 0) (
  R (.returned (Value.string (ByteArray.mk #[47]))) w) (
  zaw (ByteArray × Int) (fun s w_1 k =>
  xk (decide (s.2 < (names_l:Int))) (
  qjd s.1 (ByteArray.mk #[47]) fun t15 =>
  ixS names names_l 1 s.2 fun t18 =>
  ld .str t18 w_1 fun (t19:ByteArray) =>
  qjd t15 t19 fun t20 =>
  zba .i64 s.2 1 fun t13 =>
  k (t20,t13) w_1) (
  R (.returned (Value.string s.1)) w_1)) ((ByteArray.mk #[]),0) w)
theorem qbr (names:Option Addr) (names_l names_c:Nat) (R:Ending→World→Prop) (w:World):tr P qs ((Tryz.f119.body).getD .skip) zp4 (zb5 0 [(0,(Value.slice names names_l names_c))]) (zco P Tryz.f119.results.toList R) w=zvy names names_l names_c R w:=by kernel_rfl
theorem qbu {names:Option Addr} {names_l names_c:Nat} {R:Ending→World→Prop} {w:World} (hT:zvy names names_l names_c R w):qj P zqq #[(Value.slice names names_l names_c)] w R :=
 zx (fn:=Tryz.f119) (c:=(Tryz.f119.body).getD .skip) (ann:=zp4) (args:=[(0,(Value.slice names names_l names_c))]) (qs:=qs) mixed Tryz.func119 rfl (by kernel_rfl) (by kernel_rfl) qb3 ((qbr names names_l names_c R w).symm ▸ hT)
def zs4:Ann:=(.seq .leaf (.seq .leaf .leaf))
theorem qfl:okC P qs Tryz.f132.ntmps ((Tryz.f132.body).getD .skip) zs4=true:=by kernel_rfl
def z0a  (R:Ending→World→Prop) (w:World):Prop :=
  zaz P (Instr.build jo #[(0,(Value.int .u32 1779033703)),(1,(Value.int .u32 3144134277)),(2,(Value.int .u32 1013904242)),(3,(Value.int .u32 2773480762)),(4,(Value.int .u32 1359893119)),(5,(Value.int .u32 2600822924)),(6,(Value.int .u32 528734635)),(7,(Value.int .u32 1541459225))]) .any w fun (t1:Value) =>
  zaz P (Instr.build zas #[(0,t1)]) .any w fun (t2:Value) =>
  zbn (Value.cells t2) zas w fun b3 w_1 =>
  R (.returned (Value.pointer (some (⟨b3,0,none⟩:Addr)))) w_1
theorem qef  (R:Ending→World→Prop) (w:World):tr P qs ((Tryz.f132.body).getD .skip) zs4 (zb5 0 []) (zco P Tryz.f132.results.toList R) w=z0a  R w:=by kernel_rfl
theorem qew  {R:Ending→World→Prop} {w:World} (hT:z0a  R w):qj P zum #[] w R :=
 zx (fn:=Tryz.f132) (c:=(Tryz.f132.body).getD .skip) (ann:=zs4) (args:=[]) (qs:=qs) mixed Tryz.func132 rfl (by kernel_rfl) (by kernel_rfl) qfl ((qef  R w).symm ▸ hT)
def zhs:Ann:=(.seq (.seq .leaf (.cond .leaf .leaf)) (.seq .leaf (.blk (.loop [(1,.slc)] (.seq (.seq .leaf (.cond .leaf .leaf)) (.jblk [(1,.slc)] (.seq (.tree (.op 0 [] (.op 1 [] (.op 2 [] (.op 3 [] (.op 4 [] (.op 5 [] (.op 8 [] (.op 6 [] (.op 7 [] (.op 9 [] (.op 10 [] .done)))))))))))) (.seq (.tree (.op 0 [] (.op 1 [] (.op 2 [] (.op 3 [] (.op 5 [] (.op 7 [] (.op 8 [] (.op 4 [] (.op 6 [] (.op 10 [] (.op 11 [] (.op 9 [] (.op 12 [9] (.op 13 [] .done))))))))))))))) (.seq .leaf (.cond (.seq .leaf .leaf) .leaf))))))))))
theorem zu4:okC P qs Tryz.f133.ntmps ((Tryz.f133.body).getD .skip) zhs=true:=by kernel_rfl
def zjq (hv:Option Addr) (b:Option Addr) (b_l b_c:Nat) (R:Ending→World→Prop) (w:World):Prop :=
  xk (Option.isNone hv) (
  R (.returned (Value.tuple #[])) w) (
  zu hv fun p =>
  ld (.int .i64) (Addr.add p 73) w fun (t10:Int) =>
  zba .i64 t10 (b_l:Int) fun t13 =>
  zu hv fun p_1 =>
  stC (Addr.add p_1 73) (Value.int .i64 t13) w fun w_1 =>
  zaw (Option Addr × Nat × Nat) (fun s w_2 k =>
  xk (decide ((s.2.1:Int) > 0)) (
  joinP (Option Addr × Nat × Nat) (fun k_1 =>
  zbi w_2 fun w_3 =>
  zu hv fun p_2 =>
  zu hv fun p_3 =>
  ld (.int .i64) (Addr.add p_3 72) w_3 fun (t25:Int) =>
  zaz P (Instr.sliceAt zvp (Value.pointer (some (Addr.add p_2 8))) (some (Value.int .i64 t25)) none none) .slc w_3 fun (t26:(Option Addr × Nat × Nat)) =>
  zal P (Builtin.copy_ #[zh,zh] zdf #[(Value.slice t26.1 t26.2.1 t26.2.2),(Value.slice s.1 s.2.1 s.2.2)]) (.int .i64) w_3 fun (t28:Int) w_4 =>
  zbi w_4 fun w_5 =>
  zu hv fun p_4 =>
  ld (.int .i64) (Addr.add p_4 72) w_5 fun (t33:Int) =>
  zba .i64 t33 t28 fun t35 =>
  zu hv fun p_5 =>
  zaz P (Instr.sliceAt zh (Value.slice s.1 s.2.1 s.2.2) (some (Value.int .i64 t28)) none none) .slc w_5 fun (t38:(Option Addr × Nat × Nat)) =>
  stC (Addr.add p_5 72) (Value.int .i64 t35) w_5 fun w_6 =>
  ((zaz P (Instr.sliceAt zh (Value.slice s.1 s.2.1 s.2.2) (some (Value.int .i64 t28)) none none) .slc w_6 fun (t38_1:(Option Addr × Nat × Nat)) =>
  (Value.slice t38_1.1 t38_1.2.1 t38_1.2.2)=(Value.slice t38.1 t38.2.1 t38.2.2)) ∧
  zu hv fun p_6 =>
  ld (.int .i64) (Addr.add p_6 72) w_6 fun (t44:Int) =>
  xk (t44 == 64) (
  zu hv fun p_7 =>
  zaz P (Instr.sliceAt zvp (Value.pointer (some (Addr.add p_7 8))) none none none) .slc w_6 fun (t50:(Option Addr × Nat × Nat)) =>
  xg P zm0 #[(Value.pointer hv),(Value.slice t50.1 t50.2.1 t50.2.2)] [] true w_6 fun (_:Unit) w_7 =>
  zu hv fun p_8 =>
  stC (Addr.add p_8 72) (Value.int .i64 0) w_7 fun w_8 =>
  k_1 (t38.1,t38.2.1,t38.2.2) w_8) (
  k_1 (t38.1,t38.2.1,t38.2.2) w_6))) (fun s_1 w_9 =>
  k (s_1.1,s_1.2.1,s_1.2.2) w_9)) (
  R (.returned (Value.tuple #[])) w_2)) (b,b_l,b_c) w_1)
theorem zvf (hv:Option Addr) (b:Option Addr) (b_l b_c:Nat) (R:Ending→World→Prop) (w:World):tr P qs ((Tryz.f133.body).getD .skip) zhs (zb5 0 [(0,(Value.pointer hv)),(0,(Value.slice b b_l b_c))]) (zco P Tryz.f133.results.toList R) w=zjq hv b b_l b_c R w:=by kernel_rfl
theorem zu7 {hv:Option Addr} {b:Option Addr} {b_l b_c:Nat} {R:Ending→World→Prop} {w:World} (hT:zjq hv b b_l b_c R w):qj P zdq #[(Value.pointer hv),(Value.slice b b_l b_c)] w R :=
 zx (fn:=Tryz.f133) (c:=(Tryz.f133.body).getD .skip) (ann:=zhs) (args:=[(0,(Value.pointer hv)),(0,(Value.slice b b_l b_c))]) (qs:=qs) mixed Tryz.func133 rfl (by kernel_rfl) (by kernel_rfl) zu4 ((zvf hv b b_l b_c R w).symm ▸ hT)
def zji:Ann:=(.seq .leaf (.join [(0,.ptr)] (.seq .leaf (.cond .leaf .leaf)) (.seq .leaf (.seq .leaf (.seq .leaf (.seq (.blk (.loop [] (.seq (.seq .leaf (.cond .leaf .leaf)) (.blk .leaf)))) (.seq .leaf (.seq (.seq .leaf (.blk (.loop [(27,.int .i64)] (.seq .leaf (.seq (.cond .leaf .leaf) (.seq (.blk (.seq .leaf .leaf)) .leaf)))))) (.seq .leaf (.seq .leaf (.seq (.seq .leaf (.blk (.loop [(43,.int .i64)] (.seq .leaf (.seq (.cond .leaf .leaf) (.seq (.blk (.seq .leaf .leaf)) .leaf)))))) (.seq .leaf .leaf))))))))))))
theorem zxw:okC P qs Tryz.f134.ntmps ((Tryz.f134.body).getD .skip) zji=true:=by kernel_rfl
def zl5 (hv:Option Addr) (R:Ending→World→Prop) (w:World):Prop :=
  zbn (zc P zf) zf w fun b2 w_1 =>
  joinP (Option Addr) (fun k =>
  xk (Option.isNone hv) (
  xg P zum #[] [.ptr] false w_1 fun (t12:(Option Addr)) w_2 =>
  k t12 w_2) (
  k hv w_1)) (fun s w_3 =>
  zu s fun p =>
  ldA P 74 p w_3 fun t15 =>
  zbn (zc P zas) zas w_3 fun b3 w_4 =>
  zby P (storeVar zas (⟨b3,0,none⟩:Addr) (Value.agg t15)) w_4 fun w_5 =>
  ld (.int .i64) (⟨b3,73,none⟩:Addr) w_5 fun (t17:Int) =>
  cvI .u64 t17 fun t18 =>
  z0d .u64 t18 8 fun t19 =>
  zal P (Instr.buildSlice zh 1 #[(0,(Value.int .u8 128))]) .slc w_5 fun (t20:(Option Addr × Nat × Nat)) w_6 =>
  xg P zdq #[(Value.pointer (some (⟨b3,0,none⟩:Addr))),(Value.slice t20.1 t20.2.1 t20.2.2)] [] true w_6 fun (_:Unit) w_7 =>
  zaw Unit (fun _ w_8 k_1 =>
  ld (.int .i64) (⟨b3,72,none⟩:Addr) w_8 fun (t23:Int) =>
  xk (t23 != 56) (
  zal P (Instr.buildSlice zh 1 #[(0,(Value.int .u8 0))]) .slc w_8 fun (t25:(Option Addr × Nat × Nat)) w_9 =>
  xg P zdq #[(Value.pointer (some (⟨b3,0,none⟩:Addr))),(Value.slice t25.1 t25.2.1 t25.2.2)] [] true w_9 fun (_:Unit) w_10 =>
  k_1 () w_10) (
  zbn (zc P zm2) zm2 w_8 fun b5 w_11 =>
  zaw Int (fun s_2 w_12 k_2 =>
  xk (decide (s_2 < 8)) (
  z0d .i64 8 s_2 fun t33 =>
  zo9 .i64 56 t33 fun t34 =>
  z5y .u64 t19 t34 fun t35 =>
  cvI .u8 t35 fun t36 =>
  ixR (⟨b5,0,none⟩:Addr) 8 1 s_2 fun t37 =>
  stC t37 (Value.int .u8 t36) w_12 fun w_13 =>
  zba .i64 s_2 1 fun t38 =>
  k_2 t38 w_13) (
  zaz P (Instr.sliceAt zm2 (Value.pointer (some (⟨b5,0,none⟩:Addr))) none none none) .slc w_12 fun (t39:(Option Addr × Nat × Nat)) =>
  xg P zdq #[(Value.pointer (some (⟨b3,0,none⟩:Addr))),(Value.slice t39.1 t39.2.1 t39.2.2)] [] true w_12 fun (_:Unit) w_14 =>
  zbn (zc P zf) zf w_14 fun b7 w_15 =>
  ldA P 8 (⟨b3,0,none⟩:Addr) w_15 fun t42 =>
  zaw Int (fun s_3 w_16 k_3 =>
  xk (decide (s_3 < 8)) (
  zaz P (Instr.index jo (Value.agg t42) (Value.int .i64 s_3)) (.int .u32) w_16 fun (t46:Int) =>
  z0d .i64 4 s_3 fun t48 =>
  z0d .i64 4 s_3 fun t50 =>
  zba .i64 t50 1 fun t51 =>
  z0d .i64 4 s_3 fun t53 =>
  zba .i64 t53 2 fun t54 =>
  z0d .i64 4 s_3 fun t56 =>
  zba .i64 t56 3 fun t57 =>
  z5y .u32 t46 24 fun t59 =>
  cvI .u8 t59 fun t60 =>
  z5y .u32 t46 16 fun t62 =>
  cvI .u8 t62 fun t63 =>
  z5y .u32 t46 8 fun t65 =>
  cvI .u8 t65 fun t66 =>
  cvI .u8 t46 fun t68 =>
  ixR (⟨b7,0,none⟩:Addr) 32 1 t48 fun t69 =>
  stC t69 (Value.int .u8 t60) w_16 fun w_17 =>
  ixR (⟨b7,0,none⟩:Addr) 32 1 t51 fun t70 =>
  stC t70 (Value.int .u8 t63) w_17 fun w_18 =>
  ixR (⟨b7,0,none⟩:Addr) 32 1 t54 fun t71 =>
  stC t71 (Value.int .u8 t66) w_18 fun w_19 =>
  ixR (⟨b7,0,none⟩:Addr) 32 1 t57 fun t72 =>
  stC t72 (Value.int .u8 t68) w_19 fun w_20 =>
  zba .i64 s_3 1 fun t73 =>
  k_3 t73 w_20) (
  ldA P 32 (⟨b7,0,none⟩:Addr) w_16 fun t74 =>
  zby P (storeVar zf (⟨b2,0,none⟩:Addr) (Value.agg t74)) w_16 fun w_21 =>
  ldA P 32 (⟨b2,0,none⟩:Addr) w_21 fun t2 =>
  R (.returned (Value.agg t2)) w_21)) 0 w_15)) 0 w_11)) () w_7)
theorem zys (hv:Option Addr) (R:Ending→World→Prop) (w:World):tr P qs ((Tryz.f134.body).getD .skip) zji (zb5 0 [(0,(Value.pointer hv))]) (zco P Tryz.f134.results.toList R) w=zl5 hv R w:=by kernel_rfl
theorem zxz {hv:Option Addr} {R:Ending→World→Prop} {w:World} (hT:zl5 hv R w):qj P zl6 #[(Value.pointer hv)] w R :=
 zx (fn:=Tryz.f134) (c:=(Tryz.f134.body).getD .skip) (ann:=zji) (args:=[(0,(Value.pointer hv))]) (qs:=qs) mixed Tryz.func134 rfl (by kernel_rfl) (by kernel_rfl) zxw ((zys hv R w).symm ▸ hT)
def zkh:Ann:=(.seq .leaf (.seq (.seq .leaf (.blk (.loop [(5,.int .i64)] (.seq (.seq .leaf (.cond .leaf .leaf)) (.seq (.blk (.seq (.seq (.tree (.op 0 [] (.op 1 [] (.op 3 [] (.op 4 [] (.op 2 [] (.op 5 [] (.op 6 [] .done)))))))) (.cond (.seq .leaf .leaf) .leaf)) (.seq (.tree (.op 0 [] (.op 1 [] (.op 3 [] (.op 4 [] (.op 2 [] (.op 5 [] (.op 6 [] .done)))))))) (.cond (.seq .leaf .leaf) .leaf)))) .leaf))))) (.seq .leaf .leaf)))
theorem z1q:okC P qs Tryz.f135.ntmps ((Tryz.f135.body).getD .skip) zkh=true:=by kernel_rfl
def zn8 (a:Value) (b:Value) (R:Ending→World→Prop) (w:World):Prop :=
  zbn (Value.cells a) zf w fun b2 w_1 =>
  zbn (Value.cells b) zf w_1 fun b3 w_2 =>
  zaw Int (fun s w_3 k =>
  xk (decide (s < 32)) (
  zbi w_3 fun w_4 =>
  ixR (⟨b2,0,none⟩:Addr) 32 1 s fun t11 =>
  ixR (⟨b3,0,none⟩:Addr) 32 1 s fun t14 =>
  ld (.int .u8) t11 w_4 fun (t12:Int) =>
  ld (.int .u8) t14 w_4 fun (t15:Int) =>
  xk (decide (t12 < t15)) (
  R (.returned (Value.int .i64 (-1))) w_4) (
  zbi w_4 fun w_5 =>
  ixR (⟨b2,0,none⟩:Addr) 32 1 s fun t18 =>
  ixR (⟨b3,0,none⟩:Addr) 32 1 s fun t21 =>
  ld (.int .u8) t18 w_5 fun (t19:Int) =>
  ld (.int .u8) t21 w_5 fun (t22:Int) =>
  xk (decide (t19 > t22)) (
  R (.returned (Value.int .i64 1)) w_5) (
  zba .i64 s 1 fun t9 =>
  k t9 w_5))) (
  R (.returned (Value.int .i64 0)) w_3)) 0 w_2
theorem z0t (a:Value) (b:Value) (R:Ending→World→Prop) (w:World):tr P qs ((Tryz.f135.body).getD .skip) zkh (zb5 0 [(1,a),(1,b)]) (zco P Tryz.f135.results.toList R) w=zn8 a b R w:=by kernel_rfl
theorem z1w {a:Value} {b:Value} {R:Ending→World→Prop} {w:World} (hT:zn8 a b R w):qj P zok #[a,b] w R :=
 zx (fn:=Tryz.f135) (c:=(Tryz.f135.body).getD .skip) (ann:=zkh) (args:=[(1,a),(1,b)]) (qs:=qs) mixed Tryz.func135 rfl (by kernel_rfl) (by kernel_rfl) z1q ((z0t a b R w).symm ▸ hT)
def zjj:Ann:=(.seq .leaf (.seq .leaf .leaf))
theorem zzn:okC P qs Tryz.f158.ntmps ((Tryz.f158.body).getD .skip) zjj=true:=by kernel_rfl
def zlz (s:ByteArray) (R:Ending→World→Prop) (w:World):Prop :=
  zbn #[(Value.string s)] qc w fun b1 w_1 =>
  zaz P (Instr.makeFunc (Go.Fn.func zf3) #[] #[(Value.pointer (some (⟨b1,0,none⟩:Addr)))]) .any w_1 fun (t3:Value) =>
  R (.returned t3) w_1
theorem zxo (s:ByteArray) (R:Ending→World→Prop) (w:World):tr P qs ((Tryz.f158.body).getD .skip) zjj (zb5 0 [(0,(Value.string s))]) (zco P Tryz.f158.results.toList R) w=zlz s R w:=by kernel_rfl
theorem zy4 {s:ByteArray} {R:Ending→World→Prop} {w:World} (hT:zlz s R w):qj P zmf #[(Value.string s)] w R :=
 zx (fn:=Tryz.f158) (c:=(Tryz.f158.body).getD .skip) (ann:=zjj) (args:=[(0,(Value.string s))]) (qs:=qs) mixed Tryz.func158 rfl (by kernel_rfl) (by kernel_rfl) zzn ((zxo s R w).symm ▸ hT)
def zae:Ann:=(.seq .leaf (.seq (.seq .leaf (.blk (.loop [(13,.int .i64)] (.seq .leaf (.seq (.cond .leaf .leaf) (.seq (.blk (.seq .leaf (.seq (.seq .leaf (.cond (.seq .leaf .leaf) .leaf)) (.seq .leaf (.seq .leaf (.seq .leaf (.cond (.seq .leaf .leaf) .leaf))))))) .leaf)))))) (.seq (.seq .leaf (.cond (.seq .leaf .leaf) .leaf)) (.seq .leaf .leaf))))
theorem zde:okC P qs Tryz.f162.ntmps ((Tryz.f162.body).getD .skip) zae=true:=by kernel_rfl
def zaj (s1:Option Addr) (s1_l s1_c:Nat) (s2:Option Addr) (s2_l s2_c:Nat) (cmp:Value) (R:Ending→World→Prop) (w:World):Prop :=
  zaw Int (fun s w_1 k =>
  xk (decide (s < (s1_l:Int))) (
  ixS s1 s1_l 1 s fun t16 =>
  ld .str t16 w_1 fun (t17:ByteArray) =>
  xk (decide (s ≥ (s2_l:Int))) (
  R (.returned (Value.int .i64 1)) w_1) (
  ixS s2 s2_l 1 s fun t24 =>
  ld .str t24 w_1 fun (t25:ByteArray) =>
  z1e P cmp #[(Value.string t17),(Value.string t25)] [.int .i64] false w_1 fun (t29:Int) w_2 =>
  xk (t29 != 0) (
  R (.returned (Value.int .i64 t29)) w_2) (
  zba .i64 s 1 fun t33 =>
  k t33 w_2))) (
  xk (decide ((s1_l:Int) < (s2_l:Int))) (
  R (.returned (Value.int .i64 (-1))) w_1) (
  R (.returned (Value.int .i64 0)) w_1))) 0 w
theorem zda (s1:Option Addr) (s1_l s1_c:Nat) (s2:Option Addr) (s2_l s2_c:Nat) (cmp:Value) (R:Ending→World→Prop) (w:World):tr P qs ((Tryz.f162.body).getD .skip) zae (zb5 0 [(0,(Value.slice s1 s1_l s1_c)),(0,(Value.slice s2 s2_l s2_c)),(1,cmp)]) (zco P Tryz.f162.results.toList R) w=zaj s1 s1_l s1_c s2 s2_l s2_c cmp R w:=by kernel_rfl
theorem zc6 {s1:Option Addr} {s1_l s1_c:Nat} {s2:Option Addr} {s2_l s2_c:Nat} {cmp:Value} {R:Ending→World→Prop} {w:World} (hT:zaj s1 s1_l s1_c s2 s2_l s2_c cmp R w):qj P zak #[(Value.slice s1 s1_l s1_c),(Value.slice s2 s2_l s2_c),cmp] w R :=
 zx (fn:=Tryz.f162) (c:=(Tryz.f162.body).getD .skip) (ann:=zae) (args:=[(0,(Value.slice s1 s1_l s1_c)),(0,(Value.slice s2 s2_l s2_c)),(1,cmp)]) (qs:=qs) mixed Tryz.func162 rfl (by kernel_rfl) (by kernel_rfl) zde ((zda s1 s1_l s1_c s2 s2_l s2_c cmp R w).symm ▸ hT)
def zez:Ann:=(.seq .leaf (.seq .leaf (.seq .leaf (.seq (.seq .leaf (.cond (.seq (.seq .leaf (.cond (.seq .leaf .leaf) .leaf)) (.seq .leaf .leaf)) .leaf)) (.seq (.seq .leaf (.cond (.seq .leaf .leaf) .leaf)) (.seq (.seq .leaf (.cond (.seq .leaf .leaf) .leaf)) (.seq (.seq .leaf (.cond (.seq .leaf .leaf) .leaf)) (.seq .leaf .leaf))))))))
theorem zp1:okC P qs Tryz.f163.ntmps ((Tryz.f163.body).getD .skip) zez=true:=by kernel_rfl
def zfn (x:ByteArray) (y:ByteArray) (R:Ending→World→Prop) (w:World):Prop :=
  zhe P ze0 #[(Value.string x)] [.bool] false w fun (t8:Bool) =>
  zhe P ze0 #[(Value.string y)] [.bool] false w fun (t10:Bool) =>
  xk t8 (
  xk t10 (
  R (.returned (Value.int .i64 0)) w) (
  R (.returned (Value.int .i64 (-1))) w)) (
  xk t10 (
  R (.returned (Value.int .i64 1)) w) (
  xk (Op.bytesLess x.toList y.toList) (
  R (.returned (Value.int .i64 (-1))) w) (
  xk (!((Op.bytesLess x.toList y.toList) || (x.toList == y.toList))) (
  R (.returned (Value.int .i64 1)) w) (
  R (.returned (Value.int .i64 0)) w))))
theorem zps (x:ByteArray) (y:ByteArray) (R:Ending→World→Prop) (w:World):tr P qs ((Tryz.f163.body).getD .skip) zez (zb5 0 [(0,(Value.string x)),(0,(Value.string y))]) (zco P Tryz.f163.results.toList R) w=zfn x y R w:=by kernel_rfl
theorem zpx {x:ByteArray} {y:ByteArray} {R:Ending→World→Prop} {w:World} (hT:zfn x y R w):qj P zdz #[(Value.string x),(Value.string y)] w R :=
 zx (fn:=Tryz.f163) (c:=(Tryz.f163.body).getD .skip) (ann:=zez) (args:=[(0,(Value.string x)),(0,(Value.string y))]) (qs:=qs) mixed Tryz.func163 rfl (by kernel_rfl) (by kernel_rfl) zp1 ((zps x y R w).symm ▸ hT)
def zkg:Ann:=(.seq .leaf (.join [] (.seq .leaf (.jblk [] (.loop [(5,.int .i64)] (.join [] (.seq .leaf (.cond .leaf .leaf)) (.seq (.blk (.seq (.seq (.tree (.op 0 [] (.op 1 [] (.op 2 [] (.op 4 [] (.op 5 [] (.op 6 [] (.op 3 [] (.op 7 [] (.op 8 [] .done)))))))))) (.cond (.seq .leaf .leaf) .leaf)) (.seq (.tree (.op 0 [] (.op 1 [] (.op 2 [] (.op 4 [] (.op 5 [] (.op 6 [] (.op 3 [] (.op 7 [] (.op 8 [] .done)))))))))) (.cond (.seq .leaf .leaf) .leaf)))) .leaf))))) (.seq (.seq .leaf (.cond (.seq .leaf .leaf) .leaf)) (.seq (.seq .leaf (.cond (.seq .leaf .leaf) .leaf)) (.seq .leaf .leaf)))))
theorem z0u:okC P qs Tryz.f173.ntmps ((Tryz.f173.body).getD .skip) zkg=true:=by kernel_rfl
def zne (a:Option Addr) (a_l a_c:Nat) (b:Option Addr) (b_l b_c:Nat) (R:Ending→World→Prop) (w:World):Prop :=
  joinP Unit (fun k =>
  joinP Unit (fun k_1 =>
  zaw Int (fun s w_1 k_2 =>
  joinP Unit (fun k_3 =>
  xk (decide (s < (a_l:Int))) (
  xk (decide (s < (b_l:Int))) (
  k_3 () w_1) (
  k_1 () w_1)) (
  k_1 () w_1)) (fun _ w_2 =>
  zbi w_2 fun w_3 =>
  ixS a a_l 1 s fun t20 =>
  ixS b b_l 1 s fun t24 =>
  ld .str t20 w_3 fun (t21:ByteArray) =>
  ld .str t24 w_3 fun (t25:ByteArray) =>
  xk (Op.bytesLess t21.toList t25.toList) (
  R (.returned (Value.int .i64 (-1))) w_3) (
  zbi w_3 fun w_4 =>
  ixS a a_l 1 s fun t29 =>
  ixS b b_l 1 s fun t33 =>
  ld .str t29 w_4 fun (t30:ByteArray) =>
  ld .str t33 w_4 fun (t34:ByteArray) =>
  xk (!((Op.bytesLess t30.toList t34.toList) || (t30.toList == t34.toList))) (
  R (.returned (Value.int .i64 1)) w_4) (
  zba .i64 s 1 fun t17 =>
  k_2 t17 w_4)))) 0 w) (fun _ w_5 =>
  k () w_5)) (fun _ w_6 =>
  xk (decide ((a_l:Int) < (b_l:Int))) (
  R (.returned (Value.int .i64 (-1))) w_6) (
  xk (decide ((a_l:Int) > (b_l:Int))) (
  R (.returned (Value.int .i64 1)) w_6) (
  R (.returned (Value.int .i64 0)) w_6)))
theorem z1l (a:Option Addr) (a_l a_c:Nat) (b:Option Addr) (b_l b_c:Nat) (R:Ending→World→Prop) (w:World):tr P qs ((Tryz.f173.body).getD .skip) zkg (zb5 0 [(0,(Value.slice a a_l a_c)),(0,(Value.slice b b_l b_c))]) (zco P Tryz.f173.results.toList R) w=zne a a_l a_c b b_l b_c R w:=by kernel_rfl
theorem z07 {a:Option Addr} {a_l a_c:Nat} {b:Option Addr} {b_l b_c:Nat} {R:Ending→World→Prop} {w:World} (hT:zne a a_l a_c b b_l b_c R w):qj P zj6 #[(Value.slice a a_l a_c),(Value.slice b b_l b_c)] w R :=
 zx (fn:=Tryz.f173) (c:=(Tryz.f173.body).getD .skip) (ann:=zkg) (args:=[(0,(Value.slice a a_l a_c)),(0,(Value.slice b b_l b_c))]) (qs:=qs) mixed Tryz.func173 rfl (by kernel_rfl) (by kernel_rfl) z0u ((z1l a a_l a_c b b_l b_c R w).symm ▸ hT)
def zjt:Ann:=(.seq .leaf (.seq (.seq .leaf (.blk (.loop [(18,.int .i64)] (.seq .leaf (.seq (.cond .leaf .leaf) (.seq (.blk (.seq .leaf (.tree (.op 0 [] (.op 1 [] (.op 2 [] (.op 3 [] (.op 4 [] (.op 8 [] (.op 9 [] (.op 10 [] (.op 11 [] (.op 12 [] (.op 17 [] (.op 18 [] (.op 19 [] (.op 20 [] (.op 21 [] (.op 26 [] (.op 27 [] (.op 28 [] (.op 29 [] (.op 30 [] (.op 5 [] (.op 6 [] (.op 7 [] (.op 13 [] (.op 14 [] (.op 15 [] (.op 16 [] (.op 22 [] (.op 23 [] (.op 24 [] (.op 25 [] (.op 31 [] (.op 32 [] (.op 33 [] (.op 34 [] (.op 35 [] .done))))))))))))))))))))))))))))))))))))))) .leaf)))))) (.seq (.seq .leaf (.blk (.loop [(6,.int .i64)] (.seq (.seq .leaf (.cond .leaf .leaf)) (.seq (.blk (.seq (.tree (.op 0 [] (.op 1 [] (.op 2 [] (.op 4 [] (.op 5 [] (.op 6 [] (.op 3 [] (.op 8 [] (.op 7 [] (.op 9 [] .done))))))))))) (.seq .leaf (.seq .leaf (.tree (.op 0 [] (.op 1 [] (.op 2 [] (.op 3 [] (.op 4 [] (.op 7 [] (.op 9 [] (.op 10 [] (.op 11 [] (.op 5 [] (.op 6 [] (.op 8 [] (.op 12 [] (.op 13 [] (.op 14 [] (.op 15 [] .done))))))))))))))))))))) .leaf))))) (.seq .leaf (.seq (.seq .leaf (.blk (.loop [(104,.int .i64)] (.seq .leaf (.seq (.cond .leaf .leaf) (.seq (.blk (.seq .leaf (.seq (.tree (.op 0 [] (.op 3 [] (.op 7 [] (.op 1 [] (.op 2 [] (.op 4 [] (.op 5 [] (.op 6 [] (.op 8 [] (.op 9 [] (.op 10 [] (.op 11 [] .done))))))))))))) (.seq (.tree (.op 0 [] (.op 2 [] (.op 4 [] (.op 6 [] (.op 9 [] (.op 12 [] (.op 17 [] (.op 18 [] (.op 21 [] (.op 22 [] (.op 1 [] (.op 3 [] (.op 5 [] (.op 7 [] (.op 8 [] (.op 10 [] (.op 11 [] (.op 13 [] (.op 14 [] (.op 15 [] (.op 16 [] (.op 19 [] (.op 20 [] (.op 23 [] (.op 24 [] (.op 25 [] .done))))))))))))))))))))))))))) (.seq (.tree (.op 0 [] (.op 3 [] (.op 7 [] (.op 1 [] (.op 2 [] (.op 4 [] (.op 5 [] (.op 6 [] (.op 8 [] (.op 9 [] (.op 10 [] (.op 11 [] .done))))))))))))) (.seq .leaf .leaf)))))) .leaf)))))) (.seq .leaf (.blk (.loop [(194,.int .i64)] (.seq .leaf (.seq (.cond .leaf .leaf) (.seq (.blk (.seq .leaf (.tree (.op 0 [] (.op 1 [] (.op 2 [] (.op 3 [] (.op 4 [] (.op 6 [] (.op 7 [] (.op 10 [] (.op 11 [] (.op 5 [] (.op 8 [] (.op 9 [] (.op 12 [] (.op 13 [] .done))))))))))))))))) .leaf)))))))))))
theorem zzc:okC P qs Tryz.f175.ntmps ((Tryz.f175.body).getD .skip) zjt=true:=by kernel_rfl
def zmu (hv:Option Addr) (b:Option Addr) (b_l b_c:Nat) (R:Ending→World→Prop) (w:World):Prop :=
  zbn (zc P zah) zah w fun b4 w_1 =>
  zaw Int (fun s w_2 k =>
  xk (decide (s < 16)) (
  zbi w_2 fun w_3 =>
  z0d .i64 4 s fun t24 =>
  ixS b b_l 1 t24 fun t25 =>
  z0d .i64 4 s fun t31 =>
  zba .i64 t31 1 fun t32 =>
  ixS b b_l 1 t32 fun t33 =>
  z0d .i64 4 s fun t40 =>
  zba .i64 t40 2 fun t41 =>
  ixS b b_l 1 t41 fun t42 =>
  z0d .i64 4 s fun t49 =>
  zba .i64 t49 3 fun t50 =>
  ixS b b_l 1 t50 fun t51 =>
  ld (.int .u8) t25 w_3 fun (t26:Int) =>
  cvI .u32 t26 fun t27 =>
  qia .u32 t27 24 fun t28 =>
  ld (.int .u8) t33 w_3 fun (t34:Int) =>
  cvI .u32 t34 fun t35 =>
  qia .u32 t35 16 fun t36 =>
  orI .u32 t28 t36 fun t37 =>
  ld (.int .u8) t42 w_3 fun (t43:Int) =>
  cvI .u32 t43 fun t44 =>
  qia .u32 t44 8 fun t45 =>
  orI .u32 t37 t45 fun t46 =>
  ld (.int .u8) t51 w_3 fun (t52:Int) =>
  cvI .u32 t52 fun t53 =>
  orI .u32 t46 t53 fun t54 =>
  ixR (⟨b4,0,none⟩:Addr) 64 1 s fun t55 =>
  stC t55 (Value.int .u32 t54) w_3 fun w_4 =>
  zba .i64 s 1 fun t56 =>
  k t56 w_4) (
  zaw Int (fun s_1 w_5 k_1 =>
  xk (decide (s_1 < 64)) (
  zbi w_5 fun w_6 =>
  zo9 .i64 s_1 2 fun t62 =>
  ixR (⟨b4,0,none⟩:Addr) 64 1 t62 fun t63 =>
  zo9 .i64 s_1 15 fun t66 =>
  ixR (⟨b4,0,none⟩:Addr) 64 1 t66 fun t67 =>
  ld (.int .u32) t63 w_6 fun (t64:Int) =>
  ld (.int .u32) t67 w_6 fun (t68:Int) =>
  zhe P jm #[(Value.int .u32 t64),(Value.int .i64 (-17))] [.int .u32] false w_6 fun (t70:Int) =>
  zhe P jm #[(Value.int .u32 t64),(Value.int .i64 (-19))] [.int .u32] false w_6 fun (t72:Int) =>
  zrj .u32 t70 t72 fun t73 =>
  z5y .u32 t64 10 fun t75 =>
  zrj .u32 t73 t75 fun t76 =>
  zhe P jm #[(Value.int .u32 t68),(Value.int .i64 (-7))] [.int .u32] false w_6 fun (t78:Int) =>
  zhe P jm #[(Value.int .u32 t68),(Value.int .i64 (-18))] [.int .u32] false w_6 fun (t80:Int) =>
  zrj .u32 t78 t80 fun t81 =>
  z5y .u32 t68 3 fun t83 =>
  zrj .u32 t81 t83 fun t84 =>
  zbi w_6 fun w_7 =>
  zo9 .i64 s_1 7 fun t88 =>
  ixR (⟨b4,0,none⟩:Addr) 64 1 t88 fun t89 =>
  zo9 .i64 s_1 16 fun t95 =>
  ixR (⟨b4,0,none⟩:Addr) 64 1 t95 fun t96 =>
  ld (.int .u32) t89 w_7 fun (t90:Int) =>
  zba .u32 t76 t90 fun t91 =>
  zba .u32 t91 t84 fun t93 =>
  ld (.int .u32) t96 w_7 fun (t97:Int) =>
  zba .u32 t93 t97 fun t98 =>
  ixR (⟨b4,0,none⟩:Addr) 64 1 s_1 fun t99 =>
  stC t99 (Value.int .u32 t98) w_7 fun w_8 =>
  zba .i64 s_1 1 fun t60 =>
  k_1 t60 w_8) (
  zu hv fun p =>
  ldA P 8 p w_5 fun t103 =>
  zbn (zc P jo) jo w_5 fun b11 w_9 =>
  zby P (storeVar jo (⟨b11,0,none⟩:Addr) (Value.agg t103)) w_9 fun w_10 =>
  zaw Int (fun s_2 w_11 k_2 =>
  xk (decide (s_2 < 64)) (
  zbi w_11 fun w_12 =>
  ld (.int .u32) (⟨b11,4,none⟩:Addr) w_12 fun (t108:Int) =>
  zhe P jm #[(Value.int .u32 t108),(Value.int .i64 (-6))] [.int .u32] false w_12 fun (t109:Int) =>
  ld (.int .u32) (⟨b11,4,none⟩:Addr) w_12 fun (t111:Int) =>
  zhe P jm #[(Value.int .u32 t111),(Value.int .i64 (-11))] [.int .u32] false w_12 fun (t112:Int) =>
  zrj .u32 t109 t112 fun t113 =>
  ld (.int .u32) (⟨b11,4,none⟩:Addr) w_12 fun (t115:Int) =>
  zhe P jm #[(Value.int .u32 t115),(Value.int .i64 (-25))] [.int .u32] false w_12 fun (t116:Int) =>
  zrj .u32 t113 t116 fun t117 =>
  zbi w_12 fun w_13 =>
  ixR (⟨0,0,none⟩:Addr) 64 1 s_2 fun t136 =>
  ixR (⟨b4,0,none⟩:Addr) 64 1 s_2 fun t140 =>
  ld (.int .u32) (⟨b11,7,none⟩:Addr) w_13 fun (t119:Int) =>
  zba .u32 t119 t117 fun t121 =>
  ld (.int .u32) (⟨b11,4,none⟩:Addr) w_13 fun (t123:Int) =>
  ld (.int .u32) (⟨b11,5,none⟩:Addr) w_13 fun (t125:Int) =>
  qbj .u32 t123 t125 fun t126 =>
  ld (.int .u32) (⟨b11,4,none⟩:Addr) w_13 fun (t128:Int) =>
  zrj .u32 (IntKind.max .u32) t128 fun t129 =>
  ld (.int .u32) (⟨b11,6,none⟩:Addr) w_13 fun (t131:Int) =>
  qbj .u32 t129 t131 fun t132 =>
  zrj .u32 t126 t132 fun t133 =>
  zba .u32 t121 t133 fun t134 =>
  ld (.int .u32) t136 w_13 fun (t137:Int) =>
  zba .u32 t134 t137 fun t138 =>
  ld (.int .u32) t140 w_13 fun (t141:Int) =>
  zba .u32 t138 t141 fun t142 =>
  zbi w_13 fun w_14 =>
  ld (.int .u32) (⟨b11,0,none⟩:Addr) w_14 fun (t144:Int) =>
  zhe P jm #[(Value.int .u32 t144),(Value.int .i64 (-2))] [.int .u32] false w_14 fun (t145:Int) =>
  ld (.int .u32) (⟨b11,0,none⟩:Addr) w_14 fun (t147:Int) =>
  zhe P jm #[(Value.int .u32 t147),(Value.int .i64 (-13))] [.int .u32] false w_14 fun (t148:Int) =>
  zrj .u32 t145 t148 fun t149 =>
  ld (.int .u32) (⟨b11,0,none⟩:Addr) w_14 fun (t151:Int) =>
  zhe P jm #[(Value.int .u32 t151),(Value.int .i64 (-22))] [.int .u32] false w_14 fun (t152:Int) =>
  zrj .u32 t149 t152 fun t153 =>
  ld (.int .u32) (⟨b11,0,none⟩:Addr) w_14 fun (t156:Int) =>
  ld (.int .u32) (⟨b11,1,none⟩:Addr) w_14 fun (t158:Int) =>
  qbj .u32 t156 t158 fun t159 =>
  ld (.int .u32) (⟨b11,0,none⟩:Addr) w_14 fun (t161:Int) =>
  ld (.int .u32) (⟨b11,2,none⟩:Addr) w_14 fun (t163:Int) =>
  qbj .u32 t161 t163 fun t164 =>
  zrj .u32 t159 t164 fun t165 =>
  ld (.int .u32) (⟨b11,1,none⟩:Addr) w_14 fun (t167:Int) =>
  ld (.int .u32) (⟨b11,2,none⟩:Addr) w_14 fun (t169:Int) =>
  qbj .u32 t167 t169 fun t170 =>
  zrj .u32 t165 t170 fun t171 =>
  zba .u32 t153 t171 fun t172 =>
  zba .u32 t142 t172 fun t175 =>
  ld (.int .u32) (⟨b11,0,none⟩:Addr) w_14 fun (t177:Int) =>
  ld (.int .u32) (⟨b11,1,none⟩:Addr) w_14 fun (t179:Int) =>
  ld (.int .u32) (⟨b11,2,none⟩:Addr) w_14 fun (t181:Int) =>
  ld (.int .u32) (⟨b11,3,none⟩:Addr) w_14 fun (t183:Int) =>
  zba .u32 t183 t142 fun t185 =>
  ld (.int .u32) (⟨b11,4,none⟩:Addr) w_14 fun (t187:Int) =>
  ld (.int .u32) (⟨b11,5,none⟩:Addr) w_14 fun (t189:Int) =>
  ld (.int .u32) (⟨b11,6,none⟩:Addr) w_14 fun (t191:Int) =>
  zaz P (Instr.build jo #[(0,(Value.int .u32 t175)),(1,(Value.int .u32 t177)),(2,(Value.int .u32 t179)),(3,(Value.int .u32 t181)),(4,(Value.int .u32 t185)),(5,(Value.int .u32 t187)),(6,(Value.int .u32 t189)),(7,(Value.int .u32 t191))]) .any w_14 fun (t192:Value) =>
  zby P (storeVar jo (⟨b11,0,none⟩:Addr) t192) w_14 fun w_15 =>
  zba .i64 s_2 1 fun t193 =>
  k_2 t193 w_15) (
  zaw Int (fun s_3 w_16 k_3 =>
  xk (decide (s_3 < 8)) (
  zbi w_16 fun w_17 =>
  zu hv fun p_1 =>
  ixR p_1 8 1 s_3 fun t201 =>
  ixR (⟨b11,0,none⟩:Addr) 8 1 s_3 fun t204 =>
  zu hv fun p_2 =>
  ld (.int .u32) t201 w_17 fun (t202:Int) =>
  ld (.int .u32) t204 w_17 fun (t205:Int) =>
  zba .u32 t202 t205 fun t206 =>
  ixR p_2 8 1 s_3 fun t209 =>
  stC t209 (Value.int .u32 t206) w_17 fun w_18 =>
  zba .i64 s_3 1 fun t210 =>
  k_3 t210 w_18) (
  R (.returned (Value.tuple #[])) w_16)) 0 w_11)) 0 w_10)) 16 w_2)) 0 w_1
theorem zz4 (hv:Option Addr) (b:Option Addr) (b_l b_c:Nat) (R:Ending→World→Prop) (w:World):tr P qs ((Tryz.f175.body).getD .skip) zjt (zb5 0 [(0,(Value.pointer hv)),(0,(Value.slice b b_l b_c))]) (zco P Tryz.f175.results.toList R) w=zmu hv b b_l b_c R w:=by kernel_rfl
theorem zyc {hv:Option Addr} {b:Option Addr} {b_l b_c:Nat} {R:Ending→World→Prop} {w:World} (hT:zmu hv b b_l b_c R w):qj P zm0 #[(Value.pointer hv),(Value.slice b b_l b_c)] w R :=
 zx (fn:=Tryz.f175) (c:=(Tryz.f175.body).getD .skip) (ann:=zjt) (args:=[(0,(Value.pointer hv)),(0,(Value.slice b b_l b_c))]) (qs:=qs) mixed Tryz.func175 rfl (by kernel_rfl) (by kernel_rfl) zzc ((zz4 hv b b_l b_c R w).symm ▸ hT)
def zhc:Ann:=(.blk (.loop [] (.seq (.seq .leaf (.cond .leaf .leaf)) (.blk (.seq .leaf (.seq (.seq .leaf (.cond .leaf .leaf)) .leaf))))))
theorem zv5:okC P qs Tryz.f188.ntmps ((Tryz.f188.body).getD .skip) zhc=true:=by kernel_rfl
def zjn (yield:Value) (c0:Option Addr) (R:Ending→World→Prop) (w:World):Prop :=
  zaw Unit (fun _ w_1 k =>
  zu c0 fun p =>
  ld .str p w_1 fun (t6:ByteArray) =>
  xk (!(t6.toList == (ByteArray.mk #[]).toList)) (
  zu c0 fun p_1 =>
  ld .str p_1 w_1 fun (t9:ByteArray) =>
  xg P zoy #[(Value.string t9),(Value.string (ByteArray.mk #[47]))] [.str,.str,.bool] true w_1 fun (t10:(ByteArray × ByteArray × Bool)) w_2 =>
  z1e P yield #[(Value.string t10.1)] [.bool] false w_2 fun (t16:Bool) w_3 =>
  xk (!t16) (
  R (.returned (Value.tuple #[])) w_3) (
  zu c0 fun p_2 =>
  stC p_2 (Value.string t10.2.1) w_3 fun w_4 =>
  k () w_4)) (
  R (.returned (Value.tuple #[])) w_1)) () w
theorem zu1 (yield:Value) (c0:Option Addr) (R:Ending→World→Prop) (w:World):tr P qs ((Tryz.f188.body).getD .skip) zhc (zb5 0 [(1,yield),(0,(Value.pointer c0))]) (zco P Tryz.f188.results.toList R) w=zjn yield c0 R w:=by kernel_rfl
theorem zvg {yield:Value} {c0:Option Addr} {R:Ending→World→Prop} {w:World} (hT:zjn yield c0 R w):qj P zf3 #[yield,(Value.pointer c0)] w R :=
 zx (fn:=Tryz.f188) (c:=(Tryz.f188.body).getD .skip) (ann:=zhc) (args:=[(1,yield),(0,(Value.pointer c0))]) (qs:=qs) mixed Tryz.func188 rfl (by kernel_rfl) (by kernel_rfl) zv5 ((zu1 yield c0 R w).symm ▸ hT)
def zke:Ann:=(.seq .leaf (.seq (.seq .leaf (.blk (.loop [(7,.int .i64)] (.seq .leaf (.seq (.cond .leaf .leaf) (.seq (.blk (.seq .leaf (.seq .leaf (.cond (.seq .leaf .leaf) .leaf)))) .leaf)))))) (.seq (.seq .leaf (.cond (.seq .leaf .leaf) .leaf)) (.seq .leaf .leaf))))
theorem z03:okC P qs Tryz.f207.ntmps ((Tryz.f207.body).getD .skip) zke=true:=by kernel_rfl
def zoc (names:Option Addr) (names_l names_c:Nat) (R:Ending→World→Prop) (w:World):Prop :=
  zaw Int (fun s w_1 k =>
  xk (decide (s < (names_l:Int))) (
  ixS names names_l 1 s fun t9 =>
  ld .str t9 w_1 fun (t10:ByteArray) =>
  xg P zpo #[(Value.string t10)] [.bool] false w_1 fun (t12:Bool) w_2 =>
  xk (!t12) (
  R (.returned (Value.int .i64 41)) w_2) (
  zba .i64 s 1 fun t14 =>
  k t14 w_2)) (
  xk (decide ((names_l:Int) > 8)) (
  R (.returned (Value.int .i64 42)) w_1) (
  R (.returned (Value.int .i64 0)) w_1))) 0 w
theorem z0i (names:Option Addr) (names_l names_c:Nat) (R:Ending→World→Prop) (w:World):tr P qs ((Tryz.f207.body).getD .skip) zke (zb5 0 [(0,(Value.slice names names_l names_c))]) (zco P Tryz.f207.results.toList R) w=zoc names names_l names_c R w:=by kernel_rfl
theorem z0o {names:Option Addr} {names_l names_c:Nat} {R:Ending→World→Prop} {w:World} (hT:zoc names names_l names_c R w):qj P znc #[(Value.slice names names_l names_c)] w R :=
 zx (fn:=Tryz.f207) (c:=(Tryz.f207.body).getD .skip) (ann:=zke) (args:=[(0,(Value.slice names names_l names_c))]) (qs:=qs) mixed Tryz.func207 rfl (by kernel_rfl) (by kernel_rfl) z03 ((z0i names names_l names_c R w).symm ▸ hT)
def zmx:Ann:=(.seq .leaf (.join [] (.seq .leaf (.cond (.seq .leaf .leaf) .leaf)) (.seq (.seq .leaf (.blk (.loop [(21,.int .i64)] (.seq .leaf (.seq (.cond .leaf .leaf) (.seq (.blk (.seq .leaf (.seq .leaf (.cond (.seq .leaf .leaf) .leaf)))) .leaf)))))) (.seq .leaf .leaf))))
theorem z3u:okC P qs Tryz.f224.ntmps ((Tryz.f224.body).getD .skip) zmx=true:=by kernel_rfl
def zpy (s:ByteArray) (R:Ending→World→Prop) (w:World):Prop :=
  joinP Unit (fun k =>
  xk (s.toList == (ByteArray.mk #[]).toList) (
  R (.returned (Value.bool false)) w) (
  xk (decide ((s.size:Int) > 16)) (
  R (.returned (Value.bool false)) w) (
  xk (s.toList == (ByteArray.mk #[46]).toList) (
  R (.returned (Value.bool false)) w) (
  xk (s.toList == (ByteArray.mk #[46,46]).toList) (
  R (.returned (Value.bool false)) w) (
  k () w))))) (fun _ w_1 =>
  zaw Int (fun s_2 w_2 k_1 =>
  xk (decide (s_2 < (s.size:Int))) (
  ztl s s_2 fun t26 =>
  zhe P zj7 #[(Value.int .u8 t26)] [.bool] false w_2 fun (t27:Bool) =>
  xk (!t27) (
  R (.returned (Value.bool false)) w_2) (
  zba .i64 s_2 1 fun t29 =>
  k_1 t29 w_2)) (
  R (.returned (Value.bool true)) w_2)) 0 w_1)
theorem z3h (s:ByteArray) (R:Ending→World→Prop) (w:World):tr P qs ((Tryz.f224.body).getD .skip) zmx (zb5 0 [(0,(Value.string s))]) (zco P Tryz.f224.results.toList R) w=zpy s R w:=by kernel_rfl
theorem z5k {s:ByteArray} {R:Ending→World→Prop} {w:World} (hT:zpy s R w):qj P zpo #[(Value.string s)] w R :=
 zx (fn:=Tryz.f224) (c:=(Tryz.f224.body).getD .skip) (ann:=zmx) (args:=[(0,(Value.string s))]) (qs:=qs) mixed Tryz.func224 rfl (by kernel_rfl) (by kernel_rfl) z3u ((z3h s R w).symm ▸ hT)
set_option maxRecDepth 100000
def zpj:Ann:=(.seq .leaf (.seq .leaf .leaf))
theorem qb5:okC P qs Tryz.f12.ntmps ((Tryz.f12.body).getD .skip) zpj=true:=by kernel_rfl
def zvs (quota:Int) (R:Ending→World→Prop) (w:World):Prop :=
  zaz P (Builtin.max_ #[zdf,zdf] zdf #[(Value.int .i64 quota),(Value.int .i64 0)]) (.int .i64) w fun (t4:Int) =>
  zal P (Instr.makeMap zaa none) .map w fun (t5:(Option Nat)) w_1 =>
  zaz P (Instr.build ziq #[(0,(Value.int .i64 t4)),(2,(Value.map t5))]) .any w_1 fun (t6:Value) =>
  zbn (Value.cells t6) ziq w_1 fun b7 w_2 =>
  R (.returned (Value.pointer (some (⟨b7,0,none⟩:Addr)))) w_2
theorem qbf (quota:Int) (R:Ending→World→Prop) (w:World):tr P qs ((Tryz.f12.body).getD .skip) zpj (zb5 0 [(0,(Value.int .i64 quota))]) (zco P Tryz.f12.results.toList R) w=zvs quota R w:=by kernel_rfl
theorem qax {quota:Int} {R:Ending→World→Prop} {w:World} (hT:zvs quota R w):qj P zm7 #[(Value.int .i64 quota)] w R :=
 zx (fn:=Tryz.f12) (c:=(Tryz.f12.body).getD .skip) (ann:=zpj) (args:=[(0,(Value.int .i64 quota))]) (qs:=qs) mixed Tryz.func12 rfl (by kernel_rfl) (by kernel_rfl) qb5 ((qbf quota R w).symm ▸ hT)
def zfp:Ann:=(.seq .leaf (.seq (.seq .leaf (.cond (.seq .leaf .leaf) .leaf)) (.seq .leaf .leaf)))
theorem zra:okC P qs Tryz.f17.ntmps ((Tryz.f17.body).getD .skip) zfp=true:=by kernel_rfl
def zg7 (s:Option Addr) (R:Ending→World→Prop) (w:World):Prop :=
  xk (Option.isNone s) (
  R (.returned (Value.int .i64 0)) w) (
  zu s fun p =>
  ld .map (Addr.add p 2) w fun (t8:(Option Nat)) =>
  zaz P (Builtin.len_ #[zaa] zdf #[(Value.map t8)]) (.int .i64) w fun (t9:Int) =>
  R (.returned (Value.int .i64 t9)) w)
theorem zr8 (s:Option Addr) (R:Ending→World→Prop) (w:World):tr P qs ((Tryz.f17.body).getD .skip) zfp (zb5 0 [(0,(Value.pointer s))]) (zco P Tryz.f17.results.toList R) w=zg7 s R w:=by kernel_rfl
theorem zrp {s:Option Addr} {R:Ending→World→Prop} {w:World} (hT:zg7 s R w):qj P zho #[(Value.pointer s)] w R :=
 zx (fn:=Tryz.f17) (c:=(Tryz.f17.body).getD .skip) (ann:=zfp) (args:=[(0,(Value.pointer s))]) (qs:=qs) mixed Tryz.func17 rfl (by kernel_rfl) (by kernel_rfl) zra ((zr8 s R w).symm ▸ hT)
def zfo:Ann:=(.seq .leaf (.seq (.seq .leaf (.cond (.seq .leaf .leaf) .leaf)) (.seq .leaf .leaf)))
theorem zrl:okC P qs Tryz.f18.ntmps ((Tryz.f18.body).getD .skip) zfo=true:=by kernel_rfl
def zg8 (s:Option Addr) (R:Ending→World→Prop) (w:World):Prop :=
  xk (Option.isNone s) (
  R (.returned (Value.int .i64 0)) w) (
  zu s fun p =>
  ld (.int .i64) (Addr.add p 1) w fun (t8:Int) =>
  R (.returned (Value.int .i64 t8)) w)
theorem zrg (s:Option Addr) (R:Ending→World→Prop) (w:World):tr P qs ((Tryz.f18.body).getD .skip) zfo (zb5 0 [(0,(Value.pointer s))]) (zco P Tryz.f18.results.toList R) w=zg8 s R w:=by kernel_rfl
theorem zse {s:Option Addr} {R:Ending→World→Prop} {w:World} (hT:zg8 s R w):qj P zhn #[(Value.pointer s)] w R :=
 zx (fn:=Tryz.f18) (c:=(Tryz.f18.body).getD .skip) (ann:=zfo) (args:=[(0,(Value.pointer s))]) (qs:=qs) mixed Tryz.func18 rfl (by kernel_rfl) (by kernel_rfl) zrl ((zrg s R w).symm ▸ hT)
def ze9:Ann:=(.seq .leaf (.seq (.seq .leaf (.cond (.seq .leaf .leaf) .leaf)) (.seq .leaf (.seq .leaf (.seq (.seq .leaf (.blk (.loop [(6,.int .i64),(23,.int .i64)] (.seq .leaf (.seq (.cond .leaf .leaf) (.seq (.jblk [(6,.int .i64)] (.seq .leaf (.seq (.seq .leaf (.cond (.seq .leaf .leaf) .leaf)) (.seq .leaf (.seq (.seq .leaf (.seq .leaf (.cond .leaf .leaf))) (.seq (.tree (.op 0 [] (.op 2 [] (.op 1 [] (.op 3 [1] (.op 4 [] .done)))))) (.seq (.tree (.op 0 [] (.op 1 [] (.op 2 [] (.op 3 [] (.op 4 [] (.op 5 [] (.op 6 [] (.op 7 [] (.op 8 [] (.op 9 [] (.op 10 [] .done)))))))))))) (.seq .leaf (.cond .leaf .leaf))))))))) .leaf)))))) (.seq (.seq (.tree (.op 0 [] (.op 1 [] (.op 2 [] (.op 3 [] (.op 5 [] (.op 6 [] (.op 7 [] (.op 4 [] (.op 8 [] (.op 9 [] (.op 10 [] .done)))))))))))) (.cond (.seq .leaf .leaf) .leaf)) (.seq (.seq .leaf (.blk (.loop [] (.seq .leaf (.seq (.cond .leaf .leaf) (.jblk [] (.seq .leaf (.seq (.tree (.op 0 [] (.op 1 [] (.op 2 [] (.op 3 [] (.op 4 [] (.op 5 [] (.op 6 [] (.op 7 [] (.op 8 [] (.op 9 [] (.op 10 [] .done)))))))))))) (.join [] (.seq (.tree (.op 0 [] (.op 1 [] (.op 2 [] (.op 4 [] (.op 3 [4] (.op 5 [] (.op 6 [] .done)))))))) (.cond .leaf .leaf)) (.seq .leaf (.tree (.op 0 [] (.op 1 [] (.op 2 [] (.op 5 [] (.op 3 [] (.op 4 [] (.op 6 [] .done)))))))))))))))))) (.seq .leaf .leaf))))))))
theorem zqy:okC P qs Tryz.f60.ntmps ((Tryz.f60.body).getD .skip) ze9=true:=by kernel_rfl
def zgm (s:Option Addr) (list:Option Addr) (list_l list_c:Nat) (R:Ending→World→Prop) (w:World):Prop :=
  xk (Option.isNone s) (
  R (.returned (Value.int .i64 7)) w) (
  zal P (Instr.makeMap zaa none) .map w fun (t20:(Option Nat)) w_1 =>
  zaw (Int × Int) (fun s_1 w_2 k =>
  xk (decide (s_1.2 < (list_l:Int))) (
  joinP Int (fun k_1 =>
  ixS list list_l 1 s_1.2 fun t25 =>
  ld .slc t25 w_2 fun (t26:(Option Addr × Nat × Nat)) =>
  xk (decide ((t26.2.1:Int) > 4096)) (
  R (.returned (Value.int .i64 2)) w_2) (
  xg P zm9 #[(Value.slice t26.1 t26.2.1 t26.2.2)] [.any] false w_2 fun (t31:Value) w_3 =>
  zbn (zc P zf) zf w_3 fun b9 w_4 =>
  zby P (storeVar zf (⟨b9,0,none⟩:Addr) t31) w_4 fun w_5 =>
  ldA P 32 (⟨b9,0,none⟩:Addr) w_5 fun t34 =>
  qh9 P (Instr.lookup zaa (Value.map t20) (Value.agg t34) true) [.slc,.bool] w_5 fun (t35:((Option Addr × Nat × Nat) × Bool)) =>
  xk t35.2 (
  k_1 s_1.1 w_5) (
  zbi w_5 fun w_6 =>
  ldA P 32 (⟨b9,0,none⟩:Addr) w_6 fun t40 =>
  xg P zck #[(Value.slice t26.1 t26.2.1 t26.2.2)] [.slc] false w_6 fun (t42:(Option Addr × Nat × Nat)) w_7 =>
  ((ldA P 32 (⟨b9,0,none⟩:Addr) w_7 fun t40_1 =>
  (Value.agg t40_1)=(Value.agg t40)) ∧
  zby P (Instr.mapUpdate zaa (Value.map t20) (Value.agg t40) (Value.slice t42.1 t42.2.1 t42.2.2)) w_7 fun w_8 =>
  zbi w_8 fun w_9 =>
  zu s fun p =>
  ld .map (Addr.add p 2) w_9 fun (t47:(Option Nat)) =>
  ldA P 32 (⟨b9,0,none⟩:Addr) w_9 fun t48 =>
  qh9 P (Instr.lookup zaa (Value.map t47) (Value.agg t48) true) [.slc,.bool] w_9 fun (t49:((Option Addr × Nat × Nat) × Bool)) =>
  xk (!t49.2) (
  zba .i64 s_1.1 (t26.2.1:Int) fun t57 =>
  k_1 t57 w_9) (
  k_1 s_1.1 w_9))))) (fun s_2 w_10 =>
  zba .i64 s_1.2 1 fun t58 =>
  k (s_2,t58) w_10)) (
  zbi w_2 fun w_11 =>
  zu s fun p_1 =>
  zu s fun p_2 =>
  ld (.int .i64) p_1 w_11 fun (t63:Int) =>
  ld (.int .i64) (Addr.add p_2 1) w_11 fun (t67:Int) =>
  zo9 .i64 t63 t67 fun t68 =>
  xk (decide (s_1.1 > t68)) (
  R (.returned (Value.int .i64 3)) w_11) (
  zal P (Instr.range zaa (Value.map t20)) .ptr w_11 fun (t71:(Option Addr)) w_12 =>
  zaw Unit (fun _ w_13 k_2 =>
  zal P (Instr.next (Value.pointer t71) false zmp) .any w_13 fun (t72:Value) w_14 =>
  exV t72 0 .bool fun (t73:Bool) =>
  xk t73 (
  joinP Unit (fun k_3 =>
  zaz P (Instr.entry (Value.pointer t71)) .any w_14 fun (t74:Value) =>
  exV t74 0 .any fun (t75:Value) =>
  exV t74 1 .slc fun (t76:(Option Addr × Nat × Nat)) =>
  zbn (zc P zf) zf w_14 fun b14 w_15 =>
  zby P (storeVar zf (⟨b14,0,none⟩:Addr) t75) w_15 fun w_16 =>
  zbi w_16 fun w_17 =>
  zu s fun p_3 =>
  ld .map (Addr.add p_3 2) w_17 fun (t81:(Option Nat)) =>
  ldA P 32 (⟨b14,0,none⟩:Addr) w_17 fun t82 =>
  qh9 P (Instr.lookup zaa (Value.map t81) (Value.agg t82) true) [.slc,.bool] w_17 fun (t83:((Option Addr × Nat × Nat) × Bool)) =>
  joinP Unit (fun k_4 =>
  zbi w_17 fun w_18 =>
  xk t83.2 (
  ldA P 32 (⟨b14,0,none⟩:Addr) w_18 fun t90 =>
  xg P zm9 #[(Value.slice t83.1.1 t83.1.2.1 t83.1.2.2)] [.any] false w_18 fun (t89:Value) w_19 =>
  ((ldA P 32 (⟨b14,0,none⟩:Addr) w_19 fun t90_1 =>
  (Value.agg t90_1)=(Value.agg t90)) ∧
  zaz P (eqM .eql zf (.tmp 89) (.tmp 90) t89 (Value.agg t90)) .bool w_19 fun (t91:Bool) =>
  xk t91 (
  k_3 () w_19) (
  k_4 () w_19))) (
  ((undef=undef) ∧
  k_4 () w_18))) (fun _ w_20 =>
  zu s fun p_4 =>
  ld (.int .i64) (Addr.add p_4 1) w_20 fun (t96:Int) =>
  zo9 .i64 (t76.2.1:Int) (t83.1.2.1:Int) fun t101 =>
  zba .i64 t96 t101 fun t102 =>
  zu s fun p_5 =>
  stC (Addr.add p_5 1) (Value.int .i64 t102) w_20 fun w_21 =>
  zbi w_21 fun w_22 =>
  zu s fun p_6 =>
  ld .map (Addr.add p_6 2) w_22 fun (t108:(Option Nat)) =>
  ldA P 32 (⟨b14,0,none⟩:Addr) w_22 fun t109 =>
  zby P (Instr.mapUpdate zaa (Value.map t108) (Value.agg t109) (Value.slice t76.1 t76.2.1 t76.2.2)) w_22 fun w_23 =>
  k_3 () w_23)) (fun _ w_24 =>
  k_2 () w_24)) (
  R (.returned (Value.int .i64 0)) w_14)) () w_12))) (0,0) w_1)
theorem zqw (s:Option Addr) (list:Option Addr) (list_l list_c:Nat) (R:Ending→World→Prop) (w:World):tr P qs ((Tryz.f60.body).getD .skip) ze9 (zb5 0 [(0,(Value.pointer s)),(0,(Value.slice list list_l list_c))]) (zco P Tryz.f60.results.toList R) w=zgm s list list_l list_c R w:=by kernel_rfl
theorem zq2 {s:Option Addr} {list:Option Addr} {list_l list_c:Nat} {R:Ending→World→Prop} {w:World} (hT:zgm s list list_l list_c R w):qj P zga #[(Value.pointer s),(Value.slice list list_l list_c)] w R :=
 zx (fn:=Tryz.f60) (c:=(Tryz.f60.body).getD .skip) (ann:=ze9) (args:=[(0,(Value.pointer s)),(0,(Value.slice list list_l list_c))]) (qs:=qs) mixed Tryz.func60 rfl (by kernel_rfl) (by kernel_rfl) zqy ((zqw s list list_l list_c R w).symm ▸ hT)
def zhj:Ann:=(.seq .leaf (.seq (.seq .leaf (.cond (.seq .leaf .leaf) .leaf)) (.seq (.tree (.op 0 [] (.op 1 [] (.op 2 [] (.op 3 [] (.op 4 [] (.op 5 [] (.op 6 [] (.op 7 [] (.op 8 [] (.op 9 [] (.op 10 [] .done)))))))))))) (.seq (.seq .leaf (.cond (.seq .leaf .leaf) .leaf)) (.seq (.seq (.tree (.op 0 [] (.op 2 [] (.op 1 [2] (.op 3 [] .done))))) (.cond (.seq .leaf .leaf) .leaf)) (.seq .leaf .leaf))))))
theorem zu3:okC P qs Tryz.f69.ntmps ((Tryz.f69.body).getD .skip) zhj=true:=by kernel_rfl
def ziz (s:Option Addr) (d:Value) (R:Ending→World→Prop) (w:World):Prop :=
  zbn (Value.cells d) zf w fun b3 w_1 =>
  xk (Option.isNone s) (
  R (.returned (Value.tuple #[(Value.slice none 0 0),(Value.int .i64 7)])) w_1) (
  zbi w_1 fun w_2 =>
  zu s fun p =>
  ld .map (Addr.add p 2) w_2 fun (t14:(Option Nat)) =>
  ldA P 32 (⟨b3,0,none⟩:Addr) w_2 fun t15 =>
  qh9 P (Instr.lookup zaa (Value.map t14) (Value.agg t15) true) [.slc,.bool] w_2 fun (t16:((Option Addr × Nat × Nat) × Bool)) =>
  xk (!t16.2) (
  R (.returned (Value.tuple #[(Value.slice none 0 0),(Value.int .i64 50)])) w_2) (
  zbi w_2 fun w_3 =>
  ldA P 32 (⟨b3,0,none⟩:Addr) w_3 fun t23 =>
  xg P zm9 #[(Value.slice t16.1.1 t16.1.2.1 t16.1.2.2)] [.any] false w_3 fun (t22:Value) w_4 =>
  ((ldA P 32 (⟨b3,0,none⟩:Addr) w_4 fun t23_1 =>
  (Value.agg t23_1)=(Value.agg t23)) ∧
  zaz P (eqM .neq zf (.tmp 22) (.tmp 23) t22 (Value.agg t23)) .bool w_4 fun (t24:Bool) =>
  xk t24 (
  R (.returned (Value.tuple #[(Value.slice none 0 0),(Value.int .i64 51)])) w_4) (
  xg P zck #[(Value.slice t16.1.1 t16.1.2.1 t16.1.2.2)] [.slc] false w_4 fun (t26:(Option Addr × Nat × Nat)) w_5 =>
  R (.returned (Value.tuple #[(Value.slice t26.1 t26.2.1 t26.2.2),(Value.int .i64 0)])) w_5))))
theorem zu8 (s:Option Addr) (d:Value) (R:Ending→World→Prop) (w:World):tr P qs ((Tryz.f69.body).getD .skip) zhj (zb5 0 [(0,(Value.pointer s)),(1,d)]) (zco P Tryz.f69.results.toList R) w=ziz s d R w:=by kernel_rfl
theorem zva {s:Option Addr} {d:Value} {R:Ending→World→Prop} {w:World} (hT:ziz s d R w):qj P zja #[(Value.pointer s),d] w R :=
 zx (fn:=Tryz.f69) (c:=(Tryz.f69.body).getD .skip) (ann:=zhj) (args:=[(0,(Value.pointer s)),(1,d)]) (qs:=qs) mixed Tryz.func69 rfl (by kernel_rfl) (by kernel_rfl) zu3 ((zu8 s d R w).symm ▸ hT)
def zdd:Ann:=(.seq .leaf (.seq (.seq .leaf (.cond (.seq .leaf .leaf) .leaf)) (.seq .leaf .leaf)))
theorem zk5:okC P qs Tryz.f115.ntmps ((Tryz.f115.body).getD .skip) zdd=true:=by kernel_rfl
def zdm (s:Option Addr) (s_l s_c:Nat) (R:Ending→World→Prop) (w:World):Prop :=
  xk (Option.isNone s) (
  R (.returned (Value.slice none 0 0)) w) (
  zal P (Instr.buildSlice zh 0 #[]) .slc w fun (t5:(Option Addr × Nat × Nat)) w_1 =>
  zal P (Builtin.append_ #[zh,zh] zh #[(Value.slice t5.1 t5.2.1 t5.2.2),(Value.slice s s_l s_c)]) .slc w_1 fun (t7:(Option Addr × Nat × Nat)) w_2 =>
  R (.returned (Value.slice t7.1 t7.2.1 t7.2.2)) w_2)
theorem zko (s:Option Addr) (s_l s_c:Nat) (R:Ending→World→Prop) (w:World):tr P qs ((Tryz.f115.body).getD .skip) zdd (zb5 0 [(0,(Value.slice s s_l s_c))]) (zco P Tryz.f115.results.toList R) w=zdm s s_l s_c R w:=by kernel_rfl
theorem zkx {s:Option Addr} {s_l s_c:Nat} {R:Ending→World→Prop} {w:World} (hT:zdm s s_l s_c R w):qj P zck #[(Value.slice s s_l s_c)] w R :=
 zx (fn:=Tryz.f115) (c:=(Tryz.f115.body).getD .skip) (ann:=zdd) (args:=[(0,(Value.slice s s_l s_c))]) (qs:=qs) mixed Tryz.func115 rfl (by kernel_rfl) (by kernel_rfl) zk5 ((zko s s_l s_c R w).symm ▸ hT)
def zh1:Ann:=(.seq .leaf (.seq .leaf .leaf))
theorem zwt:okC P qs Tryz.f151.ntmps ((Tryz.f151.body).getD .skip) zh1=true:=by kernel_rfl
def zk0 (a:Option Addr) (a_l a_c:Nat) (b:Option Addr) (b_l b_c:Nat) (R:Ending→World→Prop) (w:World):Prop :=
  xg P zfm #[(Value.slice a a_l a_c),(Value.slice b b_l b_c)] [.int .i64] false w fun (t7:Int) w_1 =>
  R (.returned (Value.int .i64 t7)) w_1
theorem zwq (a:Option Addr) (a_l a_c:Nat) (b:Option Addr) (b_l b_c:Nat) (R:Ending→World→Prop) (w:World):tr P qs ((Tryz.f151.body).getD .skip) zh1 (zb5 0 [(0,(Value.slice a a_l a_c)),(0,(Value.slice b b_l b_c))]) (zco P Tryz.f151.results.toList R) w=zk0 a a_l a_c b b_l b_c R w:=by kernel_rfl
theorem zw4 {a:Option Addr} {a_l a_c:Nat} {b:Option Addr} {b_l b_c:Nat} {R:Ending→World→Prop} {w:World} (hT:zk0 a a_l a_c b b_l b_c R w):qj P zlc #[(Value.slice a a_l a_c),(Value.slice b b_l b_c)] w R :=
 zx (fn:=Tryz.f151) (c:=(Tryz.f151.body).getD .skip) (ann:=zh1) (args:=[(0,(Value.slice a a_l a_c)),(0,(Value.slice b b_l b_c))]) (qs:=qs) mixed Tryz.func151 rfl (by kernel_rfl) (by kernel_rfl) zwt ((zwq a a_l a_c b b_l b_c R w).symm ▸ hT)
def zcb:Ann:=(.seq .leaf (.seq (.seq .leaf (.cond (.seq .leaf .leaf) .leaf)) (.seq .leaf .leaf)))
theorem zhw:okC P qs Tryz.f154.ntmps ((Tryz.f154.body).getD .skip) zcb=true:=by kernel_rfl
def zcw (s:Option Addr) (s_l s_c:Nat) (R:Ending→World→Prop) (w:World):Prop :=
  xk (Option.isNone s) (
  R (.returned (Value.slice none 0 0)) w) (
  zal P (Instr.buildSlice qp 0 #[]) .slc w fun (t5:(Option Addr × Nat × Nat)) w_1 =>
  zal P (Builtin.append_ #[qp,qp] qp #[(Value.slice t5.1 t5.2.1 t5.2.2),(Value.slice s s_l s_c)]) .slc w_1 fun (t7:(Option Addr × Nat × Nat)) w_2 =>
  R (.returned (Value.slice t7.1 t7.2.1 t7.2.2)) w_2)
theorem zhz (s:Option Addr) (s_l s_c:Nat) (R:Ending→World→Prop) (w:World):tr P qs ((Tryz.f154.body).getD .skip) zcb (zb5 0 [(0,(Value.slice s s_l s_c))]) (zco P Tryz.f154.results.toList R) w=zcw s s_l s_c R w:=by kernel_rfl
theorem zhx {s:Option Addr} {s_l s_c:Nat} {R:Ending→World→Prop} {w:World} (hT:zcw s s_l s_c R w):qj P zbh #[(Value.slice s s_l s_c)] w R :=
 zx (fn:=Tryz.f154) (c:=(Tryz.f154.body).getD .skip) (ann:=zcb) (args:=[(0,(Value.slice s s_l s_c))]) (qs:=qs) mixed Tryz.func154 rfl (by kernel_rfl) (by kernel_rfl) zhw ((zhz s s_l s_c R w).symm ▸ hT)
theorem zlh {e:Array Value→Sem Value} (he:Extern.find Tryz.f184=some e) (args:Array Value) (w:World):(callFunc zfm args).run P w=((e args).run P w).andThen fun v w1=>.ok (.value v) w1 :=
 Go.run_callFunc_extern Tryz.func184 (by kernel_rfl) (by kernel_rfl) (by kernel_rfl) he args w
set_option maxRecDepth 100000
def zsb:Ann:=(.seq .leaf (.seq .leaf .leaf))
theorem qfk:okC P qs Tryz.f13.ntmps ((Tryz.f13.body).getD .skip) zsb=true:=by kernel_rfl
def zz0 (quota:Int) (R:Ending→World→Prop) (w:World):Prop :=
  zaz P (Builtin.max_ #[zdf,zdf] zdf #[(Value.int .i64 quota),(Value.int .i64 0)]) (.int .i64) w fun (t4:Int) =>
  zaz P (Instr.build zfb #[(0,(Value.int .i64 t4))]) .any w fun (t5:Value) =>
  zbn (Value.cells t5) zfb w fun b6 w_1 =>
  R (.returned (Value.pointer (some (⟨b6,0,none⟩:Addr)))) w_1
theorem qe8 (quota:Int) (R:Ending→World→Prop) (w:World):tr P qs ((Tryz.f13.body).getD .skip) zsb (zb5 0 [(0,(Value.int .i64 quota))]) (zco P Tryz.f13.results.toList R) w=zz0 quota R w:=by kernel_rfl
theorem qe5 {quota:Int} {R:Ending→World→Prop} {w:World} (hT:zz0 quota R w):qj P ztf #[(Value.int .i64 quota)] w R :=
 zx (fn:=Tryz.f13) (c:=(Tryz.f13.body).getD .skip) (ann:=zsb) (args:=[(0,(Value.int .i64 quota))]) (qs:=qs) mixed Tryz.func13 rfl (by kernel_rfl) (by kernel_rfl) qfk ((qe8 quota R w).symm ▸ hT)
def zgs:Ann:=(.seq .leaf (.seq .leaf (.seq (.seq .leaf (.blk (.loop [(3,.int .i64),(4,.int .i64)] (.seq (.seq .leaf (.cond .leaf .leaf)) (.seq (.blk .leaf) .leaf))))) (.seq .leaf .leaf))))
theorem zun:okC P qs Tryz.f19.ntmps ((Tryz.f19.body).getD .skip) zgs=true:=by kernel_rfl
def zia (s:Option Addr) (R:Ending→World→Prop) (w:World):Prop :=
  zaw (Int × Int) (fun s_1 w_1 k =>
  zu s fun p =>
  ld .slc (Addr.add p 1) w_1 fun (t9:(Option Addr × Nat × Nat)) =>
  xk (decide (s_1.2 < (t9.2.1:Int))) (
  zu s fun p_1 =>
  ld .slc (Addr.add p_1 1) w_1 fun (t18:(Option Addr × Nat × Nat)) =>
  ixS t18.1 t18.2.1 33 s_1.2 fun t20 =>
  ld .slc (Addr.add t20 32) w_1 fun (t22:(Option Addr × Nat × Nat)) =>
  zba .i64 s_1.1 (t22.2.1:Int) fun t24 =>
  zba .i64 s_1.2 1 fun t13 =>
  k (t24,t13) w_1) (
  R (.returned (Value.int .i64 s_1.1)) w_1)) (0,0) w
theorem zug (s:Option Addr) (R:Ending→World→Prop) (w:World):tr P qs ((Tryz.f19.body).getD .skip) zgs (zb5 0 [(0,(Value.pointer s))]) (zco P Tryz.f19.results.toList R) w=zia s R w:=by kernel_rfl
theorem zuo {s:Option Addr} {R:Ending→World→Prop} {w:World} (hT:zia s R w):qj P zfh #[(Value.pointer s)] w R :=
 zx (fn:=Tryz.f19) (c:=(Tryz.f19.body).getD .skip) (ann:=zgs) (args:=[(0,(Value.pointer s))]) (qs:=qs) mixed Tryz.func19 rfl (by kernel_rfl) (by kernel_rfl) zun ((zug s R w).symm ▸ hT)
def zft:Ann:=(.seq .leaf (.seq (.seq .leaf (.blk (.loop [(5,.int .i64)] (.seq (.seq .leaf (.cond .leaf .leaf)) (.seq (.blk (.seq .leaf (.cond (.seq .leaf .leaf) .leaf))) .leaf))))) (.seq .leaf (.seq (.seq .leaf (.blk (.loop [(7,.int .i64)] (.seq (.seq .leaf (.cond .leaf .leaf)) (.join [] (.jblk [] (.seq .leaf (.seq .leaf (.seq .leaf (.cond (.seq .leaf (.seq (.tree (.op 0 [] (.op 3 [] (.op 4 [] (.op 5 [] (.op 1 [] (.op 6 [] (.op 2 [1,6] (.op 7 [1] (.op 8 [] (.op 9 [] (.op 10 [] (.op 11 [] .done))))))))))))) .leaf)) (.seq (.tree (.op 0 [] (.op 1 [] (.op 2 [] (.op 4 [] (.op 3 [] (.op 5 [] (.op 6 [] (.op 7 [] (.op 9 [] (.op 8 [9] (.op 10 [] .done)))))))))))) (.cond (.tree (.op 0 [] (.op 1 [] (.op 2 [] (.op 4 [] (.op 6 [] (.op 7 [] (.op 8 [] (.op 3 [] (.op 9 [] (.op 5 [3,9] (.op 10 [3] (.op 11 [] (.op 12 [] (.op 13 [] .done))))))))))))))) .leaf))))))) .leaf))))) (.seq (.seq (.tree (.op 0 [] (.op 1 [] (.op 3 [] (.op 4 [] (.op 5 [] (.op 7 [] (.op 6 [] (.op 2 [6] (.op 8 [6] (.op 9 [] (.op 10 [] .done)))))))))))) (.cond (.seq .leaf .leaf) .leaf)) (.seq .leaf (.seq .leaf .leaf)))))))
theorem zrt:okC P qs Tryz.f63.ntmps ((Tryz.f63.body).getD .skip) zft=true:=by kernel_rfl
def zg5 (s:Option Addr) (list:Option Addr) (list_l list_c:Nat) (R:Ending→World→Prop) (w:World):Prop :=
  zaw Int (fun s_1 w_1 k =>
  xk (decide (s_1 < (list_l:Int))) (
  ixS list list_l 1 s_1 fun t20 =>
  ld .slc t20 w_1 fun (t21:(Option Addr × Nat × Nat)) =>
  xk (decide ((t21.2.1:Int) > 4096)) (
  R (.returned (Value.int .i64 2)) w_1) (
  zba .i64 s_1 1 fun t17 =>
  k t17 w_1)) (
  xg P zh4 #[(Value.pointer s)] [.ptr] false w_1 fun (t25:(Option Addr)) w_2 =>
  zaw Int (fun s_2 w_3 k_1 =>
  xk (decide (s_2 < (list_l:Int))) (
  joinP Unit (fun k_2 =>
  joinP Unit (fun k_3 =>
  ixS list list_l 1 s_2 fun t34 =>
  ld .slc t34 w_3 fun (t35:(Option Addr × Nat × Nat)) =>
  xg P zkc #[(Value.slice t35.1 t35.2.1 t35.2.2)] [.any] false w_3 fun (t36:Value) w_4 =>
  zbn (zc P zf) zf w_4 fun b8 w_5 =>
  zby P (storeVar zf (⟨b8,0,none⟩:Addr) t36) w_5 fun w_6 =>
  ldA P 32 (⟨b8,0,none⟩:Addr) w_6 fun t39 =>
  xg P zeo #[(Value.pointer t25),(Value.agg t39)] [.int .i64,.bool] true w_6 fun (t40:(Int × Bool)) w_7 =>
  xk (!t40.2) (
  zal P (Instr.buildSlice vk 0 #[]) .slc w_7 fun (t45:(Option Addr × Nat × Nat)) w_8 =>
  zu t25 fun p =>
  ld .slc (Addr.add p 1) w_8 fun (t49:(Option Addr × Nat × Nat)) =>
  zaz P (Instr.sliceAt vk (Value.slice t49.1 t49.2.1 t49.2.2) none (some (Value.int .i64 t40.1)) none) .slc w_8 fun (t51:(Option Addr × Nat × Nat)) =>
  zal P (Builtin.append_ #[vk,vk] vk #[(Value.slice t45.1 t45.2.1 t45.2.2),(Value.slice t51.1 t51.2.1 t51.2.2)]) .slc w_8 fun (t52:(Option Addr × Nat × Nat)) w_9 =>
  zbi w_9 fun w_10 =>
  ixS list list_l 1 s_2 fun t58 =>
  ldA P 32 (⟨b8,0,none⟩:Addr) w_10 fun t54 =>
  ld .slc t58 w_10 fun (t59:(Option Addr × Nat × Nat)) =>
  zal P (Instr.buildSlice zh 0 #[]) .slc w_10 fun (t55:(Option Addr × Nat × Nat)) w_11 =>
  ((ld .slc t58 w_11 fun (t59_1:(Option Addr × Nat × Nat)) =>
  (Value.slice t59_1.1 t59_1.2.1 t59_1.2.2)=(Value.slice t59.1 t59.2.1 t59.2.2)) ∧
  ((ldA P 32 (⟨b8,0,none⟩:Addr) w_11 fun t54_1 =>
  (Value.agg t54_1)=(Value.agg t54)) ∧
  zal P (Builtin.append_ #[zh,zh] zh #[(Value.slice t55.1 t55.2.1 t55.2.2),(Value.slice t59.1 t59.2.1 t59.2.2)]) .slc w_11 fun (t60:(Option Addr × Nat × Nat)) w_12 =>
  ((ldA P 32 (⟨b8,0,none⟩:Addr) w_12 fun t54_2 =>
  (Value.agg t54_2)=(Value.agg t54)) ∧
  zaz P (Instr.build zbk #[(0,(Value.agg t54)),(1,(Value.slice t60.1 t60.2.1 t60.2.2))]) .any w_12 fun (t61:Value) =>
  zal P (Instr.buildSlice vk 1 #[(0,t61)]) .slc w_12 fun (t62:(Option Addr × Nat × Nat)) w_13 =>
  zal P (Builtin.append_ #[vk,vk] vk #[(Value.slice t52.1 t52.2.1 t52.2.2),(Value.slice t62.1 t62.2.1 t62.2.2)]) .slc w_13 fun (t63:(Option Addr × Nat × Nat)) w_14 =>
  zu t25 fun p_1 =>
  ld .slc (Addr.add p_1 1) w_14 fun (t69:(Option Addr × Nat × Nat)) =>
  zaz P (Instr.sliceAt vk (Value.slice t69.1 t69.2.1 t69.2.2) (some (Value.int .i64 t40.1)) none none) .slc w_14 fun (t71:(Option Addr × Nat × Nat)) =>
  zal P (Builtin.append_ #[vk,vk] vk #[(Value.slice t63.1 t63.2.1 t63.2.2),(Value.slice t71.1 t71.2.1 t71.2.2)]) .slc w_14 fun (t72:(Option Addr × Nat × Nat)) w_15 =>
  zu t25 fun p_2 =>
  stC (Addr.add p_2 1) (Value.slice t72.1 t72.2.1 t72.2.2) w_15 fun w_16 =>
  k_3 () w_16)))) (
  zbi w_7 fun w_17 =>
  zu t25 fun p_3 =>
  ld .slc (Addr.add p_3 1) w_17 fun (t78:(Option Addr × Nat × Nat)) =>
  ixS t78.1 t78.2.1 33 t40.1 fun t80 =>
  ld .slc (Addr.add t80 32) w_17 fun (t82:(Option Addr × Nat × Nat)) =>
  ldA P 32 (⟨b8,0,none⟩:Addr) w_17 fun t84 =>
  xg P zkc #[(Value.slice t82.1 t82.2.1 t82.2.2)] [.any] false w_17 fun (t83:Value) w_18 =>
  ((ldA P 32 (⟨b8,0,none⟩:Addr) w_18 fun t84_1 =>
  (Value.agg t84_1)=(Value.agg t84)) ∧
  zaz P (eqM .neq zf (.tmp 83) (.tmp 84) t83 (Value.agg t84)) .bool w_18 fun (t85:Bool) =>
  xk t85 (
  zbi w_18 fun w_19 =>
  zu t25 fun p_4 =>
  ixS list list_l 1 s_2 fun t94 =>
  ld .slc (Addr.add p_4 1) w_19 fun (t89:(Option Addr × Nat × Nat)) =>
  ld .slc t94 w_19 fun (t95:(Option Addr × Nat × Nat)) =>
  zal P (Instr.buildSlice zh 0 #[]) .slc w_19 fun (t91:(Option Addr × Nat × Nat)) w_20 =>
  ((ld .slc t94 w_20 fun (t95_1:(Option Addr × Nat × Nat)) =>
  (Value.slice t95_1.1 t95_1.2.1 t95_1.2.2)=(Value.slice t95.1 t95.2.1 t95.2.2)) ∧
  ((ld .slc (Addr.add p_4 1) w_20 fun (t89_1:(Option Addr × Nat × Nat)) =>
  (Value.slice t89_1.1 t89_1.2.1 t89_1.2.2)=(Value.slice t89.1 t89.2.1 t89.2.2)) ∧
  zal P (Builtin.append_ #[zh,zh] zh #[(Value.slice t91.1 t91.2.1 t91.2.2),(Value.slice t95.1 t95.2.1 t95.2.2)]) .slc w_20 fun (t96:(Option Addr × Nat × Nat)) w_21 =>
  ((ld .slc (Addr.add p_4 1) w_21 fun (t89_2:(Option Addr × Nat × Nat)) =>
  (Value.slice t89_2.1 t89_2.2.1 t89_2.2.2)=(Value.slice t89.1 t89.2.1 t89.2.2)) ∧
  ixS t89.1 t89.2.1 33 t40.1 fun t97 =>
  stC (Addr.add t97 32) (Value.slice t96.1 t96.2.1 t96.2.2) w_21 fun w_22 =>
  k_3 () w_22)))) (
  k_3 () w_18)))) (fun _ w_23 =>
  k_2 () w_23)) (fun _ w_24 =>
  zba .i64 s_2 1 fun t31 =>
  k_1 t31 w_24)) (
  zbi w_3 fun w_25 =>
  zu s fun p_5 =>
  ld (.int .i64) p_5 w_25 fun (t105:Int) =>
  xg P zib #[(Value.pointer t25),(Value.pointer s)] [.int .i64] false w_25 fun (t101:Int) w_26 =>
  ((ld (.int .i64) p_5 w_26 fun (t105_1:Int) =>
  (Value.int .i64 t105_1)=(Value.int .i64 t105)) ∧
  xg P zfh #[(Value.pointer s)] [.int .i64] false w_26 fun (t107:Int) w_27 =>
  ((ld (.int .i64) p_5 w_27 fun (t105_2:Int) =>
  (Value.int .i64 t105_2)=(Value.int .i64 t105)) ∧
  zo9 .i64 t105 t107 fun t108 =>
  xk (decide (t101 > t108)) (
  R (.returned (Value.int .i64 3)) w_27) (
  zu t25 fun p_6 =>
  ld .slc (Addr.add p_6 1) w_27 fun (t114:(Option Addr × Nat × Nat)) =>
  zu s fun p_7 =>
  stC (Addr.add p_7 1) (Value.slice t114.1 t114.2.1 t114.2.2) w_27 fun w_28 =>
  R (.returned (Value.int .i64 0)) w_28))))) 0 w_2)) 0 w
theorem zrf (s:Option Addr) (list:Option Addr) (list_l list_c:Nat) (R:Ending→World→Prop) (w:World):tr P qs ((Tryz.f63.body).getD .skip) zft (zb5 0 [(0,(Value.pointer s)),(0,(Value.slice list list_l list_c))]) (zco P Tryz.f63.results.toList R) w=zg5 s list list_l list_c R w:=by kernel_rfl
theorem zsg {s:Option Addr} {list:Option Addr} {list_l list_c:Nat} {R:Ending→World→Prop} {w:World} (hT:zg5 s list list_l list_c R w):qj P ze2 #[(Value.pointer s),(Value.slice list list_l list_c)] w R :=
 zx (fn:=Tryz.f63) (c:=(Tryz.f63.body).getD .skip) (ann:=zft) (args:=[(0,(Value.pointer s)),(0,(Value.slice list list_l list_c))]) (qs:=qs) mixed Tryz.func63 rfl (by kernel_rfl) (by kernel_rfl) zrt ((zrf s list list_l list_c R w).symm ▸ hT)
def zf8:Ann:=(.seq .leaf (.seq .leaf (.seq (.seq .leaf (.cond (.seq .leaf .leaf) .leaf)) (.join [] (.seq .leaf (.cond (.seq .leaf .leaf) .leaf)) (.seq .leaf (.seq .leaf .leaf))))))
theorem zta:okC P qs Tryz.f77.ntmps ((Tryz.f77.body).getD .skip) zf8=true:=by kernel_rfl
def zhy (s:Option Addr) (d:Value) (atv:Int) (turn:Int) (R:Ending→World→Prop) (w:World):Prop :=
  zbn (Value.cells d) zf w fun b5 w_1 =>
  ldA P 32 (⟨b5,0,none⟩:Addr) w_1 fun t13 =>
  xg P zeo #[(Value.pointer s),(Value.agg t13)] [.int .i64,.bool] true w_1 fun (t14:(Int × Bool)) w_2 =>
  xk (!t14.2) (
  R (.returned (Value.int .i64 50)) w_2) (
  joinP Unit (fun k =>
  xk (decide (atv < 0)) (
  R (.returned (Value.int .i64 1)) w_2) (
  zu s fun p =>
  ld .slc (Addr.add p 1) w_2 fun (t26:(Option Addr × Nat × Nat)) =>
  ixS t26.1 t26.2.1 33 t14.1 fun t28 =>
  ld .slc (Addr.add t28 32) w_2 fun (t30:(Option Addr × Nat × Nat)) =>
  xk (decide (atv ≥ (t30.2.1:Int))) (
  R (.returned (Value.int .i64 1)) w_2) (
  xk (turn == 0) (
  R (.returned (Value.int .i64 1)) w_2) (
  k () w_2)))) (fun _ w_3 =>
  zu s fun p_1 =>
  ld .slc (Addr.add p_1 1) w_3 fun (t41:(Option Addr × Nat × Nat)) =>
  ixS t41.1 t41.2.1 33 t14.1 fun t43 =>
  ld .slc (Addr.add t43 32) w_3 fun (t45:(Option Addr × Nat × Nat)) =>
  ixS t45.1 t45.2.1 1 atv fun t47 =>
  ld (.int .u8) t47 w_3 fun (t48:Int) =>
  zrj .u8 t48 turn fun t50 =>
  ixS t45.1 t45.2.1 1 atv fun t51 =>
  stC t51 (Value.int .u8 t50) w_3 fun w_4 =>
  R (.returned (Value.int .i64 0)) w_4))
theorem zti (s:Option Addr) (d:Value) (atv:Int) (turn:Int) (R:Ending→World→Prop) (w:World):tr P qs ((Tryz.f77.body).getD .skip) zf8 (zb5 0 [(0,(Value.pointer s)),(1,d),(0,(Value.int .i64 atv)),(0,(Value.int .u8 turn))]) (zco P Tryz.f77.results.toList R) w=zhy s d atv turn R w:=by kernel_rfl
theorem zuj {s:Option Addr} {d:Value} {atv:Int} {turn:Int} {R:Ending→World→Prop} {w:World} (hT:zhy s d atv turn R w):qj P zna #[(Value.pointer s),d,(Value.int .i64 atv),(Value.int .u8 turn)] w R :=
 zx (fn:=Tryz.f77) (c:=(Tryz.f77.body).getD .skip) (ann:=zf8) (args:=[(0,(Value.pointer s)),(1,d),(0,(Value.int .i64 atv)),(0,(Value.int .u8 turn))]) (qs:=qs) mixed Tryz.func77 rfl (by kernel_rfl) (by kernel_rfl) zta ((zti s d atv turn R w).symm ▸ hT)
def zg1:Ann:=(.seq .leaf (.seq .leaf (.seq (.jblk [(6,.int .i64)] (.loop [(6,.int .i64)] (.join [] (.seq (.tree (.op 0 [] (.op 1 [] (.op 2 [] (.op 3 [] (.op 4 [] (.op 5 [] (.op 6 [] (.op 7 [] (.op 8 [] (.op 9 [] (.op 10 [] (.op 12 [] (.op 11 [] (.op 13 [] (.op 14 [] (.op 15 [] (.op 16 [] (.op 17 [] (.op 18 [] (.op 19 [] .done))))))))))))))))))))) (.cond .leaf .leaf)) (.blk .leaf)))) (.seq (.tree (.op 0 [] (.op 1 [] (.op 2 [] (.op 3 [] (.op 4 [] (.op 5 [] (.op 6 [] (.op 7 [] (.op 8 [] (.op 9 [] (.op 10 [] (.op 11 [] (.op 13 [] (.op 20 [] (.op 12 [] (.op 14 [] (.op 15 [] (.op 16 [] (.op 17 [] (.op 18 [] (.op 19 [] (.op 21 [] .done))))))))))))))))))))))) .leaf))))
theorem zvv:okC P qs Tryz.f82.ntmps ((Tryz.f82.body).getD .skip) zg1=true:=by kernel_rfl
def zjb (s:Option Addr) (d:Value) (R:Ending→World→Prop) (w:World):Prop :=
  zbn (Value.cells d) zf w fun b3 w_1 =>
  joinP Int (fun k =>
  zaw Int (fun s_1 w_2 k_1 =>
  joinP Unit (fun k_2 =>
  zbi w_2 fun w_3 =>
  zu s fun p =>
  ld .slc (Addr.add p 1) w_3 fun (t11:(Option Addr × Nat × Nat)) =>
  xk (decide (s_1 < (t11.2.1:Int))) (
  zu s fun p_1 =>
  ld .slc (Addr.add p_1 1) w_3 fun (t18:(Option Addr × Nat × Nat)) =>
  ixS t18.1 t18.2.1 33 s_1 fun t20 =>
  ldA P 32 t20 w_3 fun t22 =>
  ldA P 32 (⟨b3,0,none⟩:Addr) w_3 fun t23 =>
  xg P zok #[(Value.agg t22),(Value.agg t23)] [.int .i64] false w_3 fun (t24:Int) w_4 =>
  xk (decide (t24 < 0)) (
  k_2 () w_4) (
  k s_1 w_4)) (
  k s_1 w_3)) (fun _ w_5 =>
  zba .i64 s_1 1 fun t28 =>
  k_1 t28 w_5)) 0 w_1) (fun s_3 w_6 =>
  zbi w_6 fun w_7 =>
  zu s fun p_2 =>
  ld .slc (Addr.add p_2 1) w_7 fun (t34:(Option Addr × Nat × Nat)) =>
  xk (decide (s_3 < (t34.2.1:Int))) (
  zu s fun p_3 =>
  ld .slc (Addr.add p_3 1) w_7 fun (t41:(Option Addr × Nat × Nat)) =>
  ixS t41.1 t41.2.1 33 s_3 fun t43 =>
  ldA P 32 t43 w_7 fun t45 =>
  ldA P 32 (⟨b3,0,none⟩:Addr) w_7 fun t46 =>
  zaz P (eqM .eql zf (.tmp 45) (.tmp 46) (Value.agg t45) (Value.agg t46)) .bool w_7 fun (t47:Bool) =>
  R (.returned (Value.tuple #[(Value.int .i64 s_3),(Value.bool t47)])) w_7) (
  R (.returned (Value.tuple #[(Value.int .i64 s_3),(Value.bool false)])) w_7))
theorem zv2 (s:Option Addr) (d:Value) (R:Ending→World→Prop) (w:World):tr P qs ((Tryz.f82.body).getD .skip) zg1 (zb5 0 [(0,(Value.pointer s)),(1,d)]) (zco P Tryz.f82.results.toList R) w=zjb s d R w:=by kernel_rfl
theorem zu0 {s:Option Addr} {d:Value} {R:Ending→World→Prop} {w:World} (hT:zjb s d R w):qj P zeo #[(Value.pointer s),d] w R :=
 zx (fn:=Tryz.f82) (c:=(Tryz.f82.body).getD .skip) (ann:=zg1) (args:=[(0,(Value.pointer s)),(1,d)]) (qs:=qs) mixed Tryz.func82 rfl (by kernel_rfl) (by kernel_rfl) zvv ((zv2 s d R w).symm ▸ hT)
def zgi:Ann:=(.seq .leaf (.seq .leaf (.seq (.seq .leaf (.blk (.loop [(4,.int .i64)] (.seq (.seq .leaf (.cond .leaf .leaf)) (.seq (.blk (.tree (.op 0 [] (.op 1 [] (.op 2 [] (.op 3 [] (.op 5 [] (.op 6 [] (.op 7 [] (.op 9 [] (.op 14 [] (.op 15 [] (.op 16 [] (.op 18 [] (.op 4 [] (.op 8 [] (.op 10 [] (.op 11 [] (.op 12 [] (.op 17 [] (.op 19 [] (.op 20 [] (.op 21 [] (.op 13 [4,8,12,17,21] (.op 22 [4,8,12] (.op 23 [] (.op 24 [4] (.op 25 [] (.op 26 [] (.op 27 [] (.op 28 [] .done))))))))))))))))))))))))))))))) .leaf))))) (.seq .leaf .leaf))))
theorem zs9:okC P qs Tryz.f122.ntmps ((Tryz.f122.body).getD .skip) zgi=true:=by kernel_rfl
def zie (s:Option Addr) (R:Ending→World→Prop) (w:World):Prop :=
  zu s fun p =>
  ld (.int .i64) p w fun (t8:Int) =>
  zaz P (Instr.build zfb #[(0,(Value.int .i64 t8))]) .any w fun (t9:Value) =>
  zbn (Value.cells t9) zfb w fun b10 w_1 =>
  zaw Int (fun s_1 w_2 k =>
  zu s fun p_1 =>
  ld .slc (Addr.add p_1 1) w_2 fun (t15:(Option Addr × Nat × Nat)) =>
  xk (decide (s_1 < (t15.2.1:Int))) (
  zbi w_2 fun w_3 =>
  zu s fun p_2 =>
  zu s fun p_3 =>
  ld .slc (⟨b10,1,none⟩:Addr) w_3 fun (t24:(Option Addr × Nat × Nat)) =>
  ld .slc (Addr.add p_2 1) w_3 fun (t28:(Option Addr × Nat × Nat)) =>
  ixS t28.1 t28.2.1 33 s_1 fun t30 =>
  ldA P 32 t30 w_3 fun t32 =>
  ld .slc (Addr.add p_3 1) w_3 fun (t37:(Option Addr × Nat × Nat)) =>
  ixS t37.1 t37.2.1 33 s_1 fun t39 =>
  ld .slc (Addr.add t39 32) w_3 fun (t41:(Option Addr × Nat × Nat)) =>
  zal P (Instr.buildSlice zh 0 #[]) .slc w_3 fun (t33:(Option Addr × Nat × Nat)) w_4 =>
  ((ld .slc (Addr.add t39 32) w_4 fun (t41_1:(Option Addr × Nat × Nat)) =>
  (Value.slice t41_1.1 t41_1.2.1 t41_1.2.2)=(Value.slice t41.1 t41.2.1 t41.2.2)) ∧
  ((ld .slc (Addr.add p_3 1) w_4 fun (t37_1:(Option Addr × Nat × Nat)) =>
  (Value.slice t37_1.1 t37_1.2.1 t37_1.2.2)=(Value.slice t37.1 t37.2.1 t37.2.2)) ∧
  ((ldA P 32 t30 w_4 fun t32_1 =>
  (Value.agg t32_1)=(Value.agg t32)) ∧
  ((ld .slc (Addr.add p_2 1) w_4 fun (t28_1:(Option Addr × Nat × Nat)) =>
  (Value.slice t28_1.1 t28_1.2.1 t28_1.2.2)=(Value.slice t28.1 t28.2.1 t28.2.2)) ∧
  ((ld .slc (⟨b10,1,none⟩:Addr) w_4 fun (t24_1:(Option Addr × Nat × Nat)) =>
  (Value.slice t24_1.1 t24_1.2.1 t24_1.2.2)=(Value.slice t24.1 t24.2.1 t24.2.2)) ∧
  zal P (Builtin.append_ #[zh,zh] zh #[(Value.slice t33.1 t33.2.1 t33.2.2),(Value.slice t41.1 t41.2.1 t41.2.2)]) .slc w_4 fun (t42:(Option Addr × Nat × Nat)) w_5 =>
  ((ldA P 32 t30 w_5 fun t32_2 =>
  (Value.agg t32_2)=(Value.agg t32)) ∧
  ((ld .slc (Addr.add p_2 1) w_5 fun (t28_2:(Option Addr × Nat × Nat)) =>
  (Value.slice t28_2.1 t28_2.2.1 t28_2.2.2)=(Value.slice t28.1 t28.2.1 t28.2.2)) ∧
  ((ld .slc (⟨b10,1,none⟩:Addr) w_5 fun (t24_2:(Option Addr × Nat × Nat)) =>
  (Value.slice t24_2.1 t24_2.2.1 t24_2.2.2)=(Value.slice t24.1 t24.2.1 t24.2.2)) ∧
  zaz P (Instr.build zbk #[(0,(Value.agg t32)),(1,(Value.slice t42.1 t42.2.1 t42.2.2))]) .any w_5 fun (t43:Value) =>
  zal P (Instr.buildSlice vk 1 #[(0,t43)]) .slc w_5 fun (t44:(Option Addr × Nat × Nat)) w_6 =>
  ((ld .slc (⟨b10,1,none⟩:Addr) w_6 fun (t24_3:(Option Addr × Nat × Nat)) =>
  (Value.slice t24_3.1 t24_3.2.1 t24_3.2.2)=(Value.slice t24.1 t24.2.1 t24.2.2)) ∧
  zal P (Builtin.append_ #[vk,vk] vk #[(Value.slice t24.1 t24.2.1 t24.2.2),(Value.slice t44.1 t44.2.1 t44.2.2)]) .slc w_6 fun (t45:(Option Addr × Nat × Nat)) w_7 =>
  stC (⟨b10,1,none⟩:Addr) (Value.slice t45.1 t45.2.1 t45.2.2) w_7 fun w_8 =>
  zba .i64 s_1 1 fun t19 =>
  k t19 w_8)))))))))) (
  R (.returned (Value.pointer (some (⟨b10,0,none⟩:Addr)))) w_2)) 0 w_1
theorem zuu (s:Option Addr) (R:Ending→World→Prop) (w:World):tr P qs ((Tryz.f122.body).getD .skip) zgi (zb5 0 [(0,(Value.pointer s))]) (zco P Tryz.f122.results.toList R) w=zie s R w:=by kernel_rfl
theorem zs6 {s:Option Addr} {R:Ending→World→Prop} {w:World} (hT:zie s R w):qj P zh4 #[(Value.pointer s)] w R :=
 zx (fn:=Tryz.f122) (c:=(Tryz.f122.body).getD .skip) (ann:=zgi) (args:=[(0,(Value.pointer s))]) (qs:=qs) mixed Tryz.func122 rfl (by kernel_rfl) (by kernel_rfl) zs9 ((zuu s R w).symm ▸ hT)
def zgl:Ann:=(.seq .leaf (.seq .leaf (.seq (.seq .leaf (.blk (.loop [(5,.int .i64),(6,.int .i64)] (.seq (.seq .leaf (.cond .leaf .leaf)) (.seq (.jblk [(5,.int .i64)] (.seq .leaf (.seq .leaf (.cond .leaf .leaf)))) .leaf))))) (.seq .leaf .leaf))))
theorem zth:okC P qs Tryz.f123.ntmps ((Tryz.f123.body).getD .skip) zgl=true:=by kernel_rfl
def zh0 (s:Option Addr) (o:Option Addr) (R:Ending→World→Prop) (w:World):Prop :=
  zaw (Int × Int) (fun s_1 w_1 k =>
  zu s fun p =>
  ld .slc (Addr.add p 1) w_1 fun (t13:(Option Addr × Nat × Nat)) =>
  xk (decide (s_1.2 < (t13.2.1:Int))) (
  joinP Int (fun k_1 =>
  zu s fun p_1 =>
  ld .slc (Addr.add p_1 1) w_1 fun (t23:(Option Addr × Nat × Nat)) =>
  ixS t23.1 t23.2.1 33 s_1.2 fun t25 =>
  ldA P 32 t25 w_1 fun t27 =>
  xg P zeo #[(Value.pointer o),(Value.agg t27)] [.int .i64,.bool] true w_1 fun (t28:(Int × Bool)) w_2 =>
  xk (!t28.2) (
  zu s fun p_2 =>
  ld .slc (Addr.add p_2 1) w_2 fun (t37:(Option Addr × Nat × Nat)) =>
  ixS t37.1 t37.2.1 33 s_1.2 fun t39 =>
  ld .slc (Addr.add t39 32) w_2 fun (t41:(Option Addr × Nat × Nat)) =>
  zba .i64 s_1.1 (t41.2.1:Int) fun t43 =>
  k_1 t43 w_2) (
  k_1 s_1.1 w_2)) (fun s_2 w_3 =>
  zba .i64 s_1.2 1 fun t17 =>
  k (s_2,t17) w_3)) (
  R (.returned (Value.int .i64 s_1.1)) w_1)) (0,0) w
theorem ztg (s:Option Addr) (o:Option Addr) (R:Ending→World→Prop) (w:World):tr P qs ((Tryz.f123.body).getD .skip) zgl (zb5 0 [(0,(Value.pointer s)),(0,(Value.pointer o))]) (zco P Tryz.f123.results.toList R) w=zh0 s o R w:=by kernel_rfl
theorem zuk {s:Option Addr} {o:Option Addr} {R:Ending→World→Prop} {w:World} (hT:zh0 s o R w):qj P zib #[(Value.pointer s),(Value.pointer o)] w R :=
 zx (fn:=Tryz.f123) (c:=(Tryz.f123.body).getD .skip) (ann:=zgl) (args:=[(0,(Value.pointer s)),(0,(Value.pointer o))]) (qs:=qs) mixed Tryz.func123 rfl (by kernel_rfl) (by kernel_rfl) zth ((ztg s o R w).symm ▸ hT)
def zi1:Ann:=(.seq (.seq .leaf (.cond .leaf .leaf)) (.seq (.blk (.loop [(1,.int .u64)] (.seq (.seq .leaf (.cond .leaf .leaf)) (.seq (.blk .leaf) .leaf)))) .leaf))
theorem zxl:okC P qs Tryz.f168.ntmps ((Tryz.f168.body).getD .skip) zi1=true:=by kernel_rfl
def zmo (o:Option Addr) (n:Int) (R:Ending→World→Prop) (w:World):Prop :=
  xk (Option.isNone o) (
  R (.returned (Value.tuple #[])) w) (
  zaw Int (fun s w_1 k =>
  xk (decide (s > 127)) (
  zu o fun p =>
  ld .slc p w_1 fun (t14:(Option Addr × Nat × Nat)) =>
  cvI .u8 s fun t16 =>
  orI .u8 t16 128 fun t17 =>
  zal P (Instr.buildSlice zh 1 #[(0,(Value.int .u8 t17))]) .slc w_1 fun (t18:(Option Addr × Nat × Nat)) w_2 =>
  zal P (Builtin.append_ #[zh,zh] zh #[(Value.slice t14.1 t14.2.1 t14.2.2),(Value.slice t18.1 t18.2.1 t18.2.2)]) .slc w_2 fun (t19:(Option Addr × Nat × Nat)) w_3 =>
  zu o fun p_1 =>
  stC p_1 (Value.slice t19.1 t19.2.1 t19.2.2) w_3 fun w_4 =>
  z5y .u64 s 7 fun t9 =>
  k t9 w_4) (
  zu o fun p_2 =>
  ld .slc p_2 w_1 fun (t26:(Option Addr × Nat × Nat)) =>
  cvI .u8 s fun t28 =>
  zal P (Instr.buildSlice zh 1 #[(0,(Value.int .u8 t28))]) .slc w_1 fun (t29:(Option Addr × Nat × Nat)) w_5 =>
  zal P (Builtin.append_ #[zh,zh] zh #[(Value.slice t26.1 t26.2.1 t26.2.2),(Value.slice t29.1 t29.2.1 t29.2.2)]) .slc w_5 fun (t30:(Option Addr × Nat × Nat)) w_6 =>
  zu o fun p_3 =>
  stC p_3 (Value.slice t30.1 t30.2.1 t30.2.2) w_6 fun w_7 =>
  R (.returned (Value.tuple #[])) w_7)) n w)
theorem zzj (o:Option Addr) (n:Int) (R:Ending→World→Prop) (w:World):tr P qs ((Tryz.f168.body).getD .skip) zi1 (zb5 0 [(0,(Value.pointer o)),(0,(Value.int .u64 n))]) (zco P Tryz.f168.results.toList R) w=zmo o n R w:=by kernel_rfl
theorem zyr {o:Option Addr} {n:Int} {R:Ending→World→Prop} {w:World} (hT:zmo o n R w):qj P zdx #[(Value.pointer o),(Value.int .u64 n)] w R :=
 zx (fn:=Tryz.f168) (c:=(Tryz.f168.body).getD .skip) (ann:=zi1) (args:=[(0,(Value.pointer o)),(0,(Value.int .u64 n))]) (qs:=qs) mixed Tryz.func168 rfl (by kernel_rfl) (by kernel_rfl) zxl ((zzj o n R w).symm ▸ hT)
def zii:Ann:=(.seq (.seq .leaf (.cond .leaf .leaf)) (.seq .leaf .leaf))
theorem zw2:okC P qs Tryz.f169.ntmps ((Tryz.f169.body).getD .skip) zii=true:=by kernel_rfl
def zk1 (o:Option Addr) (s:ByteArray) (R:Ending→World→Prop) (w:World):Prop :=
  xk (Option.isNone o) (
  R (.returned (Value.tuple #[])) w) (
  cvI .u64 (s.size:Int) fun t9 =>
  xg P zdx #[(Value.pointer o),(Value.int .u64 t9)] [] true w fun (_:Unit) w_1 =>
  zu o fun p =>
  ld .slc p w_1 fun (t15:(Option Addr × Nat × Nat)) =>
  zal P (Builtin.append_ #[zh,qc] zh #[(Value.slice t15.1 t15.2.1 t15.2.2),(Value.string s)]) .slc w_1 fun (t17:(Option Addr × Nat × Nat)) w_2 =>
  zu o fun p_1 =>
  stC p_1 (Value.slice t17.1 t17.2.1 t17.2.2) w_2 fun w_3 =>
  R (.returned (Value.tuple #[])) w_3)
theorem zwy (o:Option Addr) (s:ByteArray) (R:Ending→World→Prop) (w:World):tr P qs ((Tryz.f169.body).getD .skip) zii (zb5 0 [(0,(Value.pointer o)),(0,(Value.string s))]) (zco P Tryz.f169.results.toList R) w=zk1 o s R w:=by kernel_rfl
theorem zww {o:Option Addr} {s:ByteArray} {R:Ending→World→Prop} {w:World} (hT:zk1 o s R w):qj P zhq #[(Value.pointer o),(Value.string s)] w R :=
 zx (fn:=Tryz.f169) (c:=(Tryz.f169.body).getD .skip) (ann:=zii) (args:=[(0,(Value.pointer o)),(0,(Value.string s))]) (qs:=qs) mixed Tryz.func169 rfl (by kernel_rfl) (by kernel_rfl) zw2 ((zwy o s R w).symm ▸ hT)
def zgb:Ann:=(.seq .leaf (.seq .leaf (.cond (.tree (.op 0 [] (.op 1 [] (.op 2 [] (.op 3 [] (.op 4 [] (.op 5 [] (.op 6 [] (.op 7 [] (.op 8 [] (.op 9 [] .done))))))))))) .leaf)))
theorem zt6:okC P qs Tryz.f170.ntmps ((Tryz.f170.body).getD .skip) zgb=true:=by kernel_rfl
def zih (o:Option Addr) (d:Value) (R:Ending→World→Prop) (w:World):Prop :=
  zbn (Value.cells d) zf w fun b3 w_1 =>
  xk (!(Option.isNone o)) (
  zbi w_1 fun w_2 =>
  zu o fun p =>
  ld .slc p w_2 fun (t10:(Option Addr × Nat × Nat)) =>
  zaz P (Instr.sliceAt zf (Value.pointer (some (⟨b3,0,none⟩:Addr))) none none none) .slc w_2 fun (t11:(Option Addr × Nat × Nat)) =>
  zal P (Builtin.append_ #[zh,zh] zh #[(Value.slice t10.1 t10.2.1 t10.2.2),(Value.slice t11.1 t11.2.1 t11.2.2)]) .slc w_2 fun (t12:(Option Addr × Nat × Nat)) w_3 =>
  zu o fun p_1 =>
  stC p_1 (Value.slice t12.1 t12.2.1 t12.2.2) w_3 fun w_4 =>
  R (.returned (Value.tuple #[])) w_4) (
  R (.returned (Value.tuple #[])) w_1)
theorem zue (o:Option Addr) (d:Value) (R:Ending→World→Prop) (w:World):tr P qs ((Tryz.f170.body).getD .skip) zgb (zb5 0 [(0,(Value.pointer o)),(1,d)]) (zco P Tryz.f170.results.toList R) w=zih o d R w:=by kernel_rfl
theorem zte {o:Option Addr} {d:Value} {R:Ending→World→Prop} {w:World} (hT:zih o d R w):qj P zfl #[(Value.pointer o),d] w R :=
 zx (fn:=Tryz.f170) (c:=(Tryz.f170.body).getD .skip) (ann:=zgb) (args:=[(0,(Value.pointer o)),(1,d)]) (qs:=qs) mixed Tryz.func170 rfl (by kernel_rfl) (by kernel_rfl) zt6 ((zue o d R w).symm ▸ hT)
def zg2:Ann:=(.seq .leaf (.seq (.seq .leaf (.cond (.seq .leaf .leaf) .leaf)) (.seq .leaf .leaf)))
theorem zvj:okC P qs Tryz.f171.ntmps ((Tryz.f171.body).getD .skip) zg2=true:=by kernel_rfl
def zi2 (o:Option Addr) (R:Ending→World→Prop) (w:World):Prop :=
  xk (Option.isNone o) (
  R (.returned (Value.slice none 0 0)) w) (
  zu o fun p =>
  ld .slc p w fun (t8:(Option Addr × Nat × Nat)) =>
  zal P (Builtin.append_ #[zh,zh] zh #[(Value.slice none 0 0),(Value.slice t8.1 t8.2.1 t8.2.2)]) .slc w fun (t9:(Option Addr × Nat × Nat)) w_1 =>
  R (.returned (Value.slice t9.1 t9.2.1 t9.2.2)) w_1)
theorem zvd (o:Option Addr) (R:Ending→World→Prop) (w:World):tr P qs ((Tryz.f171.body).getD .skip) zg2 (zb5 0 [(0,(Value.pointer o))]) (zco P Tryz.f171.results.toList R) w=zi2 o R w:=by kernel_rfl
theorem zv7 {o:Option Addr} {R:Ending→World→Prop} {w:World} (hT:zi2 o R w):qj P zjs #[(Value.pointer o)] w R :=
 zx (fn:=Tryz.f171) (c:=(Tryz.f171.body).getD .skip) (ann:=zg2) (args:=[(0,(Value.pointer o))]) (qs:=qs) mixed Tryz.func171 rfl (by kernel_rfl) (by kernel_rfl) zvj ((zvd o R w).symm ▸ hT)
set_option maxRecDepth 100000
def zjd:Ann:=(.seq .leaf (.seq (.seq .leaf (.blk (.seq .leaf (.cond (.seq .leaf .leaf) (.seq .leaf (.cond (.seq .leaf .leaf) .leaf)))))) (.seq .leaf (.join [(5,.int .i64)] (.seq .leaf (.cond (.join [] (.seq .leaf (.cond .leaf .leaf)) .leaf) .leaf)) (.seq (.seq .leaf (.blk (.loop [(5,.int .i64),(41,.int .i64)] (.seq .leaf (.seq (.cond .leaf .leaf) (.seq (.jblk [(5,.int .i64)] (.seq .leaf (.join [] (.seq .leaf (.cond .leaf .leaf)) .leaf))) .leaf)))))) (.seq .leaf (.seq .leaf (.seq .leaf (.seq (.seq .leaf (.blk (.loop [(65,.int .i64)] (.seq .leaf (.seq (.cond .leaf .leaf) (.seq (.blk (.seq .leaf (.seq .leaf .leaf))) .leaf)))))) (.seq .leaf .leaf))))))))))
theorem zyy:okC P qs Tryz.f112.ntmps ((Tryz.f112.body).getD .skip) zjd=true:=by kernel_rfl
def zmb (elems:Option Addr) (elems_l elems_c:Nat) (sep:ByteArray) (R:Ending→World→Prop) (w:World):Prop :=
  xk ((elems_l:Int) == 0) (
  R (.returned (Value.string (ByteArray.mk #[]))) w) (
  xk ((elems_l:Int) == 1) (
  ixS elems elems_l 1 0 fun t18 =>
  ld .str t18 w fun (t19:ByteArray) =>
  R (.returned (Value.string t19)) w) (
  joinP Int (fun k =>
  xk (decide ((sep.size:Int) > 0)) (
  joinP Unit (fun k_1 =>
  zo9 .i64 (elems_l:Int) 1 fun t27 =>
  qig .i64 9223372036854775807 t27 fun t28 =>
  xk (decide ((sep.size:Int) ≥ t28)) (
  zaz P (Instr.makeInterface qc (Value.string (ByteArray.mk #[115,116,114,105,110,103,115,58,32,74,111,105,110,32,111,117,116,112,117,116,32,108,101,110,103,116,104,32,111,118,101,114,102,108,111,119]))) .any w fun (_:Value) =>
  False) (
  k_1 () w)) (fun _ w_1 =>
  zo9 .i64 (elems_l:Int) 1 fun t36 =>
  z0d .i64 (sep.size:Int) t36 fun t37 =>
  zba .i64 0 t37 fun t38 =>
  k t38 w_1)) (
  k 0 w)) (fun s_1 w_2 =>
  zaw (Int × Int) (fun s_2 w_3 k_2 =>
  xk (decide (s_2.2 < (elems_l:Int))) (
  joinP Int (fun k_3 =>
  ixS elems elems_l 1 s_2.2 fun t43 =>
  ld .str t43 w_3 fun (t44:ByteArray) =>
  joinP Unit (fun k_4 =>
  zo9 .i64 9223372036854775807 s_2.1 fun t48 =>
  xk (decide ((t44.size:Int) > t48)) (
  zaz P (Instr.makeInterface qc (Value.string (ByteArray.mk #[115,116,114,105,110,103,115,58,32,74,111,105,110,32,111,117,116,112,117,116,32,108,101,110,103,116,104,32,111,118,101,114,102,108,111,119]))) .any w_3 fun (_:Value) =>
  False) (
  k_4 () w_3)) (fun _ w_4 =>
  zba .i64 s_2.1 (t44.size:Int) fun t54 =>
  k_3 t54 w_4)) (fun s_4 w_5 =>
  zba .i64 s_2.2 1 fun t55 =>
  k_2 (s_4,t55) w_5)) (
  zbn (zc P ji) ji w_3 fun b8 w_6 =>
  xg P zeu #[(Value.pointer (some (⟨b8,0,none⟩:Addr))),(Value.int .i64 s_2.1)] [] true w_6 fun (_:Unit) w_7 =>
  ixS elems elems_l 1 0 fun t59 =>
  ld .str t59 w_7 fun (t60:ByteArray) =>
  xg P zao #[(Value.pointer (some (⟨b8,0,none⟩:Addr))),(Value.string t60)] [.int .i64,.any] true w_7 fun (_:(Int × Value)) w_8 =>
  zaz P (Instr.sliceAt qp (Value.slice elems elems_l elems_c) (some (Value.int .i64 1)) none none) .slc w_8 fun (t63:(Option Addr × Nat × Nat)) =>
  zaw Int (fun s_5 w_9 k_5 =>
  xk (decide (s_5 < (t63.2.1:Int))) (
  ixS t63.1 t63.2.1 1 s_5 fun t67 =>
  ld .str t67 w_9 fun (t68:ByteArray) =>
  xg P zao #[(Value.pointer (some (⟨b8,0,none⟩:Addr))),(Value.string sep)] [.int .i64,.any] true w_9 fun (_:(Int × Value)) w_10 =>
  xg P zao #[(Value.pointer (some (⟨b8,0,none⟩:Addr))),(Value.string t68)] [.int .i64,.any] true w_10 fun (_:(Int × Value)) w_11 =>
  zba .i64 s_5 1 fun t73 =>
  k_5 t73 w_11) (
  xg P zbq #[(Value.pointer (some (⟨b8,0,none⟩:Addr)))] [.str] false w_9 fun (t74:ByteArray) w_12 =>
  R (.returned (Value.string t74)) w_12)) 0 w_8)) (s_1,0) w_2)))
theorem zyw (elems:Option Addr) (elems_l elems_c:Nat) (sep:ByteArray) (R:Ending→World→Prop) (w:World):tr P qs ((Tryz.f112.body).getD .skip) zjd (zb5 0 [(0,(Value.slice elems elems_l elems_c)),(0,(Value.string sep))]) (zco P Tryz.f112.results.toList R) w=zmb elems elems_l elems_c sep R w:=by kernel_rfl
theorem zy9 {elems:Option Addr} {elems_l elems_c:Nat} {sep:ByteArray} {R:Ending→World→Prop} {w:World} (hT:zmb elems elems_l elems_c sep R w):qj P zlu #[(Value.slice elems elems_l elems_c),(Value.string sep)] w R :=
 zx (fn:=Tryz.f112) (c:=(Tryz.f112.body).getD .skip) (ann:=zjd) (args:=[(0,(Value.slice elems elems_l elems_c)),(0,(Value.string sep))]) (qs:=qs) mixed Tryz.func112 rfl (by kernel_rfl) (by kernel_rfl) zyy ((zyw elems elems_l elems_c sep R w).symm ▸ hT)
def zd4:Ann:=(.seq .leaf (.join [] (.seq .leaf (.cond .leaf .leaf)) (.seq (.tree (.op 0 [] (.op 1 [] (.op 2 [] (.op 5 [] (.op 6 [] (.op 7 [] (.op 11 [] (.op 3 [] (.op 4 [] (.op 8 [] (.op 9 [] (.op 10 [] (.op 12 [] .done)))))))))))))) (.cond .leaf .leaf))))
theorem znv:okC P qs Tryz.f164.ntmps ((Tryz.f164.body).getD .skip) zd4=true:=by kernel_rfl
def zey (b:Option Addr) (n:Int) (R:Ending→World→Prop) (w:World):Prop :=
  xg P zb0 #[(Value.pointer b)] [] true w fun (_:Unit) w_1 =>
  joinP Unit (fun k =>
  xk (decide (n < 0)) (
  zaz P (Instr.makeInterface qc (Value.string (ByteArray.mk #[115,116,114,105,110,103,115,46,66,117,105,108,100,101,114,46,71,114,111,119,58,32,110,101,103,97,116,105,118,101,32,99,111,117,110,116]))) .any w_1 fun (_:Value) =>
  False) (
  k () w_1)) (fun _ w_2 =>
  zbi w_2 fun w_3 =>
  zu b fun p =>
  zu b fun p_1 =>
  ld .slc (Addr.add p 1) w_3 fun (t12:(Option Addr × Nat × Nat)) =>
  zaz P (Builtin.cap_ #[zh] zdf #[(Value.slice t12.1 t12.2.1 t12.2.2)]) (.int .i64) w_3 fun (t13:Int) =>
  ld .slc (Addr.add p_1 1) w_3 fun (t17:(Option Addr × Nat × Nat)) =>
  zo9 .i64 t13 (t17.2.1:Int) fun t19 =>
  xk (decide (t19 < n)) (
  xg P zew #[(Value.pointer b),(Value.int .i64 n)] [] true w_3 fun (_:Unit) w_4 =>
  R (.returned (Value.tuple #[])) w_4) (
  R (.returned (Value.tuple #[])) w_3))
theorem zor (b:Option Addr) (n:Int) (R:Ending→World→Prop) (w:World):tr P qs ((Tryz.f164.body).getD .skip) zd4 (zb5 0 [(0,(Value.pointer b)),(0,(Value.int .i64 n))]) (zco P Tryz.f164.results.toList R) w=zey b n R w:=by kernel_rfl
theorem zo3 {b:Option Addr} {n:Int} {R:Ending→World→Prop} {w:World} (hT:zey b n R w):qj P zeu #[(Value.pointer b),(Value.int .i64 n)] w R :=
 zx (fn:=Tryz.f164) (c:=(Tryz.f164.body).getD .skip) (ann:=zd4) (args:=[(0,(Value.pointer b)),(0,(Value.int .i64 n))]) (qs:=qs) mixed Tryz.func164 rfl (by kernel_rfl) (by kernel_rfl) znv ((zor b n R w).symm ▸ hT)
def zcp:Ann:=(.seq .leaf (.seq .leaf (.seq .leaf (.seq .leaf .leaf))))
theorem zis:okC P qs Tryz.f165.ntmps ((Tryz.f165.body).getD .skip) zcp=true:=by kernel_rfl
def zc2 (b:Option Addr) (s:ByteArray) (R:Ending→World→Prop) (w:World):Prop :=
  xg P zb0 #[(Value.pointer b)] [] true w fun (_:Unit) w_1 =>
  zu b fun p =>
  ld .slc (Addr.add p 1) w_1 fun (t12:(Option Addr × Nat × Nat)) =>
  zal P (Builtin.append_ #[zh,qc] zh #[(Value.slice t12.1 t12.2.1 t12.2.2),(Value.string s)]) .slc w_1 fun (t14:(Option Addr × Nat × Nat)) w_2 =>
  zu b fun p_1 =>
  stC (Addr.add p_1 1) (Value.slice t14.1 t14.2.1 t14.2.2) w_2 fun w_3 =>
  R (.returned (Value.tuple #[(Value.int .i64 (s.size:Int)),Value.nilIface])) w_3
theorem zit (b:Option Addr) (s:ByteArray) (R:Ending→World→Prop) (w:World):tr P qs ((Tryz.f165.body).getD .skip) zcp (zb5 0 [(0,(Value.pointer b)),(0,(Value.string s))]) (zco P Tryz.f165.results.toList R) w=zc2 b s R w:=by kernel_rfl
theorem ziw {b:Option Addr} {s:ByteArray} {R:Ending→World→Prop} {w:World} (hT:zc2 b s R w):qj P zao #[(Value.pointer b),(Value.string s)] w R :=
 zx (fn:=Tryz.f165) (c:=(Tryz.f165.body).getD .skip) (ann:=zcp) (args:=[(0,(Value.pointer b)),(0,(Value.string s))]) (qs:=qs) mixed Tryz.func165 rfl (by kernel_rfl) (by kernel_rfl) zis ((zit b s R w).symm ▸ hT)
def zdo:Ann:=(.seq .leaf (.seq (.tree (.op 0 [] (.op 1 [] (.op 2 [] (.op 5 [] (.op 6 [] (.op 7 [] (.op 3 [] (.op 8 [] (.op 9 [] (.op 4 [8] (.op 10 [] (.op 11 [] .done))))))))))))) .leaf))
theorem zmz:okC P qs Tryz.f166.ntmps ((Tryz.f166.body).getD .skip) zdo=true:=by kernel_rfl
def zc0 (b:Option Addr) (R:Ending→World→Prop) (w:World):Prop :=
  zbi w fun w_1 =>
  zu b fun p =>
  zu b fun p_1 =>
  ld .slc (Addr.add p 1) w_1 fun (t6:(Option Addr × Nat × Nat)) =>
  ld .slc (Addr.add p_1 1) w_1 fun (t11:(Option Addr × Nat × Nat)) =>
  zal P (Builtin.unsafeSliceData_ #[zh] zt2 #[(Value.slice t6.1 t6.2.1 t6.2.2)]) .ptr w_1 fun (t7:(Option Addr)) w_2 =>
  ((ld .slc (Addr.add p_1 1) w_2 fun (t11_1:(Option Addr × Nat × Nat)) =>
  (Value.slice t11_1.1 t11_1.2.1 t11_1.2.2)=(Value.slice t11.1 t11.2.1 t11.2.2)) ∧
  zal P (Builtin.unsafeString_ #[zt2,zdf] qc #[(Value.pointer t7),(Value.int .i64 (t11.2.1:Int))]) .str w_2 fun (t13:ByteArray) w_3 =>
  R (.returned (Value.string t13)) w_3)
theorem zlw (b:Option Addr) (R:Ending→World→Prop) (w:World):tr P qs ((Tryz.f166.body).getD .skip) zdo (zb5 0 [(0,(Value.pointer b))]) (zco P Tryz.f166.results.toList R) w=zc0 b R w:=by kernel_rfl
theorem zf0 {b:Option Addr} {R:Ending→World→Prop} {w:World} (hT:zc0 b R w):qj P zbq #[(Value.pointer b)] w R :=
 zx (fn:=Tryz.f166) (c:=(Tryz.f166.body).getD .skip) (ann:=zdo) (args:=[(0,(Value.pointer b))]) (qs:=qs) mixed Tryz.func166 rfl (by kernel_rfl) (by kernel_rfl) zmz ((zlw b R w).symm ▸ hT)
def zlb:Ann:=(.seq .leaf (.seq .leaf .leaf))
theorem z1k:okC P qs Tryz.f189.ntmps ((Tryz.f189.body).getD .skip) zlb=true:=by kernel_rfl
def znq (s:ByteArray) (sep:ByteArray) (R:Ending→World→Prop) (w:World):Prop :=
  xg P zdk #[(Value.string s),(Value.string sep)] [.str,.str,.bool] true w fun (t9:(ByteArray × ByteArray × Bool)) w_1 =>
  R (.returned (Value.tuple #[(Value.string t9.1),(Value.string t9.2.1),(Value.bool t9.2.2)])) w_1
theorem z01 (s:ByteArray) (sep:ByteArray) (R:Ending→World→Prop) (w:World):tr P qs ((Tryz.f189.body).getD .skip) zlb (zb5 0 [(0,(Value.string s)),(0,(Value.string sep))]) (zco P Tryz.f189.results.toList R) w=znq s sep R w:=by kernel_rfl
theorem z1x {s:ByteArray} {sep:ByteArray} {R:Ending→World→Prop} {w:World} (hT:znq s sep R w):qj P zoy #[(Value.string s),(Value.string sep)] w R :=
 zx (fn:=Tryz.f189) (c:=(Tryz.f189.body).getD .skip) (ann:=zlb) (args:=[(0,(Value.string s)),(0,(Value.string sep))]) (qs:=qs) mixed Tryz.func189 rfl (by kernel_rfl) (by kernel_rfl) z1k ((z01 s sep R w).symm ▸ hT)
def zc3:Ann:=(.seq .leaf (.cond .leaf (.seq .leaf (.cond .leaf .leaf))))
theorem zjz:okC P qs Tryz.f201.ntmps ((Tryz.f201.body).getD .skip) zc3=true:=by kernel_rfl
def zdg (b:Option Addr) (R:Ending→World→Prop) (w:World):Prop :=
  zu b fun p =>
  ld .ptr p w fun (t5:(Option Addr)) =>
  xk (Option.isNone t5) (
  zal P (convert zec zjk (Value.pointer b)) .any w fun (t9:Value) w_1 =>
  xg P zg9 #[t9] [.any] false w_1 fun (t10:Value) w_2 =>
  zal P (convert zjk zec t10) .ptr w_2 fun (t11:(Option Addr)) w_3 =>
  zu b fun p_1 =>
  stC p_1 (Value.pointer t11) w_3 fun w_4 =>
  R (.returned (Value.tuple #[])) w_4) (
  zu b fun p_2 =>
  ld .ptr p_2 w fun (t17:(Option Addr)) =>
  zaz P (eqM .neq zec (.tmp 17) (.tmp 18) (Value.pointer t17) (Value.pointer b)) .bool w fun (t19:Bool) =>
  xk t19 (
  False) (
  R (.returned (Value.tuple #[])) w))
theorem zj4 (b:Option Addr) (R:Ending→World→Prop) (w:World):tr P qs ((Tryz.f201.body).getD .skip) zc3 (zb5 0 [(0,(Value.pointer b))]) (zco P Tryz.f201.results.toList R) w=zdg b R w:=by kernel_rfl
theorem zj2 {b:Option Addr} {R:Ending→World→Prop} {w:World} (hT:zdg b R w):qj P zb0 #[(Value.pointer b)] w R :=
 zx (fn:=Tryz.f201) (c:=(Tryz.f201.body).getD .skip) (ann:=zc3) (args:=[(0,(Value.pointer b))]) (qs:=qs) mixed Tryz.func201 rfl (by kernel_rfl) (by kernel_rfl) zjz ((zj4 b R w).symm ▸ hT)
def zd8:Ann:=(.seq (.tree (.op 0 [] (.op 1 [] (.op 2 [] (.op 6 [] (.op 9 [] (.op 10 [] (.op 11 [] (.op 3 [] (.op 4 [] (.op 5 [] (.op 7 [] (.op 12 [] (.op 13 [] (.op 8 [12] (.op 14 [] (.op 15 [] .done))))))))))))))))) (.seq .leaf .leaf))
theorem zo7:okC P qs Tryz.f202.ntmps ((Tryz.f202.body).getD .skip) zd8=true:=by kernel_rfl
def zex (b:Option Addr) (n:Int) (R:Ending→World→Prop) (w:World):Prop :=
  zbi w fun w_1 =>
  zu b fun p =>
  zu b fun p_1 =>
  ld .slc (Addr.add p 1) w_1 fun (t8:(Option Addr × Nat × Nat)) =>
  zaz P (Builtin.cap_ #[zh] zdf #[(Value.slice t8.1 t8.2.1 t8.2.2)]) (.int .i64) w_1 fun (t9:Int) =>
  z0d .i64 2 t9 fun t10 =>
  zba .i64 t10 n fun t12 =>
  ld .slc (Addr.add p_1 1) w_1 fun (t17:(Option Addr × Nat × Nat)) =>
  xg P zel #[(Value.int .i64 t12)] [.slc] false w_1 fun (t13:(Option Addr × Nat × Nat)) w_2 =>
  ((ld .slc (Addr.add p_1 1) w_2 fun (t17_1:(Option Addr × Nat × Nat)) =>
  (Value.slice t17_1.1 t17_1.2.1 t17_1.2.2)=(Value.slice t17.1 t17.2.1 t17.2.2)) ∧
  zaz P (Instr.sliceAt zh (Value.slice t13.1 t13.2.1 t13.2.2) none (some (Value.int .i64 (t17.2.1:Int))) none) .slc w_2 fun (t19:(Option Addr × Nat × Nat)) =>
  zu b fun p_2 =>
  ld .slc (Addr.add p_2 1) w_2 fun (t24:(Option Addr × Nat × Nat)) =>
  zal P (Builtin.copy_ #[zh,zh] zdf #[(Value.slice t19.1 t19.2.1 t19.2.2),(Value.slice t24.1 t24.2.1 t24.2.2)]) (.int .i64) w_2 fun (_:Int) w_3 =>
  zu b fun p_3 =>
  stC (Addr.add p_3 1) (Value.slice t19.1 t19.2.1 t19.2.2) w_3 fun w_4 =>
  R (.returned (Value.tuple #[])) w_4)
theorem zng (b:Option Addr) (n:Int) (R:Ending→World→Prop) (w:World):tr P qs ((Tryz.f202.body).getD .skip) zd8 (zb5 0 [(0,(Value.pointer b)),(0,(Value.int .i64 n))]) (zco P Tryz.f202.results.toList R) w=zex b n R w:=by kernel_rfl
theorem zot {b:Option Addr} {n:Int} {R:Ending→World→Prop} {w:World} (hT:zex b n R w):qj P zew #[(Value.pointer b),(Value.int .i64 n)] w R :=
 zx (fn:=Tryz.f202) (c:=(Tryz.f202.body).getD .skip) (ann:=zd8) (args:=[(0,(Value.pointer b)),(0,(Value.int .i64 n))]) (qs:=qs) mixed Tryz.func202 rfl (by kernel_rfl) (by kernel_rfl) zo7 ((zng b n R w).symm ▸ hT)
def zc8:Ann:=(.seq .leaf (.seq (.seq .leaf (.seq .leaf (.cond (.seq (.tree (.op 0 [] (.op 1 [] (.op 3 [] (.op 4 [] (.op 5 [] (.op 6 [] (.op 7 [] (.op 2 [] (.op 9 [] (.op 8 [] (.op 10 [] (.op 11 [] .done))))))))))))) .leaf) .leaf))) (.seq .leaf .leaf)))
theorem zlf:okC P qs Tryz.f216.ntmps ((Tryz.f216.body).getD .skip) zc8=true:=by kernel_rfl
def zdl (s:ByteArray) (sep:ByteArray) (R:Ending→World→Prop) (w:World):Prop :=
  xg P zc9 #[(Value.string s),(Value.string sep)] [.int .i64] false w fun (t10:Int) w_1 =>
  xk (decide (t10 ≥ 0)) (
  zbi w_1 fun w_2 =>
  zba .i64 t10 (sep.size:Int) fun t20 =>
  zaz P (Instr.sliceAt qc (Value.string s) none (some (Value.int .i64 t10)) none) .str w_2 fun (t15:ByteArray) =>
  zaz P (Instr.sliceAt qc (Value.string s) (some (Value.int .i64 t20)) none none) .str w_2 fun (t21:ByteArray) =>
  R (.returned (Value.tuple #[(Value.string t15),(Value.string t21),(Value.bool true)])) w_2) (
  R (.returned (Value.tuple #[(Value.string s),(Value.string (ByteArray.mk #[])),(Value.bool false)])) w_1)
theorem zk2 (s:ByteArray) (sep:ByteArray) (R:Ending→World→Prop) (w:World):tr P qs ((Tryz.f216.body).getD .skip) zc8 (zb5 0 [(0,(Value.string s)),(0,(Value.string sep))]) (zco P Tryz.f216.results.toList R) w=zdl s sep R w:=by kernel_rfl
theorem zkj {s:ByteArray} {sep:ByteArray} {R:Ending→World→Prop} {w:World} (hT:zdl s sep R w):qj P zdk #[(Value.string s),(Value.string sep)] w R :=
 zx (fn:=Tryz.f216) (c:=(Tryz.f216.body).getD .skip) (ann:=zc8) (args:=[(0,(Value.string s)),(0,(Value.string sep))]) (qs:=qs) mixed Tryz.func216 rfl (by kernel_rfl) (by kernel_rfl) zlf ((zk2 s sep R w).symm ▸ hT)
theorem zno {e:Array Value→Sem Value} (he:Extern.find Tryz.f222=some e) (args:Array Value) (w:World):(callFunc zg9 args).run P w=((e args).run P w).andThen fun v w1=>.ok (.value v) w1 :=
 Go.run_callFunc_extern Tryz.func222 (by kernel_rfl) (by kernel_rfl) (by kernel_rfl) he args w
theorem zi7 {e:Array Value→Sem Value} (he:Extern.find Tryz.f223=some e) (args:Array Value) (w:World):(callFunc zel args).run P w=((e args).run P w).andThen fun v w1=>.ok (.value v) w1 :=
 Go.run_callFunc_extern Tryz.func223 (by kernel_rfl) (by kernel_rfl) (by kernel_rfl) he args w
def zcu:Ann:=(.seq .leaf (.seq .leaf (.join [] (.jblk [] (.seq .leaf (.cond (.seq .leaf .leaf) (.seq .leaf (.cond (.seq .leaf .leaf) (.seq .leaf (.cond (.seq .leaf .leaf) (.seq .leaf (.cond (.seq .leaf .leaf) .leaf))))))))) (.seq .leaf (.seq .leaf (.seq .leaf (.seq .leaf (.seq .leaf (.seq (.blk (.loop [(8,.int .i64),(10,.int .i64)] (.seq (.seq .leaf (.cond .leaf .leaf)) (.jblk [(8,.int .i64),(10,.int .i64)] (.join [(8,.int .i64)] (.seq .leaf (.cond (.seq .leaf (.seq (.seq .leaf (.cond (.seq .leaf .leaf) .leaf)) .leaf)) .leaf)) (.join [] (.seq .leaf (.cond (.seq .leaf .leaf) .leaf)) (.seq .leaf (.seq .leaf (.join [(107,.bool)] .leaf (.cond (.seq .leaf (.seq (.seq .leaf (.cond (.seq .leaf .leaf) .leaf)) (.seq .leaf .leaf))) (.seq .leaf (.cond (.seq .leaf (.seq (.seq .leaf (.cond (.seq .leaf .leaf) .leaf)) (.seq .leaf .leaf))) .leaf)))))))))))) (.seq .leaf .leaf))))))))))
theorem zix:okC P qs Tryz.f228.ntmps ((Tryz.f228.body).getD .skip) zcu=true:=by kernel_rfl
def zc7 (s:ByteArray) (substr:ByteArray) (R:Ending→World→Prop) (w:World):Prop :=
  joinP Unit (fun k =>
  joinP Unit (fun k_1 =>
  xk ((substr.size:Int) == 0) (
  R (.returned (Value.int .i64 0)) w) (
  xk (substr.toList == s.toList) (
  R (.returned (Value.int .i64 0)) w) (
  xk ((substr.size:Int) == 1) (
  ztl substr 0 fun t29 =>
  xg P za8 #[(Value.string s),(Value.int .u8 t29)] [.int .i64] false w fun (t30:Int) w_1 =>
  R (.returned (Value.int .i64 t30)) w_1) (
  xk (decide ((substr.size:Int) ≥ (s.size:Int))) (
  R (.returned (Value.int .i64 (-1))) w) (
  ld (.int .i64) (⟨1,0,none⟩:Addr) w fun (t38:Int) =>
  xk (decide ((substr.size:Int)≤t38)) (
  xk (decide ((s.size:Int)≤64)) (
  xg P zd9 #[(Value.string s),(Value.string substr)] [.int .i64] false w fun (t47:Int) w_2 =>
  R (.returned (Value.int .i64 t47)) w_2) (
  k_1 () w)) (
  k_1 () w)))))) (fun _ w_3 =>
  k () w_3)) (fun _ w_4 =>
  ztl substr 0 fun t49 =>
  ztl substr 1 fun t51 =>
  zo9 .i64 (s.size:Int) (substr.size:Int) fun t55 =>
  zba .i64 t55 1 fun t56 =>
  zaw (Int × Int) (fun s_3 w_5 k_2 =>
  xk (decide (s_3.1 < t56)) (
  joinP (Int × Int) (fun k_3 =>
  joinP Int (fun k_4 =>
  ztl s s_3.1 fun t62 =>
  xk (t62 != t49) (
  zba .i64 s_3.1 1 fun t67 =>
  zaz P (Instr.sliceAt qc (Value.string s) (some (Value.int .i64 t67)) (some (Value.int .i64 t56)) none) .str w_5 fun (t69:ByteArray) =>
  xg P za8 #[(Value.string t69),(Value.int .u8 t49)] [.int .i64] false w_5 fun (t71:Int) w_6 =>
  xk (decide (t71 < 0)) (
  R (.returned (Value.int .i64 (-1))) w_6) (
  zba .i64 t71 1 fun t76 =>
  zba .i64 s_3.1 t76 fun t77 =>
  k_4 t77 w_6)) (
  k_4 s_3.1 w_5)) (fun s_4 w_7 =>
  joinP Unit (fun k_5 =>
  zba .i64 s_4 1 fun t80 =>
  ztl s t80 fun t81 =>
  xk (t81 == t51) (
  zba .i64 s_4 (substr.size:Int) fun t89 =>
  zaz P (Instr.sliceAt qc (Value.string s) (some (Value.int .i64 s_4)) (some (Value.int .i64 t89)) none) .str w_7 fun (t90:ByteArray) =>
  xk (t90.toList == substr.toList) (
  R (.returned (Value.int .i64 s_4)) w_7) (
  k_5 () w_7)) (
  k_5 () w_7)) (fun _ w_8 =>
  zba .i64 s_4 1 fun t96 =>
  zba .i64 s_3.2 1 fun t98 =>
  joinP Bool (fun k_6 =>
  ld (.int .i64) (⟨1,0,none⟩:Addr) w_8 fun (t100:Int) =>
  xk (decide ((substr.size:Int)≤t100)) (
  xg P zlg #[(Value.int .i64 t96)] [.int .i64] false w_8 fun (t105:Int) w_9 =>
  k_6 (decide (t98 > t105)) w_9) (
  k_6 false w_8)) (fun s_6 w_10 =>
  xk s_6 (
  zaz P (Instr.sliceAt qc (Value.string s) (some (Value.int .i64 t96)) none none) .str w_10 fun (t110:ByteArray) =>
  xg P zd9 #[(Value.string t110),(Value.string substr)] [.int .i64] false w_10 fun (t112:Int) w_11 =>
  xk (decide (t112 ≥ 0)) (
  zba .i64 t112 t96 fun t117 =>
  R (.returned (Value.int .i64 t117)) w_11) (
  R (.returned (Value.int .i64 (-1))) w_11)) (
  ld (.int .i64) (⟨1,0,none⟩:Addr) w_10 fun (t119:Int) =>
  xk (decide ((substr.size:Int) > t119)) (
  z5y .i64 t96 4 fun t124 =>
  zba .i64 4 t124 fun t125 =>
  xk (decide (t98 ≥ t125)) (
  xk (decide (t96 < t56)) (
  zaz P (Instr.sliceAt qc (Value.string s) (some (Value.int .i64 t96)) none none) .str w_10 fun (t135:ByteArray) =>
  xg P ze3 #[(Value.string t135),(Value.string substr)] [.int .i64] false w_10 fun (t137:Int) w_12 =>
  xk (decide (t137 < 0)) (
  R (.returned (Value.int .i64 (-1))) w_12) (
  zba .i64 t96 t137 fun t142 =>
  R (.returned (Value.int .i64 t142)) w_12)) (
  k_3 (t96,t98) w_10)) (
  k_3 (t96,t98) w_10)) (
  k_3 (t96,t98) w_10)))))) (fun s_7 w_13 =>
  k_2 (s_7.1,s_7.2) w_13)) (
  R (.returned (Value.int .i64 (-1))) w_5)) (0,0) w_4)
theorem zju (s:ByteArray) (substr:ByteArray) (R:Ending→World→Prop) (w:World):tr P qs ((Tryz.f228.body).getD .skip) zcu (zb5 0 [(0,(Value.string s)),(0,(Value.string substr))]) (zco P Tryz.f228.results.toList R) w=zc7 s substr R w:=by kernel_rfl
theorem ziy {s:ByteArray} {substr:ByteArray} {R:Ending→World→Prop} {w:World} (hT:zc7 s substr R w):qj P zc9 #[(Value.string s),(Value.string substr)] w R :=
 zx (fn:=Tryz.f228) (c:=(Tryz.f228.body).getD .skip) (ann:=zcu) (args:=[(0,(Value.string s)),(0,(Value.string substr))]) (qs:=qs) mixed Tryz.func228 rfl (by kernel_rfl) (by kernel_rfl) zix ((zju s substr R w).symm ▸ hT)
def zbw:Ann:=(.seq .leaf (.seq .leaf .leaf))
theorem zhl:okC P qs Tryz.f231.ntmps ((Tryz.f231.body).getD .skip) zbw=true:=by kernel_rfl
def zcc (s:ByteArray) (c:Int) (R:Ending→World→Prop) (w:World):Prop :=
  xg P zdj #[(Value.string s),(Value.int .u8 c)] [.int .i64] false w fun (t7:Int) w_1 =>
  R (.returned (Value.int .i64 t7)) w_1
theorem zhr (s:ByteArray) (c:Int) (R:Ending→World→Prop) (w:World):tr P qs ((Tryz.f231.body).getD .skip) zbw (zb5 0 [(0,(Value.string s)),(0,(Value.int .u8 c))]) (zco P Tryz.f231.results.toList R) w=zcc s c R w:=by kernel_rfl
theorem zhb {s:ByteArray} {c:Int} {R:Ending→World→Prop} {w:World} (hT:zcc s c R w):qj P za8 #[(Value.string s),(Value.int .u8 c)] w R :=
 zx (fn:=Tryz.f231) (c:=(Tryz.f231.body).getD .skip) (ann:=zbw) (args:=[(0,(Value.string s)),(0,(Value.int .u8 c))]) (qs:=qs) mixed Tryz.func231 rfl (by kernel_rfl) (by kernel_rfl) zhl ((zhr s c R w).symm ▸ hT)
theorem zgw {e:Array Value→Sem Value} (he:Extern.find Tryz.f235=some e) (args:Array Value) (w:World):(callFunc zdj args).run P w=((e args).run P w).andThen fun v w1=>.ok (.value v) w1 :=
 Go.run_callFunc_extern Tryz.func235 (by kernel_rfl) (by kernel_rfl) (by kernel_rfl) he args w
set_option maxRecDepth 100000
def zlx:Ann:=(.seq .leaf (.seq .leaf (.seq (.seq .leaf (.cond (.seq .leaf .leaf) .leaf)) (.seq (.seq .leaf (.cond (.seq .leaf (.seq (.seq .leaf (.blk (.loop [(3,.slc),(4,.int .i64)] (.seq (.seq .leaf (.cond .leaf .leaf)) (.seq (.blk .leaf) .leaf))))) (.seq .leaf .leaf))) .leaf)) (.seq .leaf (.seq (.seq .leaf (.blk (.loop [(3,.slc),(5,.int .i64)] (.seq (.seq .leaf (.cond .leaf .leaf)) (.seq (.blk (.seq .leaf (.seq .leaf .leaf))) .leaf))))) (.seq .leaf .leaf)))))))
theorem z5f:okC P qs Tryz.f73.ntmps ((Tryz.f73.body).getD .skip) zlx=true:=by kernel_rfl
def zpm (n:Value) (R:Ending→World→Prop) (w:World):Prop :=
  zbn (Value.cells n) zi w fun b1 w_1 =>
  ld (.int .i64) (⟨b1,0,none⟩:Addr) w_1 fun (t7:Int) =>
  cvI .u64 t7 fun t8 =>
  xg P zla #[(Value.int .u64 t8)] [.slc] false w_1 fun (t9:(Option Addr × Nat × Nat)) w_2 =>
  ld (.int .i64) (⟨b1,0,none⟩:Addr) w_2 fun (t11:Int) =>
  xk (t11 == 1) (
  ld .str (⟨b1,1,none⟩:Addr) w_2 fun (t15:ByteArray) =>
  xg P zqr #[(Value.string t15)] [.slc] false w_2 fun (t16:(Option Addr × Nat × Nat)) w_3 =>
  zal P (Builtin.append_ #[zh,zh] zh #[(Value.slice t9.1 t9.2.1 t9.2.2),(Value.slice t16.1 t16.2.1 t16.2.2)]) .slc w_3 fun (t17:(Option Addr × Nat × Nat)) w_4 =>
  R (.returned (Value.slice t17.1 t17.2.1 t17.2.2)) w_4) (
  ld (.int .i64) (⟨b1,0,none⟩:Addr) w_2 fun (t19:Int) =>
  xk (t19 == 2) (
  ld (.int .i64) (⟨b1,2,none⟩:Addr) w_2 fun (t23:Int) =>
  cvI .u64 t23 fun t24 =>
  xg P zla #[(Value.int .u64 t24)] [.slc] false w_2 fun (t25:(Option Addr × Nat × Nat)) w_5 =>
  zal P (Builtin.append_ #[zh,zh] zh #[(Value.slice t9.1 t9.2.1 t9.2.2),(Value.slice t25.1 t25.2.1 t25.2.2)]) .slc w_5 fun (t26:(Option Addr × Nat × Nat)) w_6 =>
  zaw ((Option Addr × Nat × Nat) × Int) (fun s w_7 k =>
  ld .slc (⟨b1,3,none⟩:Addr) w_7 fun (t29:(Option Addr × Nat × Nat)) =>
  xk (decide (s.2 < (t29.2.1:Int))) (
  ld .slc (⟨b1,3,none⟩:Addr) w_7 fun (t36:(Option Addr × Nat × Nat)) =>
  ixS t36.1 t36.2.1 32 s.2 fun t38 =>
  zaz P (Instr.sliceAt zf (Value.pointer (some t38)) none none none) .slc w_7 fun (t39:(Option Addr × Nat × Nat)) =>
  zal P (Builtin.append_ #[zh,zh] zh #[(Value.slice s.1.1 s.1.2.1 s.1.2.2),(Value.slice t39.1 t39.2.1 t39.2.2)]) .slc w_7 fun (t40:(Option Addr × Nat × Nat)) w_8 =>
  zba .i64 s.2 1 fun t33 =>
  k ((t40.1,t40.2.1,t40.2.2),t33) w_8) (
  R (.returned (Value.slice s.1.1 s.1.2.1 s.1.2.2)) w_7)) ((t26.1,t26.2.1,t26.2.2),0) w_6) (
  ld .slc (⟨b1,4,none⟩:Addr) w_2 fun (t44:(Option Addr × Nat × Nat)) =>
  cvI .u64 (t44.2.1:Int) fun t46 =>
  xg P zla #[(Value.int .u64 t46)] [.slc] false w_2 fun (t47:(Option Addr × Nat × Nat)) w_9 =>
  zal P (Builtin.append_ #[zh,zh] zh #[(Value.slice t9.1 t9.2.1 t9.2.2),(Value.slice t47.1 t47.2.1 t47.2.2)]) .slc w_9 fun (t48:(Option Addr × Nat × Nat)) w_10 =>
  zaw ((Option Addr × Nat × Nat) × Int) (fun s_1 w_11 k_1 =>
  ld .slc (⟨b1,4,none⟩:Addr) w_11 fun (t51:(Option Addr × Nat × Nat)) =>
  xk (decide (s_1.2 < (t51.2.1:Int))) (
  ld .slc (⟨b1,4,none⟩:Addr) w_11 fun (t58:(Option Addr × Nat × Nat)) =>
  ixS t58.1 t58.2.1 34 s_1.2 fun t60 =>
  ld .str t60 w_11 fun (t62:ByteArray) =>
  xg P zqr #[(Value.string t62)] [.slc] false w_11 fun (t63:(Option Addr × Nat × Nat)) w_12 =>
  zal P (Builtin.append_ #[zh,zh] zh #[(Value.slice s_1.1.1 s_1.1.2.1 s_1.1.2.2),(Value.slice t63.1 t63.2.1 t63.2.2)]) .slc w_12 fun (t64:(Option Addr × Nat × Nat)) w_13 =>
  ld .slc (⟨b1,4,none⟩:Addr) w_13 fun (t67:(Option Addr × Nat × Nat)) =>
  ixS t67.1 t67.2.1 34 s_1.2 fun t69 =>
  ld (.int .i64) (Addr.add t69 1) w_13 fun (t71:Int) =>
  cvI .u64 t71 fun t72 =>
  xg P zla #[(Value.int .u64 t72)] [.slc] false w_13 fun (t73:(Option Addr × Nat × Nat)) w_14 =>
  zal P (Builtin.append_ #[zh,zh] zh #[(Value.slice t64.1 t64.2.1 t64.2.2),(Value.slice t73.1 t73.2.1 t73.2.2)]) .slc w_14 fun (t74:(Option Addr × Nat × Nat)) w_15 =>
  ld .slc (⟨b1,4,none⟩:Addr) w_15 fun (t77:(Option Addr × Nat × Nat)) =>
  ixS t77.1 t77.2.1 34 s_1.2 fun t79 =>
  zaz P (Instr.sliceAt zf (Value.pointer (some (Addr.add t79 2))) none none none) .slc w_15 fun (t81:(Option Addr × Nat × Nat)) =>
  zal P (Builtin.append_ #[zh,zh] zh #[(Value.slice t74.1 t74.2.1 t74.2.2),(Value.slice t81.1 t81.2.1 t81.2.2)]) .slc w_15 fun (t82:(Option Addr × Nat × Nat)) w_16 =>
  zba .i64 s_1.2 1 fun t55 =>
  k_1 ((t82.1,t82.2.1,t82.2.2),t55) w_16) (
  R (.returned (Value.slice s_1.1.1 s_1.1.2.1 s_1.1.2.2)) w_11)) ((t48.1,t48.2.1,t48.2.2),0) w_10))
theorem z4f (n:Value) (R:Ending→World→Prop) (w:World):tr P qs ((Tryz.f73.body).getD .skip) zlx (zb5 0 [(1,n)]) (zco P Tryz.f73.results.toList R) w=zpm n R w:=by kernel_rfl
theorem z4y {n:Value} {R:Ending→World→Prop} {w:World} (hT:zpm n R w):qj P ziu #[n] w R :=
 zx (fn:=Tryz.f73) (c:=(Tryz.f73.body).getD .skip) (ann:=zlx) (args:=[(1,n)]) (qs:=qs) mixed Tryz.func73 rfl (by kernel_rfl) (by kernel_rfl) z5f ((z4f n R w).symm ▸ hT)
def zkv:Ann:=(.seq .leaf (.seq .leaf (.seq .leaf (.join [] (.seq .leaf (.cond (.seq .leaf .leaf) .leaf)) (.seq .leaf .leaf)))))
theorem z1a:okC P qs Tryz.f85.ntmps ((Tryz.f85.body).getD .skip) zkv=true:=by kernel_rfl
def zon (b:Option Addr) (b_l b_c:Nat) (R:Ending→World→Prop) (w:World):Prop :=
  zbn (zc P zi) zi w fun b2 w_1 =>
  xg P zsz #[(Value.slice b b_l b_c)] [.ptr] false w_1 fun (t7:(Option Addr)) w_2 =>
  xg P zr5 #[(Value.pointer t7)] [.any] false w_2 fun (t9:Value) w_3 =>
  zbn (zc P zi) zi w_3 fun b5 w_4 =>
  zby P (storeVar zi (⟨b5,0,none⟩:Addr) t9) w_4 fun w_5 =>
  joinP Unit (fun k =>
  xg P zn7 #[(Value.pointer t7)] [.bool] false w_5 fun (t11:Bool) w_6 =>
  xk (!t11) (
  zaz P (Instr.build zi #[]) .any w_6 fun (t18:Value) =>
  zby P (storeVar zi (⟨b2,0,none⟩:Addr) t18) w_6 fun w_7 =>
  ldA P 5 (⟨b2,0,none⟩:Addr) w_7 fun t2 =>
  R (.returned (Value.tuple #[(Value.agg t2),(Value.int .i64 21)])) w_7) (
  ldA P 5 (⟨b5,0,none⟩:Addr) w_6 fun t14 =>
  xg P zlo #[(Value.agg t14)] [.bool] false w_6 fun (t15:Bool) w_8 =>
  xk (!t15) (
  zaz P (Instr.build zi #[]) .any w_8 fun (t18_1:Value) =>
  zby P (storeVar zi (⟨b2,0,none⟩:Addr) t18_1) w_8 fun w_9 =>
  ldA P 5 (⟨b2,0,none⟩:Addr) w_9 fun t2_1 =>
  R (.returned (Value.tuple #[(Value.agg t2_1),(Value.int .i64 21)])) w_9) (
  k () w_8))) (fun _ w_10 =>
  ldA P 5 (⟨b5,0,none⟩:Addr) w_10 fun t19 =>
  zby P (storeVar zi (⟨b2,0,none⟩:Addr) (Value.agg t19)) w_10 fun w_11 =>
  ldA P 5 (⟨b2,0,none⟩:Addr) w_11 fun t2_2 =>
  R (.returned (Value.tuple #[(Value.agg t2_2),(Value.int .i64 0)])) w_11)
theorem z1t (b:Option Addr) (b_l b_c:Nat) (R:Ending→World→Prop) (w:World):tr P qs ((Tryz.f85.body).getD .skip) zkv (zb5 0 [(0,(Value.slice b b_l b_c))]) (zco P Tryz.f85.results.toList R) w=zon b b_l b_c R w:=by kernel_rfl
theorem z0m {b:Option Addr} {b_l b_c:Nat} {R:Ending→World→Prop} {w:World} (hT:zon b b_l b_c R w):qj P zou #[(Value.slice b b_l b_c)] w R :=
 zx (fn:=Tryz.f85) (c:=(Tryz.f85.body).getD .skip) (ann:=zkv) (args:=[(0,(Value.slice b b_l b_c))]) (qs:=qs) mixed Tryz.func85 rfl (by kernel_rfl) (by kernel_rfl) z1a ((z1t b b_l b_c R w).symm ▸ hT)
def zkb:Ann:=(.seq .leaf (.seq (.seq .leaf (.cond (.seq .leaf .leaf) .leaf)) (.seq .leaf (.seq .leaf (.join [] (.seq .leaf (.jblk [] (.seq .leaf (.cond .leaf (.seq .leaf (.cond (.seq .leaf (.seq .leaf (.blk (.loop [(55,.int .i64)] (.seq .leaf (.seq (.cond .leaf .leaf) (.seq (.blk (.seq .leaf .leaf)) .leaf))))))) (.seq .leaf (.seq .leaf (.blk (.loop [(26,.int .i64)] (.seq .leaf (.seq (.cond .leaf .leaf) (.seq (.blk (.seq .leaf (.seq .leaf (.seq .leaf .leaf)))) .leaf))))))))))))) (.seq .leaf .leaf))))))
theorem z1b:okC P qs Tryz.f114.ntmps ((Tryz.f114.body).getD .skip) zkb=true:=by kernel_rfl
def zob (n:Value) (R:Ending→World→Prop) (w:World):Prop :=
  zbn (Value.cells n) zi w fun b1 w_1 =>
  ldA P 5 (⟨b1,0,none⟩:Addr) w_1 fun t9 =>
  xg P zlo #[(Value.agg t9)] [.bool] false w_1 fun (t10:Bool) w_2 =>
  xk (!t10) (
  R (.returned (Value.tuple #[(Value.slice none 0 0),(Value.int .i64 21)])) w_2) (
  zbn (zc P zgu) zgu w_2 fun b4 w_3 =>
  ld (.int .i64) (⟨b1,0,none⟩:Addr) w_3 fun (t13:Int) =>
  cvI .u64 t13 fun t14 =>
  xg P zdx #[(Value.pointer (some (⟨b4,0,none⟩:Addr))),(Value.int .u64 t14)] [] true w_3 fun (_:Unit) w_4 =>
  joinP Unit (fun k =>
  ld (.int .i64) (⟨b1,0,none⟩:Addr) w_4 fun (t17:Int) =>
  joinP Unit (fun k_1 =>
  xk (t17 == 1) (
  ld .str (⟨b1,1,none⟩:Addr) w_4 fun (t44:ByteArray) =>
  xg P zhq #[(Value.pointer (some (⟨b4,0,none⟩:Addr))),(Value.string t44)] [] true w_4 fun (_:Unit) w_5 =>
  k_1 () w_5) (
  xk (t17 == 2) (
  ld (.int .i64) (⟨b1,2,none⟩:Addr) w_4 fun (t49:Int) =>
  cvI .u64 t49 fun t50 =>
  xg P zdx #[(Value.pointer (some (⟨b4,0,none⟩:Addr))),(Value.int .u64 t50)] [] true w_4 fun (_:Unit) w_6 =>
  ld .slc (⟨b1,3,none⟩:Addr) w_6 fun (t53:(Option Addr × Nat × Nat)) =>
  zaw Int (fun s w_7 k_2 =>
  xk (decide (s < (t53.2.1:Int))) (
  ixS t53.1 t53.2.1 32 s fun t57 =>
  ldA P 32 t57 w_7 fun t58 =>
  zbn (zc P zf) zf w_7 fun b6 w_8 =>
  zby P (storeVar zf (⟨b6,0,none⟩:Addr) (Value.agg t58)) w_8 fun w_9 =>
  ldA P 32 (⟨b6,0,none⟩:Addr) w_9 fun t59 =>
  xg P zfl #[(Value.pointer (some (⟨b4,0,none⟩:Addr))),(Value.agg t59)] [] true w_9 fun (_:Unit) w_10 =>
  zba .i64 s 1 fun t61 =>
  k_2 t61 w_10) (
  k_1 () w_7)) 0 w_6) (
  ld .slc (⟨b1,4,none⟩:Addr) w_4 fun (t19:(Option Addr × Nat × Nat)) =>
  cvI .u64 (t19.2.1:Int) fun t21 =>
  xg P zdx #[(Value.pointer (some (⟨b4,0,none⟩:Addr))),(Value.int .u64 t21)] [] true w_4 fun (_:Unit) w_11 =>
  ld .slc (⟨b1,4,none⟩:Addr) w_11 fun (t24:(Option Addr × Nat × Nat)) =>
  zaw Int (fun s_1 w_12 k_3 =>
  xk (decide (s_1 < (t24.2.1:Int))) (
  ixS t24.1 t24.2.1 34 s_1 fun t28 =>
  ldA P 34 t28 w_12 fun t29 =>
  zbn (zc P ql) ql w_12 fun b8 w_13 =>
  zby P (storeVar ql (⟨b8,0,none⟩:Addr) (Value.agg t29)) w_13 fun w_14 =>
  ld .str (⟨b8,0,none⟩:Addr) w_14 fun (t31:ByteArray) =>
  xg P zhq #[(Value.pointer (some (⟨b4,0,none⟩:Addr))),(Value.string t31)] [] true w_14 fun (_:Unit) w_15 =>
  ld (.int .i64) (⟨b8,1,none⟩:Addr) w_15 fun (t34:Int) =>
  cvI .u64 t34 fun t35 =>
  xg P zdx #[(Value.pointer (some (⟨b4,0,none⟩:Addr))),(Value.int .u64 t35)] [] true w_15 fun (_:Unit) w_16 =>
  ldA P 32 (⟨b8,2,none⟩:Addr) w_16 fun t38 =>
  xg P zfl #[(Value.pointer (some (⟨b4,0,none⟩:Addr))),(Value.agg t38)] [] true w_16 fun (_:Unit) w_17 =>
  zba .i64 s_1 1 fun t40 =>
  k_3 t40 w_17) (
  k_1 () w_12)) 0 w_11))) (fun _ w_18 =>
  k () w_18)) (fun _ w_19 =>
  xg P zjs #[(Value.pointer (some (⟨b4,0,none⟩:Addr)))] [.slc] false w_19 fun (t62:(Option Addr × Nat × Nat)) w_20 =>
  R (.returned (Value.tuple #[(Value.slice t62.1 t62.2.1 t62.2.2),(Value.int .i64 0)])) w_20))
theorem z1j (n:Value) (R:Ending→World→Prop) (w:World):tr P qs ((Tryz.f114.body).getD .skip) zkb (zb5 0 [(1,n)]) (zco P Tryz.f114.results.toList R) w=zob n R w:=by kernel_rfl
theorem z02 {n:Value} {R:Ending→World→Prop} {w:World} (hT:zob n R w):qj P zn1 #[n] w R :=
 zx (fn:=Tryz.f114) (c:=(Tryz.f114.body).getD .skip) (ann:=zkb) (args:=[(1,n)]) (qs:=qs) mixed Tryz.func114 rfl (by kernel_rfl) (by kernel_rfl) z1b ((z1j n R w).symm ▸ hT)
def zst:Ann:=(.seq .leaf (.seq .leaf (.seq (.blk (.loop [(0,.int .u64),(3,.slc)] (.seq (.seq .leaf (.cond .leaf .leaf)) (.blk (.seq .leaf .leaf))))) (.seq .leaf .leaf))))
theorem qem:okC P qs Tryz.f130.ntmps ((Tryz.f130.body).getD .skip) zst=true:=by kernel_rfl
def zzm (n:Int) (R:Ending→World→Prop) (w:World):Prop :=
  zaw (Int × (Option Addr × Nat × Nat)) (fun s w_1 k =>
  xk (decide (s.1 ≥ 128)) (
  qju s.1 128 fun t8 =>
  zba .u64 t8 128 fun t9 =>
  cvI .u8 t9 fun t10 =>
  zal P (Instr.buildSlice zh 1 #[(0,(Value.int .u8 t10))]) .slc w_1 fun (t11:(Option Addr × Nat × Nat)) w_2 =>
  zal P (Builtin.append_ #[zh,zh] zh #[(Value.slice s.2.1 s.2.2.1 s.2.2.2),(Value.slice t11.1 t11.2.1 t11.2.2)]) .slc w_2 fun (t12:(Option Addr × Nat × Nat)) w_3 =>
  qig .u64 s.1 128 fun t14 =>
  k (t14,(t12.1,t12.2.1,t12.2.2)) w_3) (
  cvI .u8 s.1 fun t17 =>
  zal P (Instr.buildSlice zh 1 #[(0,(Value.int .u8 t17))]) .slc w_1 fun (t18:(Option Addr × Nat × Nat)) w_4 =>
  zal P (Builtin.append_ #[zh,zh] zh #[(Value.slice s.2.1 s.2.2.1 s.2.2.2),(Value.slice t18.1 t18.2.1 t18.2.2)]) .slc w_4 fun (t19:(Option Addr × Nat × Nat)) w_5 =>
  R (.returned (Value.slice t19.1 t19.2.1 t19.2.2)) w_5)) (n,(none,0,0)) w
theorem qfm (n:Int) (R:Ending→World→Prop) (w:World):tr P qs ((Tryz.f130.body).getD .skip) zst (zb5 0 [(0,(Value.int .u64 n))]) (zco P Tryz.f130.results.toList R) w=zzm n R w:=by kernel_rfl
theorem qes {n:Int} {R:Ending→World→Prop} {w:World} (hT:zzm n R w):qj P zla #[(Value.int .u64 n)] w R :=
 zx (fn:=Tryz.f130) (c:=(Tryz.f130.body).getD .skip) (ann:=zst) (args:=[(0,(Value.int .u64 n))]) (qs:=qs) mixed Tryz.func130 rfl (by kernel_rfl) (by kernel_rfl) qem ((qfm n R w).symm ▸ hT)
def zpr:Ann:=(.seq .leaf (.seq .leaf .leaf))
theorem qa8:okC P qs Tryz.f131.ntmps ((Tryz.f131.body).getD .skip) zpr=true:=by kernel_rfl
def zv0 (s:ByteArray) (R:Ending→World→Prop) (w:World):Prop :=
  cvI .u64 (s.size:Int) fun t5 =>
  xg P zla #[(Value.int .u64 t5)] [.slc] false w fun (t6:(Option Addr × Nat × Nat)) w_1 =>
  zal P (Builtin.append_ #[zh,qc] zh #[(Value.slice t6.1 t6.2.1 t6.2.2),(Value.string s)]) .slc w_1 fun (t8:(Option Addr × Nat × Nat)) w_2 =>
  R (.returned (Value.slice t8.1 t8.2.1 t8.2.2)) w_2
theorem qas (s:ByteArray) (R:Ending→World→Prop) (w:World):tr P qs ((Tryz.f131.body).getD .skip) zpr (zb5 0 [(0,(Value.string s))]) (zco P Tryz.f131.results.toList R) w=zv0 s R w:=by kernel_rfl
theorem qbg {s:ByteArray} {R:Ending→World→Prop} {w:World} (hT:zv0 s R w):qj P zqr #[(Value.string s)] w R :=
 zx (fn:=Tryz.f131) (c:=(Tryz.f131.body).getD .skip) (ann:=zpr) (args:=[(0,(Value.string s))]) (qs:=qs) mixed Tryz.func131 rfl (by kernel_rfl) (by kernel_rfl) qa8 ((qas s R w).symm ▸ hT)
def zow:Ann:=(.seq .leaf (.seq .leaf .leaf))
theorem z8x:okC P qs Tryz.f137.ntmps ((Tryz.f137.body).getD .skip) zow=true:=by kernel_rfl
def zsk (b:Option Addr) (b_l b_c:Nat) (R:Ending→World→Prop) (w:World):Prop :=
  zal P (Builtin.append_ #[zh,zh] zh #[(Value.slice none 0 0),(Value.slice b b_l b_c)]) .slc w fun (t4:(Option Addr × Nat × Nat)) w_1 =>
  zaz P (Instr.build zm3 #[(0,(Value.slice t4.1 t4.2.1 t4.2.2))]) .any w_1 fun (t5:Value) =>
  zbn (Value.cells t5) zm3 w_1 fun b6 w_2 =>
  R (.returned (Value.pointer (some (⟨b6,0,none⟩:Addr)))) w_2
theorem z95 (b:Option Addr) (b_l b_c:Nat) (R:Ending→World→Prop) (w:World):tr P qs ((Tryz.f137.body).getD .skip) zow (zb5 0 [(0,(Value.slice b b_l b_c))]) (zco P Tryz.f137.results.toList R) w=zsk b b_l b_c R w:=by kernel_rfl
theorem z8g {b:Option Addr} {b_l b_c:Nat} {R:Ending→World→Prop} {w:World} (hT:zsk b b_l b_c R w):qj P zsz #[(Value.slice b b_l b_c)] w R :=
 zx (fn:=Tryz.f137) (c:=(Tryz.f137.body).getD .skip) (ann:=zow) (args:=[(0,(Value.slice b b_l b_c))]) (qs:=qs) mixed Tryz.func137 rfl (by kernel_rfl) (by kernel_rfl) z8x ((z95 b b_l b_c R w).symm ▸ hT)
def zoq:Ann:=(.seq .leaf (.seq .leaf (.join [] (.seq .leaf (.jblk [] (.seq .leaf (.cond .leaf (.seq .leaf (.cond (.seq .leaf (.seq .leaf (.blk (.loop [(26,.int .i64)] (.seq .leaf (.seq (.cond .leaf .leaf) (.seq (.blk (.tree (.op 0 [] (.op 2 [] (.op 1 [] (.op 3 [1] (.op 4 [1] (.op 5 [] (.op 6 [] (.op 7 [] .done)))))))))) .leaf))))))) (.seq .leaf (.cond (.seq .leaf (.blk (.loop [(41,.int .u64)] (.seq .leaf (.seq (.cond .leaf .leaf) (.seq (.blk (.tree (.op 0 [] (.op 2 [] (.op 4 [] (.op 8 [] (.op 1 [] (.op 3 [1] (.op 5 [1] (.op 6 [] (.op 7 [] (.op 9 [1,6] (.op 10 [] (.op 11 [1] (.op 12 [] (.op 13 [] (.op 14 [] .done))))))))))))))))) .leaf)))))) .leaf)))))))) (.seq .leaf .leaf))))
theorem z6n:okC P qs Tryz.f138.ntmps ((Tryz.f138.body).getD .skip) zoq=true:=by kernel_rfl
def zrd (inv:Option Addr) (R:Ending→World→Prop) (w:World):Prop :=
  zbn (zc P zi) zi w fun b2 w_1 =>
  xg P zef #[(Value.pointer inv)] [.int .u64] false w_1 fun (t5:Int) w_2 =>
  zaz P (Builtin.min_ #[zdi,zdi] zdi #[(Value.int .u64 t5),(Value.int .u64 9)]) (.int .u64) w_2 fun (t6:Int) =>
  cvI .i64 t6 fun t7 =>
  zaz P (Instr.build zi #[(0,(Value.int .i64 t7))]) .any w_2 fun (t8:Value) =>
  zbn (zc P zi) zi w_2 fun b3 w_3 =>
  zby P (storeVar zi (⟨b3,0,none⟩:Addr) t8) w_3 fun w_4 =>
  joinP Unit (fun k =>
  ld (.int .i64) (⟨b3,0,none⟩:Addr) w_4 fun (t10:Int) =>
  joinP Unit (fun k_1 =>
  xk (t10 == 1) (
  xg P zik #[(Value.pointer inv),(Value.int .i64 64)] [.str] false w_4 fun (t14:ByteArray) w_5 =>
  stC (⟨b3,1,none⟩:Addr) (Value.string t14) w_5 fun w_6 =>
  k_1 () w_6) (
  xk (t10 == 2) (
  xg P zef #[(Value.pointer inv)] [.int .u64] false w_4 fun (t19:Int) w_7 =>
  zaz P (Builtin.min_ #[zdi,zdi] zdi #[(Value.int .u64 t19),(Value.int .u64 1025)]) (.int .u64) w_7 fun (t20:Int) =>
  cvI .i64 t20 fun t21 =>
  stC (⟨b3,2,none⟩:Addr) (Value.int .i64 t21) w_7 fun w_8 =>
  ld (.int .i64) (⟨b3,2,none⟩:Addr) w_8 fun (t24:Int) =>
  xg P ziv #[(Value.int .i64 t24)] [.int .i64] false w_8 fun (t25:Int) w_9 =>
  zaw Int (fun s w_10 k_2 =>
  xk (decide (s < t25)) (
  zbi w_10 fun w_11 =>
  ld .slc (⟨b3,3,none⟩:Addr) w_11 fun (t29:(Option Addr × Nat × Nat)) =>
  xg P zf1 #[(Value.pointer inv)] [.any] false w_11 fun (t31:Value) w_12 =>
  ((ld .slc (⟨b3,3,none⟩:Addr) w_12 fun (t29_1:(Option Addr × Nat × Nat)) =>
  (Value.slice t29_1.1 t29_1.2.1 t29_1.2.2)=(Value.slice t29.1 t29.2.1 t29.2.2)) ∧
  zal P (Instr.buildSlice ku 1 #[(0,t31)]) .slc w_12 fun (t32:(Option Addr × Nat × Nat)) w_13 =>
  ((ld .slc (⟨b3,3,none⟩:Addr) w_13 fun (t29_2:(Option Addr × Nat × Nat)) =>
  (Value.slice t29_2.1 t29_2.2.1 t29_2.2.2)=(Value.slice t29.1 t29.2.1 t29.2.2)) ∧
  zal P (Builtin.append_ #[ku,ku] ku #[(Value.slice t29.1 t29.2.1 t29.2.2),(Value.slice t32.1 t32.2.1 t32.2.2)]) .slc w_13 fun (t33:(Option Addr × Nat × Nat)) w_14 =>
  stC (⟨b3,3,none⟩:Addr) (Value.slice t33.1 t33.2.1 t33.2.2) w_14 fun w_15 =>
  zba .i64 s 1 fun t35 =>
  k_2 t35 w_15))) (
  k_1 () w_10)) 0 w_9) (
  xk (t10 == 3) (
  xg P zef #[(Value.pointer inv)] [.int .u64] false w_4 fun (t39:Int) w_16 =>
  zaz P (Builtin.min_ #[zdi,zdi] zdi #[(Value.int .u64 t39),(Value.int .u64 65)]) (.int .u64) w_16 fun (t40:Int) =>
  zaw Int (fun s_1 w_17 k_3 =>
  xk (decide (s_1 < t40)) (
  zbi w_17 fun w_18 =>
  ld .slc (⟨b3,4,none⟩:Addr) w_18 fun (t44:(Option Addr × Nat × Nat)) =>
  xg P zik #[(Value.pointer inv),(Value.int .i64 16)] [.str] false w_18 fun (t46:ByteArray) w_19 =>
  ((ld .slc (⟨b3,4,none⟩:Addr) w_19 fun (t44_1:(Option Addr × Nat × Nat)) =>
  (Value.slice t44_1.1 t44_1.2.1 t44_1.2.2)=(Value.slice t44.1 t44.2.1 t44.2.2)) ∧
  xg P zef #[(Value.pointer inv)] [.int .u64] false w_19 fun (t48:Int) w_20 =>
  ((ld .slc (⟨b3,4,none⟩:Addr) w_20 fun (t44_2:(Option Addr × Nat × Nat)) =>
  (Value.slice t44_2.1 t44_2.2.1 t44_2.2.2)=(Value.slice t44.1 t44.2.1 t44.2.2)) ∧
  zaz P (Builtin.min_ #[zdi,zdi] zdi #[(Value.int .u64 t48),(Value.int .u64 9)]) (.int .u64) w_20 fun (t49:Int) =>
  cvI .i64 t49 fun t50 =>
  xg P zf1 #[(Value.pointer inv)] [.any] false w_20 fun (t52:Value) w_21 =>
  ((zaz P (Builtin.min_ #[zdi,zdi] zdi #[(Value.int .u64 t48),(Value.int .u64 9)]) (.int .u64) w_21 fun (t49_1:Int) =>
  (Value.int .u64 t49_1)=(Value.int .u64 t49)) ∧
  ((ld .slc (⟨b3,4,none⟩:Addr) w_21 fun (t44_3:(Option Addr × Nat × Nat)) =>
  (Value.slice t44_3.1 t44_3.2.1 t44_3.2.2)=(Value.slice t44.1 t44.2.1 t44.2.2)) ∧
  zaz P (Instr.build ql #[(0,(Value.string t46)),(1,(Value.int .i64 t50)),(2,t52)]) .any w_21 fun (t53:Value) =>
  zal P (Instr.buildSlice zai 1 #[(0,t53)]) .slc w_21 fun (t54:(Option Addr × Nat × Nat)) w_22 =>
  ((ld .slc (⟨b3,4,none⟩:Addr) w_22 fun (t44_4:(Option Addr × Nat × Nat)) =>
  (Value.slice t44_4.1 t44_4.2.1 t44_4.2.2)=(Value.slice t44.1 t44.2.1 t44.2.2)) ∧
  zal P (Builtin.append_ #[zai,zai] zai #[(Value.slice t44.1 t44.2.1 t44.2.2),(Value.slice t54.1 t54.2.1 t54.2.2)]) .slc w_22 fun (t55:(Option Addr × Nat × Nat)) w_23 =>
  stC (⟨b3,4,none⟩:Addr) (Value.slice t55.1 t55.2.1 t55.2.2) w_23 fun w_24 =>
  zba .u64 s_1 1 fun t57 =>
  k_3 t57 w_24)))))) (
  k_1 () w_17)) 0 w_16) (
  k_1 () w_4)))) (fun _ w_25 =>
  k () w_25)) (fun _ w_26 =>
  ldA P 5 (⟨b3,0,none⟩:Addr) w_26 fun t58 =>
  zby P (storeVar zi (⟨b2,0,none⟩:Addr) (Value.agg t58)) w_26 fun w_27 =>
  ldA P 5 (⟨b2,0,none⟩:Addr) w_27 fun t2 =>
  R (.returned (Value.agg t2)) w_27)
theorem z9m (inv:Option Addr) (R:Ending→World→Prop) (w:World):tr P qs ((Tryz.f138.body).getD .skip) zoq (zb5 0 [(0,(Value.pointer inv))]) (zco P Tryz.f138.results.toList R) w=zrd inv R w:=by kernel_rfl
theorem z5z {inv:Option Addr} {R:Ending→World→Prop} {w:World} (hT:zrd inv R w):qj P zr5 #[(Value.pointer inv)] w R :=
 zx (fn:=Tryz.f138) (c:=(Tryz.f138.body).getD .skip) (ann:=zoq) (args:=[(0,(Value.pointer inv))]) (qs:=qs) mixed Tryz.func138 rfl (by kernel_rfl) (by kernel_rfl) z6n ((z9m inv R w).symm ▸ hT)
def zkn:Ann:=(.seq .leaf (.seq .leaf .leaf))
theorem z0h:okC P qs Tryz.f139.ntmps ((Tryz.f139.body).getD .skip) zkn=true:=by kernel_rfl
def zoh (i:Option Addr) (R:Ending→World→Prop) (w:World):Prop :=
  xk (!(Option.isNone i)) (
  zu i fun p =>
  ld (.int .i64) (Addr.add p 1) w fun (t9:Int) =>
  xk (t9 == 0) (
  zu i fun p_1 =>
  ld .slc p_1 w fun (t16:(Option Addr × Nat × Nat)) =>
  R (.returned (Value.bool ((t16.2.1:Int) == 0))) w) (
  R (.returned (Value.bool false)) w)) (
  R (.returned (Value.bool false)) w)
theorem z1m (i:Option Addr) (R:Ending→World→Prop) (w:World):tr P qs ((Tryz.f139.body).getD .skip) zkn (zb5 0 [(0,(Value.pointer i))]) (zco P Tryz.f139.results.toList R) w=zoh i R w:=by kernel_rfl
theorem z0r {i:Option Addr} {R:Ending→World→Prop} {w:World} (hT:zoh i R w):qj P zn7 #[(Value.pointer i)] w R :=
 zx (fn:=Tryz.f139) (c:=(Tryz.f139.body).getD .skip) (ann:=zkn) (args:=[(0,(Value.pointer i))]) (qs:=qs) mixed Tryz.func139 rfl (by kernel_rfl) (by kernel_rfl) z0h ((z1m i R w).symm ▸ hT)
def zml:Ann:=(.seq .leaf (.seq (.seq .leaf (.blk (.seq .leaf (.cond (.seq .leaf .leaf) (.seq .leaf (.cond (.seq (.tree (.op 0 [] (.op 1 [] (.op 2 [] (.op 3 [] (.op 4 [] (.op 5 [] (.op 6 [] (.op 7 [] (.op 8 [] (.op 9 [] (.op 10 [] (.op 11 [] (.op 12 [] (.op 13 [] (.op 14 [] (.op 17 [] (.op 15 [] (.op 16 [] (.op 18 [] (.op 19 [15] (.op 20 [] (.op 21 [] (.op 22 [] (.op 23 [] (.op 24 [] (.op 25 [] (.op 26 [] (.op 27 [] (.op 28 [] .done)))))))))))))))))))))))))))))) .leaf) (.seq .leaf (.cond (.seq .leaf .leaf) .leaf)))))))) (.seq .leaf .leaf)))
theorem z4h:okC P qs Tryz.f140.ntmps ((Tryz.f140.body).getD .skip) zml=true:=by kernel_rfl
def zp7 (n:Value) (R:Ending→World→Prop) (w:World):Prop :=
  zbn (Value.cells n) zi w fun b1 w_1 =>
  ld (.int .i64) (⟨b1,0,none⟩:Addr) w_1 fun (t4:Int) =>
  xk (t4 == 1) (
  ld .str (⟨b1,1,none⟩:Addr) w_1 fun (t8:ByteArray) =>
  xk (decide ((t8.size:Int) > 0)) (
  ld .str (⟨b1,1,none⟩:Addr) w_1 fun (t13:ByteArray) =>
  xk (decide ((t13.size:Int)≤64)) (
  ld (.int .i64) (⟨b1,2,none⟩:Addr) w_1 fun (t19:Int) =>
  xk (t19 == 0) (
  ld .slc (⟨b1,3,none⟩:Addr) w_1 fun (t24:(Option Addr × Nat × Nat)) =>
  xk ((t24.2.1:Int) == 0) (
  ld .slc (⟨b1,4,none⟩:Addr) w_1 fun (t30:(Option Addr × Nat × Nat)) =>
  R (.returned (Value.bool ((t30.2.1:Int) == 0))) w_1) (
  R (.returned (Value.bool false)) w_1)) (
  R (.returned (Value.bool false)) w_1)) (
  R (.returned (Value.bool false)) w_1)) (
  R (.returned (Value.bool false)) w_1)) (
  xk (t4 == 2) (
  zbi w_1 fun w_2 =>
  ld .str (⟨b1,1,none⟩:Addr) w_2 fun (t37:ByteArray) =>
  xk (t37.toList == (ByteArray.mk #[]).toList) (
  ld (.int .i64) (⟨b1,2,none⟩:Addr) w_2 fun (t41:Int) =>
  xk (decide (t41 ≥ 0)) (
  ld (.int .i64) (⟨b1,2,none⟩:Addr) w_2 fun (t46:Int) =>
  xk (decide (t46≤1024)) (
  ld .slc (⟨b1,3,none⟩:Addr) w_2 fun (t51:(Option Addr × Nat × Nat)) =>
  ld (.int .i64) (⟨b1,2,none⟩:Addr) w_2 fun (t54:Int) =>
  xg P ziv #[(Value.int .i64 t54)] [.int .i64] false w_2 fun (t55:Int) w_3 =>
  ((ld .slc (⟨b1,3,none⟩:Addr) w_3 fun (t51_1:(Option Addr × Nat × Nat)) =>
  (Value.slice t51_1.1 t51_1.2.1 t51_1.2.2)=(Value.slice t51.1 t51.2.1 t51.2.2)) ∧
  xk ((t51.2.1:Int) == t55) (
  ld .slc (⟨b1,4,none⟩:Addr) w_3 fun (t60:(Option Addr × Nat × Nat)) =>
  R (.returned (Value.bool ((t60.2.1:Int) == 0))) w_3) (
  R (.returned (Value.bool false)) w_3))) (
  ((undef=undef) ∧
  R (.returned (Value.bool false)) w_2))) (
  ((undef=undef) ∧
  R (.returned (Value.bool false)) w_2))) (
  ((undef=undef) ∧
  R (.returned (Value.bool false)) w_2))) (
  xk (t4 == 3) (
  ld .str (⟨b1,1,none⟩:Addr) w_1 fun (t67:ByteArray) =>
  xk (t67.toList == (ByteArray.mk #[]).toList) (
  ld (.int .i64) (⟨b1,2,none⟩:Addr) w_1 fun (t71:Int) =>
  xk (t71 == 0) (
  ld .slc (⟨b1,3,none⟩:Addr) w_1 fun (t76:(Option Addr × Nat × Nat)) =>
  xk ((t76.2.1:Int) == 0) (
  ld .slc (⟨b1,4,none⟩:Addr) w_1 fun (t82:(Option Addr × Nat × Nat)) =>
  xg P zo8 #[(Value.slice t82.1 t82.2.1 t82.2.2)] [.bool] false w_1 fun (t83:Bool) w_4 =>
  R (.returned (Value.bool t83)) w_4) (
  R (.returned (Value.bool false)) w_1)) (
  R (.returned (Value.bool false)) w_1)) (
  R (.returned (Value.bool false)) w_1)) (
  R (.returned (Value.bool false)) w_1)))
theorem z5r (n:Value) (R:Ending→World→Prop) (w:World):tr P qs ((Tryz.f140.body).getD .skip) zml (zb5 0 [(1,n)]) (zco P Tryz.f140.results.toList R) w=zp7 n R w:=by kernel_rfl
theorem z3t {n:Value} {R:Ending→World→Prop} {w:World} (hT:zp7 n R w):qj P zlo #[n] w R :=
 zx (fn:=Tryz.f140) (c:=(Tryz.f140.body).getD .skip) (ann:=zml) (args:=[(1,n)]) (qs:=qs) mixed Tryz.func140 rfl (by kernel_rfl) (by kernel_rfl) z4h ((z5r n R w).symm ▸ hT)
def zk6:Ann:=(.seq .leaf (.seq .leaf (.seq .leaf (.blk (.loop [(3,.int .u64),(4,.int .i64)] (.seq (.jblk [(3,.int .u64)] (.seq .leaf (.seq (.seq .leaf (.cond (.seq .leaf .leaf) .leaf)) (.join [] (.seq .leaf (.cond (.seq .leaf (.seq .leaf .leaf)) .leaf)) (.seq .leaf (.seq .leaf (.cond (.seq .leaf .leaf) .leaf))))))) .leaf))))))
theorem z1f:okC P qs Tryz.f176.ntmps ((Tryz.f176.body).getD .skip) zk6=true:=by kernel_rfl
def znw (i:Option Addr) (R:Ending→World→Prop) (w:World):Prop :=
  zaw (Int × Int) (fun s w_1 k =>
  joinP Int (fun k_1 =>
  xg P zl9 #[(Value.pointer i)] [.int .u8,.bool] true w_1 fun (t11:(Int × Bool)) w_2 =>
  xk (!t11.2) (
  R (.returned (Value.int .u64 0)) w_2) (
  joinP Unit (fun k_2 =>
  xk (s.2 == 9) (
  xk (decide (t11.1 > 1)) (
  xg P zct #[(Value.pointer i),(Value.int .i64 21)] [] true w_2 fun (_:Unit) w_3 =>
  R (.returned (Value.int .u64 0)) w_3) (
  xk (decide (s.2 > 0)) (
  xk (t11.1 == 0) (
  xg P zct #[(Value.pointer i),(Value.int .i64 21)] [] true w_2 fun (_:Unit) w_4 =>
  R (.returned (Value.int .u64 0)) w_4) (
  k_2 () w_2)) (
  k_2 () w_2))) (
  xk (decide (s.2 > 0)) (
  xk (t11.1 == 0) (
  xg P zct #[(Value.pointer i),(Value.int .i64 21)] [] true w_2 fun (_:Unit) w_5 =>
  R (.returned (Value.int .u64 0)) w_5) (
  k_2 () w_2)) (
  k_2 () w_2))) (fun _ w_6 =>
  qbj .u8 t11.1 127 fun t34 =>
  cvI .u64 t34 fun t35 =>
  z0d .i64 7 s.2 fun t37 =>
  qia .u64 t35 t37 fun t38 =>
  orI .u64 s.1 t38 fun t39 =>
  xk (decide (t11.1 < 128)) (
  R (.returned (Value.int .u64 t39)) w_6) (
  k_1 t39 w_6)))) (fun s_2 w_7 =>
  zba .i64 s.2 1 fun t8 =>
  k (s_2,t8) w_7)) (0,0) w
theorem z1p (i:Option Addr) (R:Ending→World→Prop) (w:World):tr P qs ((Tryz.f176.body).getD .skip) zk6 (zb5 0 [(0,(Value.pointer i))]) (zco P Tryz.f176.results.toList R) w=znw i R w:=by kernel_rfl
theorem z0p {i:Option Addr} {R:Ending→World→Prop} {w:World} (hT:znw i R w):qj P zef #[(Value.pointer i)] w R :=
 zx (fn:=Tryz.f176) (c:=(Tryz.f176.body).getD .skip) (ann:=zk6) (args:=[(0,(Value.pointer i))]) (qs:=qs) mixed Tryz.func176 rfl (by kernel_rfl) (by kernel_rfl) z1f ((z1p i R w).symm ▸ hT)
def zjh:Ann:=(.seq .leaf (.seq .leaf (.join [] (.seq .leaf (.cond (.seq .leaf .leaf) .leaf)) (.seq (.seq .leaf (.cond (.seq .leaf (.seq .leaf .leaf)) .leaf)) (.seq .leaf .leaf)))))
theorem zx6:okC P qs Tryz.f177.ntmps ((Tryz.f177.body).getD .skip) zjh=true:=by kernel_rfl
def zmw (i:Option Addr) (most:Int) (R:Ending→World→Prop) (w:World):Prop :=
  xg P zef #[(Value.pointer i)] [.int .u64] false w fun (t7:Int) w_1 =>
  joinP Unit (fun k =>
  xk (Option.isNone i) (
  R (.returned (Value.string (ByteArray.mk #[]))) w_1) (
  zu i fun p =>
  ld (.int .i64) (Addr.add p 1) w_1 fun (t14:Int) =>
  xk (t14 != 0) (
  R (.returned (Value.string (ByteArray.mk #[]))) w_1) (
  k () w_1))) (fun _ w_2 =>
  zaz P (Builtin.max_ #[zdf,zdf] zdf #[(Value.int .i64 most),(Value.int .i64 0)]) (.int .i64) w_2 fun (t19:Int) =>
  cvI .u64 t19 fun t20 =>
  xk (decide (t7 > t20)) (
  xg P zct #[(Value.pointer i),(Value.int .i64 2)] [] true w_2 fun (_:Unit) w_3 =>
  R (.returned (Value.string (ByteArray.mk #[]))) w_3) (
  cvI .i64 t7 fun t26 =>
  xg P zfu #[(Value.pointer i),(Value.int .i64 t26)] [.slc] false w_2 fun (t27:(Option Addr × Nat × Nat)) w_4 =>
  zaz P (convert zh qc (Value.slice t27.1 t27.2.1 t27.2.2)) .str w_4 fun (t28:ByteArray) =>
  R (.returned (Value.string t28)) w_4))
theorem zxg (i:Option Addr) (most:Int) (R:Ending→World→Prop) (w:World):tr P qs ((Tryz.f177.body).getD .skip) zjh (zb5 0 [(0,(Value.pointer i)),(0,(Value.int .i64 most))]) (zco P Tryz.f177.results.toList R) w=zmw i most R w:=by kernel_rfl
theorem zxq {i:Option Addr} {most:Int} {R:Ending→World→Prop} {w:World} (hT:zmw i most R w):qj P zik #[(Value.pointer i),(Value.int .i64 most)] w R :=
 zx (fn:=Tryz.f177) (c:=(Tryz.f177.body).getD .skip) (ann:=zjh) (args:=[(0,(Value.pointer i)),(0,(Value.int .i64 most))]) (qs:=qs) mixed Tryz.func177 rfl (by kernel_rfl) (by kernel_rfl) zx6 ((zxg i most R w).symm ▸ hT)
def zmr:Ann:=(.seq .leaf (.seq .leaf .leaf))
theorem z5c:okC P qs Tryz.f178.ntmps ((Tryz.f178.body).getD .skip) zmr=true:=by kernel_rfl
def zlm (size:Int) (R:Ending→World→Prop) (w:World):Prop :=
  zba .i64 size 64 fun t4 =>
  zo9 .i64 t4 1 fun t5 =>
  qig .i64 t5 64 fun t6 =>
  R (.returned (Value.int .i64 t6)) w
theorem z5w (size:Int) (R:Ending→World→Prop) (w:World):tr P qs ((Tryz.f178.body).getD .skip) zmr (zb5 0 [(0,(Value.int .i64 size))]) (zco P Tryz.f178.results.toList R) w=zlm size R w:=by kernel_rfl
theorem ztr {size:Int} {R:Ending→World→Prop} {w:World} (hT:zlm size R w):qj P ziv #[(Value.int .i64 size)] w R :=
 zx (fn:=Tryz.f178) (c:=(Tryz.f178.body).getD .skip) (ann:=zmr) (args:=[(0,(Value.int .i64 size))]) (qs:=qs) mixed Tryz.func178 rfl (by kernel_rfl) (by kernel_rfl) z5c ((z5w size R w).symm ▸ hT)
def zgy:Ann:=(.seq .leaf (.seq .leaf (.seq (.tree (.op 1 [] (.op 0 [] (.op 2 [0] (.op 3 [] .done))))) (.seq .leaf .leaf))))
theorem zu6:okC P qs Tryz.f179.ntmps ((Tryz.f179.body).getD .skip) zgy=true:=by kernel_rfl
def zi5 (i:Option Addr) (R:Ending→World→Prop) (w:World):Prop :=
  zbn (zc P zf) zf w fun b2 w_1 =>
  zbn (zc P zf) zf w_1 fun b3 w_2 =>
  zbi w_2 fun w_3 =>
  zaz P (Instr.sliceAt zf (Value.pointer (some (⟨b3,0,none⟩:Addr))) none none none) .slc w_3 fun (t4:(Option Addr × Nat × Nat)) =>
  xg P zfu #[(Value.pointer i),(Value.int .i64 32)] [.slc] false w_3 fun (t6:(Option Addr × Nat × Nat)) w_4 =>
  ((zaz P (Instr.sliceAt zf (Value.pointer (some (⟨b3,0,none⟩:Addr))) none none none) .slc w_4 fun (t4_1:(Option Addr × Nat × Nat)) =>
  (Value.slice t4_1.1 t4_1.2.1 t4_1.2.2)=(Value.slice t4.1 t4.2.1 t4.2.2)) ∧
  zal P (Builtin.copy_ #[zh,zh] zdf #[(Value.slice t4.1 t4.2.1 t4.2.2),(Value.slice t6.1 t6.2.1 t6.2.2)]) (.int .i64) w_4 fun (_:Int) w_5 =>
  ldA P 32 (⟨b3,0,none⟩:Addr) w_5 fun t8 =>
  zby P (storeVar zf (⟨b2,0,none⟩:Addr) (Value.agg t8)) w_5 fun w_6 =>
  ldA P 32 (⟨b2,0,none⟩:Addr) w_6 fun t2 =>
  R (.returned (Value.agg t2)) w_6)
theorem zvc (i:Option Addr) (R:Ending→World→Prop) (w:World):tr P qs ((Tryz.f179.body).getD .skip) zgy (zb5 0 [(0,(Value.pointer i))]) (zco P Tryz.f179.results.toList R) w=zi5 i R w:=by kernel_rfl
theorem zvh {i:Option Addr} {R:Ending→World→Prop} {w:World} (hT:zi5 i R w):qj P zf1 #[(Value.pointer i)] w R :=
 zx (fn:=Tryz.f179) (c:=(Tryz.f179.body).getD .skip) (ann:=zgy) (args:=[(0,(Value.pointer i))]) (qs:=qs) mixed Tryz.func179 rfl (by kernel_rfl) (by kernel_rfl) zu6 ((zvc i R w).symm ▸ hT)
def zkl:Ann:=(.seq .leaf (.seq .leaf (.seq (.seq .leaf (.blk (.loop [(3,.str),(8,.int .i64)] (.seq .leaf (.seq (.cond .leaf .leaf) (.seq (.jblk [(3,.str)] (.seq .leaf (.join [] (.seq .leaf (.cond (.seq .leaf .leaf) .leaf)) (.seq .leaf (.jblk [(3,.str)] (.seq (.blk (.join [] (.jblk [] (.blk (.seq (.seq (.seq .leaf (.cond .leaf .leaf)) (.seq .leaf (.cond .leaf .leaf))) .leaf))) (.seq .leaf .leaf))) (.seq (.seq .leaf .leaf) .leaf))))))) .leaf)))))) (.seq .leaf .leaf))))
theorem z1u:okC P qs Tryz.f180.ntmps ((Tryz.f180.body).getD .skip) zkl=true:=by kernel_rfl
def zn4 (items:Option Addr) (items_l items_c:Nat) (R:Ending→World→Prop) (w:World):Prop :=
  zaw (ByteArray × Int) (fun s w_1 k =>
  xk (decide (s.2 < (items_l:Int))) (
  joinP ByteArray (fun k_1 =>
  ixS items items_l 34 s.2 fun t10 =>
  ldA P 34 t10 w_1 fun t11 =>
  zbn (zc P ql) ql w_1 fun b5 w_2 =>
  zby P (storeVar ql (⟨b5,0,none⟩:Addr) (Value.agg t11)) w_2 fun w_3 =>
  joinP Unit (fun k_2 =>
  ld .str (⟨b5,0,none⟩:Addr) w_3 fun (t13:ByteArray) =>
  xk ((Op.bytesLess t13.toList s.1.toList) || (t13.toList == s.1.toList)) (
  R (.returned (Value.bool false)) w_3) (
  ld .str (⟨b5,0,none⟩:Addr) w_3 fun (t18:ByteArray) =>
  zal P (Instr.buildSlice qp 1 #[(0,(Value.string t18))]) .slc w_3 fun (t19:(Option Addr × Nat × Nat)) w_4 =>
  xg P znc #[(Value.slice t19.1 t19.2.1 t19.2.2)] [.int .i64] false w_4 fun (t20:Int) w_5 =>
  xk (t20 != 0) (
  R (.returned (Value.bool false)) w_5) (
  k_2 () w_5))) (fun _ w_6 =>
  ld (.int .i64) (⟨b5,1,none⟩:Addr) w_6 fun (t24:Int) =>
  joinP ByteArray (fun k_3 =>
  joinP Unit (fun k_4 =>
  joinP Unit (fun k_5 =>
  xk (t24 == 2) (
  k_5 () w_6) (
  xk (t24 == 3) (
  k_5 () w_6) (
  R (.returned (Value.bool false)) w_6))) (fun _ w_7 =>
  k_4 () w_7)) (fun _ w_8 =>
  ld .str (⟨b5,0,none⟩:Addr) w_8 fun (t30:ByteArray) =>
  k_3 t30 w_8)) (fun s_4 w_9 =>
  k_1 s_4 w_9))) (fun s_5 w_10 =>
  zba .i64 s.2 1 fun t31 =>
  k (s_5,t31) w_10)) (
  R (.returned (Value.bool (decide ((items_l:Int)≤64)))) w_1)) ((ByteArray.mk #[]),0) w
theorem z1v (items:Option Addr) (items_l items_c:Nat) (R:Ending→World→Prop) (w:World):tr P qs ((Tryz.f180.body).getD .skip) zkl (zb5 0 [(0,(Value.slice items items_l items_c))]) (zco P Tryz.f180.results.toList R) w=zn4 items items_l items_c R w:=by kernel_rfl
theorem z1c {items:Option Addr} {items_l items_c:Nat} {R:Ending→World→Prop} {w:World} (hT:zn4 items items_l items_c R w):qj P zo8 #[(Value.slice items items_l items_c)] w R :=
 zx (fn:=Tryz.f180) (c:=(Tryz.f180.body).getD .skip) (ann:=zkl) (args:=[(0,(Value.slice items items_l items_c))]) (qs:=qs) mixed Tryz.func180 rfl (by kernel_rfl) (by kernel_rfl) z1u ((z1v items items_l items_c R w).symm ▸ hT)
def zjg:Ann:=(.seq .leaf (.join [] (.seq .leaf (.cond (.seq .leaf .leaf) .leaf)) (.seq (.seq .leaf (.cond (.seq .leaf (.seq .leaf .leaf)) .leaf)) (.seq .leaf (.seq .leaf (.seq .leaf .leaf))))))
theorem zxt:okC P qs Tryz.f204.ntmps ((Tryz.f204.body).getD .skip) zjg=true:=by kernel_rfl
def zmd (i:Option Addr) (R:Ending→World→Prop) (w:World):Prop :=
  joinP Unit (fun k =>
  xk (Option.isNone i) (
  R (.returned (Value.tuple #[(Value.int .u8 0),(Value.bool false)])) w) (
  zu i fun p =>
  ld (.int .i64) (Addr.add p 1) w fun (t11:Int) =>
  xk (t11 != 0) (
  R (.returned (Value.tuple #[(Value.int .u8 0),(Value.bool false)])) w) (
  k () w))) (fun _ w_1 =>
  zu i fun p_1 =>
  ld .slc p_1 w_1 fun (t17:(Option Addr × Nat × Nat)) =>
  xk ((t17.2.1:Int) == 0) (
  xg P zct #[(Value.pointer i),(Value.int .i64 20)] [] true w_1 fun (_:Unit) w_2 =>
  R (.returned (Value.tuple #[(Value.int .u8 0),(Value.bool false)])) w_2) (
  zu i fun p_2 =>
  ld .slc p_2 w_1 fun (t25:(Option Addr × Nat × Nat)) =>
  ixS t25.1 t25.2.1 1 0 fun t26 =>
  ld (.int .u8) t26 w_1 fun (t27:Int) =>
  zu i fun p_3 =>
  ld .slc p_3 w_1 fun (t32:(Option Addr × Nat × Nat)) =>
  zaz P (Instr.sliceAt zh (Value.slice t32.1 t32.2.1 t32.2.2) (some (Value.int .i64 1)) none none) .slc w_1 fun (t33:(Option Addr × Nat × Nat)) =>
  zu i fun p_4 =>
  stC p_4 (Value.slice t33.1 t33.2.1 t33.2.2) w_1 fun w_3 =>
  R (.returned (Value.tuple #[(Value.int .u8 t27),(Value.bool true)])) w_3))
theorem zzb (i:Option Addr) (R:Ending→World→Prop) (w:World):tr P qs ((Tryz.f204.body).getD .skip) zjg (zb5 0 [(0,(Value.pointer i))]) (zco P Tryz.f204.results.toList R) w=zmd i R w:=by kernel_rfl
theorem zyv {i:Option Addr} {R:Ending→World→Prop} {w:World} (hT:zmd i R w):qj P zl9 #[(Value.pointer i)] w R :=
 zx (fn:=Tryz.f204) (c:=(Tryz.f204.body).getD .skip) (ann:=zjg) (args:=[(0,(Value.pointer i))]) (qs:=qs) mixed Tryz.func204 rfl (by kernel_rfl) (by kernel_rfl) zxt ((zzb i R w).symm ▸ hT)
def zjo:Ann:=.leaf
theorem zyp:okC P qs Tryz.f205.ntmps ((Tryz.f205.body).getD .skip) zjo=true:=by kernel_rfl
def zma (i:Option Addr) (e:Int) (R:Ending→World→Prop) (w:World):Prop :=
  zu i fun p =>
  stC p (Value.slice none 0 0) w fun w_1 =>
  zu i fun p_1 =>
  stC (Addr.add p_1 1) (Value.int .i64 e) w_1 fun w_2 =>
  R (.returned (Value.tuple #[])) w_2
theorem zx0 (i:Option Addr) (e:Int) (R:Ending→World→Prop) (w:World):tr P qs ((Tryz.f205.body).getD .skip) zjo (zb5 0 [(0,(Value.pointer i)),(0,(Value.int .i64 e))]) (zco P Tryz.f205.results.toList R) w=zma i e R w:=by kernel_rfl
theorem zy0 {i:Option Addr} {e:Int} {R:Ending→World→Prop} {w:World} (hT:zma i e R w):qj P zct #[(Value.pointer i),(Value.int .i64 e)] w R :=
 zx (fn:=Tryz.f205) (c:=(Tryz.f205.body).getD .skip) (ann:=zjo) (args:=[(0,(Value.pointer i)),(0,(Value.int .i64 e))]) (qs:=qs) mixed Tryz.func205 rfl (by kernel_rfl) (by kernel_rfl) zyp ((zx0 i e R w).symm ▸ hT)
def zjc:Ann:=(.seq .leaf (.join [] (.seq .leaf (.cond (.seq .leaf .leaf) .leaf)) (.seq (.seq .leaf (.cond (.seq .leaf (.seq .leaf .leaf)) .leaf)) (.seq .leaf (.seq .leaf (.seq .leaf .leaf))))))
theorem zyf:okC P qs Tryz.f206.ntmps ((Tryz.f206.body).getD .skip) zjc=true:=by kernel_rfl
def zij (i:Option Addr) (n:Int) (R:Ending→World→Prop) (w:World):Prop :=
  joinP Unit (fun k =>
  xk (Option.isNone i) (
  R (.returned (Value.slice none 0 0)) w) (
  zu i fun p =>
  ld (.int .i64) (Addr.add p 1) w fun (t12:Int) =>
  xk (t12 != 0) (
  R (.returned (Value.slice none 0 0)) w) (
  k () w))) (fun _ w_1 =>
  zu i fun p_1 =>
  ld .slc p_1 w_1 fun (t19:(Option Addr × Nat × Nat)) =>
  xk (decide (n > (t19.2.1:Int))) (
  xg P zct #[(Value.pointer i),(Value.int .i64 20)] [] true w_1 fun (_:Unit) w_2 =>
  R (.returned (Value.slice none 0 0)) w_2) (
  zu i fun p_2 =>
  ld .slc p_2 w_1 fun (t27:(Option Addr × Nat × Nat)) =>
  zaz P (Instr.sliceAt zh (Value.slice t27.1 t27.2.1 t27.2.2) none (some (Value.int .i64 n)) none) .slc w_1 fun (t29:(Option Addr × Nat × Nat)) =>
  zu i fun p_3 =>
  ld .slc p_3 w_1 fun (t34:(Option Addr × Nat × Nat)) =>
  zaz P (Instr.sliceAt zh (Value.slice t34.1 t34.2.1 t34.2.2) (some (Value.int .i64 n)) none none) .slc w_1 fun (t36:(Option Addr × Nat × Nat)) =>
  zu i fun p_4 =>
  stC p_4 (Value.slice t36.1 t36.2.1 t36.2.2) w_1 fun w_3 =>
  R (.returned (Value.slice t29.1 t29.2.1 t29.2.2)) w_3))
theorem zzx (i:Option Addr) (n:Int) (R:Ending→World→Prop) (w:World):tr P qs ((Tryz.f206.body).getD .skip) zjc (zb5 0 [(0,(Value.pointer i)),(0,(Value.int .i64 n))]) (zco P Tryz.f206.results.toList R) w=zij i n R w:=by kernel_rfl
theorem zqh {i:Option Addr} {n:Int} {R:Ending→World→Prop} {w:World} (hT:zij i n R w):qj P zfu #[(Value.pointer i),(Value.int .i64 n)] w R :=
 zx (fn:=Tryz.f206) (c:=(Tryz.f206.body).getD .skip) (ann:=zjc) (args:=[(0,(Value.pointer i)),(0,(Value.int .i64 n))]) (qs:=qs) mixed Tryz.func206 rfl (by kernel_rfl) (by kernel_rfl) zyf ((zzx i n R w).symm ▸ hT)
end Go.Proofs.YtbmegmbnlajbbaaGreatDoor
