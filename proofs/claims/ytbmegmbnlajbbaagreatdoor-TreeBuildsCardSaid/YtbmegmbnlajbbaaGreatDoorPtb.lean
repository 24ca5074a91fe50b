/- Part 2 of the texts below the card, joined. -/
import Derived.Test.YtbmegmbnlajbbaaGreatDoorProg
import Derived.Test.YtbmegmbnlajbbaaGreatDoorPta
namespace Go.Proofs.YtbmegmbnlajbbaaGreatDoor
open Go Go.Fw Go.Proofs
set_option maxRecDepth 100000
noncomputable abbrev P : Program := Tryz.prog
def qs : List FuncId := [93, 203, 172, 157, 200, 156, 187]
theorem mixed : P.follows .mixedOrders = true := by kernel_rfl
abbrev zit : FuncId := 3
abbrev zoe : FuncId := 10
abbrev zy7 : FuncId := 11
abbrev zpz : FuncId := 12
abbrev zxl : FuncId := 13
abbrev zfb : FuncId := 14
abbrev zrr : FuncId := 15
abbrev zna : FuncId := 16
abbrev ze0 : FuncId := 17
abbrev zey : FuncId := 18
abbrev zd3 : FuncId := 19
abbrev zih : FuncId := 20
abbrev zrd : FuncId := 21
abbrev zj6 : FuncId := 40
abbrev zp4 : FuncId := 52
abbrev zsa : FuncId := 53
abbrev zo3 : FuncId := 54
abbrev zph : FuncId := 55
abbrev zh9 : FuncId := 56
abbrev zb0 : FuncId := 57
abbrev zn0 : FuncId := 58
abbrev zk0 : FuncId := 59
abbrev zeh : FuncId := 60
abbrev zm7 : FuncId := 61
abbrev zre : FuncId := 62
abbrev zds : FuncId := 63
abbrev zp8 : FuncId := 64
abbrev zjn : FuncId := 69
abbrev zil : FuncId := 73
abbrev zm1 : FuncId := 77
abbrev zmy : FuncId := 78
abbrev zeo : FuncId := 82
abbrev znj : FuncId := 85
abbrev zdn : FuncId := 93
abbrev zlk : FuncId := 94
abbrev ztf : FuncId := 100
abbrev zh0 : FuncId := 103
abbrev zbu : FuncId := 104
abbrev zm4 : FuncId := 105
abbrev zal : FuncId := 106
abbrev zl3 : FuncId := 107
abbrev zmb : FuncId := 108
abbrev zce : FuncId := 109
abbrev zfu : FuncId := 110
abbrev zj7 : FuncId := 111
abbrev zmp : FuncId := 112
abbrev zdk : FuncId := 113
abbrev znx : FuncId := 114
abbrev zb9 : FuncId := 115
abbrev zm3 : FuncId := 116
abbrev zhu : FuncId := 117
abbrev zid : FuncId := 118
abbrev zp6 : FuncId := 119
abbrev zlb : FuncId := 120
abbrev zom : FuncId := 121
abbrev zhr : FuncId := 122
abbrev zhp : FuncId := 123
abbrev zj3 : FuncId := 130
abbrev zp2 : FuncId := 131
abbrev zsd : FuncId := 132
abbrev zdo : FuncId := 133
abbrev zmh : FuncId := 134
abbrev znm : FuncId := 135
abbrev zri : FuncId := 137
abbrev zq6 : FuncId := 138
abbrev zoh : FuncId := 139
abbrev zlc : FuncId := 140
abbrev zkd : FuncId := 151
abbrev zbc : FuncId := 154
abbrev zbt : FuncId := 155
abbrev zgc : FuncId := 156
abbrev zjs : FuncId := 157
abbrev zmr : FuncId := 158
abbrev za9 : FuncId := 159
abbrev zak : FuncId := 162
abbrev zd0 : FuncId := 163
abbrev zet : FuncId := 164
abbrev zao : FuncId := 165
abbrev zbl : FuncId := 166
abbrev zbm : FuncId := 167
abbrev zdw : FuncId := 168
abbrev zgn : FuncId := 169
abbrev zfg : FuncId := 170
abbrev zi6 : FuncId := 171
abbrev zqy : FuncId := 172
abbrev zju : FuncId := 173
abbrev zkk : FuncId := 174
abbrev zmk : FuncId := 175
abbrev zed : FuncId := 176
abbrev zia : FuncId := 177
abbrev zij : FuncId := 178
abbrev zf0 : FuncId := 179
abbrev znt : FuncId := 180
abbrev zfl : FuncId := 184
abbrev zb6 : FuncId := 187
abbrev zfz : FuncId := 188
abbrev zm6 : FuncId := 189
abbrev ze1 : FuncId := 200
abbrev zbx : FuncId := 201
abbrev zeu : FuncId := 202
abbrev jo : FuncId := 203
abbrev zlt : FuncId := 204
abbrev zcj : FuncId := 205
abbrev zfv : FuncId := 206
abbrev zog : FuncId := 207
abbrev zdl : FuncId := 216
abbrev zhe : FuncId := 222
abbrev zem : FuncId := 223
abbrev zps : FuncId := 224
abbrev zc6 : FuncId := 228
abbrev za5 : FuncId := 231
abbrev zea : FuncId := 232
abbrev zk5 : FuncId := 233
abbrev ze2 : FuncId := 234
abbrev zde : FuncId := 235
abbrev zlp : TypeId := 0
abbrev zdx : TypeId := 3
abbrev z5b : TypeId := 4
abbrev qy : TypeId := 5
abbrev qx : TypeId := 9
abbrev zo : TypeId := 22
abbrev zf : TypeId := 30
abbrev zeg : TypeId := 31
abbrev vw : TypeId := 37
abbrev ze3 : TypeId := 39
abbrev zl : TypeId := 44
abbrev zh : TypeId := 45
abbrev jy : TypeId := 59
abbrev zbg : TypeId := 63
abbrev zah : TypeId := 84
abbrev qj : TypeId := 88
abbrev zqp : TypeId := 101
abbrev zab : TypeId := 102
abbrev zic : TypeId := 104
abbrev zaq : TypeId := 105
abbrev jr : TypeId := 108
abbrev jg : TypeId := 111
abbrev zck : TypeId := 112
abbrev zi : TypeId := 114
abbrev ql : TypeId := 115
abbrev zy : TypeId := 117
abbrev zdd : TypeId := 162
abbrev zqa : TypeId := 163
abbrev jq : TypeId := 164
abbrev zaf : TypeId := 165
abbrev zbk : TypeId := 187
abbrev zby : TypeId := 198
abbrev qg3 : TypeId := 227
abbrev zei : TypeId := 247
abbrev ji : TypeId := 249
abbrev zgi : TypeId := 258
abbrev zu9 : TypeId := 264
abbrev zar : TypeId := 266
abbrev zmt : TypeId := 267
abbrev zmu : TypeId := 269
abbrev zst : TypeId := 286
abbrev zi1 : TypeId := 303
def zpc : Ann := (.seq .leaf (.seq .leaf .leaf))
theorem z9o : okC P qs Tryz.f93.ntmps ((Tryz.f93.body).getD .skip) zpc = true := by kernel_rfl
def zu5 (x : Int) (n : Int) (R : Ending → World → Prop) (w : World) : Prop :=
  z4j .u32 x n fun t7 =>
  zow .u64 32 n fun t10 =>
  qgz .u32 x t10 fun t11 =>
  orI .u32 t7 t11 fun t12 =>
  R (.returned (Value.int .u32 t12)) w
theorem z9a (x : Int) (n : Int) (R : Ending → World → Prop) (w : World) : tr P qs ((Tryz.f93.body).getD .skip) zpc (zcb 0 [(0, (Value.int .u32 x)), (0, (Value.int .u64 n))]) (zcl P Tryz.f93.results.toList R) w = zu5 x n R w := by kernel_rfl
theorem z9y {x : Int} {n : Int} {R : Ending → World → Prop} {w : World} (hT : zu5 x n R w) : qg P zdn #[(Value.int .u32 x), (Value.int .u64 n)] w R :=
 zx (fn := Tryz.f93) (c := (Tryz.f93.body).getD .skip) (ann := zpc) (args := [(0, (Value.int .u32 x)), (0, (Value.int .u64 n))]) (qs := qs) mixed Tryz.func93 rfl (by kernel_rfl) (by kernel_rfl) z9o ((z9a x n R w).symm ▸ hT)
def zdj : Ann := (.seq .leaf (.seq .leaf (.seq .leaf .leaf)))
theorem zl0 : okC P qs Tryz.f203.ntmps ((Tryz.f203.body).getD .skip) zdj = true := by kernel_rfl
def zd1 (x : Int) (k : Int) (R : Ending → World → Prop) (w : World) : Prop :=
  cvI .u64 k fun t7 =>
  qac .u64 t7 31 fun t8 =>
  qgz .u32 x t8 fun t11 =>
  zow .u64 32 t8 fun t14 =>
  z4j .u32 x t14 fun t15 =>
  orI .u32 t11 t15 fun t16 =>
  R (.returned (Value.int .u32 t16)) w
theorem zlm (x : Int) (k : Int) (R : Ending → World → Prop) (w : World) : tr P qs ((Tryz.f203.body).getD .skip) zdj (zcb 0 [(0, (Value.int .u32 x)), (0, (Value.int .i64 k))]) (zcl P Tryz.f203.results.toList R) w = zd1 x k R w := by kernel_rfl
theorem zll {x : Int} {k : Int} {R : Ending → World → Prop} {w : World} (hT : zd1 x k R w) : qg P jo #[(Value.int .u32 x), (Value.int .i64 k)] w R :=
 zx (fn := Tryz.f203) (c := (Tryz.f203.body).getD .skip) (ann := zdj) (args := [(0, (Value.int .u32 x)), (0, (Value.int .i64 k))]) (qs := qs) mixed Tryz.func203 rfl (by kernel_rfl) (by kernel_rfl) zl0 ((zlm x k R w).symm ▸ hT)
def zno : Ann := (.seq .leaf (.seq .leaf .leaf))
theorem z6o : okC P qs Tryz.f172.ntmps ((Tryz.f172.body).getD .skip) zno = true := by kernel_rfl
def zrx (c : Int) (R : Ending → World → Prop) (w : World) : Prop :=
  xk (decide (c ≥ 97)) (
  xk (decide (c ≤ 122)) (
  R (.returned (Value.bool true)) w) (
  xk (decide (c ≥ 65)) (
  xk (decide (c ≤ 90)) (
  R (.returned (Value.bool true)) w) (
  xk (decide (c ≥ 48)) (
  xk (decide (c ≤ 57)) (
  R (.returned (Value.bool true)) w) (
  xk (c == 46) (
  R (.returned (Value.bool true)) w) (
  xk (c == 95) (
  R (.returned (Value.bool true)) w) (
  R (.returned (Value.bool (c == 45))) w)))) (
  xk (c == 46) (
  R (.returned (Value.bool true)) w) (
  xk (c == 95) (
  R (.returned (Value.bool true)) w) (
  R (.returned (Value.bool (c == 45))) w))))) (
  xk (decide (c ≥ 48)) (
  xk (decide (c ≤ 57)) (
  R (.returned (Value.bool true)) w) (
  xk (c == 46) (
  R (.returned (Value.bool true)) w) (
  xk (c == 95) (
  R (.returned (Value.bool true)) w) (
  R (.returned (Value.bool (c == 45))) w)))) (
  xk (c == 46) (
  R (.returned (Value.bool true)) w) (
  xk (c == 95) (
  R (.returned (Value.bool true)) w) (
  R (.returned (Value.bool (c == 45))) w)))))) (
  xk (decide (c ≥ 65)) (
  xk (decide (c ≤ 90)) (
  R (.returned (Value.bool true)) w) (
  xk (decide (c ≥ 48)) (
  xk (decide (c ≤ 57)) (
  R (.returned (Value.bool true)) w) (
  xk (c == 46) (
  R (.returned (Value.bool true)) w) (
  xk (c == 95) (
  R (.returned (Value.bool true)) w) (
  R (.returned (Value.bool (c == 45))) w)))) (
  xk (c == 46) (
  R (.returned (Value.bool true)) w) (
  xk (c == 95) (
  R (.returned (Value.bool true)) w) (
  R (.returned (Value.bool (c == 45))) w))))) (
  xk (decide (c ≥ 48)) (
  xk (decide (c ≤ 57)) (
  R (.returned (Value.bool true)) w) (
  xk (c == 46) (
  R (.returned (Value.bool true)) w) (
  xk (c == 95) (
  R (.returned (Value.bool true)) w) (
  R (.returned (Value.bool (c == 45))) w)))) (
  xk (c == 46) (
  R (.returned (Value.bool true)) w) (
  xk (c == 95) (
  R (.returned (Value.bool true)) w) (
  R (.returned (Value.bool (c == 45))) w)))))
theorem z5u (c : Int) (R : Ending → World → Prop) (w : World) : tr P qs ((Tryz.f172.body).getD .skip) zno (zcb 0 [(0, (Value.int .u8 c))]) (zcl P Tryz.f172.results.toList R) w = zrx c R w := by kernel_rfl
theorem z4m {c : Int} {R : Ending → World → Prop} {w : World} (hT : zrx c R w) : qg P zqy #[(Value.int .u8 c)] w R :=
 zx (fn := Tryz.f172) (c := (Tryz.f172.body).getD .skip) (ann := zno) (args := [(0, (Value.int .u8 c))]) (qs := qs) mixed Tryz.func172 rfl (by kernel_rfl) (by kernel_rfl) z6o ((z5u c R w).symm ▸ hT)
def zj5 : Ann := (.seq .leaf (.join [] (.jblk [] (.join [] (.jblk [] (.jblk [] (.jblk [] (.join [] (.join [] (.seq .leaf (.cond .leaf .leaf)) (.join [] (.seq .leaf (.cond .leaf .leaf)) (.seq .leaf (.cond .leaf .leaf)))) .leaf)))) (.seq (.seq .leaf .leaf) .leaf))) (.seq .leaf .leaf)))
theorem zzx : okC P qs Tryz.f157.ntmps ((Tryz.f157.body).getD .skip) zj5 = true := by kernel_rfl
def znd (c : Int) (R : Ending → World → Prop) (w : World) : Prop :=
  joinP Unit (fun k =>
  joinP Unit (fun k_1 =>
  joinP Unit (fun k_2 =>
  joinP Unit (fun k_3 =>
  joinP Unit (fun k_4 =>
  joinP Unit (fun k_5 =>
  joinP Unit (fun k_6 =>
  joinP Unit (fun k_7 =>
  xk (c == 46) (
  k_5 () w) (
  xk (c == 95) (
  k_5 () w) (
  xk (c == 45) (
  k_5 () w) (
  k_7 () w)))) (fun _ w_1 =>
  joinP Unit (fun k_8 =>
  xk (decide (c ≥ 48)) (
  xk (decide (c ≤ 57)) (
  k_4 () w_1) (
  k_8 () w_1)) (
  k_8 () w_1)) (fun _ w_2 =>
  xk (decide (c ≥ 97)) (
  xk (decide (c ≤ 122)) (
  k_3 () w_2) (
  k_6 () w_2)) (
  k_6 () w_2)))) (fun _ w_3 =>
  k_1 () w_3)) (fun _ w_4 =>
  k_4 () w_4)) (fun _ w_5 =>
  k_3 () w_5)) (fun _ w_6 =>
  k_2 () w_6)) (fun _ w_7 =>
  R (.returned (Value.bool true)) w_7)) (fun _ w_8 =>
  k () w_8)) (fun _ w_9 =>
  xk (decide (c ≥ 65)) (
  R (.returned (Value.bool (decide (c ≤ 90)))) w_9) (
  R (.returned (Value.bool false)) w_9))
theorem z0b (c : Int) (R : Ending → World → Prop) (w : World) : tr P qs ((Tryz.f157.body).getD .skip) zj5 (zcb 0 [(0, (Value.int .u8 c))]) (zcl P Tryz.f157.results.toList R) w = znd c R w := by kernel_rfl
theorem z0i {c : Int} {R : Ending → World → Prop} {w : World} (hT : znd c R w) : qg P zjs #[(Value.int .u8 c)] w R :=
 zx (fn := Tryz.f157) (c := (Tryz.f157.body).getD .skip) (ann := zj5) (args := [(0, (Value.int .u8 c))]) (qs := qs) mixed Tryz.func157 rfl (by kernel_rfl) (by kernel_rfl) zzx ((z0b c R w).symm ▸ hT)
def zfs : Ann := (.seq .leaf (.seq .leaf .leaf))
theorem zsb : okC P qs Tryz.f200.ntmps ((Tryz.f200.body).getD .skip) zfs = true := by kernel_rfl
def zg4 (x : ByteArray) (R : Ending → World → Prop) (w : World) : Prop :=
  R (.returned (Value.bool (!(x.toList == x.toList)))) w
theorem zqx (x : ByteArray) (R : Ending → World → Prop) (w : World) : tr P qs ((Tryz.f200.body).getD .skip) zfs (zcb 0 [(0, (Value.string x))]) (zcl P Tryz.f200.results.toList R) w = zg4 x R w := by kernel_rfl
theorem zqw {x : ByteArray} {R : Ending → World → Prop} {w : World} (hT : zg4 x R w) : qg P ze1 #[(Value.string x)] w R :=
 zx (fn := Tryz.f200) (c := (Tryz.f200.body).getD .skip) (ann := zfs) (args := [(0, (Value.string x))]) (qs := qs) mixed Tryz.func200 rfl (by kernel_rfl) (by kernel_rfl) zsb ((zqx x R w).symm ▸ hT)
def ze7 : Ann := (.seq .leaf (.seq .leaf .leaf))
theorem zqf : okC P qs Tryz.f156.ntmps ((Tryz.f156.body).getD .skip) ze7 = true := by kernel_rfl
def zge (s : ByteArray) (prefixv : ByteArray) (R : Ending → World → Prop) (w : World) : Prop :=
  zgp P zb6 #[(Value.string s), (Value.string prefixv)] [.bool] false w fun (t7 : Bool) =>
  R (.returned (Value.bool t7)) w
theorem zqh (s : ByteArray) (prefixv : ByteArray) (R : Ending → World → Prop) (w : World) : tr P qs ((Tryz.f156.body).getD .skip) ze7 (zcb 0 [(0, (Value.string s)), (0, (Value.string prefixv))]) (zcl P Tryz.f156.results.toList R) w = zge s prefixv R w := by kernel_rfl
theorem zqi {s : ByteArray} {prefixv : ByteArray} {R : Ending → World → Prop} {w : World} (hT : zge s prefixv R w) : qg P zgc #[(Value.string s), (Value.string prefixv)] w R :=
 zx (fn := Tryz.f156) (c := (Tryz.f156.body).getD .skip) (ann := ze7) (args := [(0, (Value.string s)), (0, (Value.string prefixv))]) (qs := qs) mixed Tryz.func156 rfl (by kernel_rfl) (by kernel_rfl) zqf ((zqh s prefixv R w).symm ▸ hT)
def zbq : Ann := (.seq .leaf (.seq .leaf .leaf))
theorem zgx : okC P qs Tryz.f187.ntmps ((Tryz.f187.body).getD .skip) zbq = true := by kernel_rfl
def zb2 (s : ByteArray) (prefixv : ByteArray) (R : Ending → World → Prop) (w : World) : Prop :=
  xk (decide ((s.size : Int) ≥ (prefixv.size : Int))) (
  za0 P (Instr.sliceAt qx (Value.string s) none (some (Value.int .i64 (prefixv.size : Int))) none) .str w fun (t14 : ByteArray) =>
  R (.returned (Value.bool (t14.toList == prefixv.toList))) w) (
  R (.returned (Value.bool false)) w)
theorem zhf (s : ByteArray) (prefixv : ByteArray) (R : Ending → World → Prop) (w : World) : tr P qs ((Tryz.f187.body).getD .skip) zbq (zcb 0 [(0, (Value.string s)), (0, (Value.string prefixv))]) (zcl P Tryz.f187.results.toList R) w = zb2 s prefixv R w := by kernel_rfl
theorem zg8 {s : ByteArray} {prefixv : ByteArray} {R : Ending → World → Prop} {w : World} (hT : zb2 s prefixv R w) : qg P zb6 #[(Value.string s), (Value.string prefixv)] w R :=
 zx (fn := Tryz.f187) (c := (Tryz.f187.body).getD .skip) (ann := zbq) (args := [(0, (Value.string s)), (0, (Value.string prefixv))]) (qs := qs) mixed Tryz.func187 rfl (by kernel_rfl) (by kernel_rfl) zgx ((zhf s prefixv R w).symm ▸ hT)
def zr5 : Ann := (.seq .leaf (.seq .leaf (.seq .leaf (.seq (.blk (.loop [(3, .slc)] (.seq (.seq .leaf (.cond .leaf .leaf)) (.blk .leaf)))) (.seq .leaf (.seq (.seq .leaf (.blk (.loop [(3, .slc), (5, .int .i64)] (.seq (.seq .leaf (.cond .leaf .leaf)) (.seq (.blk .leaf) .leaf))))) (.seq .leaf (.seq .leaf (.seq (.seq .leaf (.blk (.loop [(8, .int .i64)] (.seq (.seq .leaf (.cond .leaf .leaf)) (.seq (.blk (.seq (.seq .leaf (.blk (.loop [(9, .int .i64)] (.seq (.seq .leaf (.cond .leaf .leaf)) (.join [] (.jblk [] (.seq (.seq .leaf (.cond (.seq .leaf (.seq (.seq .leaf (.blk (.loop [(10, .int .i64)] (.seq (.seq .leaf (.cond .leaf .leaf)) (.seq (.blk (.tree (.op 0 [] (.op 1 [] (.op 2 [] (.op 5 [] (.op 6 [] (.op 7 [] (.op 8 [] (.op 9 [] (.op 10 [] (.op 11 [] (.op 12 [] (.op 3 [] (.op 4 [] (.op 13 [] (.op 14 [] (.op 15 [] (.op 16 [] (.op 17 [] .done)))))))))))))))))))) .leaf))))) .leaf)) .leaf)) (.seq .leaf (.seq .leaf (.tree (.op 0 [] (.op 1 [] (.op 3 [] (.op 6 [] (.op 7 [] (.op 9 [] (.op 10 [] (.op 11 [] (.op 14 [] (.op 16 [] (.op 19 [] (.op 20 [] (.op 23 [] (.op 24 [] (.op 25 [] (.op 2 [] (.op 4 [] (.op 5 [] (.op 8 [] (.op 12 [] (.op 13 [] (.op 15 [] (.op 17 [] (.op 18 [] (.op 21 [] (.op 22 [] (.op 26 [] (.op 27 [] (.op 28 [] (.op 29 [] .done))))))))))))))))))))))))))))))))))) .leaf))))) (.seq .leaf (.seq (.seq .leaf (.blk (.loop [(14, .int .i64)] (.seq (.seq .leaf (.cond .leaf .leaf)) (.seq (.blk (.seq .leaf (.seq .leaf (.seq (.tree (.op 0 [] (.op 2 [] (.op 4 [] (.op 7 [] (.op 11 [] (.op 12 [] (.op 15 [] (.op 16 [] (.op 17 [] (.op 22 [] (.op 25 [] (.op 26 [] (.op 1 [] (.op 3 [] (.op 5 [] (.op 6 [] (.op 8 [] (.op 9 [] (.op 10 [] (.op 13 [] (.op 14 [] (.op 18 [] (.op 19 [] (.op 20 [] (.op 21 [] (.op 27 [] (.op 23 [1, 13, 18, 27] (.op 24 [] (.op 28 [] (.op 29 [] .done))))))))))))))))))))))))))))))) (.seq (.tree (.op 0 [] (.op 2 [] (.op 5 [] (.op 8 [] (.op 9 [] (.op 12 [] (.op 13 [] (.op 17 [] (.op 19 [] (.op 1 [] (.op 3 [] (.op 4 [] (.op 6 [] (.op 7 [] (.op 10 [] (.op 11 [] (.op 14 [] (.op 15 [] (.op 16 [] (.op 18 [] (.op 20 [] (.op 21 [] (.op 22 [] (.op 23 [] (.op 24 [] .done)))))))))))))))))))))))))) (.seq (.seq .leaf (.blk (.loop [(19, .int .i64)] (.seq (.seq .leaf (.cond .leaf .leaf)) (.seq (.blk .leaf) .leaf))))) (.seq .leaf .leaf))))))) .leaf))))) (.seq .leaf (.blk (.loop [(20, .int .i64)] (.seq (.seq .leaf (.cond .leaf .leaf)) (.seq (.blk (.tree (.op 0 [] (.op 1 [] (.op 2 [] (.op 4 [] (.op 5 [] (.op 3 [] (.op 6 [] (.op 7 [] (.op 8 [] (.op 9 [] .done)))))))))))) .leaf))))))))) .leaf))))) (.seq .leaf (.seq (.seq .leaf (.blk (.loop [(22, .int .i64)] (.seq (.seq .leaf (.cond .leaf .leaf)) (.seq (.blk .leaf) .leaf))))) (.seq .leaf .leaf))))))))))))
theorem qd6 : okC P qs Tryz.f40.ntmps ((Tryz.f40.body).getD .skip) zr5 = true := by kernel_rfl
def zyo (b : Option Addr) (b_l b_c : Nat) (R : Ending → World → Prop) (w : World) : Prop :=
  zbi (zc P zf) zf w fun b2 w_1 =>
  zan P (Instr.buildSlice zh 0 #[]) .slc w_1 fun (t23 : (Option Addr × Nat × Nat)) w_2 =>
  zan P (Builtin.append_ #[zh, zh] zh #[(Value.slice t23.1 t23.2.1 t23.2.2), (Value.slice b b_l b_c)]) .slc w_2 fun (t25 : (Option Addr × Nat × Nat)) w_3 =>
  zan P (Instr.buildSlice zh 1 #[(0, (Value.int .u8 128))]) .slc w_3 fun (t27 : (Option Addr × Nat × Nat)) w_4 =>
  zan P (Builtin.append_ #[zh, zh] zh #[(Value.slice t25.1 t25.2.1 t25.2.2), (Value.slice t27.1 t27.2.1 t27.2.2)]) .slc w_4 fun (t28 : (Option Addr × Nat × Nat)) w_5 =>
  zat (Option Addr × Nat × Nat) (fun s w_6 k =>
  qkd (s.2.1 : Int) 64 fun t31 =>
  xk (t31 != 56) (
  zan P (Instr.buildSlice zh 1 #[(0, (Value.int .u8 0))]) .slc w_6 fun (t34 : (Option Addr × Nat × Nat)) w_7 =>
  zan P (Builtin.append_ #[zh, zh] zh #[(Value.slice s.1 s.2.1 s.2.2), (Value.slice t34.1 t34.2.1 t34.2.2)]) .slc w_7 fun (t35 : (Option Addr × Nat × Nat)) w_8 =>
  k (t35.1, t35.2.1, t35.2.2) w_8) (
  cvI .u64 (b_l : Int) fun t38 =>
  zzg .u64 t38 8 fun t39 =>
  zat ((Option Addr × Nat × Nat) × Int) (fun s_1 w_9 k_1 =>
  xk (decide (s_1.2 < 8)) (
  zzg .i64 8 s_1.2 fun t47 =>
  zow .i64 56 t47 fun t48 =>
  cvI .u64 t48 fun t49 =>
  z4j .u64 t39 t49 fun t50 =>
  cvI .u8 t50 fun t51 =>
  zan P (Instr.buildSlice zh 1 #[(0, (Value.int .u8 t51))]) .slc w_9 fun (t52 : (Option Addr × Nat × Nat)) w_10 =>
  zan P (Builtin.append_ #[zh, zh] zh #[(Value.slice s_1.1.1 s_1.1.2.1 s_1.1.2.2), (Value.slice t52.1 t52.2.1 t52.2.2)]) .slc w_10 fun (t53 : (Option Addr × Nat × Nat)) w_11 =>
  zbb .i64 s_1.2 1 fun t43 =>
  k_1 ((t53.1, t53.2.1, t53.2.2), t43) w_11) (
  za0 P (Instr.build jq #[(0, (Value.int .u32 1779033703)), (1, (Value.int .u32 3144134277)), (2, (Value.int .u32 1013904242)), (3, (Value.int .u32 2773480762)), (4, (Value.int .u32 1359893119)), (5, (Value.int .u32 2600822924)), (6, (Value.int .u32 528734635)), (7, (Value.int .u32 1541459225))]) .any w_9 fun (t54 : Value) =>
  zbi (zc P jq) jq w_9 fun b6 w_12 =>
  zbn P (storeVar jq (⟨b6, 0, none⟩ : Addr) t54) w_12 fun w_13 =>
  zbi (zc P zaf) zaf w_13 fun b7 w_14 =>
  zat Int (fun s_2 w_15 k_2 =>
  xk (decide (s_2 < (s_1.1.2.1 : Int))) (
  zat Int (fun s_3 w_16 k_3 =>
  xk (decide (s_3 < 64)) (
  joinP Unit (fun k_4 =>
  joinP Unit (fun k_5 =>
  xk (decide (s_3 < 16)) (
  ixR (⟨b7, 0, none⟩ : Addr) 64 1 s_3 fun t68 =>
  stC t68 (Value.int .u32 0) w_16 fun w_17 =>
  zat Int (fun s_4 w_18 k_6 =>
  xk (decide (s_4 < 4)) (
  zbj w_18 fun w_19 =>
  ixR (⟨b7, 0, none⟩ : Addr) 64 1 s_3 fun t75 =>
  zzg .i64 4 s_3 fun t81 =>
  zbb .i64 s_2 t81 fun t82 =>
  zbb .i64 t82 s_4 fun t84 =>
  ixS s_1.1.1 s_1.1.2.1 1 t84 fun t85 =>
  ld (.int .u32) t75 w_19 fun (t76 : Int) =>
  qgz .u32 t76 8 fun t77 =>
  ld (.int .u8) t85 w_19 fun (t86 : Int) =>
  cvI .u32 t86 fun t87 =>
  orI .u32 t77 t87 fun t88 =>
  ixR (⟨b7, 0, none⟩ : Addr) 64 1 s_3 fun t89 =>
  stC t89 (Value.int .u32 t88) w_19 fun w_20 =>
  zbb .i64 s_4 1 fun t72 =>
  k_6 t72 w_20) (
  k_5 () w_18)) 0 w_17) (
  zow .i64 s_3 2 fun t91 =>
  ixR (⟨b7, 0, none⟩ : Addr) 64 1 t91 fun t92 =>
  ld (.int .u32) t92 w_16 fun (t93 : Int) =>
  zow .i64 s_3 15 fun t95 =>
  ixR (⟨b7, 0, none⟩ : Addr) 64 1 t95 fun t96 =>
  ld (.int .u32) t96 w_16 fun (t97 : Int) =>
  zbj w_16 fun w_21 =>
  z4j .u32 t93 10 fun t105 =>
  zow .i64 s_3 7 fun t108 =>
  ixR (⟨b7, 0, none⟩ : Addr) 64 1 t108 fun t109 =>
  z4j .u32 t97 3 fun t118 =>
  zow .i64 s_3 16 fun t122 =>
  ixR (⟨b7, 0, none⟩ : Addr) 64 1 t122 fun t123 =>
  zgp P zdn #[(Value.int .u32 t93), (Value.int .u64 17)] [.int .u32] false w_21 fun (t100 : Int) =>
  zgp P zdn #[(Value.int .u32 t93), (Value.int .u64 19)] [.int .u32] false w_21 fun (t102 : Int) =>
  zqv .u32 t100 t102 fun t103 =>
  zqv .u32 t103 t105 fun t106 =>
  ld (.int .u32) t109 w_21 fun (t110 : Int) =>
  zbb .u32 t106 t110 fun t111 =>
  zgp P zdn #[(Value.int .u32 t97), (Value.int .u64 7)] [.int .u32] false w_21 fun (t113 : Int) =>
  zgp P zdn #[(Value.int .u32 t97), (Value.int .u64 18)] [.int .u32] false w_21 fun (t115 : Int) =>
  zqv .u32 t113 t115 fun t116 =>
  zqv .u32 t116 t118 fun t119 =>
  zbb .u32 t111 t119 fun t120 =>
  ld (.int .u32) t123 w_21 fun (t124 : Int) =>
  zbb .u32 t120 t124 fun t125 =>
  ixR (⟨b7, 0, none⟩ : Addr) 64 1 s_3 fun t126 =>
  stC t126 (Value.int .u32 t125) w_21 fun w_22 =>
  k_5 () w_22)) (fun _ w_23 =>
  k_4 () w_23)) (fun _ w_24 =>
  zbb .i64 s_3 1 fun t64 =>
  k_3 t64 w_24)) (
  ldA P 8 (⟨b6, 0, none⟩ : Addr) w_16 fun t127 =>
  zbi (zc P jq) jq w_16 fun b13 w_25 =>
  zbn P (storeVar jq (⟨b13, 0, none⟩ : Addr) (Value.agg t127)) w_25 fun w_26 =>
  zat Int (fun s_7 w_27 k_7 =>
  xk (decide (s_7 < 64)) (
  ld (.int .u32) (⟨b13, 4, none⟩ : Addr) w_27 fun (t133 : Int) =>
  ld (.int .u32) (⟨b13, 0, none⟩ : Addr) w_27 fun (t135 : Int) =>
  zbj w_27 fun w_28 =>
  zqv .u32 4294967295 t133 fun t152 =>
  ixR (⟨b7, 0, none⟩ : Addr) 64 1 s_7 fun t162 =>
  ld (.int .u32) (⟨b13, 7, none⟩ : Addr) w_28 fun (t137 : Int) =>
  zgp P zdn #[(Value.int .u32 t133), (Value.int .u64 6)] [.int .u32] false w_28 fun (t139 : Int) =>
  zgp P zdn #[(Value.int .u32 t133), (Value.int .u64 11)] [.int .u32] false w_28 fun (t141 : Int) =>
  zqv .u32 t139 t141 fun t142 =>
  zgp P zdn #[(Value.int .u32 t133), (Value.int .u64 25)] [.int .u32] false w_28 fun (t144 : Int) =>
  zqv .u32 t142 t144 fun t145 =>
  zbb .u32 t137 t145 fun t146 =>
  ld (.int .u32) (⟨b13, 5, none⟩ : Addr) w_28 fun (t149 : Int) =>
  qac .u32 t133 t149 fun t150 =>
  ld (.int .u32) (⟨b13, 6, none⟩ : Addr) w_28 fun (t154 : Int) =>
  qac .u32 t152 t154 fun t155 =>
  zqv .u32 t150 t155 fun t156 =>
  zbb .u32 t146 t156 fun t157 =>
  ld (.int .u32) t162 w_28 fun (t163 : Int) =>
  qp P zlk #[(Value.int .i64 s_7)] [.int .u32] false w_28 fun (t159 : Int) w_29 =>
  ((ld (.int .u32) t162 w_29 fun (t163_1 : Int) =>
  (Value.int .u32 t163_1) = (Value.int .u32 t163)) ∧
  ((ld (.int .u32) (⟨b13, 6, none⟩ : Addr) w_29 fun (t154_1 : Int) =>
  (Value.int .u32 t154_1) = (Value.int .u32 t154)) ∧
  ((ld (.int .u32) (⟨b13, 5, none⟩ : Addr) w_29 fun (t149_1 : Int) =>
  (Value.int .u32 t149_1) = (Value.int .u32 t149)) ∧
  ((ld (.int .u32) (⟨b13, 7, none⟩ : Addr) w_29 fun (t137_1 : Int) =>
  (Value.int .u32 t137_1) = (Value.int .u32 t137)) ∧
  zbb .u32 t157 t159 fun t160 =>
  zbb .u32 t160 t163 fun t164 =>
  zbj w_29 fun w_30 =>
  zgp P zdn #[(Value.int .u32 t135), (Value.int .u64 2)] [.int .u32] false w_30 fun (t166 : Int) =>
  zgp P zdn #[(Value.int .u32 t135), (Value.int .u64 13)] [.int .u32] false w_30 fun (t168 : Int) =>
  zqv .u32 t166 t168 fun t169 =>
  zgp P zdn #[(Value.int .u32 t135), (Value.int .u64 22)] [.int .u32] false w_30 fun (t171 : Int) =>
  zqv .u32 t169 t171 fun t172 =>
  ld (.int .u32) (⟨b13, 1, none⟩ : Addr) w_30 fun (t175 : Int) =>
  qac .u32 t135 t175 fun t176 =>
  ld (.int .u32) (⟨b13, 2, none⟩ : Addr) w_30 fun (t179 : Int) =>
  qac .u32 t135 t179 fun t180 =>
  zqv .u32 t176 t180 fun t181 =>
  ld (.int .u32) (⟨b13, 1, none⟩ : Addr) w_30 fun (t183 : Int) =>
  ld (.int .u32) (⟨b13, 2, none⟩ : Addr) w_30 fun (t185 : Int) =>
  qac .u32 t183 t185 fun t186 =>
  zqv .u32 t181 t186 fun t187 =>
  zbb .u32 t172 t187 fun t188 =>
  zat Int (fun s_8 w_31 k_8 =>
  xk (decide (s_8 > 0)) (
  zow .i64 s_8 1 fun t195 =>
  ixR (⟨b13, 0, none⟩ : Addr) 8 1 t195 fun t196 =>
  ld (.int .u32) t196 w_31 fun (t197 : Int) =>
  ixR (⟨b13, 0, none⟩ : Addr) 8 1 s_8 fun t198 =>
  stC t198 (Value.int .u32 t197) w_31 fun w_32 =>
  zow .i64 s_8 1 fun t192 =>
  k_8 t192 w_32) (
  ld (.int .u32) (⟨b13, 4, none⟩ : Addr) w_31 fun (t200 : Int) =>
  zbb .u32 t200 t164 fun t202 =>
  stC (⟨b13, 4, none⟩ : Addr) (Value.int .u32 t202) w_31 fun w_33 =>
  zbb .u32 t164 t188 fun t206 =>
  stC (⟨b13, 0, none⟩ : Addr) (Value.int .u32 t206) w_33 fun w_34 =>
  zbb .i64 s_7 1 fun t131 =>
  k_7 t131 w_34)) 7 w_30))))) (
  zat Int (fun s_9 w_35 k_9 =>
  xk (decide (s_9 < 8)) (
  zbj w_35 fun w_36 =>
  ixR (⟨b6, 0, none⟩ : Addr) 8 1 s_9 fun t214 =>
  ixR (⟨b13, 0, none⟩ : Addr) 8 1 s_9 fun t217 =>
  ld (.int .u32) t214 w_36 fun (t215 : Int) =>
  ld (.int .u32) t217 w_36 fun (t218 : Int) =>
  zbb .u32 t215 t218 fun t219 =>
  ixR (⟨b6, 0, none⟩ : Addr) 8 1 s_9 fun t220 =>
  stC t220 (Value.int .u32 t219) w_36 fun w_37 =>
  zbb .i64 s_9 1 fun t211 =>
  k_9 t211 w_37) (
  zbb .i64 s_2 64 fun t60 =>
  k_2 t60 w_35)) 0 w_27)) 0 w_26)) 0 w_15) (
  zbi (zc P zf) zf w_15 fun b21 w_38 =>
  zat Int (fun s_10 w_39 k_10 =>
  xk (decide (s_10 < 32)) (
  qjz .i64 s_10 4 fun t227 =>
  ixR (⟨b6, 0, none⟩ : Addr) 8 1 t227 fun t228 =>
  ld (.int .u32) t228 w_39 fun (t229 : Int) =>
  qkd s_10 4 fun t231 =>
  zzg .i64 8 t231 fun t232 =>
  zow .i64 24 t232 fun t233 =>
  cvI .u64 t233 fun t234 =>
  z4j .u32 t229 t234 fun t235 =>
  cvI .u8 t235 fun t236 =>
  ixR (⟨b21, 0, none⟩ : Addr) 32 1 s_10 fun t237 =>
  stC t237 (Value.int .u8 t236) w_39 fun w_40 =>
  zbb .i64 s_10 1 fun t224 =>
  k_10 t224 w_40) (
  ldA P 32 (⟨b21, 0, none⟩ : Addr) w_39 fun t238 =>
  zbn P (storeVar zf (⟨b2, 0, none⟩ : Addr) (Value.agg t238)) w_39 fun w_41 =>
  ldA P 32 (⟨b2, 0, none⟩ : Addr) w_41 fun t2 =>
  R (.returned (Value.agg t2)) w_41)) 0 w_38)) 0 w_14)) ((s.1, s.2.1, s.2.2), 0) w_6)) (t28.1, t28.2.1, t28.2.2) w_5
theorem qca (b : Option Addr) (b_l b_c : Nat) (R : Ending → World → Prop) (w : World) : tr P qs ((Tryz.f40.body).getD .skip) zr5 (zcb 0 [(0, (Value.slice b b_l b_c))]) (zcl P Tryz.f40.results.toList R) w = zyo b b_l b_c R w := by kernel_rfl
theorem qdz {b : Option Addr} {b_l b_c : Nat} {R : Ending → World → Prop} {w : World} (hT : zyo b b_l b_c R w) : qg P zj6 #[(Value.slice b b_l b_c)] w R :=
 zx (fn := Tryz.f40) (c := (Tryz.f40.body).getD .skip) (ann := zr5) (args := [(0, (Value.slice b b_l b_c))]) (qs := qs) mixed Tryz.func40 rfl (by kernel_rfl) (by kernel_rfl) qd6 ((qca b b_l b_c R w).symm ▸ hT)
def zlz : Ann := (.seq .leaf (.seq .leaf .leaf))
theorem z4c : okC P qs Tryz.f57.ntmps ((Tryz.f57.body).getD .skip) zlz = true := by kernel_rfl
def zpd (names : Option Addr) (names_l names_c : Nat) (R : Ending → World → Prop) (w : World) : Prop :=
  qp P zmp #[(Value.slice names names_l names_c), (Value.string (ByteArray.mk #[47]))] [.str] false w fun (t4 : ByteArray) w_1 =>
  qld (ByteArray.mk #[47]) t4 fun t5 =>
  R (.returned (Value.string t5)) w_1
theorem z4a (names : Option Addr) (names_l names_c : Nat) (R : Ending → World → Prop) (w : World) : tr P qs ((Tryz.f57.body).getD .skip) zlz (zcb 0 [(0, (Value.slice names names_l names_c))]) (zcl P Tryz.f57.results.toList R) w = zpd names names_l names_c R w := by kernel_rfl
theorem z2k {names : Option Addr} {names_l names_c : Nat} {R : Ending → World → Prop} {w : World} (hT : zpd names names_l names_c R w) : qg P zb0 #[(Value.slice names names_l names_c)] w R :=
 zx (fn := Tryz.f57) (c := (Tryz.f57.body).getD .skip) (ann := zlz) (args := [(0, (Value.slice names names_l names_c))]) (qs := qs) mixed Tryz.func57 rfl (by kernel_rfl) (by kernel_rfl) z4c ((z4a names names_l names_c R w).symm ▸ hT)
def zrj : Ann := (.seq .leaf (.seq .leaf (.seq .leaf (.seq .leaf .leaf))))
theorem qcd : okC P qs Tryz.f78.ntmps ((Tryz.f78.body).getD .skip) zrj = true := by kernel_rfl
def zwo (b : Option Addr) (b_l b_c : Nat) (R : Ending → World → Prop) (w : World) : Prop :=
  zbi (zc P zf) zf w fun b2 w_1 =>
  qp P zsd #[] [.ptr] false w_1 fun (t4 : (Option Addr)) w_2 =>
  qp P zdo #[(Value.pointer t4), (Value.slice b b_l b_c)] [] true w_2 fun (_ : Unit) w_3 =>
  qp P zmh #[(Value.pointer t4)] [.any] false w_3 fun (t9 : Value) w_4 =>
  zbn P (storeVar zf (⟨b2, 0, none⟩ : Addr) t9) w_4 fun w_5 =>
  ldA P 32 (⟨b2, 0, none⟩ : Addr) w_5 fun t2 =>
  R (.returned (Value.agg t2)) w_5
theorem qcz (b : Option Addr) (b_l b_c : Nat) (R : Ending → World → Prop) (w : World) : tr P qs ((Tryz.f78.body).getD .skip) zrj (zcb 0 [(0, (Value.slice b b_l b_c))]) (zcl P Tryz.f78.results.toList R) w = zwo b b_l b_c R w := by kernel_rfl
theorem qcq {b : Option Addr} {b_l b_c : Nat} {R : Ending → World → Prop} {w : World} (hT : zwo b b_l b_c R w) : qg P zmy #[(Value.slice b b_l b_c)] w R :=
 zx (fn := Tryz.f78) (c := (Tryz.f78.body).getD .skip) (ann := zrj) (args := [(0, (Value.slice b b_l b_c))]) (qs := qs) mixed Tryz.func78 rfl (by kernel_rfl) (by kernel_rfl) qcd ((qcz b b_l b_c R w).symm ▸ hT)
def zjl : Ann := (.seq .leaf (.seq .leaf (.seq .leaf .leaf)))
theorem zwj : okC P qs Tryz.f94.ntmps ((Tryz.f94.body).getD .skip) zjl = true := by kernel_rfl
def zlr (t : Int) (R : Ending → World → Prop) (w : World) : Prop :=
  za0 P (Instr.build zaf #[(0, (Value.int .u32 1116352408)), (1, (Value.int .u32 1899447441)), (2, (Value.int .u32 3049323471)), (3, (Value.int .u32 3921009573)), (4, (Value.int .u32 961987163)), (5, (Value.int .u32 1508970993)), (6, (Value.int .u32 2453635748)), (7, (Value.int .u32 2870763221)), (8, (Value.int .u32 3624381080)), (9, (Value.int .u32 310598401)), (10, (Value.int .u32 607225278)), (11, (Value.int .u32 1426881987)), (12, (Value.int .u32 1925078388)), (13, (Value.int .u32 2162078206)), (14, (Value.int .u32 2614888103)), (15, (Value.int .u32 3248222580)), (16, (Value.int .u32 3835390401)), (17, (Value.int .u32 4022224774)), (18, (Value.int .u32 264347078)), (19, (Value.int .u32 604807628)), (20, (Value.int .u32 770255983)), (21, (Value.int .u32 1249150122)), (22, (Value.int .u32 1555081692)), (23, (Value.int .u32 1996064986)), (24, (Value.int .u32 2554220882)), (25, (Value.int .u32 2821834349)), (26, (Value.int .u32 2952996808)), (27, (Value.int .u32 3210313671)), (28, (Value.int .u32 3336571891)), (29, (Value.int .u32 3584528711)), (30, (Value.int .u32 113926993)), (31, (Value.int .u32 338241895)), (32, (Value.int .u32 666307205)), (33, (Value.int .u32 773529912)), (34, (Value.int .u32 1294757372)), (35, (Value.int .u32 1396182291)), (36, (Value.int .u32 1695183700)), (37, (Value.int .u32 1986661051)), (38, (Value.int .u32 2177026350)), (39, (Value.int .u32 2456956037)), (40, (Value.int .u32 2730485921)), (41, (Value.int .u32 2820302411)), (42, (Value.int .u32 3259730800)), (43, (Value.int .u32 3345764771)), (44, (Value.int .u32 3516065817)), (45, (Value.int .u32 3600352804)), (46, (Value.int .u32 4094571909)), (47, (Value.int .u32 275423344)), (48, (Value.int .u32 430227734)), (49, (Value.int .u32 506948616)), (50, (Value.int .u32 659060556)), (51, (Value.int .u32 883997877)), (52, (Value.int .u32 958139571)), (53, (Value.int .u32 1322822218)), (54, (Value.int .u32 1537002063)), (55, (Value.int .u32 1747873779)), (56, (Value.int .u32 1955562222)), (57, (Value.int .u32 2024104815)), (58, (Value.int .u32 2227730452)), (59, (Value.int .u32 2361852424)), (60, (Value.int .u32 2428436474)), (61, (Value.int .u32 2756734187)), (62, (Value.int .u32 3204031479)), (63, (Value.int .u32 3329325298))]) .any w fun (t4 : Value) =>
  zbi (zc P zaf) zaf w fun b3 w_1 =>
  zbn P (storeVar zaf (⟨b3, 0, none⟩ : Addr) t4) w_1 fun w_2 =>
  ixR (⟨b3, 0, none⟩ : Addr) 64 1 t fun t6 =>
  ld (.int .u32) t6 w_2 fun (t7 : Int) =>
  R (.returned (Value.int .u32 t7)) w_2
theorem zxe (t : Int) (R : Ending → World → Prop) (w : World) : tr P qs ((Tryz.f94.body).getD .skip) zjl (zcb 0 [(0, (Value.int .i64 t))]) (zcl P Tryz.f94.results.toList R) w = zlr t R w := by kernel_rfl
theorem zxj {t : Int} {R : Ending → World → Prop} {w : World} (hT : zlr t R w) : qg P zlk #[(Value.int .i64 t)] w R :=
 zx (fn := Tryz.f94) (c := (Tryz.f94.body).getD .skip) (ann := zjl) (args := [(0, (Value.int .i64 t))]) (qs := qs) mixed Tryz.func94 rfl (by kernel_rfl) (by kernel_rfl) zwj ((zxe t R w).symm ▸ hT)
def zj8 : Ann := (.seq .leaf (.seq (.tree (.op 0 [] (.op 1 [] (.op 2 [] (.op 3 [] .done))))) .leaf))
theorem z0e : okC P qs Tryz.f100.ntmps ((Tryz.f100.body).getD .skip) zj8 = true := by kernel_rfl
def zm5 (a : Value) (b : Value) (R : Ending → World → Prop) (w : World) : Prop :=
  zbi (Value.cells a) zf w fun b2 w_1 =>
  zbi (Value.cells b) zf w_1 fun b3 w_2 =>
  zbj w_2 fun w_3 =>
  za0 P (Instr.sliceAt zf (Value.pointer (some (⟨b2, 0, none⟩ : Addr))) none none none) .slc w_3 fun (t5 : (Option Addr × Nat × Nat)) =>
  za0 P (Instr.sliceAt zf (Value.pointer (some (⟨b3, 0, none⟩ : Addr))) none none none) .slc w_3 fun (t6 : (Option Addr × Nat × Nat)) =>
  qp P zkd #[(Value.slice t5.1 t5.2.1 t5.2.2), (Value.slice t6.1 t6.2.1 t6.2.2)] [.int .i64] false w_3 fun (t7 : Int) w_4 =>
  R (.returned (Value.int .i64 t7)) w_4
theorem z0j (a : Value) (b : Value) (R : Ending → World → Prop) (w : World) : tr P qs ((Tryz.f100.body).getD .skip) zj8 (zcb 0 [(1, a), (1, b)]) (zcl P Tryz.f100.results.toList R) w = zm5 a b R w := by kernel_rfl
theorem zzh {a : Value} {b : Value} {R : Ending → World → Prop} {w : World} (hT : zm5 a b R w) : qg P ztf #[a, b] w R :=
 zx (fn := Tryz.f100) (c := (Tryz.f100.body).getD .skip) (ann := zj8) (args := [(1, a), (1, b)]) (qs := qs) mixed Tryz.func100 rfl (by kernel_rfl) (by kernel_rfl) z0e ((z0j a b R w).symm ▸ hT)
def zkx : Ann2 := (.seq (.pure .leaf) (.seq (.pure (.seq .leaf (.cond (.seq .leaf .leaf) .leaf))) (.seq (.pure (.seq .leaf (.cond (.seq .leaf .leaf) .leaf))) (.seq (.pure (.seq .leaf (.blk (.loop [(15, .int .i64)] (.seq .leaf (.seq (.cond .leaf .leaf) (.join [] (.jblk [] (.seq .leaf (.seq .leaf (.cond (.seq .leaf .leaf) .leaf)))) .leaf))))))) (.seq (.pure .leaf) (.seq (.seq (.pure .leaf) (.blk (.rng [(32, .str)] true [] .leaf (.jblk [] (.jblk [] (.seq .leaf (.cond (.seq .leaf .leaf) (.seq .leaf (.cond .leaf (.seq .leaf (.cond .leaf .leaf))))))))))) (.pure (.seq (.seq .leaf (.cond (.seq .leaf .leaf) .leaf)) (.seq .leaf .leaf)))))))))
theorem z0f : qaq P qs Tryz.f105.ntmps ((Tryz.f105.body).getD .skip) zkx = true := by kernel_rfl
def zn8 (s : ByteArray) (R : Ending → World → Prop) (w : World) : Prop :=
  zbi (zc P ql) ql w fun b2 w_1 =>
  zbi (zc P zeg) zeg w_1 fun b3 w_2 =>
  xk (decide ((s.size : Int) > 256)) (
  stC (⟨b2, 0, none⟩ : Addr) (Value.slice none 0 0) w_2 fun w_3 =>
  stC (⟨b3, 0, none⟩ : Addr) (Value.int .i64 2) w_3 fun w_4 =>
  ld .slc (⟨b2, 0, none⟩ : Addr) w_4 fun (t2 : (Option Addr × Nat × Nat)) =>
  ld (.int .i64) (⟨b3, 0, none⟩ : Addr) w_4 fun (t3 : Int) =>
  R (.returned (Value.tuple #[(Value.slice t2.1 t2.2.1 t2.2.2), (Value.int .i64 t3)])) w_4) (
  zgp P zgc #[(Value.string s), (Value.string (ByteArray.mk #[47]))] [.bool] false w_2 fun (t11 : Bool) =>
  xk (!t11) (
  stC (⟨b2, 0, none⟩ : Addr) (Value.slice none 0 0) w_2 fun w_5 =>
  stC (⟨b3, 0, none⟩ : Addr) (Value.int .i64 40) w_5 fun w_6 =>
  ld .slc (⟨b2, 0, none⟩ : Addr) w_6 fun (t2_1 : (Option Addr × Nat × Nat)) =>
  ld (.int .i64) (⟨b3, 0, none⟩ : Addr) w_6 fun (t3_1 : Int) =>
  R (.returned (Value.tuple #[(Value.slice t2_1.1 t2_1.2.1 t2_1.2.2), (Value.int .i64 t3_1)])) w_6) (
  zat Int (fun s_1 w_7 k =>
  xk (decide (s_1 < (s.size : Int))) (
  joinP Unit (fun k_1 =>
  joinP Unit (fun k_2 =>
  zsy s s_1 fun t20 =>
  xk (t20 != 47) (
  zsy s s_1 fun t25 =>
  zgp P zjs #[(Value.int .u8 t25)] [.bool] false w_7 fun (t26 : Bool) =>
  xk (!t26) (
  stC (⟨b2, 0, none⟩ : Addr) (Value.slice none 0 0) w_7 fun w_8 =>
  stC (⟨b3, 0, none⟩ : Addr) (Value.int .i64 40) w_8 fun w_9 =>
  ld .slc (⟨b2, 0, none⟩ : Addr) w_9 fun (t2_2 : (Option Addr × Nat × Nat)) =>
  ld (.int .i64) (⟨b3, 0, none⟩ : Addr) w_9 fun (t3_2 : Int) =>
  R (.returned (Value.tuple #[(Value.slice t2_2.1 t2_2.2.1 t2_2.2.2), (Value.int .i64 t3_2)])) w_9) (
  k_2 () w_7)) (
  k_2 () w_7)) (fun _ w_10 =>
  k_1 () w_10)) (fun _ w_11 =>
  zbb .i64 s_1 1 fun t29 =>
  k t29 w_11)) (
  zbi (zc P ql) ql w_7 fun b5 w_12 =>
  qp P zmr #[(Value.string s)] [.any] false w_12 fun (t31 : Value) w_13 =>
  z4q P [.str] t31 w_13 (fun (x : ByteArray) w_14 beg kc kr _ =>
  beg w_14 fun w_15 =>
  joinP Unit (fun k_3 =>
  joinP Unit (fun k_4 =>
  xk (decide ((x.size : Int) > 16)) (
  stC (⟨b2, 0, none⟩ : Addr) (Value.slice none 0 0) w_15 fun w_16 =>
  stC (⟨b3, 0, none⟩ : Addr) (Value.int .i64 41) w_16 fun w_17 =>
  kr w_17) (
  xk (x.toList == (ByteArray.mk #[]).toList) (
  k_4 () w_15) (
  xk (x.toList == (ByteArray.mk #[46]).toList) (
  k_4 () w_15) (
  xk (x.toList == (ByteArray.mk #[46, 46]).toList) (
  ld .slc (⟨b5, 0, none⟩ : Addr) w_15 fun (t51 : (Option Addr × Nat × Nat)) =>
  ld .slc (⟨b5, 0, none⟩ : Addr) w_15 fun (t52 : (Option Addr × Nat × Nat)) =>
  zow .i64 (t52.2.1 : Int) 1 fun t54 =>
  za0 P (Builtin.max_ #[zdx, zdx] zdx #[(Value.int .i64 t54), (Value.int .i64 0)]) (.int .i64) w_15 fun (t55 : Int) =>
  za0 P (Instr.sliceAt ql (Value.slice t51.1 t51.2.1 t51.2.2) none (some (Value.int .i64 t55)) none) .slc w_15 fun (t56 : (Option Addr × Nat × Nat)) =>
  stC (⟨b5, 0, none⟩ : Addr) (Value.slice t56.1 t56.2.1 t56.2.2) w_15 fun w_18 =>
  k_4 () w_18) (
  ld .slc (⟨b5, 0, none⟩ : Addr) w_15 fun (t33 : (Option Addr × Nat × Nat)) =>
  zan P (Instr.buildSlice ql 1 #[(0, (Value.string x))]) .slc w_15 fun (t35 : (Option Addr × Nat × Nat)) w_19 =>
  zan P (Builtin.append_ #[ql, ql] ql #[(Value.slice t33.1 t33.2.1 t33.2.2), (Value.slice t35.1 t35.2.1 t35.2.2)]) .slc w_19 fun (t36 : (Option Addr × Nat × Nat)) w_20 =>
  stC (⟨b5, 0, none⟩ : Addr) (Value.slice t36.1 t36.2.1 t36.2.2) w_20 fun w_21 =>
  k_4 () w_21))))) (fun _ w_22 =>
  k_3 () w_22)) (fun _ w_23 =>
  kc w_23)) (fun D w_24 =>
  ld .slc (⟨b5, 0, none⟩ : Addr) w_24 fun (t57 : (Option Addr × Nat × Nat)) =>
  xk (decide ((t57.2.1 : Int) > 8)) (
  stC (⟨b2, 0, none⟩ : Addr) (Value.slice none 0 0) w_24 fun w_25 =>
  stC (⟨b3, 0, none⟩ : Addr) (Value.int .i64 42) w_25 fun w_26 =>
  (w_26.heap[D]? = some (.deferred (some [])) ∧ ∀ w_27, w_27 = World.putObj w_26 D (.deferred none) →
  ld .slc (⟨b2, 0, none⟩ : Addr) w_27 fun (t2_3 : (Option Addr × Nat × Nat)) =>
  ld (.int .i64) (⟨b3, 0, none⟩ : Addr) w_27 fun (t3_3 : Int) =>
  R (.returned (Value.tuple #[(Value.slice t2_3.1 t2_3.2.1 t2_3.2.2), (Value.int .i64 t3_3)])) w_27)) (
  ld .slc (⟨b5, 0, none⟩ : Addr) w_24 fun (t60 : (Option Addr × Nat × Nat)) =>
  stC (⟨b2, 0, none⟩ : Addr) (Value.slice t60.1 t60.2.1 t60.2.2) w_24 fun w_28 =>
  stC (⟨b3, 0, none⟩ : Addr) (Value.int .i64 0) w_28 fun w_29 =>
  (w_29.heap[D]? = some (.deferred (some [])) ∧ ∀ w_30, w_30 = World.putObj w_29 D (.deferred none) →
  ld .slc (⟨b2, 0, none⟩ : Addr) w_30 fun (t2_4 : (Option Addr × Nat × Nat)) =>
  ld (.int .i64) (⟨b3, 0, none⟩ : Addr) w_30 fun (t3_4 : Int) =>
  R (.returned (Value.tuple #[(Value.slice t2_4.1 t2_4.2.1 t2_4.2.2), (Value.int .i64 t3_4)])) w_30))) (fun D_1 w_31 =>
  (w_31.heap[D_1]? = some (.deferred (some [])) ∧ ∀ w_32, w_32 = World.putObj w_31 D_1 (.deferred none) →
  ld .slc (⟨b2, 0, none⟩ : Addr) w_32 fun (t2_5 : (Option Addr × Nat × Nat)) =>
  ld (.int .i64) (⟨b3, 0, none⟩ : Addr) w_32 fun (t3_5 : Int) =>
  R (.returned (Value.tuple #[(Value.slice t2_5.1 t2_5.2.1 t2_5.2.2), (Value.int .i64 t3_5)])) w_32)) (fun _ _ _ => False))) 0 w_2))
theorem z0o (s : ByteArray) (R : Ending → World → Prop) (w : World) : tr2 P qs ((Tryz.f105.body).getD .skip) zkx [] (zcb 0 [(0, (Value.string s))]) (qgj P Tryz.f105.results.toList R) w = zn8 s R w := by kernel_rfl
theorem zzs {s : ByteArray} {R : Ending → World → Prop} {w : World} (hT : zn8 s R w) : qg P zm4 #[(Value.string s)] w R :=
 z7f (fn := Tryz.f105) (c := (Tryz.f105.body).getD .skip) (ann := zkx) (args := [(0, (Value.string s))]) (qs := qs) mixed Tryz.func105 rfl (by kernel_rfl) (by kernel_rfl) z0f ((z0o s R w).symm ▸ hT)
def zh4 : Ann := (.seq .leaf (.seq .leaf .leaf))
theorem zvw : okC P qs Tryz.f111.ntmps ((Tryz.f111.body).getD .skip) zh4 = true := by kernel_rfl
def zky (a : Option Addr) (a_l a_c : Nat) (b : Option Addr) (b_l b_c : Nat) (R : Ending → World → Prop) (w : World) : Prop :=
  qp P zak #[(Value.slice a a_l a_c), (Value.slice b b_l b_c), (Value.func (.func zd0) #[] #[])] [.int .i64] false w fun (t7 : Int) w_1 =>
  R (.returned (Value.int .i64 t7)) w_1
theorem zv1 (a : Option Addr) (a_l a_c : Nat) (b : Option Addr) (b_l b_c : Nat) (R : Ending → World → Prop) (w : World) : tr P qs ((Tryz.f111.body).getD .skip) zh4 (zcb 0 [(0, (Value.slice a a_l a_c)), (0, (Value.slice b b_l b_c))]) (zcl P Tryz.f111.results.toList R) w = zky a a_l a_c b b_l b_c R w := by kernel_rfl
theorem zvv {a : Option Addr} {a_l a_c : Nat} {b : Option Addr} {b_l b_c : Nat} {R : Ending → World → Prop} {w : World} (hT : zky a a_l a_c b b_l b_c R w) : qg P zj7 #[(Value.slice a a_l a_c), (Value.slice b b_l b_c)] w R :=
 zx (fn := Tryz.f111) (c := (Tryz.f111.body).getD .skip) (ann := zh4) (args := [(0, (Value.slice a a_l a_c)), (0, (Value.slice b b_l b_c))]) (qs := qs) mixed Tryz.func111 rfl (by kernel_rfl) (by kernel_rfl) zvw ((zv1 a a_l a_c b b_l b_c R w).symm ▸ hT)
def zni : Ann := (.seq .leaf (.seq (.seq .leaf (.cond (.seq .leaf .leaf) .leaf)) (.join [] (.seq .leaf (.cond (.seq .leaf .leaf) .leaf)) (.seq (.seq .leaf (.blk (.loop [(4, .int .i64)] (.seq (.seq .leaf (.cond .leaf .leaf)) (.join [] (.jblk [] (.seq .leaf (.cond (.seq .leaf .leaf) .leaf))) .leaf))))) (.seq .leaf (.seq .leaf (.seq (.seq .leaf (.blk (.loop [(5, .slc), (6, .int .i64), (7, .int .i64)] (.seq (.seq .leaf (.cond .leaf .leaf)) (.seq (.jblk [(5, .slc), (6, .int .i64)] (.join [] (.seq .leaf (.cond .leaf .leaf)) (.seq .leaf (.seq .leaf (.seq (.seq .leaf (.cond (.seq .leaf .leaf) .leaf)) (.join [(5, .slc)] (.seq .leaf (.cond .leaf .leaf)) (.seq .leaf (.cond .leaf .leaf)))))))) .leaf))))) (.seq (.seq .leaf (.cond (.seq .leaf .leaf) .leaf)) (.seq .leaf .leaf)))))))))
theorem z8q : okC P qs Tryz.f116.ntmps ((Tryz.f116.body).getD .skip) zni = true := by kernel_rfl
def zr2 (s : ByteArray) (R : Ending → World → Prop) (w : World) : Prop :=
  xk (decide ((s.size : Int) > 256)) (
  R (.returned (Value.tuple #[(Value.slice none 0 0), (Value.int .i64 2)])) w) (
  joinP Unit (fun k =>
  xk ((s.size : Int) == 0) (
  R (.returned (Value.tuple #[(Value.slice none 0 0), (Value.int .i64 40)])) w) (
  zsy s 0 fun t17 =>
  xk (t17 != 47) (
  R (.returned (Value.tuple #[(Value.slice none 0 0), (Value.int .i64 40)])) w) (
  k () w))) (fun _ w_1 =>
  zat Int (fun s_2 w_2 k_1 =>
  xk (decide (s_2 < (s.size : Int))) (
  joinP Unit (fun k_2 =>
  joinP Unit (fun k_3 =>
  zsy s s_2 fun t28 =>
  xk (t28 != 47) (
  zsy s s_2 fun t33 =>
  zgp P zqy #[(Value.int .u8 t33)] [.bool] false w_2 fun (t34 : Bool) =>
  xk (!t34) (
  R (.returned (Value.tuple #[(Value.slice none 0 0), (Value.int .i64 40)])) w_2) (
  k_3 () w_2)) (
  k_3 () w_2)) (fun _ w_3 =>
  k_2 () w_3)) (fun _ w_4 =>
  zbb .i64 s_2 1 fun t25 =>
  k_1 t25 w_4)) (
  zat ((Option Addr × Nat × Nat) × Int × Int) (fun s_5 w_5 k_4 =>
  xk (decide (s_5.2.2 ≤ (s.size : Int))) (
  joinP ((Option Addr × Nat × Nat) × Int) (fun k_5 =>
  joinP Unit (fun k_6 =>
  xk (decide (s_5.2.2 < (s.size : Int))) (
  zsy s s_5.2.2 fun t50 =>
  xk (t50 != 47) (
  k_5 ((s_5.1.1, s_5.1.2.1, s_5.1.2.2), s_5.2.1) w_5) (
  k_6 () w_5)) (
  k_6 () w_5)) (fun _ w_6 =>
  za0 P (Instr.sliceAt qx (Value.string s) (some (Value.int .i64 s_5.2.1)) (some (Value.int .i64 s_5.2.2)) none) .str w_6 fun (t56 : ByteArray) =>
  zbb .i64 s_5.2.2 1 fun t58 =>
  xk (decide ((t56.size : Int) > 16)) (
  R (.returned (Value.tuple #[(Value.slice none 0 0), (Value.int .i64 41)])) w_6) (
  joinP (Option Addr × Nat × Nat) (fun k_7 =>
  xk (t56.toList == (ByteArray.mk #[46, 46]).toList) (
  xk (decide ((s_5.1.2.1 : Int) > 0)) (
  zan P (Instr.buildSlice ql 0 #[]) .slc w_6 fun (t69 : (Option Addr × Nat × Nat)) w_7 =>
  zow .i64 (s_5.1.2.1 : Int) 1 fun t73 =>
  za0 P (Instr.sliceAt ql (Value.slice s_5.1.1 s_5.1.2.1 s_5.1.2.2) none (some (Value.int .i64 t73)) none) .slc w_7 fun (t74 : (Option Addr × Nat × Nat)) =>
  zan P (Builtin.append_ #[ql, ql] ql #[(Value.slice t69.1 t69.2.1 t69.2.2), (Value.slice t74.1 t74.2.1 t74.2.2)]) .slc w_7 fun (t75 : (Option Addr × Nat × Nat)) w_8 =>
  k_7 (t75.1, t75.2.1, t75.2.2) w_8) (
  k_7 (s_5.1.1, s_5.1.2.1, s_5.1.2.2) w_6)) (
  k_7 (s_5.1.1, s_5.1.2.1, s_5.1.2.2) w_6)) (fun s_7 w_9 =>
  xk (!(t56.toList == (ByteArray.mk #[]).toList)) (
  xk (!(t56.toList == (ByteArray.mk #[46]).toList)) (
  xk (!(t56.toList == (ByteArray.mk #[46, 46]).toList)) (
  zan P (Instr.buildSlice ql 1 #[(0, (Value.string t56))]) .slc w_9 fun (t88 : (Option Addr × Nat × Nat)) w_10 =>
  zan P (Builtin.append_ #[ql, ql] ql #[(Value.slice s_7.1 s_7.2.1 s_7.2.2), (Value.slice t88.1 t88.2.1 t88.2.2)]) .slc w_10 fun (t89 : (Option Addr × Nat × Nat)) w_11 =>
  k_5 ((t89.1, t89.2.1, t89.2.2), t58) w_11) (
  k_5 ((s_7.1, s_7.2.1, s_7.2.2), t58) w_9)) (
  k_5 ((s_7.1, s_7.2.1, s_7.2.2), t58) w_9)) (
  k_5 ((s_7.1, s_7.2.1, s_7.2.2), t58) w_9))))) (fun s_8 w_12 =>
  zbb .i64 s_5.2.2 1 fun t42 =>
  k_4 ((s_8.1.1, s_8.1.2.1, s_8.1.2.2), s_8.2, t42) w_12)) (
  xk (decide ((s_5.1.2.1 : Int) > 8)) (
  R (.returned (Value.tuple #[(Value.slice none 0 0), (Value.int .i64 42)])) w_5) (
  R (.returned (Value.tuple #[(Value.slice s_5.1.1 s_5.1.2.1 s_5.1.2.2), (Value.int .i64 0)])) w_5))) ((none, 0, 0), 1, 1) w_2)) 0 w_1))
theorem z7j (s : ByteArray) (R : Ending → World → Prop) (w : World) : tr P qs ((Tryz.f116.body).getD .skip) zni (zcb 0 [(0, (Value.string s))]) (zcl P Tryz.f116.results.toList R) w = zr2 s R w := by kernel_rfl
theorem z6v {s : ByteArray} {R : Ending → World → Prop} {w : World} (hT : zr2 s R w) : qg P zm3 #[(Value.string s)] w R :=
 zx (fn := Tryz.f116) (c := (Tryz.f116.body).getD .skip) (ann := zni) (args := [(0, (Value.string s))]) (qs := qs) mixed Tryz.func116 rfl (by kernel_rfl) (by kernel_rfl) z8q ((z7j s R w).symm ▸ hT)
def zml : Ann := (.seq .leaf (.seq (.seq .leaf (.cond (.seq .leaf .leaf) .leaf)) (.seq (.seq .leaf (.blk (.loop [(5, .int .i64)] (.seq (.seq .leaf (.cond .leaf .leaf)) (.seq (.blk (.seq (.tree (.op 0 [] (.op 1 [] (.op 2 [] (.op 4 [] (.op 5 [] (.op 6 [] (.op 3 [] (.op 7 [] (.op 8 [] .done)))))))))) (.cond (.seq .leaf .leaf) .leaf))) .leaf))))) (.seq .leaf .leaf))))
theorem z3q : okC P qs Tryz.f118.ntmps ((Tryz.f118.body).getD .skip) zml = true := by kernel_rfl
def zo2 (path : Option Addr) (path_l path_c : Nat) (of : Option Addr) (of_l of_c : Nat) (R : Ending → World → Prop) (w : World) : Prop :=
  xk (decide ((path_l : Int) < (of_l : Int))) (
  R (.returned (Value.bool false)) w) (
  zat Int (fun s w_1 k =>
  xk (decide (s < (of_l : Int))) (
  zbj w_1 fun w_2 =>
  ixS path path_l 1 s fun t19 =>
  ixS of of_l 1 s fun t23 =>
  ld .str t19 w_2 fun (t20 : ByteArray) =>
  ld .str t23 w_2 fun (t24 : ByteArray) =>
  xk (!(t20.toList == t24.toList)) (
  R (.returned (Value.bool false)) w_2) (
  zbb .i64 s 1 fun t16 =>
  k t16 w_2)) (
  R (.returned (Value.bool true)) w_1)) 0 w)
theorem z2h (path : Option Addr) (path_l path_c : Nat) (of : Option Addr) (of_l of_c : Nat) (R : Ending → World → Prop) (w : World) : tr P qs ((Tryz.f118.body).getD .skip) zml (zcb 0 [(0, (Value.slice path path_l path_c)), (0, (Value.slice of of_l of_c))]) (zcl P Tryz.f118.results.toList R) w = zo2 path path_l path_c of of_l of_c R w := by kernel_rfl
theorem z3d {path : Option Addr} {path_l path_c : Nat} {of : Option Addr} {of_l of_c : Nat} {R : Ending → World → Prop} {w : World} (hT : zo2 path path_l path_c of of_l of_c R w) : qg P zid #[(Value.slice path path_l path_c), (Value.slice of of_l of_c)] w R :=
 zx (fn := Tryz.f118) (c := (Tryz.f118.body).getD .skip) (ann := zml) (args := [(0, (Value.slice path path_l path_c)), (0, (Value.slice of of_l of_c))]) (qs := qs) mixed Tryz.func118 rfl (by kernel_rfl) (by kernel_rfl) z3q ((z2h path path_l path_c of of_l of_c R w).symm ▸ hT)
def zpi : Ann := (.seq .leaf (.seq (.seq .leaf (.cond (.seq .leaf .leaf) .leaf)) (.seq .leaf (.seq (.seq .leaf (.blk (.loop [(3, .str), (4, .int .i64)] (.seq (.seq .leaf (.cond .leaf .leaf)) (.seq (.blk .leaf) .leaf))))) (.seq .leaf .leaf)))))
theorem qai : okC P qs Tryz.f119.ntmps ((Tryz.f119.body).getD .skip) zpi = true := by kernel_rfl
def zt8 (names : Option Addr) (names_l names_c : Nat) (R : Ending → World → Prop) (w : World) : Prop :=
  xk ((names_l : Int) == 0) (
  R (.returned (Value.string (ByteArray.mk #[47]))) w) (
  zat (ByteArray × Int) (fun s w_1 k =>
  xk (decide (s.2 < (names_l : Int))) (
  qld s.1 (ByteArray.mk #[47]) fun t15 =>
  ixS names names_l 1 s.2 fun t18 =>
  ld .str t18 w_1 fun (t19 : ByteArray) =>
  qld t15 t19 fun t20 =>
  zbb .i64 s.2 1 fun t13 =>
  k (t20, t13) w_1) (
  R (.returned (Value.string s.1)) w_1)) ((ByteArray.mk #[]), 0) w)
theorem z9r (names : Option Addr) (names_l names_c : Nat) (R : Ending → World → Prop) (w : World) : tr P qs ((Tryz.f119.body).getD .skip) zpi (zcb 0 [(0, (Value.slice names names_l names_c))]) (zcl P Tryz.f119.results.toList R) w = zt8 names names_l names_c R w := by kernel_rfl
theorem z8w {names : Option Addr} {names_l names_c : Nat} {R : Ending → World → Prop} {w : World} (hT : zt8 names names_l names_c R w) : qg P zp6 #[(Value.slice names names_l names_c)] w R :=
 zx (fn := Tryz.f119) (c := (Tryz.f119.body).getD .skip) (ann := zpi) (args := [(0, (Value.slice names names_l names_c))]) (qs := qs) mixed Tryz.func119 rfl (by kernel_rfl) (by kernel_rfl) qai ((z9r names names_l names_c R w).symm ▸ hT)
def zr3 : Ann := (.seq .leaf (.seq .leaf .leaf))
theorem qco : okC P qs Tryz.f132.ntmps ((Tryz.f132.body).getD .skip) zr3 = true := by kernel_rfl
def zya  (R : Ending → World → Prop) (w : World) : Prop :=
  za0 P (Instr.build jq #[(0, (Value.int .u32 1779033703)), (1, (Value.int .u32 3144134277)), (2, (Value.int .u32 1013904242)), (3, (Value.int .u32 2773480762)), (4, (Value.int .u32 1359893119)), (5, (Value.int .u32 2600822924)), (6, (Value.int .u32 528734635)), (7, (Value.int .u32 1541459225))]) .any w fun (t1 : Value) =>
  za0 P (Instr.build zar #[(0, t1)]) .any w fun (t2 : Value) =>
  zbi (Value.cells t2) zar w fun b3 w_1 =>
  R (.returned (Value.pointer (some (⟨b3, 0, none⟩ : Addr)))) w_1
theorem qdv  (R : Ending → World → Prop) (w : World) : tr P qs ((Tryz.f132.body).getD .skip) zr3 (zcb 0 []) (zcl P Tryz.f132.results.toList R) w = zya  R w := by kernel_rfl
theorem qb7  {R : Ending → World → Prop} {w : World} (hT : zya  R w) : qg P zsd #[] w R :=
 zx (fn := Tryz.f132) (c := (Tryz.f132.body).getD .skip) (ann := zr3) (args := []) (qs := qs) mixed Tryz.func132 rfl (by kernel_rfl) (by kernel_rfl) qco ((qdv  R w).symm ▸ hT)
def zhc : Ann := (.seq (.seq .leaf (.cond .leaf .leaf)) (.seq .leaf (.blk (.loop [(1, .slc)] (.seq (.seq .leaf (.cond .leaf .leaf)) (.jblk [(1, .slc)] (.seq (.tree (.op 0 [] (.op 1 [] (.op 2 [] (.op 3 [] (.op 4 [] (.op 5 [] (.op 8 [] (.op 6 [] (.op 7 [] (.op 9 [] (.op 10 [] .done)))))))))))) (.seq (.tree (.op 0 [] (.op 1 [] (.op 2 [] (.op 3 [] (.op 5 [] (.op 7 [] (.op 8 [] (.op 4 [] (.op 6 [] (.op 10 [] (.op 11 [] (.op 9 [] (.op 12 [9] (.op 13 [] .done))))))))))))))) (.seq .leaf (.cond (.seq .leaf .leaf) .leaf))))))))))
theorem zt9 : okC P qs Tryz.f133.ntmps ((Tryz.f133.body).getD .skip) zhc = true := by kernel_rfl
def zjf (hv : Option Addr) (b : Option Addr) (b_l b_c : Nat) (R : Ending → World → Prop) (w : World) : Prop :=
  xk (Option.isNone hv) (
  R (.returned (Value.tuple #[])) w) (
  zu hv fun p =>
  ld (.int .i64) (Addr.add p 73) w fun (t10 : Int) =>
  zbb .i64 t10 (b_l : Int) fun t13 =>
  zu hv fun p_1 =>
  stC (Addr.add p_1 73) (Value.int .i64 t13) w fun w_1 =>
  zat (Option Addr × Nat × Nat) (fun s w_2 k =>
  xk (decide ((s.2.1 : Int) > 0)) (
  joinP (Option Addr × Nat × Nat) (fun k_1 =>
  zbj w_2 fun w_3 =>
  zu hv fun p_2 =>
  zu hv fun p_3 =>
  ld (.int .i64) (Addr.add p_3 72) w_3 fun (t25 : Int) =>
  za0 P (Instr.sliceAt zu9 (Value.pointer (some (Addr.add p_2 8))) (some (Value.int .i64 t25)) none none) .slc w_3 fun (t26 : (Option Addr × Nat × Nat)) =>
  zan P (Builtin.copy_ #[zh, zh] zdx #[(Value.slice t26.1 t26.2.1 t26.2.2), (Value.slice s.1 s.2.1 s.2.2)]) (.int .i64) w_3 fun (t28 : Int) w_4 =>
  zbj w_4 fun w_5 =>
  zu hv fun p_4 =>
  ld (.int .i64) (Addr.add p_4 72) w_5 fun (t33 : Int) =>
  zbb .i64 t33 t28 fun t35 =>
  zu hv fun p_5 =>
  za0 P (Instr.sliceAt zh (Value.slice s.1 s.2.1 s.2.2) (some (Value.int .i64 t28)) none none) .slc w_5 fun (t38 : (Option Addr × Nat × Nat)) =>
  stC (Addr.add p_5 72) (Value.int .i64 t35) w_5 fun w_6 =>
  ((za0 P (Instr.sliceAt zh (Value.slice s.1 s.2.1 s.2.2) (some (Value.int .i64 t28)) none none) .slc w_6 fun (t38_1 : (Option Addr × Nat × Nat)) =>
  (Value.slice t38_1.1 t38_1.2.1 t38_1.2.2) = (Value.slice t38.1 t38.2.1 t38.2.2)) ∧
  zu hv fun p_6 =>
  ld (.int .i64) (Addr.add p_6 72) w_6 fun (t44 : Int) =>
  xk (t44 == 64) (
  zu hv fun p_7 =>
  za0 P (Instr.sliceAt zu9 (Value.pointer (some (Addr.add p_7 8))) none none none) .slc w_6 fun (t50 : (Option Addr × Nat × Nat)) =>
  qp P zmk #[(Value.pointer hv), (Value.slice t50.1 t50.2.1 t50.2.2)] [] true w_6 fun (_ : Unit) w_7 =>
  zu hv fun p_8 =>
  stC (Addr.add p_8 72) (Value.int .i64 0) w_7 fun w_8 =>
  k_1 (t38.1, t38.2.1, t38.2.2) w_8) (
  k_1 (t38.1, t38.2.1, t38.2.2) w_6))) (fun s_1 w_9 =>
  k (s_1.1, s_1.2.1, s_1.2.2) w_9)) (
  R (.returned (Value.tuple #[])) w_2)) (b, b_l, b_c) w_1)
theorem zu0 (hv : Option Addr) (b : Option Addr) (b_l b_c : Nat) (R : Ending → World → Prop) (w : World) : tr P qs ((Tryz.f133.body).getD .skip) zhc (zcb 0 [(0, (Value.pointer hv)), (0, (Value.slice b b_l b_c))]) (zcl P Tryz.f133.results.toList R) w = zjf hv b b_l b_c R w := by kernel_rfl
theorem zu3 {hv : Option Addr} {b : Option Addr} {b_l b_c : Nat} {R : Ending → World → Prop} {w : World} (hT : zjf hv b b_l b_c R w) : qg P zdo #[(Value.pointer hv), (Value.slice b b_l b_c)] w R :=
 zx (fn := Tryz.f133) (c := (Tryz.f133.body).getD .skip) (ann := zhc) (args := [(0, (Value.pointer hv)), (0, (Value.slice b b_l b_c))]) (qs := qs) mixed Tryz.func133 rfl (by kernel_rfl) (by kernel_rfl) zt9 ((zu0 hv b b_l b_c R w).symm ▸ hT)
def zjj : Ann := (.seq .leaf (.join [(0, .ptr)] (.seq .leaf (.cond .leaf .leaf)) (.seq .leaf (.seq .leaf (.seq .leaf (.seq (.blk (.loop [] (.seq (.seq .leaf (.cond .leaf .leaf)) (.blk .leaf)))) (.seq .leaf (.seq (.seq .leaf (.blk (.loop [(27, .int .i64)] (.seq .leaf (.seq (.cond .leaf .leaf) (.seq (.blk (.seq .leaf .leaf)) .leaf)))))) (.seq .leaf (.seq .leaf (.seq (.seq .leaf (.blk (.loop [(43, .int .i64)] (.seq .leaf (.seq (.cond .leaf .leaf) (.seq (.blk (.seq .leaf .leaf)) .leaf)))))) (.seq .leaf .leaf))))))))))))
theorem zwl : okC P qs Tryz.f134.ntmps ((Tryz.f134.body).getD .skip) zjj = true := by kernel_rfl
def zma (hv : Option Addr) (R : Ending → World → Prop) (w : World) : Prop :=
  zbi (zc P zf) zf w fun b2 w_1 =>
  joinP (Option Addr) (fun k =>
  xk (Option.isNone hv) (
  qp P zsd #[] [.ptr] false w_1 fun (t12 : (Option Addr)) w_2 =>
  k t12 w_2) (
  k hv w_1)) (fun s w_3 =>
  zu s fun p =>
  ldA P 74 p w_3 fun t15 =>
  zbi (zc P zar) zar w_3 fun b3 w_4 =>
  zbn P (storeVar zar (⟨b3, 0, none⟩ : Addr) (Value.agg t15)) w_4 fun w_5 =>
  ld (.int .i64) (⟨b3, 73, none⟩ : Addr) w_5 fun (t17 : Int) =>
  cvI .u64 t17 fun t18 =>
  zzg .u64 t18 8 fun t19 =>
  zan P (Instr.buildSlice zh 1 #[(0, (Value.int .u8 128))]) .slc w_5 fun (t20 : (Option Addr × Nat × Nat)) w_6 =>
  qp P zdo #[(Value.pointer (some (⟨b3, 0, none⟩ : Addr))), (Value.slice t20.1 t20.2.1 t20.2.2)] [] true w_6 fun (_ : Unit) w_7 =>
  zat Unit (fun _ w_8 k_1 =>
  ld (.int .i64) (⟨b3, 72, none⟩ : Addr) w_8 fun (t23 : Int) =>
  xk (t23 != 56) (
  zan P (Instr.buildSlice zh 1 #[(0, (Value.int .u8 0))]) .slc w_8 fun (t25 : (Option Addr × Nat × Nat)) w_9 =>
  qp P zdo #[(Value.pointer (some (⟨b3, 0, none⟩ : Addr))), (Value.slice t25.1 t25.2.1 t25.2.2)] [] true w_9 fun (_ : Unit) w_10 =>
  k_1 () w_10) (
  zbi (zc P zmt) zmt w_8 fun b5 w_11 =>
  zat Int (fun s_2 w_12 k_2 =>
  xk (decide (s_2 < 8)) (
  zzg .i64 8 s_2 fun t33 =>
  zow .i64 56 t33 fun t34 =>
  z4j .u64 t19 t34 fun t35 =>
  cvI .u8 t35 fun t36 =>
  ixR (⟨b5, 0, none⟩ : Addr) 8 1 s_2 fun t37 =>
  stC t37 (Value.int .u8 t36) w_12 fun w_13 =>
  zbb .i64 s_2 1 fun t38 =>
  k_2 t38 w_13) (
  za0 P (Instr.sliceAt zmt (Value.pointer (some (⟨b5, 0, none⟩ : Addr))) none none none) .slc w_12 fun (t39 : (Option Addr × Nat × Nat)) =>
  qp P zdo #[(Value.pointer (some (⟨b3, 0, none⟩ : Addr))), (Value.slice t39.1 t39.2.1 t39.2.2)] [] true w_12 fun (_ : Unit) w_14 =>
  zbi (zc P zf) zf w_14 fun b7 w_15 =>
  ldA P 8 (⟨b3, 0, none⟩ : Addr) w_15 fun t42 =>
  zat Int (fun s_3 w_16 k_3 =>
  xk (decide (s_3 < 8)) (
  za0 P (Instr.index jq (Value.agg t42) (Value.int .i64 s_3)) (.int .u32) w_16 fun (t46 : Int) =>
  zzg .i64 4 s_3 fun t48 =>
  zzg .i64 4 s_3 fun t50 =>
  zbb .i64 t50 1 fun t51 =>
  zzg .i64 4 s_3 fun t53 =>
  zbb .i64 t53 2 fun t54 =>
  zzg .i64 4 s_3 fun t56 =>
  zbb .i64 t56 3 fun t57 =>
  z4j .u32 t46 24 fun t59 =>
  cvI .u8 t59 fun t60 =>
  z4j .u32 t46 16 fun t62 =>
  cvI .u8 t62 fun t63 =>
  z4j .u32 t46 8 fun t65 =>
  cvI .u8 t65 fun t66 =>
  cvI .u8 t46 fun t68 =>
  ixR (⟨b7, 0, none⟩ : Addr) 32 1 t48 fun t69 =>
  stC t69 (Value.int .u8 t60) w_16 fun w_17 =>
  ixR (⟨b7, 0, none⟩ : Addr) 32 1 t51 fun t70 =>
  stC t70 (Value.int .u8 t63) w_17 fun w_18 =>
  ixR (⟨b7, 0, none⟩ : Addr) 32 1 t54 fun t71 =>
  stC t71 (Value.int .u8 t66) w_18 fun w_19 =>
  ixR (⟨b7, 0, none⟩ : Addr) 32 1 t57 fun t72 =>
  stC t72 (Value.int .u8 t68) w_19 fun w_20 =>
  zbb .i64 s_3 1 fun t73 =>
  k_3 t73 w_20) (
  ldA P 32 (⟨b7, 0, none⟩ : Addr) w_16 fun t74 =>
  zbn P (storeVar zf (⟨b2, 0, none⟩ : Addr) (Value.agg t74)) w_16 fun w_21 =>
  ldA P 32 (⟨b2, 0, none⟩ : Addr) w_21 fun t2 =>
  R (.returned (Value.agg t2)) w_21)) 0 w_15)) 0 w_11)) () w_7)
theorem zwt (hv : Option Addr) (R : Ending → World → Prop) (w : World) : tr P qs ((Tryz.f134.body).getD .skip) zjj (zcb 0 [(0, (Value.pointer hv))]) (zcl P Tryz.f134.results.toList R) w = zma hv R w := by kernel_rfl
theorem zw6 {hv : Option Addr} {R : Ending → World → Prop} {w : World} (hT : zma hv R w) : qg P zmh #[(Value.pointer hv)] w R :=
 zx (fn := Tryz.f134) (c := (Tryz.f134.body).getD .skip) (ann := zjj) (args := [(0, (Value.pointer hv))]) (qs := qs) mixed Tryz.func134 rfl (by kernel_rfl) (by kernel_rfl) zwl ((zwt hv R w).symm ▸ hT)
def zkf : Ann := (.seq .leaf (.seq (.seq .leaf (.blk (.loop [(5, .int .i64)] (.seq (.seq .leaf (.cond .leaf .leaf)) (.seq (.blk (.seq (.seq (.tree (.op 0 [] (.op 1 [] (.op 3 [] (.op 4 [] (.op 2 [] (.op 5 [] (.op 6 [] .done)))))))) (.cond (.seq .leaf .leaf) .leaf)) (.seq (.tree (.op 0 [] (.op 1 [] (.op 3 [] (.op 4 [] (.op 2 [] (.op 5 [] (.op 6 [] .done)))))))) (.cond (.seq .leaf .leaf) .leaf)))) .leaf))))) (.seq .leaf .leaf)))
theorem z0n : okC P qs Tryz.f135.ntmps ((Tryz.f135.body).getD .skip) zkf = true := by kernel_rfl
def zon (a : Value) (b : Value) (R : Ending → World → Prop) (w : World) : Prop :=
  zbi (Value.cells a) zf w fun b2 w_1 =>
  zbi (Value.cells b) zf w_1 fun b3 w_2 =>
  zat Int (fun s w_3 k =>
  xk (decide (s < 32)) (
  zbj w_3 fun w_4 =>
  ixR (⟨b2, 0, none⟩ : Addr) 32 1 s fun t11 =>
  ixR (⟨b3, 0, none⟩ : Addr) 32 1 s fun t14 =>
  ld (.int .u8) t11 w_4 fun (t12 : Int) =>
  ld (.int .u8) t14 w_4 fun (t15 : Int) =>
  xk (decide (t12 < t15)) (
  R (.returned (Value.int .i64 (-1))) w_4) (
  zbj w_4 fun w_5 =>
  ixR (⟨b2, 0, none⟩ : Addr) 32 1 s fun t18 =>
  ixR (⟨b3, 0, none⟩ : Addr) 32 1 s fun t21 =>
  ld (.int .u8) t18 w_5 fun (t19 : Int) =>
  ld (.int .u8) t21 w_5 fun (t22 : Int) =>
  xk (decide (t19 > t22)) (
  R (.returned (Value.int .i64 1)) w_5) (
  zbb .i64 s 1 fun t9 =>
  k t9 w_5))) (
  R (.returned (Value.int .i64 0)) w_3)) 0 w_2
theorem z0h (a : Value) (b : Value) (R : Ending → World → Prop) (w : World) : tr P qs ((Tryz.f135.body).getD .skip) zkf (zcb 0 [(1, a), (1, b)]) (zcl P Tryz.f135.results.toList R) w = zon a b R w := by kernel_rfl
theorem z0k {a : Value} {b : Value} {R : Ending → World → Prop} {w : World} (hT : zon a b R w) : qg P znm #[a, b] w R :=
 zx (fn := Tryz.f135) (c := (Tryz.f135.body).getD .skip) (ann := zkf) (args := [(1, a), (1, b)]) (qs := qs) mixed Tryz.func135 rfl (by kernel_rfl) (by kernel_rfl) z0n ((z0h a b R w).symm ▸ hT)
def zir : Ann := (.seq .leaf (.seq .leaf .leaf))
theorem zwq : okC P qs Tryz.f158.ntmps ((Tryz.f158.body).getD .skip) zir = true := by kernel_rfl
def zl2 (s : ByteArray) (R : Ending → World → Prop) (w : World) : Prop :=
  zbi #[(Value.string s)] qx w fun b1 w_1 =>
  za0 P (Instr.makeFunc (Go.Fn.func zfz) #[] #[(Value.pointer (some (⟨b1, 0, none⟩ : Addr)))]) .any w_1 fun (t3 : Value) =>
  R (.returned t3) w_1
theorem zw0 (s : ByteArray) (R : Ending → World → Prop) (w : World) : tr P qs ((Tryz.f158.body).getD .skip) zir (zcb 0 [(0, (Value.string s))]) (zcl P Tryz.f158.results.toList R) w = zl2 s R w := by kernel_rfl
theorem zwp {s : ByteArray} {R : Ending → World → Prop} {w : World} (hT : zl2 s R w) : qg P zmr #[(Value.string s)] w R :=
 zx (fn := Tryz.f158) (c := (Tryz.f158.body).getD .skip) (ann := zir) (args := [(0, (Value.string s))]) (qs := qs) mixed Tryz.func158 rfl (by kernel_rfl) (by kernel_rfl) zwq ((zw0 s R w).symm ▸ hT)
def zae : Ann := (.seq .leaf (.seq (.seq .leaf (.blk (.loop [(13, .int .i64)] (.seq .leaf (.seq (.cond .leaf .leaf) (.seq (.blk (.seq .leaf (.seq (.seq .leaf (.cond (.seq .leaf .leaf) .leaf)) (.seq .leaf (.seq .leaf (.seq .leaf (.cond (.seq .leaf .leaf) .leaf))))))) .leaf)))))) (.seq (.seq .leaf (.cond (.seq .leaf .leaf) .leaf)) (.seq .leaf .leaf))))
theorem zc8 : okC P qs Tryz.f162.ntmps ((Tryz.f162.body).getD .skip) zae = true := by kernel_rfl
def zaj (s1 : Option Addr) (s1_l s1_c : Nat) (s2 : Option Addr) (s2_l s2_c : Nat) (cmp : Value) (R : Ending → World → Prop) (w : World) : Prop :=
  zat Int (fun s w_1 k =>
  xk (decide (s < (s1_l : Int))) (
  ixS s1 s1_l 1 s fun t16 =>
  ld .str t16 w_1 fun (t17 : ByteArray) =>
  xk (decide (s ≥ (s2_l : Int))) (
  R (.returned (Value.int .i64 1)) w_1) (
  ixS s2 s2_l 1 s fun t24 =>
  ld .str t24 w_1 fun (t25 : ByteArray) =>
  zz2 P cmp #[(Value.string t17), (Value.string t25)] [.int .i64] false w_1 fun (t29 : Int) w_2 =>
  xk (t29 != 0) (
  R (.returned (Value.int .i64 t29)) w_2) (
  zbb .i64 s 1 fun t33 =>
  k t33 w_2))) (
  xk (decide ((s1_l : Int) < (s2_l : Int))) (
  R (.returned (Value.int .i64 (-1))) w_1) (
  R (.returned (Value.int .i64 0)) w_1))) 0 w
theorem zc1 (s1 : Option Addr) (s1_l s1_c : Nat) (s2 : Option Addr) (s2_l s2_c : Nat) (cmp : Value) (R : Ending → World → Prop) (w : World) : tr P qs ((Tryz.f162.body).getD .skip) zae (zcb 0 [(0, (Value.slice s1 s1_l s1_c)), (0, (Value.slice s2 s2_l s2_c)), (1, cmp)]) (zcl P Tryz.f162.results.toList R) w = zaj s1 s1_l s1_c s2 s2_l s2_c cmp R w := by kernel_rfl
theorem zc3 {s1 : Option Addr} {s1_l s1_c : Nat} {s2 : Option Addr} {s2_l s2_c : Nat} {cmp : Value} {R : Ending → World → Prop} {w : World} (hT : zaj s1 s1_l s1_c s2 s2_l s2_c cmp R w) : qg P zak #[(Value.slice s1 s1_l s1_c), (Value.slice s2 s2_l s2_c), cmp] w R :=
 zx (fn := Tryz.f162) (c := (Tryz.f162.body).getD .skip) (ann := zae) (args := [(0, (Value.slice s1 s1_l s1_c)), (0, (Value.slice s2 s2_l s2_c)), (1, cmp)]) (qs := qs) mixed Tryz.func162 rfl (by kernel_rfl) (by kernel_rfl) zc8 ((zc1 s1 s1_l s1_c s2 s2_l s2_c cmp R w).symm ▸ hT)
def zes : Ann := (.seq .leaf (.seq .leaf (.seq .leaf (.seq (.seq .leaf (.cond (.seq (.seq .leaf (.cond (.seq .leaf .leaf) .leaf)) (.seq .leaf .leaf)) .leaf)) (.seq (.seq .leaf (.cond (.seq .leaf .leaf) .leaf)) (.seq (.seq .leaf (.cond (.seq .leaf .leaf) .leaf)) (.seq (.seq .leaf (.cond (.seq .leaf .leaf) .leaf)) (.seq .leaf .leaf))))))))
theorem zo4 : okC P qs Tryz.f163.ntmps ((Tryz.f163.body).getD .skip) zes = true := by kernel_rfl
def zfr (x : ByteArray) (y : ByteArray) (R : Ending → World → Prop) (w : World) : Prop :=
  zgp P ze1 #[(Value.string x)] [.bool] false w fun (t8 : Bool) =>
  zgp P ze1 #[(Value.string y)] [.bool] false w fun (t10 : Bool) =>
  xk t8 (
  xk t10 (
  R (.returned (Value.int .i64 0)) w) (
  R (.returned (Value.int .i64 (-1))) w)) (
  xk t10 (
  R (.returned (Value.int .i64 1)) w) (
  xk (Op.bytesLess x.toList y.toList) (
  R (.returned (Value.int .i64 (-1))) w) (
  xk (!((Op.bytesLess x.toList y.toList) || (x.toList == y.toList))) (
  R (.returned (Value.int .i64 1)) w) (
  R (.returned (Value.int .i64 0)) w))))
theorem zpu (x : ByteArray) (y : ByteArray) (R : Ending → World → Prop) (w : World) : tr P qs ((Tryz.f163.body).getD .skip) zes (zcb 0 [(0, (Value.string x)), (0, (Value.string y))]) (zcl P Tryz.f163.results.toList R) w = zfr x y R w := by kernel_rfl
theorem zpq {x : ByteArray} {y : ByteArray} {R : Ending → World → Prop} {w : World} (hT : zfr x y R w) : qg P zd0 #[(Value.string x), (Value.string y)] w R :=
 zx (fn := Tryz.f163) (c := (Tryz.f163.body).getD .skip) (ann := zes) (args := [(0, (Value.string x)), (0, (Value.string y))]) (qs := qs) mixed Tryz.func163 rfl (by kernel_rfl) (by kernel_rfl) zo4 ((zpu x y R w).symm ▸ hT)
def zkr : Ann := (.seq .leaf (.join [] (.seq .leaf (.jblk [] (.loop [(5, .int .i64)] (.join [] (.seq .leaf (.cond .leaf .leaf)) (.seq (.blk (.seq (.seq (.tree (.op 0 [] (.op 1 [] (.op 2 [] (.op 4 [] (.op 5 [] (.op 6 [] (.op 3 [] (.op 7 [] (.op 8 [] .done)))))))))) (.cond (.seq .leaf .leaf) .leaf)) (.seq (.tree (.op 0 [] (.op 1 [] (.op 2 [] (.op 4 [] (.op 5 [] (.op 6 [] (.op 3 [] (.op 7 [] (.op 8 [] .done)))))))))) (.cond (.seq .leaf .leaf) .leaf)))) .leaf))))) (.seq (.seq .leaf (.cond (.seq .leaf .leaf) .leaf)) (.seq (.seq .leaf (.cond (.seq .leaf .leaf) .leaf)) (.seq .leaf .leaf)))))
theorem zz3 : okC P qs Tryz.f173.ntmps ((Tryz.f173.body).getD .skip) zkr = true := by kernel_rfl
def zn7 (a : Option Addr) (a_l a_c : Nat) (b : Option Addr) (b_l b_c : Nat) (R : Ending → World → Prop) (w : World) : Prop :=
  joinP Unit (fun k =>
  joinP Unit (fun k_1 =>
  zat Int (fun s w_1 k_2 =>
  joinP Unit (fun k_3 =>
  xk (decide (s < (a_l : Int))) (
  xk (decide (s < (b_l : Int))) (
  k_3 () w_1) (
  k_1 () w_1)) (
  k_1 () w_1)) (fun _ w_2 =>
  zbj w_2 fun w_3 =>
  ixS a a_l 1 s fun t20 =>
  ixS b b_l 1 s fun t24 =>
  ld .str t20 w_3 fun (t21 : ByteArray) =>
  ld .str t24 w_3 fun (t25 : ByteArray) =>
  xk (Op.bytesLess t21.toList t25.toList) (
  R (.returned (Value.int .i64 (-1))) w_3) (
  zbj w_3 fun w_4 =>
  ixS a a_l 1 s fun t29 =>
  ixS b b_l 1 s fun t33 =>
  ld .str t29 w_4 fun (t30 : ByteArray) =>
  ld .str t33 w_4 fun (t34 : ByteArray) =>
  xk (!((Op.bytesLess t30.toList t34.toList) || (t30.toList == t34.toList))) (
  R (.returned (Value.int .i64 1)) w_4) (
  zbb .i64 s 1 fun t17 =>
  k_2 t17 w_4)))) 0 w) (fun _ w_5 =>
  k () w_5)) (fun _ w_6 =>
  xk (decide ((a_l : Int) < (b_l : Int))) (
  R (.returned (Value.int .i64 (-1))) w_6) (
  xk (decide ((a_l : Int) > (b_l : Int))) (
  R (.returned (Value.int .i64 1)) w_6) (
  R (.returned (Value.int .i64 0)) w_6)))
theorem zz5 (a : Option Addr) (a_l a_c : Nat) (b : Option Addr) (b_l b_c : Nat) (R : Ending → World → Prop) (w : World) : tr P qs ((Tryz.f173.body).getD .skip) zkr (zcb 0 [(0, (Value.slice a a_l a_c)), (0, (Value.slice b b_l b_c))]) (zcl P Tryz.f173.results.toList R) w = zn7 a a_l a_c b b_l b_c R w := by kernel_rfl
theorem zz1 {a : Option Addr} {a_l a_c : Nat} {b : Option Addr} {b_l b_c : Nat} {R : Ending → World → Prop} {w : World} (hT : zn7 a a_l a_c b b_l b_c R w) : qg P zju #[(Value.slice a a_l a_c), (Value.slice b b_l b_c)] w R :=
 zx (fn := Tryz.f173) (c := (Tryz.f173.body).getD .skip) (ann := zkr) (args := [(0, (Value.slice a a_l a_c)), (0, (Value.slice b b_l b_c))]) (qs := qs) mixed Tryz.func173 rfl (by kernel_rfl) (by kernel_rfl) zz3 ((zz5 a a_l a_c b b_l b_c R w).symm ▸ hT)
def zi9 : Ann := (.seq .leaf (.seq (.seq .leaf (.blk (.loop [(18, .int .i64)] (.seq .leaf (.seq (.cond .leaf .leaf) (.seq (.blk (.seq .leaf (.tree (.op 0 [] (.op 1 [] (.op 2 [] (.op 3 [] (.op 4 [] (.op 8 [] (.op 9 [] (.op 10 [] (.op 11 [] (.op 12 [] (.op 17 [] (.op 18 [] (.op 19 [] (.op 20 [] (.op 21 [] (.op 26 [] (.op 27 [] (.op 28 [] (.op 29 [] (.op 30 [] (.op 5 [] (.op 6 [] (.op 7 [] (.op 13 [] (.op 14 [] (.op 15 [] (.op 16 [] (.op 22 [] (.op 23 [] (.op 24 [] (.op 25 [] (.op 31 [] (.op 32 [] (.op 33 [] (.op 34 [] (.op 35 [] .done))))))))))))))))))))))))))))))))))))))) .leaf)))))) (.seq (.seq .leaf (.blk (.loop [(6, .int .i64)] (.seq (.seq .leaf (.cond .leaf .leaf)) (.seq (.blk (.seq (.tree (.op 0 [] (.op 1 [] (.op 2 [] (.op 4 [] (.op 5 [] (.op 6 [] (.op 3 [] (.op 8 [] (.op 7 [] (.op 9 [] .done))))))))))) (.seq .leaf (.seq .leaf (.tree (.op 0 [] (.op 1 [] (.op 2 [] (.op 3 [] (.op 4 [] (.op 7 [] (.op 9 [] (.op 10 [] (.op 11 [] (.op 5 [] (.op 6 [] (.op 8 [] (.op 12 [] (.op 13 [] (.op 14 [] (.op 15 [] .done))))))))))))))))))))) .leaf))))) (.seq .leaf (.seq (.seq .leaf (.blk (.loop [(104, .int .i64)] (.seq .leaf (.seq (.cond .leaf .leaf) (.seq (.blk (.seq .leaf (.seq (.tree (.op 0 [] (.op 3 [] (.op 7 [] (.op 1 [] (.op 2 [] (.op 4 [] (.op 5 [] (.op 6 [] (.op 8 [] (.op 9 [] (.op 10 [] (.op 11 [] .done))))))))))))) (.seq (.tree (.op 0 [] (.op 2 [] (.op 4 [] (.op 6 [] (.op 9 [] (.op 12 [] (.op 17 [] (.op 18 [] (.op 21 [] (.op 22 [] (.op 1 [] (.op 3 [] (.op 5 [] (.op 7 [] (.op 8 [] (.op 10 [] (.op 11 [] (.op 13 [] (.op 14 [] (.op 15 [] (.op 16 [] (.op 19 [] (.op 20 [] (.op 23 [] (.op 24 [] (.op 25 [] .done))))))))))))))))))))))))))) (.seq (.tree (.op 0 [] (.op 3 [] (.op 7 [] (.op 1 [] (.op 2 [] (.op 4 [] (.op 5 [] (.op 6 [] (.op 8 [] (.op 9 [] (.op 10 [] (.op 11 [] .done))))))))))))) (.seq .leaf .leaf)))))) .leaf)))))) (.seq .leaf (.blk (.loop [(194, .int .i64)] (.seq .leaf (.seq (.cond .leaf .leaf) (.seq (.blk (.seq .leaf (.tree (.op 0 [] (.op 1 [] (.op 2 [] (.op 3 [] (.op 4 [] (.op 6 [] (.op 7 [] (.op 10 [] (.op 11 [] (.op 5 [] (.op 8 [] (.op 9 [] (.op 12 [] (.op 13 [] .done))))))))))))))))) .leaf)))))))))))
theorem zx7 : okC P qs Tryz.f175.ntmps ((Tryz.f175.body).getD .skip) zi9 = true := by kernel_rfl
def zmd (hv : Option Addr) (b : Option Addr) (b_l b_c : Nat) (R : Ending → World → Prop) (w : World) : Prop :=
  zbi (zc P zaf) zaf w fun b4 w_1 =>
  zat Int (fun s w_2 k =>
  xk (decide (s < 16)) (
  zbj w_2 fun w_3 =>
  zzg .i64 4 s fun t24 =>
  ixS b b_l 1 t24 fun t25 =>
  zzg .i64 4 s fun t31 =>
  zbb .i64 t31 1 fun t32 =>
  ixS b b_l 1 t32 fun t33 =>
  zzg .i64 4 s fun t40 =>
  zbb .i64 t40 2 fun t41 =>
  ixS b b_l 1 t41 fun t42 =>
  zzg .i64 4 s fun t49 =>
  zbb .i64 t49 3 fun t50 =>
  ixS b b_l 1 t50 fun t51 =>
  ld (.int .u8) t25 w_3 fun (t26 : Int) =>
  cvI .u32 t26 fun t27 =>
  qgz .u32 t27 24 fun t28 =>
  ld (.int .u8) t33 w_3 fun (t34 : Int) =>
  cvI .u32 t34 fun t35 =>
  qgz .u32 t35 16 fun t36 =>
  orI .u32 t28 t36 fun t37 =>
  ld (.int .u8) t42 w_3 fun (t43 : Int) =>
  cvI .u32 t43 fun t44 =>
  qgz .u32 t44 8 fun t45 =>
  orI .u32 t37 t45 fun t46 =>
  ld (.int .u8) t51 w_3 fun (t52 : Int) =>
  cvI .u32 t52 fun t53 =>
  orI .u32 t46 t53 fun t54 =>
  ixR (⟨b4, 0, none⟩ : Addr) 64 1 s fun t55 =>
  stC t55 (Value.int .u32 t54) w_3 fun w_4 =>
  zbb .i64 s 1 fun t56 =>
  k t56 w_4) (
  zat Int (fun s_1 w_5 k_1 =>
  xk (decide (s_1 < 64)) (
  zbj w_5 fun w_6 =>
  zow .i64 s_1 2 fun t62 =>
  ixR (⟨b4, 0, none⟩ : Addr) 64 1 t62 fun t63 =>
  zow .i64 s_1 15 fun t66 =>
  ixR (⟨b4, 0, none⟩ : Addr) 64 1 t66 fun t67 =>
  ld (.int .u32) t63 w_6 fun (t64 : Int) =>
  ld (.int .u32) t67 w_6 fun (t68 : Int) =>
  zgp P jo #[(Value.int .u32 t64), (Value.int .i64 (-17))] [.int .u32] false w_6 fun (t70 : Int) =>
  zgp P jo #[(Value.int .u32 t64), (Value.int .i64 (-19))] [.int .u32] false w_6 fun (t72 : Int) =>
  zqv .u32 t70 t72 fun t73 =>
  z4j .u32 t64 10 fun t75 =>
  zqv .u32 t73 t75 fun t76 =>
  zgp P jo #[(Value.int .u32 t68), (Value.int .i64 (-7))] [.int .u32] false w_6 fun (t78 : Int) =>
  zgp P jo #[(Value.int .u32 t68), (Value.int .i64 (-18))] [.int .u32] false w_6 fun (t80 : Int) =>
  zqv .u32 t78 t80 fun t81 =>
  z4j .u32 t68 3 fun t83 =>
  zqv .u32 t81 t83 fun t84 =>
  zbj w_6 fun w_7 =>
  zow .i64 s_1 7 fun t88 =>
  ixR (⟨b4, 0, none⟩ : Addr) 64 1 t88 fun t89 =>
  zow .i64 s_1 16 fun t95 =>
  ixR (⟨b4, 0, none⟩ : Addr) 64 1 t95 fun t96 =>
  ld (.int .u32) t89 w_7 fun (t90 : Int) =>
  zbb .u32 t76 t90 fun t91 =>
  zbb .u32 t91 t84 fun t93 =>
  ld (.int .u32) t96 w_7 fun (t97 : Int) =>
  zbb .u32 t93 t97 fun t98 =>
  ixR (⟨b4, 0, none⟩ : Addr) 64 1 s_1 fun t99 =>
  stC t99 (Value.int .u32 t98) w_7 fun w_8 =>
  zbb .i64 s_1 1 fun t60 =>
  k_1 t60 w_8) (
  zu hv fun p =>
  ldA P 8 p w_5 fun t103 =>
  zbi (zc P jq) jq w_5 fun b11 w_9 =>
  zbn P (storeVar jq (⟨b11, 0, none⟩ : Addr) (Value.agg t103)) w_9 fun w_10 =>
  zat Int (fun s_2 w_11 k_2 =>
  xk (decide (s_2 < 64)) (
  zbj w_11 fun w_12 =>
  ld (.int .u32) (⟨b11, 4, none⟩ : Addr) w_12 fun (t108 : Int) =>
  zgp P jo #[(Value.int .u32 t108), (Value.int .i64 (-6))] [.int .u32] false w_12 fun (t109 : Int) =>
  ld (.int .u32) (⟨b11, 4, none⟩ : Addr) w_12 fun (t111 : Int) =>
  zgp P jo #[(Value.int .u32 t111), (Value.int .i64 (-11))] [.int .u32] false w_12 fun (t112 : Int) =>
  zqv .u32 t109 t112 fun t113 =>
  ld (.int .u32) (⟨b11, 4, none⟩ : Addr) w_12 fun (t115 : Int) =>
  zgp P jo #[(Value.int .u32 t115), (Value.int .i64 (-25))] [.int .u32] false w_12 fun (t116 : Int) =>
  zqv .u32 t113 t116 fun t117 =>
  zbj w_12 fun w_13 =>
  ixR (⟨0, 0, none⟩ : Addr) 64 1 s_2 fun t136 =>
  ixR (⟨b4, 0, none⟩ : Addr) 64 1 s_2 fun t140 =>
  ld (.int .u32) (⟨b11, 7, none⟩ : Addr) w_13 fun (t119 : Int) =>
  zbb .u32 t119 t117 fun t121 =>
  ld (.int .u32) (⟨b11, 4, none⟩ : Addr) w_13 fun (t123 : Int) =>
  ld (.int .u32) (⟨b11, 5, none⟩ : Addr) w_13 fun (t125 : Int) =>
  qac .u32 t123 t125 fun t126 =>
  ld (.int .u32) (⟨b11, 4, none⟩ : Addr) w_13 fun (t128 : Int) =>
  zqv .u32 (IntKind.max .u32) t128 fun t129 =>
  ld (.int .u32) (⟨b11, 6, none⟩ : Addr) w_13 fun (t131 : Int) =>
  qac .u32 t129 t131 fun t132 =>
  zqv .u32 t126 t132 fun t133 =>
  zbb .u32 t121 t133 fun t134 =>
  ld (.int .u32) t136 w_13 fun (t137 : Int) =>
  zbb .u32 t134 t137 fun t138 =>
  ld (.int .u32) t140 w_13 fun (t141 : Int) =>
  zbb .u32 t138 t141 fun t142 =>
  zbj w_13 fun w_14 =>
  ld (.int .u32) (⟨b11, 0, none⟩ : Addr) w_14 fun (t144 : Int) =>
  zgp P jo #[(Value.int .u32 t144), (Value.int .i64 (-2))] [.int .u32] false w_14 fun (t145 : Int) =>
  ld (.int .u32) (⟨b11, 0, none⟩ : Addr) w_14 fun (t147 : Int) =>
  zgp P jo #[(Value.int .u32 t147), (Value.int .i64 (-13))] [.int .u32] false w_14 fun (t148 : Int) =>
  zqv .u32 t145 t148 fun t149 =>
  ld (.int .u32) (⟨b11, 0, none⟩ : Addr) w_14 fun (t151 : Int) =>
  zgp P jo #[(Value.int .u32 t151), (Value.int .i64 (-22))] [.int .u32] false w_14 fun (t152 : Int) =>
  zqv .u32 t149 t152 fun t153 =>
  ld (.int .u32) (⟨b11, 0, none⟩ : Addr) w_14 fun (t156 : Int) =>
  ld (.int .u32) (⟨b11, 1, none⟩ : Addr) w_14 fun (t158 : Int) =>
  qac .u32 t156 t158 fun t159 =>
  ld (.int .u32) (⟨b11, 0, none⟩ : Addr) w_14 fun (t161 : Int) =>
  ld (.int .u32) (⟨b11, 2, none⟩ : Addr) w_14 fun (t163 : Int) =>
  qac .u32 t161 t163 fun t164 =>
  zqv .u32 t159 t164 fun t165 =>
  ld (.int .u32) (⟨b11, 1, none⟩ : Addr) w_14 fun (t167 : Int) =>
  ld (.int .u32) (⟨b11, 2, none⟩ : Addr) w_14 fun (t169 : Int) =>
  qac .u32 t167 t169 fun t170 =>
  zqv .u32 t165 t170 fun t171 =>
  zbb .u32 t153 t171 fun t172 =>
  zbb .u32 t142 t172 fun t175 =>
  ld (.int .u32) (⟨b11, 0, none⟩ : Addr) w_14 fun (t177 : Int) =>
  ld (.int .u32) (⟨b11, 1, none⟩ : Addr) w_14 fun (t179 : Int) =>
  ld (.int .u32) (⟨b11, 2, none⟩ : Addr) w_14 fun (t181 : Int) =>
  ld (.int .u32) (⟨b11, 3, none⟩ : Addr) w_14 fun (t183 : Int) =>
  zbb .u32 t183 t142 fun t185 =>
  ld (.int .u32) (⟨b11, 4, none⟩ : Addr) w_14 fun (t187 : Int) =>
  ld (.int .u32) (⟨b11, 5, none⟩ : Addr) w_14 fun (t189 : Int) =>
  ld (.int .u32) (⟨b11, 6, none⟩ : Addr) w_14 fun (t191 : Int) =>
  za0 P (Instr.build jq #[(0, (Value.int .u32 t175)), (1, (Value.int .u32 t177)), (2, (Value.int .u32 t179)), (3, (Value.int .u32 t181)), (4, (Value.int .u32 t185)), (5, (Value.int .u32 t187)), (6, (Value.int .u32 t189)), (7, (Value.int .u32 t191))]) .any w_14 fun (t192 : Value) =>
  zbn P (storeVar jq (⟨b11, 0, none⟩ : Addr) t192) w_14 fun w_15 =>
  zbb .i64 s_2 1 fun t193 =>
  k_2 t193 w_15) (
  zat Int (fun s_3 w_16 k_3 =>
  xk (decide (s_3 < 8)) (
  zbj w_16 fun w_17 =>
  zu hv fun p_1 =>
  ixR p_1 8 1 s_3 fun t201 =>
  ixR (⟨b11, 0, none⟩ : Addr) 8 1 s_3 fun t204 =>
  zu hv fun p_2 =>
  ld (.int .u32) t201 w_17 fun (t202 : Int) =>
  ld (.int .u32) t204 w_17 fun (t205 : Int) =>
  zbb .u32 t202 t205 fun t206 =>
  ixR p_2 8 1 s_3 fun t209 =>
  stC t209 (Value.int .u32 t206) w_17 fun w_18 =>
  zbb .i64 s_3 1 fun t210 =>
  k_3 t210 w_18) (
  R (.returned (Value.tuple #[])) w_16)) 0 w_11)) 0 w_10)) 16 w_2)) 0 w_1
theorem zzc (hv : Option Addr) (b : Option Addr) (b_l b_c : Nat) (R : Ending → World → Prop) (w : World) : tr P qs ((Tryz.f175.body).getD .skip) zi9 (zcb 0 [(0, (Value.pointer hv)), (0, (Value.slice b b_l b_c))]) (zcl P Tryz.f175.results.toList R) w = zmd hv b b_l b_c R w := by kernel_rfl
theorem zyj {hv : Option Addr} {b : Option Addr} {b_l b_c : Nat} {R : Ending → World → Prop} {w : World} (hT : zmd hv b b_l b_c R w) : qg P zmk #[(Value.pointer hv), (Value.slice b b_l b_c)] w R :=
 zx (fn := Tryz.f175) (c := (Tryz.f175.body).getD .skip) (ann := zi9) (args := [(0, (Value.pointer hv)), (0, (Value.slice b b_l b_c))]) (qs := qs) mixed Tryz.func175 rfl (by kernel_rfl) (by kernel_rfl) zx7 ((zzc hv b b_l b_c R w).symm ▸ hT)
def zha : Ann := (.blk (.loop [] (.seq (.seq .leaf (.cond .leaf .leaf)) (.blk (.seq .leaf (.seq (.seq .leaf (.cond .leaf .leaf)) .leaf))))))
theorem zux : okC P qs Tryz.f188.ntmps ((Tryz.f188.body).getD .skip) zha = true := by kernel_rfl
def zi4 (yield : Value) (c0 : Option Addr) (R : Ending → World → Prop) (w : World) : Prop :=
  zat Unit (fun _ w_1 k =>
  zu c0 fun p =>
  ld .str p w_1 fun (t6 : ByteArray) =>
  xk (!(t6.toList == (ByteArray.mk #[]).toList)) (
  zu c0 fun p_1 =>
  ld .str p_1 w_1 fun (t9 : ByteArray) =>
  qp P zm6 #[(Value.string t9), (Value.string (ByteArray.mk #[47]))] [.str, .str, .bool] true w_1 fun (t10 : (ByteArray × ByteArray × Bool)) w_2 =>
  zz2 P yield #[(Value.string t10.1)] [.bool] false w_2 fun (t16 : Bool) w_3 =>
  xk (!t16) (
  R (.returned (Value.tuple #[])) w_3) (
  zu c0 fun p_2 =>
  stC p_2 (Value.string t10.2.1) w_3 fun w_4 =>
  k () w_4)) (
  R (.returned (Value.tuple #[])) w_1)) () w
theorem zuj (yield : Value) (c0 : Option Addr) (R : Ending → World → Prop) (w : World) : tr P qs ((Tryz.f188.body).getD .skip) zha (zcb 0 [(1, yield), (0, (Value.pointer c0))]) (zcl P Tryz.f188.results.toList R) w = zi4 yield c0 R w := by kernel_rfl
theorem zu8 {yield : Value} {c0 : Option Addr} {R : Ending → World → Prop} {w : World} (hT : zi4 yield c0 R w) : qg P zfz #[yield, (Value.pointer c0)] w R :=
 zx (fn := Tryz.f188) (c := (Tryz.f188.body).getD .skip) (ann := zha) (args := [(1, yield), (0, (Value.pointer c0))]) (qs := qs) mixed Tryz.func188 rfl (by kernel_rfl) (by kernel_rfl) zux ((zuj yield c0 R w).symm ▸ hT)
def zku : Ann := (.seq .leaf (.seq (.seq .leaf (.blk (.loop [(7, .int .i64)] (.seq .leaf (.seq (.cond .leaf .leaf) (.seq (.blk (.seq .leaf (.seq .leaf (.cond (.seq .leaf .leaf) .leaf)))) .leaf)))))) (.seq (.seq .leaf (.cond (.seq .leaf .leaf) .leaf)) (.seq .leaf .leaf))))
theorem z0t : okC P qs Tryz.f207.ntmps ((Tryz.f207.body).getD .skip) zku = true := by kernel_rfl
def zou (names : Option Addr) (names_l names_c : Nat) (R : Ending → World → Prop) (w : World) : Prop :=
  zat Int (fun s w_1 k =>
  xk (decide (s < (names_l : Int))) (
  ixS names names_l 1 s fun t9 =>
  ld .str t9 w_1 fun (t10 : ByteArray) =>
  qp P zps #[(Value.string t10)] [.bool] false w_1 fun (t12 : Bool) w_2 =>
  xk (!t12) (
  R (.returned (Value.int .i64 41)) w_2) (
  zbb .i64 s 1 fun t14 =>
  k t14 w_2)) (
  xk (decide ((names_l : Int) > 8)) (
  R (.returned (Value.int .i64 42)) w_1) (
  R (.returned (Value.int .i64 0)) w_1))) 0 w
theorem z0c (names : Option Addr) (names_l names_c : Nat) (R : Ending → World → Prop) (w : World) : tr P qs ((Tryz.f207.body).getD .skip) zku (zcb 0 [(0, (Value.slice names names_l names_c))]) (zcl P Tryz.f207.results.toList R) w = zou names names_l names_c R w := by kernel_rfl
theorem zzw {names : Option Addr} {names_l names_c : Nat} {R : Ending → World → Prop} {w : World} (hT : zou names names_l names_c R w) : qg P zog #[(Value.slice names names_l names_c)] w R :=
 zx (fn := Tryz.f207) (c := (Tryz.f207.body).getD .skip) (ann := zku) (args := [(0, (Value.slice names names_l names_c))]) (qs := qs) mixed Tryz.func207 rfl (by kernel_rfl) (by kernel_rfl) z0t ((z0c names names_l names_c R w).symm ▸ hT)
def zl5 : Ann := (.seq .leaf (.join [] (.seq .leaf (.cond (.seq .leaf .leaf) .leaf)) (.seq (.seq .leaf (.blk (.loop [(21, .int .i64)] (.seq .leaf (.seq (.cond .leaf .leaf) (.seq (.blk (.seq .leaf (.seq .leaf (.cond (.seq .leaf .leaf) .leaf)))) .leaf)))))) (.seq .leaf .leaf))))
theorem z3t : okC P qs Tryz.f224.ntmps ((Tryz.f224.body).getD .skip) zl5 = true := by kernel_rfl
def zpo (s : ByteArray) (R : Ending → World → Prop) (w : World) : Prop :=
  joinP Unit (fun k =>
  xk (s.toList == (ByteArray.mk #[]).toList) (
  R (.returned (Value.bool false)) w) (
  xk (decide ((s.size : Int) > 16)) (
  R (.returned (Value.bool false)) w) (
  xk (s.toList == (ByteArray.mk #[46]).toList) (
  R (.returned (Value.bool false)) w) (
  xk (s.toList == (ByteArray.mk #[46, 46]).toList) (
  R (.returned (Value.bool false)) w) (
  k () w))))) (fun _ w_1 =>
  zat Int (fun s_2 w_2 k_1 =>
  xk (decide (s_2 < (s.size : Int))) (
  zsy s s_2 fun t26 =>
  zgp P zjs #[(Value.int .u8 t26)] [.bool] false w_2 fun (t27 : Bool) =>
  xk (!t27) (
  R (.returned (Value.bool false)) w_2) (
  zbb .i64 s_2 1 fun t29 =>
  k_1 t29 w_2)) (
  R (.returned (Value.bool true)) w_2)) 0 w_1)
theorem z2w (s : ByteArray) (R : Ending → World → Prop) (w : World) : tr P qs ((Tryz.f224.body).getD .skip) zl5 (zcb 0 [(0, (Value.string s))]) (zcl P Tryz.f224.results.toList R) w = zpo s R w := by kernel_rfl
theorem z3k {s : ByteArray} {R : Ending → World → Prop} {w : World} (hT : zpo s R w) : qg P zps #[(Value.string s)] w R :=
 zx (fn := Tryz.f224) (c := (Tryz.f224.body).getD .skip) (ann := zl5) (args := [(0, (Value.string s))]) (qs := qs) mixed Tryz.func224 rfl (by kernel_rfl) (by kernel_rfl) z3t ((z2w s R w).symm ▸ hT)
set_option maxRecDepth 100000
def zo8 : Ann := (.seq .leaf (.seq .leaf .leaf))
theorem z9b : okC P qs Tryz.f12.ntmps ((Tryz.f12.body).getD .skip) zo8 = true := by kernel_rfl
def zt3 (quota : Int) (R : Ending → World → Prop) (w : World) : Prop :=
  za0 P (Builtin.max_ #[zdx, zdx] zdx #[(Value.int .i64 quota), (Value.int .i64 0)]) (.int .i64) w fun (t4 : Int) =>
  zan P (Instr.makeMap zab none) .map w fun (t5 : (Option Nat)) w_1 =>
  za0 P (Instr.build zic #[(0, (Value.int .i64 t4)), (2, (Value.map t5))]) .any w_1 fun (t6 : Value) =>
  zbi (Value.cells t6) zic w_1 fun b7 w_2 =>
  R (.returned (Value.pointer (some (⟨b7, 0, none⟩ : Addr)))) w_2
theorem z8y (quota : Int) (R : Ending → World → Prop) (w : World) : tr P qs ((Tryz.f12.body).getD .skip) zo8 (zcb 0 [(0, (Value.int .i64 quota))]) (zcl P Tryz.f12.results.toList R) w = zt3 quota R w := by kernel_rfl
theorem qak {quota : Int} {R : Ending → World → Prop} {w : World} (hT : zt3 quota R w) : qg P zpz #[(Value.int .i64 quota)] w R :=
 zx (fn := Tryz.f12) (c := (Tryz.f12.body).getD .skip) (ann := zo8) (args := [(0, (Value.int .i64 quota))]) (qs := qs) mixed Tryz.func12 rfl (by kernel_rfl) (by kernel_rfl) z9b ((z8y quota R w).symm ▸ hT)
def zfq : Ann := (.seq .leaf (.seq (.seq .leaf (.cond (.seq .leaf .leaf) .leaf)) (.seq .leaf .leaf)))
theorem zqu : okC P qs Tryz.f17.ntmps ((Tryz.f17.body).getD .skip) zfq = true := by kernel_rfl
def zg7 (s : Option Addr) (R : Ending → World → Prop) (w : World) : Prop :=
  xk (Option.isNone s) (
  R (.returned (Value.int .i64 0)) w) (
  zu s fun p =>
  ld .map (Addr.add p 2) w fun (t8 : (Option Nat)) =>
  za0 P (Builtin.len_ #[zab] zdx #[(Value.map t8)]) (.int .i64) w fun (t9 : Int) =>
  R (.returned (Value.int .i64 t9)) w)
theorem zry (s : Option Addr) (R : Ending → World → Prop) (w : World) : tr P qs ((Tryz.f17.body).getD .skip) zfq (zcb 0 [(0, (Value.pointer s))]) (zcl P Tryz.f17.results.toList R) w = zg7 s R w := by kernel_rfl
theorem zrk {s : Option Addr} {R : Ending → World → Prop} {w : World} (hT : zg7 s R w) : qg P ze0 #[(Value.pointer s)] w R :=
 zx (fn := Tryz.f17) (c := (Tryz.f17.body).getD .skip) (ann := zfq) (args := [(0, (Value.pointer s))]) (qs := qs) mixed Tryz.func17 rfl (by kernel_rfl) (by kernel_rfl) zqu ((zry s R w).symm ▸ hT)
def zfp : Ann := (.seq .leaf (.seq (.seq .leaf (.cond (.seq .leaf .leaf) .leaf)) (.seq .leaf .leaf)))
theorem zr0 : okC P qs Tryz.f18.ntmps ((Tryz.f18.body).getD .skip) zfp = true := by kernel_rfl
def zgs (s : Option Addr) (R : Ending → World → Prop) (w : World) : Prop :=
  xk (Option.isNone s) (
  R (.returned (Value.int .i64 0)) w) (
  zu s fun p =>
  ld (.int .i64) (Addr.add p 1) w fun (t8 : Int) =>
  R (.returned (Value.int .i64 t8)) w)
theorem zr8 (s : Option Addr) (R : Ending → World → Prop) (w : World) : tr P qs ((Tryz.f18.body).getD .skip) zfp (zcb 0 [(0, (Value.pointer s))]) (zcl P Tryz.f18.results.toList R) w = zgs s R w := by kernel_rfl
theorem zq0 {s : Option Addr} {R : Ending → World → Prop} {w : World} (hT : zgs s R w) : qg P zey #[(Value.pointer s)] w R :=
 zx (fn := Tryz.f18) (c := (Tryz.f18.body).getD .skip) (ann := zfp) (args := [(0, (Value.pointer s))]) (qs := qs) mixed Tryz.func18 rfl (by kernel_rfl) (by kernel_rfl) zr0 ((zr8 s R w).symm ▸ hT)
def ze4 : Ann := (.seq .leaf (.seq (.seq .leaf (.cond (.seq .leaf .leaf) .leaf)) (.seq .leaf (.seq .leaf (.seq (.seq .leaf (.blk (.loop [(6, .int .i64), (23, .int .i64)] (.seq .leaf (.seq (.cond .leaf .leaf) (.seq (.jblk [(6, .int .i64)] (.seq .leaf (.seq (.seq .leaf (.cond (.seq .leaf .leaf) .leaf)) (.seq .leaf (.seq (.seq .leaf (.seq .leaf (.cond .leaf .leaf))) (.seq (.tree (.op 0 [] (.op 2 [] (.op 1 [] (.op 3 [1] (.op 4 [] .done)))))) (.seq (.tree (.op 0 [] (.op 1 [] (.op 2 [] (.op 3 [] (.op 4 [] (.op 5 [] (.op 6 [] (.op 7 [] (.op 8 [] (.op 9 [] (.op 10 [] .done)))))))))))) (.seq .leaf (.cond .leaf .leaf))))))))) .leaf)))))) (.seq (.seq (.tree (.op 0 [] (.op 1 [] (.op 2 [] (.op 3 [] (.op 5 [] (.op 6 [] (.op 7 [] (.op 4 [] (.op 8 [] (.op 9 [] (.op 10 [] .done)))))))))))) (.cond (.seq .leaf .leaf) .leaf)) (.seq (.seq .leaf (.blk (.loop [] (.seq .leaf (.seq (.cond .leaf .leaf) (.jblk [] (.seq .leaf (.seq (.tree (.op 0 [] (.op 1 [] (.op 2 [] (.op 3 [] (.op 4 [] (.op 5 [] (.op 6 [] (.op 7 [] (.op 8 [] (.op 9 [] (.op 10 [] .done)))))))))))) (.join [] (.seq (.tree (.op 0 [] (.op 1 [] (.op 2 [] (.op 4 [] (.op 3 [4] (.op 5 [] (.op 6 [] .done)))))))) (.cond .leaf .leaf)) (.seq .leaf (.tree (.op 0 [] (.op 1 [] (.op 2 [] (.op 5 [] (.op 3 [] (.op 4 [] (.op 6 [] .done)))))))))))))))))) (.seq .leaf .leaf))))))))
theorem zqe : okC P qs Tryz.f60.ntmps ((Tryz.f60.body).getD .skip) ze4 = true := by kernel_rfl
def zf8 (s : Option Addr) (list : Option Addr) (list_l list_c : Nat) (R : Ending → World → Prop) (w : World) : Prop :=
  xk (Option.isNone s) (
  R (.returned (Value.int .i64 7)) w) (
  zan P (Instr.makeMap zab none) .map w fun (t20 : (Option Nat)) w_1 =>
  zat (Int × Int) (fun s_1 w_2 k =>
  xk (decide (s_1.2 < (list_l : Int))) (
  joinP Int (fun k_1 =>
  ixS list list_l 1 s_1.2 fun t25 =>
  ld .slc t25 w_2 fun (t26 : (Option Addr × Nat × Nat)) =>
  xk (decide ((t26.2.1 : Int) > 4096)) (
  R (.returned (Value.int .i64 2)) w_2) (
  qp P zmy #[(Value.slice t26.1 t26.2.1 t26.2.2)] [.any] false w_2 fun (t31 : Value) w_3 =>
  zbi (zc P zf) zf w_3 fun b9 w_4 =>
  zbn P (storeVar zf (⟨b9, 0, none⟩ : Addr) t31) w_4 fun w_5 =>
  ldA P 32 (⟨b9, 0, none⟩ : Addr) w_5 fun t34 =>
  qgx P (Instr.lookup zab (Value.map t20) (Value.agg t34) true) [.slc, .bool] w_5 fun (t35 : ((Option Addr × Nat × Nat) × Bool)) =>
  xk t35.2 (
  k_1 s_1.1 w_5) (
  zbj w_5 fun w_6 =>
  ldA P 32 (⟨b9, 0, none⟩ : Addr) w_6 fun t40 =>
  qp P zb9 #[(Value.slice t26.1 t26.2.1 t26.2.2)] [.slc] false w_6 fun (t42 : (Option Addr × Nat × Nat)) w_7 =>
  ((ldA P 32 (⟨b9, 0, none⟩ : Addr) w_7 fun t40_1 =>
  (Value.agg t40_1) = (Value.agg t40)) ∧
  zbn P (Instr.mapUpdate zab (Value.map t20) (Value.agg t40) (Value.slice t42.1 t42.2.1 t42.2.2)) w_7 fun w_8 =>
  zbj w_8 fun w_9 =>
  zu s fun p =>
  ld .map (Addr.add p 2) w_9 fun (t47 : (Option Nat)) =>
  ldA P 32 (⟨b9, 0, none⟩ : Addr) w_9 fun t48 =>
  qgx P (Instr.lookup zab (Value.map t47) (Value.agg t48) true) [.slc, .bool] w_9 fun (t49 : ((Option Addr × Nat × Nat) × Bool)) =>
  xk (!t49.2) (
  zbb .i64 s_1.1 (t26.2.1 : Int) fun t57 =>
  k_1 t57 w_9) (
  k_1 s_1.1 w_9))))) (fun s_2 w_10 =>
  zbb .i64 s_1.2 1 fun t58 =>
  k (s_2, t58) w_10)) (
  zbj w_2 fun w_11 =>
  zu s fun p_1 =>
  zu s fun p_2 =>
  ld (.int .i64) p_1 w_11 fun (t63 : Int) =>
  ld (.int .i64) (Addr.add p_2 1) w_11 fun (t67 : Int) =>
  zow .i64 t63 t67 fun t68 =>
  xk (decide (s_1.1 > t68)) (
  R (.returned (Value.int .i64 3)) w_11) (
  zan P (Instr.range zab (Value.map t20)) .ptr w_11 fun (t71 : (Option Addr)) w_12 =>
  zat Unit (fun _ w_13 k_2 =>
  zan P (Instr.next (Value.pointer t71) false zlp) .any w_13 fun (t72 : Value) w_14 =>
  exV t72 0 .bool fun (t73 : Bool) =>
  xk t73 (
  joinP Unit (fun k_3 =>
  za0 P (Instr.entry (Value.pointer t71)) .any w_14 fun (t74 : Value) =>
  exV t74 0 .any fun (t75 : Value) =>
  exV t74 1 .slc fun (t76 : (Option Addr × Nat × Nat)) =>
  zbi (zc P zf) zf w_14 fun b14 w_15 =>
  zbn P (storeVar zf (⟨b14, 0, none⟩ : Addr) t75) w_15 fun w_16 =>
  zbj w_16 fun w_17 =>
  zu s fun p_3 =>
  ld .map (Addr.add p_3 2) w_17 fun (t81 : (Option Nat)) =>
  ldA P 32 (⟨b14, 0, none⟩ : Addr) w_17 fun t82 =>
  qgx P (Instr.lookup zab (Value.map t81) (Value.agg t82) true) [.slc, .bool] w_17 fun (t83 : ((Option Addr × Nat × Nat) × Bool)) =>
  joinP Unit (fun k_4 =>
  zbj w_17 fun w_18 =>
  xk t83.2 (
  ldA P 32 (⟨b14, 0, none⟩ : Addr) w_18 fun t90 =>
  qp P zmy #[(Value.slice t83.1.1 t83.1.2.1 t83.1.2.2)] [.any] false w_18 fun (t89 : Value) w_19 =>
  ((ldA P 32 (⟨b14, 0, none⟩ : Addr) w_19 fun t90_1 =>
  (Value.agg t90_1) = (Value.agg t90)) ∧
  za0 P (eqM .eql zf (.tmp 89) (.tmp 90) t89 (Value.agg t90)) .bool w_19 fun (t91 : Bool) =>
  xk t91 (
  k_3 () w_19) (
  k_4 () w_19))) (
  ((undef = undef) ∧
  k_4 () w_18))) (fun _ w_20 =>
  zu s fun p_4 =>
  ld (.int .i64) (Addr.add p_4 1) w_20 fun (t96 : Int) =>
  zow .i64 (t76.2.1 : Int) (t83.1.2.1 : Int) fun t101 =>
  zbb .i64 t96 t101 fun t102 =>
  zu s fun p_5 =>
  stC (Addr.add p_5 1) (Value.int .i64 t102) w_20 fun w_21 =>
  zbj w_21 fun w_22 =>
  zu s fun p_6 =>
  ld .map (Addr.add p_6 2) w_22 fun (t108 : (Option Nat)) =>
  ldA P 32 (⟨b14, 0, none⟩ : Addr) w_22 fun t109 =>
  zbn P (Instr.mapUpdate zab (Value.map t108) (Value.agg t109) (Value.slice t76.1 t76.2.1 t76.2.2)) w_22 fun w_23 =>
  k_3 () w_23)) (fun _ w_24 =>
  k_2 () w_24)) (
  R (.returned (Value.int .i64 0)) w_14)) () w_12))) (0, 0) w_1)
theorem zqg (s : Option Addr) (list : Option Addr) (list_l list_c : Nat) (R : Ending → World → Prop) (w : World) : tr P qs ((Tryz.f60.body).getD .skip) ze4 (zcb 0 [(0, (Value.pointer s)), (0, (Value.slice list list_l list_c))]) (zcl P Tryz.f60.results.toList R) w = zf8 s list list_l list_c R w := by kernel_rfl
theorem zqj {s : Option Addr} {list : Option Addr} {list_l list_c : Nat} {R : Ending → World → Prop} {w : World} (hT : zf8 s list list_l list_c R w) : qg P zeh #[(Value.pointer s), (Value.slice list list_l list_c)] w R :=
 zx (fn := Tryz.f60) (c := (Tryz.f60.body).getD .skip) (ann := ze4) (args := [(0, (Value.pointer s)), (0, (Value.slice list list_l list_c))]) (qs := qs) mixed Tryz.func60 rfl (by kernel_rfl) (by kernel_rfl) zqe ((zqg s list list_l list_c R w).symm ▸ hT)
def zg2 : Ann := (.seq .leaf (.seq (.seq .leaf (.cond (.seq .leaf .leaf) .leaf)) (.seq (.tree (.op 0 [] (.op 1 [] (.op 2 [] (.op 3 [] (.op 4 [] (.op 5 [] (.op 6 [] (.op 7 [] (.op 8 [] (.op 9 [] (.op 10 [] .done)))))))))))) (.seq (.seq .leaf (.cond (.seq .leaf .leaf) .leaf)) (.seq (.seq (.tree (.op 0 [] (.op 2 [] (.op 1 [2] (.op 3 [] .done))))) (.cond (.seq .leaf .leaf) .leaf)) (.seq .leaf .leaf))))))
theorem zvf : okC P qs Tryz.f69.ntmps ((Tryz.f69.body).getD .skip) zg2 = true := by kernel_rfl
def zio (s : Option Addr) (d : Value) (R : Ending → World → Prop) (w : World) : Prop :=
  zbi (Value.cells d) zf w fun b3 w_1 =>
  xk (Option.isNone s) (
  R (.returned (Value.tuple #[(Value.slice none 0 0), (Value.int .i64 7)])) w_1) (
  zbj w_1 fun w_2 =>
  zu s fun p =>
  ld .map (Addr.add p 2) w_2 fun (t14 : (Option Nat)) =>
  ldA P 32 (⟨b3, 0, none⟩ : Addr) w_2 fun t15 =>
  qgx P (Instr.lookup zab (Value.map t14) (Value.agg t15) true) [.slc, .bool] w_2 fun (t16 : ((Option Addr × Nat × Nat) × Bool)) =>
  xk (!t16.2) (
  R (.returned (Value.tuple #[(Value.slice none 0 0), (Value.int .i64 50)])) w_2) (
  zbj w_2 fun w_3 =>
  ldA P 32 (⟨b3, 0, none⟩ : Addr) w_3 fun t23 =>
  qp P zmy #[(Value.slice t16.1.1 t16.1.2.1 t16.1.2.2)] [.any] false w_3 fun (t22 : Value) w_4 =>
  ((ldA P 32 (⟨b3, 0, none⟩ : Addr) w_4 fun t23_1 =>
  (Value.agg t23_1) = (Value.agg t23)) ∧
  za0 P (eqM .neq zf (.tmp 22) (.tmp 23) t22 (Value.agg t23)) .bool w_4 fun (t24 : Bool) =>
  xk t24 (
  R (.returned (Value.tuple #[(Value.slice none 0 0), (Value.int .i64 51)])) w_4) (
  qp P zb9 #[(Value.slice t16.1.1 t16.1.2.1 t16.1.2.2)] [.slc] false w_4 fun (t26 : (Option Addr × Nat × Nat)) w_5 =>
  R (.returned (Value.tuple #[(Value.slice t26.1 t26.2.1 t26.2.2), (Value.int .i64 0)])) w_5))))
theorem zt4 (s : Option Addr) (d : Value) (R : Ending → World → Prop) (w : World) : tr P qs ((Tryz.f69.body).getD .skip) zg2 (zcb 0 [(0, (Value.pointer s)), (1, d)]) (zcl P Tryz.f69.results.toList R) w = zio s d R w := by kernel_rfl
theorem zva {s : Option Addr} {d : Value} {R : Ending → World → Prop} {w : World} (hT : zio s d R w) : qg P zjn #[(Value.pointer s), d] w R :=
 zx (fn := Tryz.f69) (c := (Tryz.f69.body).getD .skip) (ann := zg2) (args := [(0, (Value.pointer s)), (1, d)]) (qs := qs) mixed Tryz.func69 rfl (by kernel_rfl) (by kernel_rfl) zvf ((zt4 s d R w).symm ▸ hT)
def zc2 : Ann := (.seq .leaf (.seq (.seq .leaf (.cond (.seq .leaf .leaf) .leaf)) (.seq .leaf .leaf)))
theorem zk1 : okC P qs Tryz.f115.ntmps ((Tryz.f115.body).getD .skip) zc2 = true := by kernel_rfl
def zdi (s : Option Addr) (s_l s_c : Nat) (R : Ending → World → Prop) (w : World) : Prop :=
  xk (Option.isNone s) (
  R (.returned (Value.slice none 0 0)) w) (
  zan P (Instr.buildSlice zh 0 #[]) .slc w fun (t5 : (Option Addr × Nat × Nat)) w_1 =>
  zan P (Builtin.append_ #[zh, zh] zh #[(Value.slice t5.1 t5.2.1 t5.2.2), (Value.slice s s_l s_c)]) .slc w_1 fun (t7 : (Option Addr × Nat × Nat)) w_2 =>
  R (.returned (Value.slice t7.1 t7.2.1 t7.2.2)) w_2)
theorem zkz (s : Option Addr) (s_l s_c : Nat) (R : Ending → World → Prop) (w : World) : tr P qs ((Tryz.f115.body).getD .skip) zc2 (zcb 0 [(0, (Value.slice s s_l s_c))]) (zcl P Tryz.f115.results.toList R) w = zdi s s_l s_c R w := by kernel_rfl
theorem zkq {s : Option Addr} {s_l s_c : Nat} {R : Ending → World → Prop} {w : World} (hT : zdi s s_l s_c R w) : qg P zb9 #[(Value.slice s s_l s_c)] w R :=
 zx (fn := Tryz.f115) (c := (Tryz.f115.body).getD .skip) (ann := zc2) (args := [(0, (Value.slice s s_l s_c))]) (qs := qs) mixed Tryz.func115 rfl (by kernel_rfl) (by kernel_rfl) zk1 ((zkz s s_l s_c R w).symm ▸ hT)
def zhl : Ann := (.seq .leaf (.seq .leaf .leaf))
theorem zv0 : okC P qs Tryz.f151.ntmps ((Tryz.f151.body).getD .skip) zhl = true := by kernel_rfl
def zk3 (a : Option Addr) (a_l a_c : Nat) (b : Option Addr) (b_l b_c : Nat) (R : Ending → World → Prop) (w : World) : Prop :=
  qp P zfl #[(Value.slice a a_l a_c), (Value.slice b b_l b_c)] [.int .i64] false w fun (t7 : Int) w_1 =>
  R (.returned (Value.int .i64 t7)) w_1
theorem zv5 (a : Option Addr) (a_l a_c : Nat) (b : Option Addr) (b_l b_c : Nat) (R : Ending → World → Prop) (w : World) : tr P qs ((Tryz.f151.body).getD .skip) zhl (zcb 0 [(0, (Value.slice a a_l a_c)), (0, (Value.slice b b_l b_c))]) (zcl P Tryz.f151.results.toList R) w = zk3 a a_l a_c b b_l b_c R w := by kernel_rfl
theorem zv6 {a : Option Addr} {a_l a_c : Nat} {b : Option Addr} {b_l b_c : Nat} {R : Ending → World → Prop} {w : World} (hT : zk3 a a_l a_c b b_l b_c R w) : qg P zkd #[(Value.slice a a_l a_c), (Value.slice b b_l b_c)] w R :=
 zx (fn := Tryz.f151) (c := (Tryz.f151.body).getD .skip) (ann := zhl) (args := [(0, (Value.slice a a_l a_c)), (0, (Value.slice b b_l b_c))]) (qs := qs) mixed Tryz.func151 rfl (by kernel_rfl) (by kernel_rfl) zv0 ((zv5 a a_l a_c b b_l b_c R w).symm ▸ hT)
def zb7 : Ann := (.seq .leaf (.seq (.seq .leaf (.cond (.seq .leaf .leaf) .leaf)) (.seq .leaf .leaf)))
theorem zhx : okC P qs Tryz.f154.ntmps ((Tryz.f154.body).getD .skip) zb7 = true := by kernel_rfl
def zcn (s : Option Addr) (s_l s_c : Nat) (R : Ending → World → Prop) (w : World) : Prop :=
  xk (Option.isNone s) (
  R (.returned (Value.slice none 0 0)) w) (
  zan P (Instr.buildSlice ql 0 #[]) .slc w fun (t5 : (Option Addr × Nat × Nat)) w_1 =>
  zan P (Builtin.append_ #[ql, ql] ql #[(Value.slice t5.1 t5.2.1 t5.2.2), (Value.slice s s_l s_c)]) .slc w_1 fun (t7 : (Option Addr × Nat × Nat)) w_2 =>
  R (.returned (Value.slice t7.1 t7.2.1 t7.2.2)) w_2)
theorem zhz (s : Option Addr) (s_l s_c : Nat) (R : Ending → World → Prop) (w : World) : tr P qs ((Tryz.f154.body).getD .skip) zb7 (zcb 0 [(0, (Value.slice s s_l s_c))]) (zcl P Tryz.f154.results.toList R) w = zcn s s_l s_c R w := by kernel_rfl
theorem zho {s : Option Addr} {s_l s_c : Nat} {R : Ending → World → Prop} {w : World} (hT : zcn s s_l s_c R w) : qg P zbc #[(Value.slice s s_l s_c)] w R :=
 zx (fn := Tryz.f154) (c := (Tryz.f154.body).getD .skip) (ann := zb7) (args := [(0, (Value.slice s s_l s_c))]) (qs := qs) mixed Tryz.func154 rfl (by kernel_rfl) (by kernel_rfl) zhx ((zhz s s_l s_c R w).symm ▸ hT)
theorem zk6 {e : Array Value → Sem Value} (he : Extern.find Tryz.f184 = some e) (args : Array Value) (w : World) : (callFunc zfl args).run P w = ((e args).run P w).andThen fun v w1 => .ok (.value v) w1 :=
 Go.run_callFunc_extern Tryz.func184 (by kernel_rfl) (by kernel_rfl) (by kernel_rfl) he args w
set_option maxRecDepth 100000
def zqz : Ann := (.seq .leaf (.seq .leaf .leaf))
theorem qd0 : okC P qs Tryz.f13.ntmps ((Tryz.f13.body).getD .skip) zqz = true := by kernel_rfl
def zyu (quota : Int) (R : Ending → World → Prop) (w : World) : Prop :=
  za0 P (Builtin.max_ #[zdx, zdx] zdx #[(Value.int .i64 quota), (Value.int .i64 0)]) (.int .i64) w fun (t4 : Int) =>
  za0 P (Instr.build ze3 #[(0, (Value.int .i64 t4))]) .any w fun (t5 : Value) =>
  zbi (Value.cells t5) ze3 w fun b6 w_1 =>
  R (.returned (Value.pointer (some (⟨b6, 0, none⟩ : Addr)))) w_1
theorem qd1 (quota : Int) (R : Ending → World → Prop) (w : World) : tr P qs ((Tryz.f13.body).getD .skip) zqz (zcb 0 [(0, (Value.int .i64 quota))]) (zcl P Tryz.f13.results.toList R) w = zyu quota R w := by kernel_rfl
theorem qd5 {quota : Int} {R : Ending → World → Prop} {w : World} (hT : zyu quota R w) : qg P zxl #[(Value.int .i64 quota)] w R :=
 zx (fn := Tryz.f13) (c := (Tryz.f13.body).getD .skip) (ann := zqz) (args := [(0, (Value.int .i64 quota))]) (qs := qs) mixed Tryz.func13 rfl (by kernel_rfl) (by kernel_rfl) qd0 ((qd1 quota R w).symm ▸ hT)
def zf2 : Ann := (.seq .leaf (.seq .leaf (.seq (.seq .leaf (.blk (.loop [(3, .int .i64), (4, .int .i64)] (.seq (.seq .leaf (.cond .leaf .leaf)) (.seq (.blk .leaf) .leaf))))) (.seq .leaf .leaf))))
theorem zsf : okC P qs Tryz.f19.ntmps ((Tryz.f19.body).getD .skip) zf2 = true := by kernel_rfl
def zhq (s : Option Addr) (R : Ending → World → Prop) (w : World) : Prop :=
  zat (Int × Int) (fun s_1 w_1 k =>
  zu s fun p =>
  ld .slc (Addr.add p 1) w_1 fun (t9 : (Option Addr × Nat × Nat)) =>
  xk (decide (s_1.2 < (t9.2.1 : Int))) (
  zu s fun p_1 =>
  ld .slc (Addr.add p_1 1) w_1 fun (t18 : (Option Addr × Nat × Nat)) =>
  ixS t18.1 t18.2.1 33 s_1.2 fun t20 =>
  ld .slc (Addr.add t20 32) w_1 fun (t22 : (Option Addr × Nat × Nat)) =>
  zbb .i64 s_1.1 (t22.2.1 : Int) fun t24 =>
  zbb .i64 s_1.2 1 fun t13 =>
  k (t24, t13) w_1) (
  R (.returned (Value.int .i64 s_1.1)) w_1)) (0, 0) w
theorem zso (s : Option Addr) (R : Ending → World → Prop) (w : World) : tr P qs ((Tryz.f19.body).getD .skip) zf2 (zcb 0 [(0, (Value.pointer s))]) (zcl P Tryz.f19.results.toList R) w = zhq s R w := by kernel_rfl
theorem zsc {s : Option Addr} {R : Ending → World → Prop} {w : World} (hT : zhq s R w) : qg P zd3 #[(Value.pointer s)] w R :=
 zx (fn := Tryz.f19) (c := (Tryz.f19.body).getD .skip) (ann := zf2) (args := [(0, (Value.pointer s))]) (qs := qs) mixed Tryz.func19 rfl (by kernel_rfl) (by kernel_rfl) zsf ((zso s R w).symm ▸ hT)
def zfn : Ann := (.seq .leaf (.seq (.seq .leaf (.blk (.loop [(5, .int .i64)] (.seq (.seq .leaf (.cond .leaf .leaf)) (.seq (.blk (.seq .leaf (.cond (.seq .leaf .leaf) .leaf))) .leaf))))) (.seq .leaf (.seq (.seq .leaf (.blk (.loop [(7, .int .i64)] (.seq (.seq .leaf (.cond .leaf .leaf)) (.join [] (.jblk [] (.seq .leaf (.seq .leaf (.seq .leaf (.cond (.seq .leaf (.seq (.tree (.op 0 [] (.op 3 [] (.op 4 [] (.op 5 [] (.op 1 [] (.op 6 [] (.op 2 [1, 6] (.op 7 [1] (.op 8 [] (.op 9 [] (.op 10 [] (.op 11 [] .done))))))))))))) .leaf)) (.seq (.tree (.op 0 [] (.op 1 [] (.op 2 [] (.op 4 [] (.op 3 [] (.op 5 [] (.op 6 [] (.op 7 [] (.op 9 [] (.op 8 [9] (.op 10 [] .done)))))))))))) (.cond (.tree (.op 0 [] (.op 1 [] (.op 2 [] (.op 4 [] (.op 6 [] (.op 7 [] (.op 8 [] (.op 3 [] (.op 9 [] (.op 5 [3, 9] (.op 10 [3] (.op 11 [] (.op 12 [] (.op 13 [] .done))))))))))))))) .leaf))))))) .leaf))))) (.seq (.seq (.tree (.op 0 [] (.op 1 [] (.op 3 [] (.op 4 [] (.op 5 [] (.op 7 [] (.op 6 [] (.op 2 [6] (.op 8 [6] (.op 9 [] (.op 10 [] .done)))))))))))) (.cond (.seq .leaf .leaf) .leaf)) (.seq .leaf (.seq .leaf .leaf)))))))
theorem zqr : okC P qs Tryz.f63.ntmps ((Tryz.f63.body).getD .skip) zfn = true := by kernel_rfl
def zg6 (s : Option Addr) (list : Option Addr) (list_l list_c : Nat) (R : Ending → World → Prop) (w : World) : Prop :=
  zat Int (fun s_1 w_1 k =>
  xk (decide (s_1 < (list_l : Int))) (
  ixS list list_l 1 s_1 fun t20 =>
  ld .slc t20 w_1 fun (t21 : (Option Addr × Nat × Nat)) =>
  xk (decide ((t21.2.1 : Int) > 4096)) (
  R (.returned (Value.int .i64 2)) w_1) (
  zbb .i64 s_1 1 fun t17 =>
  k t17 w_1)) (
  qp P zhr #[(Value.pointer s)] [.ptr] false w_1 fun (t25 : (Option Addr)) w_2 =>
  zat Int (fun s_2 w_3 k_1 =>
  xk (decide (s_2 < (list_l : Int))) (
  joinP Unit (fun k_2 =>
  joinP Unit (fun k_3 =>
  ixS list list_l 1 s_2 fun t34 =>
  ld .slc t34 w_3 fun (t35 : (Option Addr × Nat × Nat)) =>
  qp P zj6 #[(Value.slice t35.1 t35.2.1 t35.2.2)] [.any] false w_3 fun (t36 : Value) w_4 =>
  zbi (zc P zf) zf w_4 fun b8 w_5 =>
  zbn P (storeVar zf (⟨b8, 0, none⟩ : Addr) t36) w_5 fun w_6 =>
  ldA P 32 (⟨b8, 0, none⟩ : Addr) w_6 fun t39 =>
  qp P zeo #[(Value.pointer t25), (Value.agg t39)] [.int .i64, .bool] true w_6 fun (t40 : (Int × Bool)) w_7 =>
  xk (!t40.2) (
  zan P (Instr.buildSlice vw 0 #[]) .slc w_7 fun (t45 : (Option Addr × Nat × Nat)) w_8 =>
  zu t25 fun p =>
  ld .slc (Addr.add p 1) w_8 fun (t49 : (Option Addr × Nat × Nat)) =>
  za0 P (Instr.sliceAt vw (Value.slice t49.1 t49.2.1 t49.2.2) none (some (Value.int .i64 t40.1)) none) .slc w_8 fun (t51 : (Option Addr × Nat × Nat)) =>
  zan P (Builtin.append_ #[vw, vw] vw #[(Value.slice t45.1 t45.2.1 t45.2.2), (Value.slice t51.1 t51.2.1 t51.2.2)]) .slc w_8 fun (t52 : (Option Addr × Nat × Nat)) w_9 =>
  zbj w_9 fun w_10 =>
  ixS list list_l 1 s_2 fun t58 =>
  ldA P 32 (⟨b8, 0, none⟩ : Addr) w_10 fun t54 =>
  ld .slc t58 w_10 fun (t59 : (Option Addr × Nat × Nat)) =>
  zan P (Instr.buildSlice zh 0 #[]) .slc w_10 fun (t55 : (Option Addr × Nat × Nat)) w_11 =>
  ((ld .slc t58 w_11 fun (t59_1 : (Option Addr × Nat × Nat)) =>
  (Value.slice t59_1.1 t59_1.2.1 t59_1.2.2) = (Value.slice t59.1 t59.2.1 t59.2.2)) ∧
  ((ldA P 32 (⟨b8, 0, none⟩ : Addr) w_11 fun t54_1 =>
  (Value.agg t54_1) = (Value.agg t54)) ∧
  zan P (Builtin.append_ #[zh, zh] zh #[(Value.slice t55.1 t55.2.1 t55.2.2), (Value.slice t59.1 t59.2.1 t59.2.2)]) .slc w_11 fun (t60 : (Option Addr × Nat × Nat)) w_12 =>
  ((ldA P 32 (⟨b8, 0, none⟩ : Addr) w_12 fun t54_2 =>
  (Value.agg t54_2) = (Value.agg t54)) ∧
  za0 P (Instr.build zbg #[(0, (Value.agg t54)), (1, (Value.slice t60.1 t60.2.1 t60.2.2))]) .any w_12 fun (t61 : Value) =>
  zan P (Instr.buildSlice vw 1 #[(0, t61)]) .slc w_12 fun (t62 : (Option Addr × Nat × Nat)) w_13 =>
  zan P (Builtin.append_ #[vw, vw] vw #[(Value.slice t52.1 t52.2.1 t52.2.2), (Value.slice t62.1 t62.2.1 t62.2.2)]) .slc w_13 fun (t63 : (Option Addr × Nat × Nat)) w_14 =>
  zu t25 fun p_1 =>
  ld .slc (Addr.add p_1 1) w_14 fun (t69 : (Option Addr × Nat × Nat)) =>
  za0 P (Instr.sliceAt vw (Value.slice t69.1 t69.2.1 t69.2.2) (some (Value.int .i64 t40.1)) none none) .slc w_14 fun (t71 : (Option Addr × Nat × Nat)) =>
  zan P (Builtin.append_ #[vw, vw] vw #[(Value.slice t63.1 t63.2.1 t63.2.2), (Value.slice t71.1 t71.2.1 t71.2.2)]) .slc w_14 fun (t72 : (Option Addr × Nat × Nat)) w_15 =>
  zu t25 fun p_2 =>
  stC (Addr.add p_2 1) (Value.slice t72.1 t72.2.1 t72.2.2) w_15 fun w_16 =>
  k_3 () w_16)))) (
  zbj w_7 fun w_17 =>
  zu t25 fun p_3 =>
  ld .slc (Addr.add p_3 1) w_17 fun (t78 : (Option Addr × Nat × Nat)) =>
  ixS t78.1 t78.2.1 33 t40.1 fun t80 =>
  ld .slc (Addr.add t80 32) w_17 fun (t82 : (Option Addr × Nat × Nat)) =>
  ldA P 32 (⟨b8, 0, none⟩ : Addr) w_17 fun t84 =>
  qp P zj6 #[(Value.slice t82.1 t82.2.1 t82.2.2)] [.any] false w_17 fun (t83 : Value) w_18 =>
  ((ldA P 32 (⟨b8, 0, none⟩ : Addr) w_18 fun t84_1 =>
  (Value.agg t84_1) = (Value.agg t84)) ∧
  za0 P (eqM .neq zf (.tmp 83) (.tmp 84) t83 (Value.agg t84)) .bool w_18 fun (t85 : Bool) =>
  xk t85 (
  zbj w_18 fun w_19 =>
  zu t25 fun p_4 =>
  ixS list list_l 1 s_2 fun t94 =>
  ld .slc (Addr.add p_4 1) w_19 fun (t89 : (Option Addr × Nat × Nat)) =>
  ld .slc t94 w_19 fun (t95 : (Option Addr × Nat × Nat)) =>
  zan P (Instr.buildSlice zh 0 #[]) .slc w_19 fun (t91 : (Option Addr × Nat × Nat)) w_20 =>
  ((ld .slc t94 w_20 fun (t95_1 : (Option Addr × Nat × Nat)) =>
  (Value.slice t95_1.1 t95_1.2.1 t95_1.2.2) = (Value.slice t95.1 t95.2.1 t95.2.2)) ∧
  ((ld .slc (Addr.add p_4 1) w_20 fun (t89_1 : (Option Addr × Nat × Nat)) =>
  (Value.slice t89_1.1 t89_1.2.1 t89_1.2.2) = (Value.slice t89.1 t89.2.1 t89.2.2)) ∧
  zan P (Builtin.append_ #[zh, zh] zh #[(Value.slice t91.1 t91.2.1 t91.2.2), (Value.slice t95.1 t95.2.1 t95.2.2)]) .slc w_20 fun (t96 : (Option Addr × Nat × Nat)) w_21 =>
  ((ld .slc (Addr.add p_4 1) w_21 fun (t89_2 : (Option Addr × Nat × Nat)) =>
  (Value.slice t89_2.1 t89_2.2.1 t89_2.2.2) = (Value.slice t89.1 t89.2.1 t89.2.2)) ∧
  ixS t89.1 t89.2.1 33 t40.1 fun t97 =>
  stC (Addr.add t97 32) (Value.slice t96.1 t96.2.1 t96.2.2) w_21 fun w_22 =>
  k_3 () w_22)))) (
  k_3 () w_18)))) (fun _ w_23 =>
  k_2 () w_23)) (fun _ w_24 =>
  zbb .i64 s_2 1 fun t31 =>
  k_1 t31 w_24)) (
  zbj w_3 fun w_25 =>
  zu s fun p_5 =>
  ld (.int .i64) p_5 w_25 fun (t105 : Int) =>
  qp P zhp #[(Value.pointer t25), (Value.pointer s)] [.int .i64] false w_25 fun (t101 : Int) w_26 =>
  ((ld (.int .i64) p_5 w_26 fun (t105_1 : Int) =>
  (Value.int .i64 t105_1) = (Value.int .i64 t105)) ∧
  qp P zd3 #[(Value.pointer s)] [.int .i64] false w_26 fun (t107 : Int) w_27 =>
  ((ld (.int .i64) p_5 w_27 fun (t105_2 : Int) =>
  (Value.int .i64 t105_2) = (Value.int .i64 t105)) ∧
  zow .i64 t105 t107 fun t108 =>
  xk (decide (t101 > t108)) (
  R (.returned (Value.int .i64 3)) w_27) (
  zu t25 fun p_6 =>
  ld .slc (Addr.add p_6 1) w_27 fun (t114 : (Option Addr × Nat × Nat)) =>
  zu s fun p_7 =>
  stC (Addr.add p_7 1) (Value.slice t114.1 t114.2.1 t114.2.2) w_27 fun w_28 =>
  R (.returned (Value.int .i64 0)) w_28))))) 0 w_2)) 0 w
theorem zrz (s : Option Addr) (list : Option Addr) (list_l list_c : Nat) (R : Ending → World → Prop) (w : World) : tr P qs ((Tryz.f63.body).getD .skip) zfn (zcb 0 [(0, (Value.pointer s)), (0, (Value.slice list list_l list_c))]) (zcl P Tryz.f63.results.toList R) w = zg6 s list list_l list_c R w := by kernel_rfl
theorem zrh {s : Option Addr} {list : Option Addr} {list_l list_c : Nat} {R : Ending → World → Prop} {w : World} (hT : zg6 s list list_l list_c R w) : qg P zds #[(Value.pointer s), (Value.slice list list_l list_c)] w R :=
 zx (fn := Tryz.f63) (c := (Tryz.f63.body).getD .skip) (ann := zfn) (args := [(0, (Value.pointer s)), (0, (Value.slice list list_l list_c))]) (qs := qs) mixed Tryz.func63 rfl (by kernel_rfl) (by kernel_rfl) zqr ((zrz s list list_l list_c R w).symm ▸ hT)
def zf7 : Ann := (.seq .leaf (.seq .leaf (.seq (.seq .leaf (.cond (.seq .leaf .leaf) .leaf)) (.join [] (.seq .leaf (.cond (.seq .leaf .leaf) .leaf)) (.seq .leaf (.seq .leaf .leaf))))))
theorem zt0 : okC P qs Tryz.f77.ntmps ((Tryz.f77.body).getD .skip) zf7 = true := by kernel_rfl
def zht (s : Option Addr) (d : Value) (atv : Int) (turn : Int) (R : Ending → World → Prop) (w : World) : Prop :=
  zbi (Value.cells d) zf w fun b5 w_1 =>
  ldA P 32 (⟨b5, 0, none⟩ : Addr) w_1 fun t13 =>
  qp P zeo #[(Value.pointer s), (Value.agg t13)] [.int .i64, .bool] true w_1 fun (t14 : (Int × Bool)) w_2 =>
  xk (!t14.2) (
  R (.returned (Value.int .i64 50)) w_2) (
  joinP Unit (fun k =>
  xk (decide (atv < 0)) (
  R (.returned (Value.int .i64 1)) w_2) (
  zu s fun p =>
  ld .slc (Addr.add p 1) w_2 fun (t26 : (Option Addr × Nat × Nat)) =>
  ixS t26.1 t26.2.1 33 t14.1 fun t28 =>
  ld .slc (Addr.add t28 32) w_2 fun (t30 : (Option Addr × Nat × Nat)) =>
  xk (decide (atv ≥ (t30.2.1 : Int))) (
  R (.returned (Value.int .i64 1)) w_2) (
  xk (turn == 0) (
  R (.returned (Value.int .i64 1)) w_2) (
  k () w_2)))) (fun _ w_3 =>
  zu s fun p_1 =>
  ld .slc (Addr.add p_1 1) w_3 fun (t41 : (Option Addr × Nat × Nat)) =>
  ixS t41.1 t41.2.1 33 t14.1 fun t43 =>
  ld .slc (Addr.add t43 32) w_3 fun (t45 : (Option Addr × Nat × Nat)) =>
  ixS t45.1 t45.2.1 1 atv fun t47 =>
  ld (.int .u8) t47 w_3 fun (t48 : Int) =>
  zqv .u8 t48 turn fun t50 =>
  ixS t45.1 t45.2.1 1 atv fun t51 =>
  stC t51 (Value.int .u8 t50) w_3 fun w_4 =>
  R (.returned (Value.int .i64 0)) w_4))
theorem zsp (s : Option Addr) (d : Value) (atv : Int) (turn : Int) (R : Ending → World → Prop) (w : World) : tr P qs ((Tryz.f77.body).getD .skip) zf7 (zcb 0 [(0, (Value.pointer s)), (1, d), (0, (Value.int .i64 atv)), (0, (Value.int .u8 turn))]) (zcl P Tryz.f77.results.toList R) w = zht s d atv turn R w := by kernel_rfl
theorem zti {s : Option Addr} {d : Value} {atv : Int} {turn : Int} {R : Ending → World → Prop} {w : World} (hT : zht s d atv turn R w) : qg P zm1 #[(Value.pointer s), d, (Value.int .i64 atv), (Value.int .u8 turn)] w R :=
 zx (fn := Tryz.f77) (c := (Tryz.f77.body).getD .skip) (ann := zf7) (args := [(0, (Value.pointer s)), (1, d), (0, (Value.int .i64 atv)), (0, (Value.int .u8 turn))]) (qs := qs) mixed Tryz.func77 rfl (by kernel_rfl) (by kernel_rfl) zt0 ((zsp s d atv turn R w).symm ▸ hT)
def zgv : Ann := (.seq .leaf (.seq .leaf (.seq (.jblk [(6, .int .i64)] (.loop [(6, .int .i64)] (.join [] (.seq (.tree (.op 0 [] (.op 1 [] (.op 2 [] (.op 3 [] (.op 4 [] (.op 5 [] (.op 6 [] (.op 7 [] (.op 8 [] (.op 9 [] (.op 10 [] (.op 12 [] (.op 11 [] (.op 13 [] (.op 14 [] (.op 15 [] (.op 16 [] (.op 17 [] (.op 18 [] (.op 19 [] .done))))))))))))))))))))) (.cond .leaf .leaf)) (.blk .leaf)))) (.seq (.tree (.op 0 [] (.op 1 [] (.op 2 [] (.op 3 [] (.op 4 [] (.op 5 [] (.op 6 [] (.op 7 [] (.op 8 [] (.op 9 [] (.op 10 [] (.op 11 [] (.op 13 [] (.op 20 [] (.op 12 [] (.op 14 [] (.op 15 [] (.op 16 [] (.op 17 [] (.op 18 [] (.op 19 [] (.op 21 [] .done))))))))))))))))))))))) .leaf))))
theorem zul : okC P qs Tryz.f82.ntmps ((Tryz.f82.body).getD .skip) zgv = true := by kernel_rfl
def zjb (s : Option Addr) (d : Value) (R : Ending → World → Prop) (w : World) : Prop :=
  zbi (Value.cells d) zf w fun b3 w_1 =>
  joinP Int (fun k =>
  zat Int (fun s_1 w_2 k_1 =>
  joinP Unit (fun k_2 =>
  zbj w_2 fun w_3 =>
  zu s fun p =>
  ld .slc (Addr.add p 1) w_3 fun (t11 : (Option Addr × Nat × Nat)) =>
  xk (decide (s_1 < (t11.2.1 : Int))) (
  zu s fun p_1 =>
  ld .slc (Addr.add p_1 1) w_3 fun (t18 : (Option Addr × Nat × Nat)) =>
  ixS t18.1 t18.2.1 33 s_1 fun t20 =>
  ldA P 32 t20 w_3 fun t22 =>
  ldA P 32 (⟨b3, 0, none⟩ : Addr) w_3 fun t23 =>
  qp P znm #[(Value.agg t22), (Value.agg t23)] [.int .i64] false w_3 fun (t24 : Int) w_4 =>
  xk (decide (t24 < 0)) (
  k_2 () w_4) (
  k s_1 w_4)) (
  k s_1 w_3)) (fun _ w_5 =>
  zbb .i64 s_1 1 fun t28 =>
  k_1 t28 w_5)) 0 w_1) (fun s_3 w_6 =>
  zbj w_6 fun w_7 =>
  zu s fun p_2 =>
  ld .slc (Addr.add p_2 1) w_7 fun (t34 : (Option Addr × Nat × Nat)) =>
  xk (decide (s_3 < (t34.2.1 : Int))) (
  zu s fun p_3 =>
  ld .slc (Addr.add p_3 1) w_7 fun (t41 : (Option Addr × Nat × Nat)) =>
  ixS t41.1 t41.2.1 33 s_3 fun t43 =>
  ldA P 32 t43 w_7 fun t45 =>
  ldA P 32 (⟨b3, 0, none⟩ : Addr) w_7 fun t46 =>
  za0 P (eqM .eql zf (.tmp 45) (.tmp 46) (Value.agg t45) (Value.agg t46)) .bool w_7 fun (t47 : Bool) =>
  R (.returned (Value.tuple #[(Value.int .i64 s_3), (Value.bool t47)])) w_7) (
  R (.returned (Value.tuple #[(Value.int .i64 s_3), (Value.bool false)])) w_7))
theorem zu1 (s : Option Addr) (d : Value) (R : Ending → World → Prop) (w : World) : tr P qs ((Tryz.f82.body).getD .skip) zgv (zcb 0 [(0, (Value.pointer s)), (1, d)]) (zcl P Tryz.f82.results.toList R) w = zjb s d R w := by kernel_rfl
theorem zve {s : Option Addr} {d : Value} {R : Ending → World → Prop} {w : World} (hT : zjb s d R w) : qg P zeo #[(Value.pointer s), d] w R :=
 zx (fn := Tryz.f82) (c := (Tryz.f82.body).getD .skip) (ann := zgv) (args := [(0, (Value.pointer s)), (1, d)]) (qs := qs) mixed Tryz.func82 rfl (by kernel_rfl) (by kernel_rfl) zul ((zu1 s d R w).symm ▸ hT)
def zf4 : Ann := (.seq .leaf (.seq .leaf (.seq (.seq .leaf (.blk (.loop [(4, .int .i64)] (.seq (.seq .leaf (.cond .leaf .leaf)) (.seq (.blk (.tree (.op 0 [] (.op 1 [] (.op 2 [] (.op 3 [] (.op 5 [] (.op 6 [] (.op 7 [] (.op 9 [] (.op 14 [] (.op 15 [] (.op 16 [] (.op 18 [] (.op 4 [] (.op 8 [] (.op 10 [] (.op 11 [] (.op 12 [] (.op 17 [] (.op 19 [] (.op 20 [] (.op 21 [] (.op 13 [4, 8, 12, 17, 21] (.op 22 [4, 8, 12] (.op 23 [] (.op 24 [4] (.op 25 [] (.op 26 [] (.op 27 [] (.op 28 [] .done))))))))))))))))))))))))))))))) .leaf))))) (.seq .leaf .leaf))))
theorem zsj : okC P qs Tryz.f122.ntmps ((Tryz.f122.body).getD .skip) zf4 = true := by kernel_rfl
def zhm (s : Option Addr) (R : Ending → World → Prop) (w : World) : Prop :=
  zu s fun p =>
  ld (.int .i64) p w fun (t8 : Int) =>
  za0 P (Instr.build ze3 #[(0, (Value.int .i64 t8))]) .any w fun (t9 : Value) =>
  zbi (Value.cells t9) ze3 w fun b10 w_1 =>
  zat Int (fun s_1 w_2 k =>
  zu s fun p_1 =>
  ld .slc (Addr.add p_1 1) w_2 fun (t15 : (Option Addr × Nat × Nat)) =>
  xk (decide (s_1 < (t15.2.1 : Int))) (
  zbj w_2 fun w_3 =>
  zu s fun p_2 =>
  zu s fun p_3 =>
  ld .slc (⟨b10, 1, none⟩ : Addr) w_3 fun (t24 : (Option Addr × Nat × Nat)) =>
  ld .slc (Addr.add p_2 1) w_3 fun (t28 : (Option Addr × Nat × Nat)) =>
  ixS t28.1 t28.2.1 33 s_1 fun t30 =>
  ldA P 32 t30 w_3 fun t32 =>
  ld .slc (Addr.add p_3 1) w_3 fun (t37 : (Option Addr × Nat × Nat)) =>
  ixS t37.1 t37.2.1 33 s_1 fun t39 =>
  ld .slc (Addr.add t39 32) w_3 fun (t41 : (Option Addr × Nat × Nat)) =>
  zan P (Instr.buildSlice zh 0 #[]) .slc w_3 fun (t33 : (Option Addr × Nat × Nat)) w_4 =>
  ((ld .slc (Addr.add t39 32) w_4 fun (t41_1 : (Option Addr × Nat × Nat)) =>
  (Value.slice t41_1.1 t41_1.2.1 t41_1.2.2) = (Value.slice t41.1 t41.2.1 t41.2.2)) ∧
  ((ld .slc (Addr.add p_3 1) w_4 fun (t37_1 : (Option Addr × Nat × Nat)) =>
  (Value.slice t37_1.1 t37_1.2.1 t37_1.2.2) = (Value.slice t37.1 t37.2.1 t37.2.2)) ∧
  ((ldA P 32 t30 w_4 fun t32_1 =>
  (Value.agg t32_1) = (Value.agg t32)) ∧
  ((ld .slc (Addr.add p_2 1) w_4 fun (t28_1 : (Option Addr × Nat × Nat)) =>
  (Value.slice t28_1.1 t28_1.2.1 t28_1.2.2) = (Value.slice t28.1 t28.2.1 t28.2.2)) ∧
  ((ld .slc (⟨b10, 1, none⟩ : Addr) w_4 fun (t24_1 : (Option Addr × Nat × Nat)) =>
  (Value.slice t24_1.1 t24_1.2.1 t24_1.2.2) = (Value.slice t24.1 t24.2.1 t24.2.2)) ∧
  zan P (Builtin.append_ #[zh, zh] zh #[(Value.slice t33.1 t33.2.1 t33.2.2), (Value.slice t41.1 t41.2.1 t41.2.2)]) .slc w_4 fun (t42 : (Option Addr × Nat × Nat)) w_5 =>
  ((ldA P 32 t30 w_5 fun t32_2 =>
  (Value.agg t32_2) = (Value.agg t32)) ∧
  ((ld .slc (Addr.add p_2 1) w_5 fun (t28_2 : (Option Addr × Nat × Nat)) =>
  (Value.slice t28_2.1 t28_2.2.1 t28_2.2.2) = (Value.slice t28.1 t28.2.1 t28.2.2)) ∧
  ((ld .slc (⟨b10, 1, none⟩ : Addr) w_5 fun (t24_2 : (Option Addr × Nat × Nat)) =>
  (Value.slice t24_2.1 t24_2.2.1 t24_2.2.2) = (Value.slice t24.1 t24.2.1 t24.2.2)) ∧
  za0 P (Instr.build zbg #[(0, (Value.agg t32)), (1, (Value.slice t42.1 t42.2.1 t42.2.2))]) .any w_5 fun (t43 : Value) =>
  zan P (Instr.buildSlice vw 1 #[(0, t43)]) .slc w_5 fun (t44 : (Option Addr × Nat × Nat)) w_6 =>
  ((ld .slc (⟨b10, 1, none⟩ : Addr) w_6 fun (t24_3 : (Option Addr × Nat × Nat)) =>
  (Value.slice t24_3.1 t24_3.2.1 t24_3.2.2) = (Value.slice t24.1 t24.2.1 t24.2.2)) ∧
  zan P (Builtin.append_ #[vw, vw] vw #[(Value.slice t24.1 t24.2.1 t24.2.2), (Value.slice t44.1 t44.2.1 t44.2.2)]) .slc w_6 fun (t45 : (Option Addr × Nat × Nat)) w_7 =>
  stC (⟨b10, 1, none⟩ : Addr) (Value.slice t45.1 t45.2.1 t45.2.2) w_7 fun w_8 =>
  zbb .i64 s_1 1 fun t19 =>
  k t19 w_8)))))))))) (
  R (.returned (Value.pointer (some (⟨b10, 0, none⟩ : Addr)))) w_2)) 0 w_1
theorem zta (s : Option Addr) (R : Ending → World → Prop) (w : World) : tr P qs ((Tryz.f122.body).getD .skip) zf4 (zcb 0 [(0, (Value.pointer s))]) (zcl P Tryz.f122.results.toList R) w = zhm s R w := by kernel_rfl
theorem zty {s : Option Addr} {R : Ending → World → Prop} {w : World} (hT : zhm s R w) : qg P zhr #[(Value.pointer s)] w R :=
 zx (fn := Tryz.f122) (c := (Tryz.f122.body).getD .skip) (ann := zf4) (args := [(0, (Value.pointer s))]) (qs := qs) mixed Tryz.func122 rfl (by kernel_rfl) (by kernel_rfl) zsj ((zta s R w).symm ▸ hT)
def zgf : Ann := (.seq .leaf (.seq .leaf (.seq (.seq .leaf (.blk (.loop [(5, .int .i64), (6, .int .i64)] (.seq (.seq .leaf (.cond .leaf .leaf)) (.seq (.jblk [(5, .int .i64)] (.seq .leaf (.seq .leaf (.cond .leaf .leaf)))) .leaf))))) (.seq .leaf .leaf))))
theorem ztr : okC P qs Tryz.f123.ntmps ((Tryz.f123.body).getD .skip) zgf = true := by kernel_rfl
def zhv (s : Option Addr) (o : Option Addr) (R : Ending → World → Prop) (w : World) : Prop :=
  zat (Int × Int) (fun s_1 w_1 k =>
  zu s fun p =>
  ld .slc (Addr.add p 1) w_1 fun (t13 : (Option Addr × Nat × Nat)) =>
  xk (decide (s_1.2 < (t13.2.1 : Int))) (
  joinP Int (fun k_1 =>
  zu s fun p_1 =>
  ld .slc (Addr.add p_1 1) w_1 fun (t23 : (Option Addr × Nat × Nat)) =>
  ixS t23.1 t23.2.1 33 s_1.2 fun t25 =>
  ldA P 32 t25 w_1 fun t27 =>
  qp P zeo #[(Value.pointer o), (Value.agg t27)] [.int .i64, .bool] true w_1 fun (t28 : (Int × Bool)) w_2 =>
  xk (!t28.2) (
  zu s fun p_2 =>
  ld .slc (Addr.add p_2 1) w_2 fun (t37 : (Option Addr × Nat × Nat)) =>
  ixS t37.1 t37.2.1 33 s_1.2 fun t39 =>
  ld .slc (Addr.add t39 32) w_2 fun (t41 : (Option Addr × Nat × Nat)) =>
  zbb .i64 s_1.1 (t41.2.1 : Int) fun t43 =>
  k_1 t43 w_2) (
  k_1 s_1.1 w_2)) (fun s_2 w_3 =>
  zbb .i64 s_1.2 1 fun t17 =>
  k (s_2, t17) w_3)) (
  R (.returned (Value.int .i64 s_1.1)) w_1)) (0, 0) w
theorem ztq (s : Option Addr) (o : Option Addr) (R : Ending → World → Prop) (w : World) : tr P qs ((Tryz.f123.body).getD .skip) zgf (zcb 0 [(0, (Value.pointer s)), (0, (Value.pointer o))]) (zcl P Tryz.f123.results.toList R) w = zhv s o R w := by kernel_rfl
theorem ztx {s : Option Addr} {o : Option Addr} {R : Ending → World → Prop} {w : World} (hT : zhv s o R w) : qg P zhp #[(Value.pointer s), (Value.pointer o)] w R :=
 zx (fn := Tryz.f123) (c := (Tryz.f123.body).getD .skip) (ann := zgf) (args := [(0, (Value.pointer s)), (0, (Value.pointer o))]) (qs := qs) mixed Tryz.func123 rfl (by kernel_rfl) (by kernel_rfl) ztr ((ztq s o R w).symm ▸ hT)
def zjc : Ann := (.seq (.seq .leaf (.cond .leaf .leaf)) (.seq (.blk (.loop [(1, .int .u64)] (.seq (.seq .leaf (.cond .leaf .leaf)) (.seq (.blk .leaf) .leaf)))) .leaf))
theorem zx8 : okC P qs Tryz.f168.ntmps ((Tryz.f168.body).getD .skip) zjc = true := by kernel_rfl
def zlv (o : Option Addr) (n : Int) (R : Ending → World → Prop) (w : World) : Prop :=
  xk (Option.isNone o) (
  R (.returned (Value.tuple #[])) w) (
  zat Int (fun s w_1 k =>
  xk (decide (s > 127)) (
  zu o fun p =>
  ld .slc p w_1 fun (t14 : (Option Addr × Nat × Nat)) =>
  cvI .u8 s fun t16 =>
  orI .u8 t16 128 fun t17 =>
  zan P (Instr.buildSlice zh 1 #[(0, (Value.int .u8 t17))]) .slc w_1 fun (t18 : (Option Addr × Nat × Nat)) w_2 =>
  zan P (Builtin.append_ #[zh, zh] zh #[(Value.slice t14.1 t14.2.1 t14.2.2), (Value.slice t18.1 t18.2.1 t18.2.2)]) .slc w_2 fun (t19 : (Option Addr × Nat × Nat)) w_3 =>
  zu o fun p_1 =>
  stC p_1 (Value.slice t19.1 t19.2.1 t19.2.2) w_3 fun w_4 =>
  z4j .u64 s 7 fun t9 =>
  k t9 w_4) (
  zu o fun p_2 =>
  ld .slc p_2 w_1 fun (t26 : (Option Addr × Nat × Nat)) =>
  cvI .u8 s fun t28 =>
  zan P (Instr.buildSlice zh 1 #[(0, (Value.int .u8 t28))]) .slc w_1 fun (t29 : (Option Addr × Nat × Nat)) w_5 =>
  zan P (Builtin.append_ #[zh, zh] zh #[(Value.slice t26.1 t26.2.1 t26.2.2), (Value.slice t29.1 t29.2.1 t29.2.2)]) .slc w_5 fun (t30 : (Option Addr × Nat × Nat)) w_6 =>
  zu o fun p_3 =>
  stC p_3 (Value.slice t30.1 t30.2.1 t30.2.2) w_6 fun w_7 =>
  R (.returned (Value.tuple #[])) w_7)) n w)
theorem zwk (o : Option Addr) (n : Int) (R : Ending → World → Prop) (w : World) : tr P qs ((Tryz.f168.body).getD .skip) zjc (zcb 0 [(0, (Value.pointer o)), (0, (Value.int .u64 n))]) (zcl P Tryz.f168.results.toList R) w = zlv o n R w := by kernel_rfl
theorem zy0 {o : Option Addr} {n : Int} {R : Ending → World → Prop} {w : World} (hT : zlv o n R w) : qg P zdw #[(Value.pointer o), (Value.int .u64 n)] w R :=
 zx (fn := Tryz.f168) (c := (Tryz.f168.body).getD .skip) (ann := zjc) (args := [(0, (Value.pointer o)), (0, (Value.int .u64 n))]) (qs := qs) mixed Tryz.func168 rfl (by kernel_rfl) (by kernel_rfl) zx8 ((zwk o n R w).symm ▸ hT)
def zh1 : Ann := (.seq (.seq .leaf (.cond .leaf .leaf)) (.seq .leaf .leaf))
theorem zvy : okC P qs Tryz.f169.ntmps ((Tryz.f169.body).getD .skip) zh1 = true := by kernel_rfl
def zj4 (o : Option Addr) (s : ByteArray) (R : Ending → World → Prop) (w : World) : Prop :=
  xk (Option.isNone o) (
  R (.returned (Value.tuple #[])) w) (
  cvI .u64 (s.size : Int) fun t9 =>
  qp P zdw #[(Value.pointer o), (Value.int .u64 t9)] [] true w fun (_ : Unit) w_1 =>
  zu o fun p =>
  ld .slc p w_1 fun (t15 : (Option Addr × Nat × Nat)) =>
  zan P (Builtin.append_ #[zh, qx] zh #[(Value.slice t15.1 t15.2.1 t15.2.2), (Value.string s)]) .slc w_1 fun (t17 : (Option Addr × Nat × Nat)) w_2 =>
  zu o fun p_1 =>
  stC p_1 (Value.slice t17.1 t17.2.1 t17.2.2) w_2 fun w_3 =>
  R (.returned (Value.tuple #[])) w_3)
theorem zvx (o : Option Addr) (s : ByteArray) (R : Ending → World → Prop) (w : World) : tr P qs ((Tryz.f169.body).getD .skip) zh1 (zcb 0 [(0, (Value.pointer o)), (0, (Value.string s))]) (zcl P Tryz.f169.results.toList R) w = zj4 o s R w := by kernel_rfl
theorem zvz {o : Option Addr} {s : ByteArray} {R : Ending → World → Prop} {w : World} (hT : zj4 o s R w) : qg P zgn #[(Value.pointer o), (Value.string s)] w R :=
 zx (fn := Tryz.f169) (c := (Tryz.f169.body).getD .skip) (ann := zh1) (args := [(0, (Value.pointer o)), (0, (Value.string s))]) (qs := qs) mixed Tryz.func169 rfl (by kernel_rfl) (by kernel_rfl) zvy ((zvx o s R w).symm ▸ hT)
def zgb : Ann := (.seq .leaf (.seq .leaf (.cond (.tree (.op 0 [] (.op 1 [] (.op 2 [] (.op 3 [] (.op 4 [] (.op 5 [] (.op 6 [] (.op 7 [] (.op 8 [] (.op 9 [] .done))))))))))) .leaf)))
theorem ztu : okC P qs Tryz.f170.ntmps ((Tryz.f170.body).getD .skip) zgb = true := by kernel_rfl
def zh2 (o : Option Addr) (d : Value) (R : Ending → World → Prop) (w : World) : Prop :=
  zbi (Value.cells d) zf w fun b3 w_1 =>
  xk (!(Option.isNone o)) (
  zbj w_1 fun w_2 =>
  zu o fun p =>
  ld .slc p w_2 fun (t10 : (Option Addr × Nat × Nat)) =>
  za0 P (Instr.sliceAt zf (Value.pointer (some (⟨b3, 0, none⟩ : Addr))) none none none) .slc w_2 fun (t11 : (Option Addr × Nat × Nat)) =>
  zan P (Builtin.append_ #[zh, zh] zh #[(Value.slice t10.1 t10.2.1 t10.2.2), (Value.slice t11.1 t11.2.1 t11.2.2)]) .slc w_2 fun (t12 : (Option Addr × Nat × Nat)) w_3 =>
  zu o fun p_1 =>
  stC p_1 (Value.slice t12.1 t12.2.1 t12.2.2) w_3 fun w_4 =>
  R (.returned (Value.tuple #[])) w_4) (
  R (.returned (Value.tuple #[])) w_1)
theorem ztj (o : Option Addr) (d : Value) (R : Ending → World → Prop) (w : World) : tr P qs ((Tryz.f170.body).getD .skip) zgb (zcb 0 [(0, (Value.pointer o)), (1, d)]) (zcl P Tryz.f170.results.toList R) w = zh2 o d R w := by kernel_rfl
theorem ztk {o : Option Addr} {d : Value} {R : Ending → World → Prop} {w : World} (hT : zh2 o d R w) : qg P zfg #[(Value.pointer o), d] w R :=
 zx (fn := Tryz.f170) (c := (Tryz.f170.body).getD .skip) (ann := zgb) (args := [(0, (Value.pointer o)), (1, d)]) (qs := qs) mixed Tryz.func170 rfl (by kernel_rfl) (by kernel_rfl) ztu ((ztj o d R w).symm ▸ hT)
def zgz : Ann := (.seq .leaf (.seq (.seq .leaf (.cond (.seq .leaf .leaf) .leaf)) (.seq .leaf .leaf)))
theorem zu6 : okC P qs Tryz.f171.ntmps ((Tryz.f171.body).getD .skip) zgz = true := by kernel_rfl
def zis (o : Option Addr) (R : Ending → World → Prop) (w : World) : Prop :=
  xk (Option.isNone o) (
  R (.returned (Value.slice none 0 0)) w) (
  zu o fun p =>
  ld .slc p w fun (t8 : (Option Addr × Nat × Nat)) =>
  zan P (Builtin.append_ #[zh, zh] zh #[(Value.slice none 0 0), (Value.slice t8.1 t8.2.1 t8.2.2)]) .slc w fun (t9 : (Option Addr × Nat × Nat)) w_1 =>
  R (.returned (Value.slice t9.1 t9.2.1 t9.2.2)) w_1)
theorem zuq (o : Option Addr) (R : Ending → World → Prop) (w : World) : tr P qs ((Tryz.f171.body).getD .skip) zgz (zcb 0 [(0, (Value.pointer o))]) (zcl P Tryz.f171.results.toList R) w = zis o R w := by kernel_rfl
theorem zur {o : Option Addr} {R : Ending → World → Prop} {w : World} (hT : zis o R w) : qg P zi6 #[(Value.pointer o)] w R :=
 zx (fn := Tryz.f171) (c := (Tryz.f171.body).getD .skip) (ann := zgz) (args := [(0, (Value.pointer o))]) (qs := qs) mixed Tryz.func171 rfl (by kernel_rfl) (by kernel_rfl) zu6 ((zuq o R w).symm ▸ hT)
set_option maxRecDepth 100000
def zjk : Ann := (.seq .leaf (.seq (.seq .leaf (.blk (.seq .leaf (.cond (.seq .leaf .leaf) (.seq .leaf (.cond (.seq .leaf .leaf) .leaf)))))) (.seq .leaf (.join [(5, .int .i64)] (.seq .leaf (.cond (.join [] (.seq .leaf (.cond .leaf .leaf)) .leaf) .leaf)) (.seq (.seq .leaf (.blk (.loop [(5, .int .i64), (41, .int .i64)] (.seq .leaf (.seq (.cond .leaf .leaf) (.seq (.jblk [(5, .int .i64)] (.seq .leaf (.join [] (.seq .leaf (.cond .leaf .leaf)) .leaf))) .leaf)))))) (.seq .leaf (.seq .leaf (.seq .leaf (.seq (.seq .leaf (.blk (.loop [(65, .int .i64)] (.seq .leaf (.seq (.cond .leaf .leaf) (.seq (.blk (.seq .leaf (.seq .leaf .leaf))) .leaf)))))) (.seq .leaf .leaf))))))))))
theorem zxg : okC P qs Tryz.f112.ntmps ((Tryz.f112.body).getD .skip) zjk = true := by kernel_rfl
def zme (elems : Option Addr) (elems_l elems_c : Nat) (sep : ByteArray) (R : Ending → World → Prop) (w : World) : Prop :=
  xk ((elems_l : Int) == 0) (
  R (.returned (Value.string (ByteArray.mk #[]))) w) (
  xk ((elems_l : Int) == 1) (
  ixS elems elems_l 1 0 fun t18 =>
  ld .str t18 w fun (t19 : ByteArray) =>
  R (.returned (Value.string t19)) w) (
  joinP Int (fun k =>
  xk (decide ((sep.size : Int) > 0)) (
  joinP Unit (fun k_1 =>
  zow .i64 (elems_l : Int) 1 fun t27 =>
  qjz .i64 9223372036854775807 t27 fun t28 =>
  xk (decide ((sep.size : Int) ≥ t28)) (
  za0 P (Instr.makeInterface qx (Value.string (ByteArray.mk #[115, 116, 114, 105, 110, 103, 115, 58, 32, 74, 111, 105, 110, 32, 111, 117, 116, 112, 117, 116, 32, 108, 101, 110, 103, 116, 104, 32, 111, 118, 101, 114, 102, 108, 111, 119]))) .any w fun (_ : Value) =>
  False) (
  k_1 () w)) (fun _ w_1 =>
  zow .i64 (elems_l : Int) 1 fun t36 =>
  zzg .i64 (sep.size : Int) t36 fun t37 =>
  zbb .i64 0 t37 fun t38 =>
  k t38 w_1)) (
  k 0 w)) (fun s_1 w_2 =>
  zat (Int × Int) (fun s_2 w_3 k_2 =>
  xk (decide (s_2.2 < (elems_l : Int))) (
  joinP Int (fun k_3 =>
  ixS elems elems_l 1 s_2.2 fun t43 =>
  ld .str t43 w_3 fun (t44 : ByteArray) =>
  joinP Unit (fun k_4 =>
  zow .i64 9223372036854775807 s_2.1 fun t48 =>
  xk (decide ((t44.size : Int) > t48)) (
  za0 P (Instr.makeInterface qx (Value.string (ByteArray.mk #[115, 116, 114, 105, 110, 103, 115, 58, 32, 74, 111, 105, 110, 32, 111, 117, 116, 112, 117, 116, 32, 108, 101, 110, 103, 116, 104, 32, 111, 118, 101, 114, 102, 108, 111, 119]))) .any w_3 fun (_ : Value) =>
  False) (
  k_4 () w_3)) (fun _ w_4 =>
  zbb .i64 s_2.1 (t44.size : Int) fun t54 =>
  k_3 t54 w_4)) (fun s_4 w_5 =>
  zbb .i64 s_2.2 1 fun t55 =>
  k_2 (s_4, t55) w_5)) (
  zbi (zc P ji) ji w_3 fun b8 w_6 =>
  qp P zet #[(Value.pointer (some (⟨b8, 0, none⟩ : Addr))), (Value.int .i64 s_2.1)] [] true w_6 fun (_ : Unit) w_7 =>
  ixS elems elems_l 1 0 fun t59 =>
  ld .str t59 w_7 fun (t60 : ByteArray) =>
  qp P zao #[(Value.pointer (some (⟨b8, 0, none⟩ : Addr))), (Value.string t60)] [.int .i64, .any] true w_7 fun (_ : (Int × Value)) w_8 =>
  za0 P (Instr.sliceAt ql (Value.slice elems elems_l elems_c) (some (Value.int .i64 1)) none none) .slc w_8 fun (t63 : (Option Addr × Nat × Nat)) =>
  zat Int (fun s_5 w_9 k_5 =>
  xk (decide (s_5 < (t63.2.1 : Int))) (
  ixS t63.1 t63.2.1 1 s_5 fun t67 =>
  ld .str t67 w_9 fun (t68 : ByteArray) =>
  qp P zao #[(Value.pointer (some (⟨b8, 0, none⟩ : Addr))), (Value.string sep)] [.int .i64, .any] true w_9 fun (_ : (Int × Value)) w_10 =>
  qp P zao #[(Value.pointer (some (⟨b8, 0, none⟩ : Addr))), (Value.string t68)] [.int .i64, .any] true w_10 fun (_ : (Int × Value)) w_11 =>
  zbb .i64 s_5 1 fun t73 =>
  k_5 t73 w_11) (
  qp P zbl #[(Value.pointer (some (⟨b8, 0, none⟩ : Addr)))] [.str] false w_9 fun (t74 : ByteArray) w_12 =>
  R (.returned (Value.string t74)) w_12)) 0 w_8)) (s_1, 0) w_2)))
theorem zx5 (elems : Option Addr) (elems_l elems_c : Nat) (sep : ByteArray) (R : Ending → World → Prop) (w : World) : tr P qs ((Tryz.f112.body).getD .skip) zjk (zcb 0 [(0, (Value.slice elems elems_l elems_c)), (0, (Value.string sep))]) (zcl P Tryz.f112.results.toList R) w = zme elems elems_l elems_c sep R w := by kernel_rfl
theorem zxx {elems : Option Addr} {elems_l elems_c : Nat} {sep : ByteArray} {R : Ending → World → Prop} {w : World} (hT : zme elems elems_l elems_c sep R w) : qg P zmp #[(Value.slice elems elems_l elems_c), (Value.string sep)] w R :=
 zx (fn := Tryz.f112) (c := (Tryz.f112.body).getD .skip) (ann := zjk) (args := [(0, (Value.slice elems elems_l elems_c)), (0, (Value.string sep))]) (qs := qs) mixed Tryz.func112 rfl (by kernel_rfl) (by kernel_rfl) zxg ((zx5 elems elems_l elems_c sep R w).symm ▸ hT)
def zd5 : Ann := (.seq .leaf (.join [] (.seq .leaf (.cond .leaf .leaf)) (.seq (.tree (.op 0 [] (.op 1 [] (.op 2 [] (.op 5 [] (.op 6 [] (.op 7 [] (.op 11 [] (.op 3 [] (.op 4 [] (.op 8 [] (.op 9 [] (.op 10 [] (.op 12 [] .done)))))))))))))) (.cond .leaf .leaf))))
theorem znq : okC P qs Tryz.f164.ntmps ((Tryz.f164.body).getD .skip) zd5 = true := by kernel_rfl
def zev (b : Option Addr) (n : Int) (R : Ending → World → Prop) (w : World) : Prop :=
  qp P zbx #[(Value.pointer b)] [] true w fun (_ : Unit) w_1 =>
  joinP Unit (fun k =>
  xk (decide (n < 0)) (
  za0 P (Instr.makeInterface qx (Value.string (ByteArray.mk #[115, 116, 114, 105, 110, 103, 115, 46, 66, 117, 105, 108, 100, 101, 114, 46, 71, 114, 111, 119, 58, 32, 110, 101, 103, 97, 116, 105, 118, 101, 32, 99, 111, 117, 110, 116]))) .any w_1 fun (_ : Value) =>
  False) (
  k () w_1)) (fun _ w_2 =>
  zbj w_2 fun w_3 =>
  zu b fun p =>
  zu b fun p_1 =>
  ld .slc (Addr.add p 1) w_3 fun (t12 : (Option Addr × Nat × Nat)) =>
  za0 P (Builtin.cap_ #[zh] zdx #[(Value.slice t12.1 t12.2.1 t12.2.2)]) (.int .i64) w_3 fun (t13 : Int) =>
  ld .slc (Addr.add p_1 1) w_3 fun (t17 : (Option Addr × Nat × Nat)) =>
  zow .i64 t13 (t17.2.1 : Int) fun t19 =>
  xk (decide (t19 < n)) (
  qp P zeu #[(Value.pointer b), (Value.int .i64 n)] [] true w_3 fun (_ : Unit) w_4 =>
  R (.returned (Value.tuple #[])) w_4) (
  R (.returned (Value.tuple #[])) w_3))
theorem znz (b : Option Addr) (n : Int) (R : Ending → World → Prop) (w : World) : tr P qs ((Tryz.f164.body).getD .skip) zd5 (zcb 0 [(0, (Value.pointer b)), (0, (Value.int .i64 n))]) (zcl P Tryz.f164.results.toList R) w = zev b n R w := by kernel_rfl
theorem zne {b : Option Addr} {n : Int} {R : Ending → World → Prop} {w : World} (hT : zev b n R w) : qg P zet #[(Value.pointer b), (Value.int .i64 n)] w R :=
 zx (fn := Tryz.f164) (c := (Tryz.f164.body).getD .skip) (ann := zd5) (args := [(0, (Value.pointer b)), (0, (Value.int .i64 n))]) (qs := qs) mixed Tryz.func164 rfl (by kernel_rfl) (by kernel_rfl) znq ((znz b n R w).symm ▸ hT)
def zcg : Ann := (.seq .leaf (.seq .leaf (.seq .leaf (.seq .leaf .leaf))))
theorem zie : okC P qs Tryz.f165.ntmps ((Tryz.f165.body).getD .skip) zcg = true := by kernel_rfl
def zcw (b : Option Addr) (s : ByteArray) (R : Ending → World → Prop) (w : World) : Prop :=
  qp P zbx #[(Value.pointer b)] [] true w fun (_ : Unit) w_1 =>
  zu b fun p =>
  ld .slc (Addr.add p 1) w_1 fun (t12 : (Option Addr × Nat × Nat)) =>
  zan P (Builtin.append_ #[zh, qx] zh #[(Value.slice t12.1 t12.2.1 t12.2.2), (Value.string s)]) .slc w_1 fun (t14 : (Option Addr × Nat × Nat)) w_2 =>
  zu b fun p_1 =>
  stC (Addr.add p_1 1) (Value.slice t14.1 t14.2.1 t14.2.2) w_2 fun w_3 =>
  R (.returned (Value.tuple #[(Value.int .i64 (s.size : Int)), Value.nilIface])) w_3
theorem zim (b : Option Addr) (s : ByteArray) (R : Ending → World → Prop) (w : World) : tr P qs ((Tryz.f165.body).getD .skip) zcg (zcb 0 [(0, (Value.pointer b)), (0, (Value.string s))]) (zcl P Tryz.f165.results.toList R) w = zcw b s R w := by kernel_rfl
theorem zik {b : Option Addr} {s : ByteArray} {R : Ending → World → Prop} {w : World} (hT : zcw b s R w) : qg P zao #[(Value.pointer b), (Value.string s)] w R :=
 zx (fn := Tryz.f165) (c := (Tryz.f165.body).getD .skip) (ann := zcg) (args := [(0, (Value.pointer b)), (0, (Value.string s))]) (qs := qs) mixed Tryz.func165 rfl (by kernel_rfl) (by kernel_rfl) zie ((zim b s R w).symm ▸ hT)
def zdh : Ann := (.seq .leaf (.seq (.tree (.op 0 [] (.op 1 [] (.op 2 [] (.op 5 [] (.op 6 [] (.op 7 [] (.op 3 [] (.op 8 [] (.op 9 [] (.op 4 [8] (.op 10 [] (.op 11 [] .done))))))))))))) .leaf))
theorem zlu : okC P qs Tryz.f166.ntmps ((Tryz.f166.body).getD .skip) zdh = true := by kernel_rfl
def zct (b : Option Addr) (R : Ending → World → Prop) (w : World) : Prop :=
  zbj w fun w_1 =>
  zu b fun p =>
  zu b fun p_1 =>
  ld .slc (Addr.add p 1) w_1 fun (t6 : (Option Addr × Nat × Nat)) =>
  ld .slc (Addr.add p_1 1) w_1 fun (t11 : (Option Addr × Nat × Nat)) =>
  zan P (Builtin.unsafeSliceData_ #[zh] zst #[(Value.slice t6.1 t6.2.1 t6.2.2)]) .ptr w_1 fun (t7 : (Option Addr)) w_2 =>
  ((ld .slc (Addr.add p_1 1) w_2 fun (t11_1 : (Option Addr × Nat × Nat)) =>
  (Value.slice t11_1.1 t11_1.2.1 t11_1.2.2) = (Value.slice t11.1 t11.2.1 t11.2.2)) ∧
  zan P (Builtin.unsafeString_ #[zst, zdx] qx #[(Value.pointer t7), (Value.int .i64 (t11.2.1 : Int))]) .str w_2 fun (t13 : ByteArray) w_3 =>
  R (.returned (Value.string t13)) w_3)
theorem zmi (b : Option Addr) (R : Ending → World → Prop) (w : World) : tr P qs ((Tryz.f166.body).getD .skip) zdh (zcb 0 [(0, (Value.pointer b))]) (zcl P Tryz.f166.results.toList R) w = zct b R w := by kernel_rfl
theorem zfw {b : Option Addr} {R : Ending → World → Prop} {w : World} (hT : zct b R w) : qg P zbl #[(Value.pointer b)] w R :=
 zx (fn := Tryz.f166) (c := (Tryz.f166.body).getD .skip) (ann := zdh) (args := [(0, (Value.pointer b))]) (qs := qs) mixed Tryz.func166 rfl (by kernel_rfl) (by kernel_rfl) zlu ((zmi b R w).symm ▸ hT)
def zkn : Ann := (.seq .leaf (.seq .leaf .leaf))
theorem zzr : okC P qs Tryz.f189.ntmps ((Tryz.f189.body).getD .skip) zkn = true := by kernel_rfl
def znn (s : ByteArray) (sep : ByteArray) (R : Ending → World → Prop) (w : World) : Prop :=
  qp P zdl #[(Value.string s), (Value.string sep)] [.str, .str, .bool] true w fun (t9 : (ByteArray × ByteArray × Bool)) w_1 =>
  R (.returned (Value.tuple #[(Value.string t9.1), (Value.string t9.2.1), (Value.bool t9.2.2)])) w_1
theorem z0g (s : ByteArray) (sep : ByteArray) (R : Ending → World → Prop) (w : World) : tr P qs ((Tryz.f189.body).getD .skip) zkn (zcb 0 [(0, (Value.string s)), (0, (Value.string sep))]) (zcl P Tryz.f189.results.toList R) w = znn s sep R w := by kernel_rfl
theorem z0l {s : ByteArray} {sep : ByteArray} {R : Ending → World → Prop} {w : World} (hT : znn s sep R w) : qg P zm6 #[(Value.string s), (Value.string sep)] w R :=
 zx (fn := Tryz.f189) (c := (Tryz.f189.body).getD .skip) (ann := zkn) (args := [(0, (Value.string s)), (0, (Value.string sep))]) (qs := qs) mixed Tryz.func189 rfl (by kernel_rfl) (by kernel_rfl) zzr ((z0g s sep R w).symm ▸ hT)
def zcu : Ann := (.seq .leaf (.cond .leaf (.seq .leaf (.cond .leaf .leaf))))
theorem zjy : okC P qs Tryz.f201.ntmps ((Tryz.f201.body).getD .skip) zcu = true := by kernel_rfl
def zdc (b : Option Addr) (R : Ending → World → Prop) (w : World) : Prop :=
  zu b fun p =>
  ld .ptr p w fun (t5 : (Option Addr)) =>
  xk (Option.isNone t5) (
  zan P (convert zei zi1 (Value.pointer b)) .any w fun (t9 : Value) w_1 =>
  qp P zhe #[t9] [.any] false w_1 fun (t10 : Value) w_2 =>
  zan P (convert zi1 zei t10) .ptr w_2 fun (t11 : (Option Addr)) w_3 =>
  zu b fun p_1 =>
  stC p_1 (Value.pointer t11) w_3 fun w_4 =>
  R (.returned (Value.tuple #[])) w_4) (
  zu b fun p_2 =>
  ld .ptr p_2 w fun (t17 : (Option Addr)) =>
  za0 P (eqM .neq zei (.tmp 17) (.tmp 18) (Value.pointer t17) (Value.pointer b)) .bool w fun (t19 : Bool) =>
  xk t19 (
  False) (
  R (.returned (Value.tuple #[])) w))
theorem zjt (b : Option Addr) (R : Ending → World → Prop) (w : World) : tr P qs ((Tryz.f201.body).getD .skip) zcu (zcb 0 [(0, (Value.pointer b))]) (zcl P Tryz.f201.results.toList R) w = zdc b R w := by kernel_rfl
theorem zjr {b : Option Addr} {R : Ending → World → Prop} {w : World} (hT : zdc b R w) : qg P zbx #[(Value.pointer b)] w R :=
 zx (fn := Tryz.f201) (c := (Tryz.f201.body).getD .skip) (ann := zcu) (args := [(0, (Value.pointer b))]) (qs := qs) mixed Tryz.func201 rfl (by kernel_rfl) (by kernel_rfl) zjy ((zjt b R w).symm ▸ hT)
def zd4 : Ann := (.seq (.tree (.op 0 [] (.op 1 [] (.op 2 [] (.op 6 [] (.op 9 [] (.op 10 [] (.op 11 [] (.op 3 [] (.op 4 [] (.op 5 [] (.op 7 [] (.op 12 [] (.op 13 [] (.op 8 [12] (.op 14 [] (.op 15 [] .done))))))))))))))))) (.seq .leaf .leaf))
theorem zng : okC P qs Tryz.f202.ntmps ((Tryz.f202.body).getD .skip) zd4 = true := by kernel_rfl
def zex (b : Option Addr) (n : Int) (R : Ending → World → Prop) (w : World) : Prop :=
  zbj w fun w_1 =>
  zu b fun p =>
  zu b fun p_1 =>
  ld .slc (Addr.add p 1) w_1 fun (t8 : (Option Addr × Nat × Nat)) =>
  za0 P (Builtin.cap_ #[zh] zdx #[(Value.slice t8.1 t8.2.1 t8.2.2)]) (.int .i64) w_1 fun (t9 : Int) =>
  zzg .i64 2 t9 fun t10 =>
  zbb .i64 t10 n fun t12 =>
  ld .slc (Addr.add p_1 1) w_1 fun (t17 : (Option Addr × Nat × Nat)) =>
  qp P zem #[(Value.int .i64 t12)] [.slc] false w_1 fun (t13 : (Option Addr × Nat × Nat)) w_2 =>
  ((ld .slc (Addr.add p_1 1) w_2 fun (t17_1 : (Option Addr × Nat × Nat)) =>
  (Value.slice t17_1.1 t17_1.2.1 t17_1.2.2) = (Value.slice t17.1 t17.2.1 t17.2.2)) ∧
  za0 P (Instr.sliceAt zh (Value.slice t13.1 t13.2.1 t13.2.2) none (some (Value.int .i64 (t17.2.1 : Int))) none) .slc w_2 fun (t19 : (Option Addr × Nat × Nat)) =>
  zu b fun p_2 =>
  ld .slc (Addr.add p_2 1) w_2 fun (t24 : (Option Addr × Nat × Nat)) =>
  zan P (Builtin.copy_ #[zh, zh] zdx #[(Value.slice t19.1 t19.2.1 t19.2.2), (Value.slice t24.1 t24.2.1 t24.2.2)]) (.int .i64) w_2 fun (_ : Int) w_3 =>
  zu b fun p_3 =>
  stC (Addr.add p_3 1) (Value.slice t19.1 t19.2.1 t19.2.2) w_3 fun w_4 =>
  R (.returned (Value.tuple #[])) w_4)
theorem znu (b : Option Addr) (n : Int) (R : Ending → World → Prop) (w : World) : tr P qs ((Tryz.f202.body).getD .skip) zd4 (zcb 0 [(0, (Value.pointer b)), (0, (Value.int .i64 n))]) (zcl P Tryz.f202.results.toList R) w = zex b n R w := by kernel_rfl
theorem znh {b : Option Addr} {n : Int} {R : Ending → World → Prop} {w : World} (hT : zex b n R w) : qg P zeu #[(Value.pointer b), (Value.int .i64 n)] w R :=
 zx (fn := Tryz.f202) (c := (Tryz.f202.body).getD .skip) (ann := zd4) (args := [(0, (Value.pointer b)), (0, (Value.int .i64 n))]) (qs := qs) mixed Tryz.func202 rfl (by kernel_rfl) (by kernel_rfl) zng ((znu b n R w).symm ▸ hT)
def zc4 : Ann := (.seq .leaf (.seq (.seq .leaf (.seq .leaf (.cond (.seq (.tree (.op 0 [] (.op 1 [] (.op 3 [] (.op 4 [] (.op 5 [] (.op 6 [] (.op 7 [] (.op 2 [] (.op 9 [] (.op 8 [] (.op 10 [] (.op 11 [] .done))))))))))))) .leaf) .leaf))) (.seq .leaf .leaf)))
theorem zkg : okC P qs Tryz.f216.ntmps ((Tryz.f216.body).getD .skip) zc4 = true := by kernel_rfl
def zdg (s : ByteArray) (sep : ByteArray) (R : Ending → World → Prop) (w : World) : Prop :=
  qp P zc6 #[(Value.string s), (Value.string sep)] [.int .i64] false w fun (t10 : Int) w_1 =>
  xk (decide (t10 ≥ 0)) (
  zbj w_1 fun w_2 =>
  zbb .i64 t10 (sep.size : Int) fun t20 =>
  za0 P (Instr.sliceAt qx (Value.string s) none (some (Value.int .i64 t10)) none) .str w_2 fun (t15 : ByteArray) =>
  za0 P (Instr.sliceAt qx (Value.string s) (some (Value.int .i64 t20)) none none) .str w_2 fun (t21 : ByteArray) =>
  R (.returned (Value.tuple #[(Value.string t15), (Value.string t21), (Value.bool true)])) w_2) (
  R (.returned (Value.tuple #[(Value.string s), (Value.string (ByteArray.mk #[])), (Value.bool false)])) w_1)
theorem zke (s : ByteArray) (sep : ByteArray) (R : Ending → World → Prop) (w : World) : tr P qs ((Tryz.f216.body).getD .skip) zc4 (zcb 0 [(0, (Value.string s)), (0, (Value.string sep))]) (zcl P Tryz.f216.results.toList R) w = zdg s sep R w := by kernel_rfl
theorem zkc {s : ByteArray} {sep : ByteArray} {R : Ending → World → Prop} {w : World} (hT : zdg s sep R w) : qg P zdl #[(Value.string s), (Value.string sep)] w R :=
 zx (fn := Tryz.f216) (c := (Tryz.f216.body).getD .skip) (ann := zc4) (args := [(0, (Value.string s)), (0, (Value.string sep))]) (qs := qs) mixed Tryz.func216 rfl (by kernel_rfl) (by kernel_rfl) zkg ((zke s sep R w).symm ▸ hT)
theorem zm2 {e : Array Value → Sem Value} (he : Extern.find Tryz.f222 = some e) (args : Array Value) (w : World) : (callFunc zhe args).run P w = ((e args).run P w).andThen fun v w1 => .ok (.value v) w1 :=
 Go.run_callFunc_extern Tryz.func222 (by kernel_rfl) (by kernel_rfl) (by kernel_rfl) he args w
theorem zi2 {e : Array Value → Sem Value} (he : Extern.find Tryz.f223 = some e) (args : Array Value) (w : World) : (callFunc zem args).run P w = ((e args).run P w).andThen fun v w1 => .ok (.value v) w1 :=
 Go.run_callFunc_extern Tryz.func223 (by kernel_rfl) (by kernel_rfl) (by kernel_rfl) he args w
def zcq : Ann := (.seq .leaf (.seq .leaf (.join [] (.jblk [] (.seq .leaf (.cond (.seq .leaf .leaf) (.seq .leaf (.cond (.seq .leaf .leaf) (.seq .leaf (.cond (.seq .leaf .leaf) (.seq .leaf (.cond (.seq .leaf .leaf) .leaf))))))))) (.seq .leaf (.seq .leaf (.seq .leaf (.seq .leaf (.seq .leaf (.seq (.blk (.loop [(8, .int .i64), (10, .int .i64)] (.seq (.seq .leaf (.cond .leaf .leaf)) (.jblk [(8, .int .i64), (10, .int .i64)] (.join [(8, .int .i64)] (.seq .leaf (.cond (.seq .leaf (.seq (.seq .leaf (.cond (.seq .leaf .leaf) .leaf)) .leaf)) .leaf)) (.join [] (.seq .leaf (.cond (.seq .leaf .leaf) .leaf)) (.seq .leaf (.seq .leaf (.join [(107, .bool)] .leaf (.cond (.seq .leaf (.seq (.seq .leaf (.cond (.seq .leaf .leaf) .leaf)) (.seq .leaf .leaf))) (.seq .leaf (.cond (.seq .leaf (.seq (.seq .leaf (.cond (.seq .leaf .leaf) .leaf)) (.seq .leaf .leaf))) .leaf)))))))))))) (.seq .leaf .leaf))))))))))
theorem zi3 : okC P qs Tryz.f228.ntmps ((Tryz.f228.body).getD .skip) zcq = true := by kernel_rfl
def zcz (s : ByteArray) (substr : ByteArray) (R : Ending → World → Prop) (w : World) : Prop :=
  joinP Unit (fun k =>
  joinP Unit (fun k_1 =>
  xk ((substr.size : Int) == 0) (
  R (.returned (Value.int .i64 0)) w) (
  xk (substr.toList == s.toList) (
  R (.returned (Value.int .i64 0)) w) (
  xk ((substr.size : Int) == 1) (
  zsy substr 0 fun t29 =>
  qp P za5 #[(Value.string s), (Value.int .u8 t29)] [.int .i64] false w fun (t30 : Int) w_1 =>
  R (.returned (Value.int .i64 t30)) w_1) (
  xk (decide ((substr.size : Int) ≥ (s.size : Int))) (
  R (.returned (Value.int .i64 (-1))) w) (
  ld (.int .i64) (⟨1, 0, none⟩ : Addr) w fun (t38 : Int) =>
  xk (decide ((substr.size : Int) ≤ t38)) (
  xk (decide ((s.size : Int) ≤ 64)) (
  qp P zea #[(Value.string s), (Value.string substr)] [.int .i64] false w fun (t47 : Int) w_2 =>
  R (.returned (Value.int .i64 t47)) w_2) (
  k_1 () w)) (
  k_1 () w)))))) (fun _ w_3 =>
  k () w_3)) (fun _ w_4 =>
  zsy substr 0 fun t49 =>
  zsy substr 1 fun t51 =>
  zow .i64 (s.size : Int) (substr.size : Int) fun t55 =>
  zbb .i64 t55 1 fun t56 =>
  zat (Int × Int) (fun s_3 w_5 k_2 =>
  xk (decide (s_3.1 < t56)) (
  joinP (Int × Int) (fun k_3 =>
  joinP Int (fun k_4 =>
  zsy s s_3.1 fun t62 =>
  xk (t62 != t49) (
  zbb .i64 s_3.1 1 fun t67 =>
  za0 P (Instr.sliceAt qx (Value.string s) (some (Value.int .i64 t67)) (some (Value.int .i64 t56)) none) .str w_5 fun (t69 : ByteArray) =>
  qp P za5 #[(Value.string t69), (Value.int .u8 t49)] [.int .i64] false w_5 fun (t71 : Int) w_6 =>
  xk (decide (t71 < 0)) (
  R (.returned (Value.int .i64 (-1))) w_6) (
  zbb .i64 t71 1 fun t76 =>
  zbb .i64 s_3.1 t76 fun t77 =>
  k_4 t77 w_6)) (
  k_4 s_3.1 w_5)) (fun s_4 w_7 =>
  joinP Unit (fun k_5 =>
  zbb .i64 s_4 1 fun t80 =>
  zsy s t80 fun t81 =>
  xk (t81 == t51) (
  zbb .i64 s_4 (substr.size : Int) fun t89 =>
  za0 P (Instr.sliceAt qx (Value.string s) (some (Value.int .i64 s_4)) (some (Value.int .i64 t89)) none) .str w_7 fun (t90 : ByteArray) =>
  xk (t90.toList == substr.toList) (
  R (.returned (Value.int .i64 s_4)) w_7) (
  k_5 () w_7)) (
  k_5 () w_7)) (fun _ w_8 =>
  zbb .i64 s_4 1 fun t96 =>
  zbb .i64 s_3.2 1 fun t98 =>
  joinP Bool (fun k_6 =>
  ld (.int .i64) (⟨1, 0, none⟩ : Addr) w_8 fun (t100 : Int) =>
  xk (decide ((substr.size : Int) ≤ t100)) (
  qp P zk5 #[(Value.int .i64 t96)] [.int .i64] false w_8 fun (t105 : Int) w_9 =>
  k_6 (decide (t98 > t105)) w_9) (
  k_6 false w_8)) (fun s_6 w_10 =>
  xk s_6 (
  za0 P (Instr.sliceAt qx (Value.string s) (some (Value.int .i64 t96)) none none) .str w_10 fun (t110 : ByteArray) =>
  qp P zea #[(Value.string t110), (Value.string substr)] [.int .i64] false w_10 fun (t112 : Int) w_11 =>
  xk (decide (t112 ≥ 0)) (
  zbb .i64 t112 t96 fun t117 =>
  R (.returned (Value.int .i64 t117)) w_11) (
  R (.returned (Value.int .i64 (-1))) w_11)) (
  ld (.int .i64) (⟨1, 0, none⟩ : Addr) w_10 fun (t119 : Int) =>
  xk (decide ((substr.size : Int) > t119)) (
  z4j .i64 t96 4 fun t124 =>
  zbb .i64 4 t124 fun t125 =>
  xk (decide (t98 ≥ t125)) (
  xk (decide (t96 < t56)) (
  za0 P (Instr.sliceAt qx (Value.string s) (some (Value.int .i64 t96)) none none) .str w_10 fun (t135 : ByteArray) =>
  qp P ze2 #[(Value.string t135), (Value.string substr)] [.int .i64] false w_10 fun (t137 : Int) w_12 =>
  xk (decide (t137 < 0)) (
  R (.returned (Value.int .i64 (-1))) w_12) (
  zbb .i64 t96 t137 fun t142 =>
  R (.returned (Value.int .i64 t142)) w_12)) (
  k_3 (t96, t98) w_10)) (
  k_3 (t96, t98) w_10)) (
  k_3 (t96, t98) w_10)))))) (fun s_7 w_13 =>
  k_2 (s_7.1, s_7.2) w_13)) (
  R (.returned (Value.int .i64 (-1))) w_5)) (0, 0) w_4)
theorem zji (s : ByteArray) (substr : ByteArray) (R : Ending → World → Prop) (w : World) : tr P qs ((Tryz.f228.body).getD .skip) zcq (zcb 0 [(0, (Value.string s)), (0, (Value.string substr))]) (zcl P Tryz.f228.results.toList R) w = zcz s substr R w := by kernel_rfl
theorem zi7 {s : ByteArray} {substr : ByteArray} {R : Ending → World → Prop} {w : World} (hT : zcz s substr R w) : qg P zc6 #[(Value.string s), (Value.string substr)] w R :=
 zx (fn := Tryz.f228) (c := (Tryz.f228.body).getD .skip) (ann := zcq) (args := [(0, (Value.string s)), (0, (Value.string substr))]) (qs := qs) mixed Tryz.func228 rfl (by kernel_rfl) (by kernel_rfl) zi3 ((zji s substr R w).symm ▸ hT)
def zbr : Ann := (.seq .leaf (.seq .leaf .leaf))
theorem zgr : okC P qs Tryz.f231.ntmps ((Tryz.f231.body).getD .skip) zbr = true := by kernel_rfl
def zb3 (s : ByteArray) (c : Int) (R : Ending → World → Prop) (w : World) : Prop :=
  qp P zde #[(Value.string s), (Value.int .u8 c)] [.int .i64] false w fun (t7 : Int) w_1 =>
  R (.returned (Value.int .i64 t7)) w_1
theorem zgo (s : ByteArray) (c : Int) (R : Ending → World → Prop) (w : World) : tr P qs ((Tryz.f231.body).getD .skip) zbr (zcb 0 [(0, (Value.string s)), (0, (Value.int .u8 c))]) (zcl P Tryz.f231.results.toList R) w = zb3 s c R w := by kernel_rfl
theorem zg5 {s : ByteArray} {c : Int} {R : Ending → World → Prop} {w : World} (hT : zb3 s c R w) : qg P za5 #[(Value.string s), (Value.int .u8 c)] w R :=
 zx (fn := Tryz.f231) (c := (Tryz.f231.body).getD .skip) (ann := zbr) (args := [(0, (Value.string s)), (0, (Value.int .u8 c))]) (qs := qs) mixed Tryz.func231 rfl (by kernel_rfl) (by kernel_rfl) zgr ((zgo s c R w).symm ▸ hT)
theorem zgm {e : Array Value → Sem Value} (he : Extern.find Tryz.f235 = some e) (args : Array Value) (w : World) : (callFunc zde args).run P w = ((e args).run P w).andThen fun v w1 => .ok (.value v) w1 :=
 Go.run_callFunc_extern Tryz.func235 (by kernel_rfl) (by kernel_rfl) (by kernel_rfl) he args w
set_option maxRecDepth 100000
def zl1 : Ann := (.seq .leaf (.seq .leaf (.seq (.seq .leaf (.cond (.seq .leaf .leaf) .leaf)) (.seq (.seq .leaf (.cond (.seq .leaf (.seq (.seq .leaf (.blk (.loop [(3, .slc), (4, .int .i64)] (.seq (.seq .leaf (.cond .leaf .leaf)) (.seq (.blk .leaf) .leaf))))) (.seq .leaf .leaf))) .leaf)) (.seq .leaf (.seq (.seq .leaf (.blk (.loop [(3, .slc), (5, .int .i64)] (.seq (.seq .leaf (.cond .leaf .leaf)) (.seq (.blk (.seq .leaf (.seq .leaf .leaf))) .leaf))))) (.seq .leaf .leaf)))))))
theorem z3v : okC P qs Tryz.f73.ntmps ((Tryz.f73.body).getD .skip) zl1 = true := by kernel_rfl
def zpb (n : Value) (R : Ending → World → Prop) (w : World) : Prop :=
  zbi (Value.cells n) zi w fun b1 w_1 =>
  ld (.int .i64) (⟨b1, 0, none⟩ : Addr) w_1 fun (t7 : Int) =>
  cvI .u64 t7 fun t8 =>
  qp P zj3 #[(Value.int .u64 t8)] [.slc] false w_1 fun (t9 : (Option Addr × Nat × Nat)) w_2 =>
  ld (.int .i64) (⟨b1, 0, none⟩ : Addr) w_2 fun (t11 : Int) =>
  xk (t11 == 1) (
  ld .str (⟨b1, 1, none⟩ : Addr) w_2 fun (t15 : ByteArray) =>
  qp P zp2 #[(Value.string t15)] [.slc] false w_2 fun (t16 : (Option Addr × Nat × Nat)) w_3 =>
  zan P (Builtin.append_ #[zh, zh] zh #[(Value.slice t9.1 t9.2.1 t9.2.2), (Value.slice t16.1 t16.2.1 t16.2.2)]) .slc w_3 fun (t17 : (Option Addr × Nat × Nat)) w_4 =>
  R (.returned (Value.slice t17.1 t17.2.1 t17.2.2)) w_4) (
  ld (.int .i64) (⟨b1, 0, none⟩ : Addr) w_2 fun (t19 : Int) =>
  xk (t19 == 2) (
  ld (.int .i64) (⟨b1, 2, none⟩ : Addr) w_2 fun (t23 : Int) =>
  cvI .u64 t23 fun t24 =>
  qp P zj3 #[(Value.int .u64 t24)] [.slc] false w_2 fun (t25 : (Option Addr × Nat × Nat)) w_5 =>
  zan P (Builtin.append_ #[zh, zh] zh #[(Value.slice t9.1 t9.2.1 t9.2.2), (Value.slice t25.1 t25.2.1 t25.2.2)]) .slc w_5 fun (t26 : (Option Addr × Nat × Nat)) w_6 =>
  zat ((Option Addr × Nat × Nat) × Int) (fun s w_7 k =>
  ld .slc (⟨b1, 3, none⟩ : Addr) w_7 fun (t29 : (Option Addr × Nat × Nat)) =>
  xk (decide (s.2 < (t29.2.1 : Int))) (
  ld .slc (⟨b1, 3, none⟩ : Addr) w_7 fun (t36 : (Option Addr × Nat × Nat)) =>
  ixS t36.1 t36.2.1 32 s.2 fun t38 =>
  za0 P (Instr.sliceAt zf (Value.pointer (some t38)) none none none) .slc w_7 fun (t39 : (Option Addr × Nat × Nat)) =>
  zan P (Builtin.append_ #[zh, zh] zh #[(Value.slice s.1.1 s.1.2.1 s.1.2.2), (Value.slice t39.1 t39.2.1 t39.2.2)]) .slc w_7 fun (t40 : (Option Addr × Nat × Nat)) w_8 =>
  zbb .i64 s.2 1 fun t33 =>
  k ((t40.1, t40.2.1, t40.2.2), t33) w_8) (
  R (.returned (Value.slice s.1.1 s.1.2.1 s.1.2.2)) w_7)) ((t26.1, t26.2.1, t26.2.2), 0) w_6) (
  ld .slc (⟨b1, 4, none⟩ : Addr) w_2 fun (t44 : (Option Addr × Nat × Nat)) =>
  cvI .u64 (t44.2.1 : Int) fun t46 =>
  qp P zj3 #[(Value.int .u64 t46)] [.slc] false w_2 fun (t47 : (Option Addr × Nat × Nat)) w_9 =>
  zan P (Builtin.append_ #[zh, zh] zh #[(Value.slice t9.1 t9.2.1 t9.2.2), (Value.slice t47.1 t47.2.1 t47.2.2)]) .slc w_9 fun (t48 : (Option Addr × Nat × Nat)) w_10 =>
  zat ((Option Addr × Nat × Nat) × Int) (fun s_1 w_11 k_1 =>
  ld .slc (⟨b1, 4, none⟩ : Addr) w_11 fun (t51 : (Option Addr × Nat × Nat)) =>
  xk (decide (s_1.2 < (t51.2.1 : Int))) (
  ld .slc (⟨b1, 4, none⟩ : Addr) w_11 fun (t58 : (Option Addr × Nat × Nat)) =>
  ixS t58.1 t58.2.1 34 s_1.2 fun t60 =>
  ld .str t60 w_11 fun (t62 : ByteArray) =>
  qp P zp2 #[(Value.string t62)] [.slc] false w_11 fun (t63 : (Option Addr × Nat × Nat)) w_12 =>
  zan P (Builtin.append_ #[zh, zh] zh #[(Value.slice s_1.1.1 s_1.1.2.1 s_1.1.2.2), (Value.slice t63.1 t63.2.1 t63.2.2)]) .slc w_12 fun (t64 : (Option Addr × Nat × Nat)) w_13 =>
  ld .slc (⟨b1, 4, none⟩ : Addr) w_13 fun (t67 : (Option Addr × Nat × Nat)) =>
  ixS t67.1 t67.2.1 34 s_1.2 fun t69 =>
  ld (.int .i64) (Addr.add t69 1) w_13 fun (t71 : Int) =>
  cvI .u64 t71 fun t72 =>
  qp P zj3 #[(Value.int .u64 t72)] [.slc] false w_13 fun (t73 : (Option Addr × Nat × Nat)) w_14 =>
  zan P (Builtin.append_ #[zh, zh] zh #[(Value.slice t64.1 t64.2.1 t64.2.2), (Value.slice t73.1 t73.2.1 t73.2.2)]) .slc w_14 fun (t74 : (Option Addr × Nat × Nat)) w_15 =>
  ld .slc (⟨b1, 4, none⟩ : Addr) w_15 fun (t77 : (Option Addr × Nat × Nat)) =>
  ixS t77.1 t77.2.1 34 s_1.2 fun t79 =>
  za0 P (Instr.sliceAt zf (Value.pointer (some (Addr.add t79 2))) none none none) .slc w_15 fun (t81 : (Option Addr × Nat × Nat)) =>
  zan P (Builtin.append_ #[zh, zh] zh #[(Value.slice t74.1 t74.2.1 t74.2.2), (Value.slice t81.1 t81.2.1 t81.2.2)]) .slc w_15 fun (t82 : (Option Addr × Nat × Nat)) w_16 =>
  zbb .i64 s_1.2 1 fun t55 =>
  k_1 ((t82.1, t82.2.1, t82.2.2), t55) w_16) (
  R (.returned (Value.slice s_1.1.1 s_1.1.2.1 s_1.1.2.2)) w_11)) ((t48.1, t48.2.1, t48.2.2), 0) w_10))
theorem z4b (n : Value) (R : Ending → World → Prop) (w : World) : tr P qs ((Tryz.f73.body).getD .skip) zl1 (zcb 0 [(1, n)]) (zcl P Tryz.f73.results.toList R) w = zpb n R w := by kernel_rfl
theorem z2m {n : Value} {R : Ending → World → Prop} {w : World} (hT : zpb n R w) : qg P zil #[n] w R :=
 zx (fn := Tryz.f73) (c := (Tryz.f73.body).getD .skip) (ann := zl1) (args := [(1, n)]) (qs := qs) mixed Tryz.func73 rfl (by kernel_rfl) (by kernel_rfl) z3v ((z4b n R w).symm ▸ hT)
def zkl : Ann := (.seq .leaf (.seq .leaf (.seq .leaf (.join [] (.seq .leaf (.cond (.seq .leaf .leaf) .leaf)) (.seq .leaf .leaf)))))
theorem zz6 : okC P qs Tryz.f85.ntmps ((Tryz.f85.body).getD .skip) zkl = true := by kernel_rfl
def zof (b : Option Addr) (b_l b_c : Nat) (R : Ending → World → Prop) (w : World) : Prop :=
  zbi (zc P zi) zi w fun b2 w_1 =>
  qp P zri #[(Value.slice b b_l b_c)] [.ptr] false w_1 fun (t7 : (Option Addr)) w_2 =>
  qp P zq6 #[(Value.pointer t7)] [.any] false w_2 fun (t9 : Value) w_3 =>
  zbi (zc P zi) zi w_3 fun b5 w_4 =>
  zbn P (storeVar zi (⟨b5, 0, none⟩ : Addr) t9) w_4 fun w_5 =>
  joinP Unit (fun k =>
  qp P zoh #[(Value.pointer t7)] [.bool] false w_5 fun (t11 : Bool) w_6 =>
  xk (!t11) (
  za0 P (Instr.build zi #[]) .any w_6 fun (t18 : Value) =>
  zbn P (storeVar zi (⟨b2, 0, none⟩ : Addr) t18) w_6 fun w_7 =>
  ldA P 5 (⟨b2, 0, none⟩ : Addr) w_7 fun t2 =>
  R (.returned (Value.tuple #[(Value.agg t2), (Value.int .i64 21)])) w_7) (
  ldA P 5 (⟨b5, 0, none⟩ : Addr) w_6 fun t14 =>
  qp P zlc #[(Value.agg t14)] [.bool] false w_6 fun (t15 : Bool) w_8 =>
  xk (!t15) (
  za0 P (Instr.build zi #[]) .any w_8 fun (t18_1 : Value) =>
  zbn P (storeVar zi (⟨b2, 0, none⟩ : Addr) t18_1) w_8 fun w_9 =>
  ldA P 5 (⟨b2, 0, none⟩ : Addr) w_9 fun t2_1 =>
  R (.returned (Value.tuple #[(Value.agg t2_1), (Value.int .i64 21)])) w_9) (
  k () w_8))) (fun _ w_10 =>
  ldA P 5 (⟨b5, 0, none⟩ : Addr) w_10 fun t19 =>
  zbn P (storeVar zi (⟨b2, 0, none⟩ : Addr) (Value.agg t19)) w_10 fun w_11 =>
  ldA P 5 (⟨b2, 0, none⟩ : Addr) w_11 fun t2_2 =>
  R (.returned (Value.tuple #[(Value.agg t2_2), (Value.int .i64 0)])) w_11)
theorem zzv (b : Option Addr) (b_l b_c : Nat) (R : Ending → World → Prop) (w : World) : tr P qs ((Tryz.f85.body).getD .skip) zkl (zcb 0 [(0, (Value.slice b b_l b_c))]) (zcl P Tryz.f85.results.toList R) w = zof b b_l b_c R w := by kernel_rfl
theorem zzj {b : Option Addr} {b_l b_c : Nat} {R : Ending → World → Prop} {w : World} (hT : zof b b_l b_c R w) : qg P znj #[(Value.slice b b_l b_c)] w R :=
 zx (fn := Tryz.f85) (c := (Tryz.f85.body).getD .skip) (ann := zkl) (args := [(0, (Value.slice b b_l b_c))]) (qs := qs) mixed Tryz.func85 rfl (by kernel_rfl) (by kernel_rfl) zz6 ((zzv b b_l b_c R w).symm ▸ hT)
def zkv : Ann := (.seq .leaf (.seq (.seq .leaf (.cond (.seq .leaf .leaf) .leaf)) (.seq .leaf (.seq .leaf (.join [] (.seq .leaf (.jblk [] (.seq .leaf (.cond .leaf (.seq .leaf (.cond (.seq .leaf (.seq .leaf (.blk (.loop [(55, .int .i64)] (.seq .leaf (.seq (.cond .leaf .leaf) (.seq (.blk (.seq .leaf .leaf)) .leaf))))))) (.seq .leaf (.seq .leaf (.blk (.loop [(26, .int .i64)] (.seq .leaf (.seq (.cond .leaf .leaf) (.seq (.blk (.seq .leaf (.seq .leaf (.seq .leaf .leaf)))) .leaf))))))))))))) (.seq .leaf .leaf))))))
theorem z0u : okC P qs Tryz.f114.ntmps ((Tryz.f114.body).getD .skip) zkv = true := by kernel_rfl
def znv (n : Value) (R : Ending → World → Prop) (w : World) : Prop :=
  zbi (Value.cells n) zi w fun b1 w_1 =>
  ldA P 5 (⟨b1, 0, none⟩ : Addr) w_1 fun t9 =>
  qp P zlc #[(Value.agg t9)] [.bool] false w_1 fun (t10 : Bool) w_2 =>
  xk (!t10) (
  R (.returned (Value.tuple #[(Value.slice none 0 0), (Value.int .i64 21)])) w_2) (
  zbi (zc P zgi) zgi w_2 fun b4 w_3 =>
  ld (.int .i64) (⟨b1, 0, none⟩ : Addr) w_3 fun (t13 : Int) =>
  cvI .u64 t13 fun t14 =>
  qp P zdw #[(Value.pointer (some (⟨b4, 0, none⟩ : Addr))), (Value.int .u64 t14)] [] true w_3 fun (_ : Unit) w_4 =>
  joinP Unit (fun k =>
  ld (.int .i64) (⟨b1, 0, none⟩ : Addr) w_4 fun (t17 : Int) =>
  joinP Unit (fun k_1 =>
  xk (t17 == 1) (
  ld .str (⟨b1, 1, none⟩ : Addr) w_4 fun (t44 : ByteArray) =>
  qp P zgn #[(Value.pointer (some (⟨b4, 0, none⟩ : Addr))), (Value.string t44)] [] true w_4 fun (_ : Unit) w_5 =>
  k_1 () w_5) (
  xk (t17 == 2) (
  ld (.int .i64) (⟨b1, 2, none⟩ : Addr) w_4 fun (t49 : Int) =>
  cvI .u64 t49 fun t50 =>
  qp P zdw #[(Value.pointer (some (⟨b4, 0, none⟩ : Addr))), (Value.int .u64 t50)] [] true w_4 fun (_ : Unit) w_6 =>
  ld .slc (⟨b1, 3, none⟩ : Addr) w_6 fun (t53 : (Option Addr × Nat × Nat)) =>
  zat Int (fun s w_7 k_2 =>
  xk (decide (s < (t53.2.1 : Int))) (
  ixS t53.1 t53.2.1 32 s fun t57 =>
  ldA P 32 t57 w_7 fun t58 =>
  zbi (zc P zf) zf w_7 fun b6 w_8 =>
  zbn P (storeVar zf (⟨b6, 0, none⟩ : Addr) (Value.agg t58)) w_8 fun w_9 =>
  ldA P 32 (⟨b6, 0, none⟩ : Addr) w_9 fun t59 =>
  qp P zfg #[(Value.pointer (some (⟨b4, 0, none⟩ : Addr))), (Value.agg t59)] [] true w_9 fun (_ : Unit) w_10 =>
  zbb .i64 s 1 fun t61 =>
  k_2 t61 w_10) (
  k_1 () w_7)) 0 w_6) (
  ld .slc (⟨b1, 4, none⟩ : Addr) w_4 fun (t19 : (Option Addr × Nat × Nat)) =>
  cvI .u64 (t19.2.1 : Int) fun t21 =>
  qp P zdw #[(Value.pointer (some (⟨b4, 0, none⟩ : Addr))), (Value.int .u64 t21)] [] true w_4 fun (_ : Unit) w_11 =>
  ld .slc (⟨b1, 4, none⟩ : Addr) w_11 fun (t24 : (Option Addr × Nat × Nat)) =>
  zat Int (fun s_1 w_12 k_3 =>
  xk (decide (s_1 < (t24.2.1 : Int))) (
  ixS t24.1 t24.2.1 34 s_1 fun t28 =>
  ldA P 34 t28 w_12 fun t29 =>
  zbi (zc P qj) qj w_12 fun b8 w_13 =>
  zbn P (storeVar qj (⟨b8, 0, none⟩ : Addr) (Value.agg t29)) w_13 fun w_14 =>
  ld .str (⟨b8, 0, none⟩ : Addr) w_14 fun (t31 : ByteArray) =>
  qp P zgn #[(Value.pointer (some (⟨b4, 0, none⟩ : Addr))), (Value.string t31)] [] true w_14 fun (_ : Unit) w_15 =>
  ld (.int .i64) (⟨b8, 1, none⟩ : Addr) w_15 fun (t34 : Int) =>
  cvI .u64 t34 fun t35 =>
  qp P zdw #[(Value.pointer (some (⟨b4, 0, none⟩ : Addr))), (Value.int .u64 t35)] [] true w_15 fun (_ : Unit) w_16 =>
  ldA P 32 (⟨b8, 2, none⟩ : Addr) w_16 fun t38 =>
  qp P zfg #[(Value.pointer (some (⟨b4, 0, none⟩ : Addr))), (Value.agg t38)] [] true w_16 fun (_ : Unit) w_17 =>
  zbb .i64 s_1 1 fun t40 =>
  k_3 t40 w_17) (
  k_1 () w_12)) 0 w_11))) (fun _ w_18 =>
  k () w_18)) (fun _ w_19 =>
  qp P zi6 #[(Value.pointer (some (⟨b4, 0, none⟩ : Addr)))] [.slc] false w_19 fun (t62 : (Option Addr × Nat × Nat)) w_20 =>
  R (.returned (Value.tuple #[(Value.slice t62.1 t62.2.1 t62.2.2), (Value.int .i64 0)])) w_20))
theorem zzp (n : Value) (R : Ending → World → Prop) (w : World) : tr P qs ((Tryz.f114.body).getD .skip) zkv (zcb 0 [(1, n)]) (zcl P Tryz.f114.results.toList R) w = znv n R w := by kernel_rfl
theorem z0d {n : Value} {R : Ending → World → Prop} {w : World} (hT : znv n R w) : qg P znx #[n] w R :=
 zx (fn := Tryz.f114) (c := (Tryz.f114.body).getD .skip) (ann := zkv) (args := [(1, n)]) (qs := qs) mixed Tryz.func114 rfl (by kernel_rfl) (by kernel_rfl) z0u ((zzp n R w).symm ▸ hT)
def zr1 : Ann := (.seq .leaf (.seq .leaf (.seq (.blk (.loop [(0, .int .u64), (3, .slc)] (.seq (.seq .leaf (.cond .leaf .leaf)) (.blk (.seq .leaf .leaf))))) (.seq .leaf .leaf))))
theorem qdi : okC P qs Tryz.f130.ntmps ((Tryz.f130.body).getD .skip) zr1 = true := by kernel_rfl
def zza (n : Int) (R : Ending → World → Prop) (w : World) : Prop :=
  zat (Int × (Option Addr × Nat × Nat)) (fun s w_1 k =>
  xk (decide (s.1 ≥ 128)) (
  qkd s.1 128 fun t8 =>
  zbb .u64 t8 128 fun t9 =>
  cvI .u8 t9 fun t10 =>
  zan P (Instr.buildSlice zh 1 #[(0, (Value.int .u8 t10))]) .slc w_1 fun (t11 : (Option Addr × Nat × Nat)) w_2 =>
  zan P (Builtin.append_ #[zh, zh] zh #[(Value.slice s.2.1 s.2.2.1 s.2.2.2), (Value.slice t11.1 t11.2.1 t11.2.2)]) .slc w_2 fun (t12 : (Option Addr × Nat × Nat)) w_3 =>
  qjz .u64 s.1 128 fun t14 =>
  k (t14, (t12.1, t12.2.1, t12.2.2)) w_3) (
  cvI .u8 s.1 fun t17 =>
  zan P (Instr.buildSlice zh 1 #[(0, (Value.int .u8 t17))]) .slc w_1 fun (t18 : (Option Addr × Nat × Nat)) w_4 =>
  zan P (Builtin.append_ #[zh, zh] zh #[(Value.slice s.2.1 s.2.2.1 s.2.2.2), (Value.slice t18.1 t18.2.1 t18.2.2)]) .slc w_4 fun (t19 : (Option Addr × Nat × Nat)) w_5 =>
  R (.returned (Value.slice t19.1 t19.2.1 t19.2.2)) w_5)) (n, (none, 0, 0)) w
theorem qcn (n : Int) (R : Ending → World → Prop) (w : World) : tr P qs ((Tryz.f130.body).getD .skip) zr1 (zcb 0 [(0, (Value.int .u64 n))]) (zcl P Tryz.f130.results.toList R) w = zza n R w := by kernel_rfl
theorem qci {n : Int} {R : Ending → World → Prop} {w : World} (hT : zza n R w) : qg P zj3 #[(Value.int .u64 n)] w R :=
 zx (fn := Tryz.f130) (c := (Tryz.f130.body).getD .skip) (ann := zr1) (args := [(0, (Value.int .u64 n))]) (qs := qs) mixed Tryz.func130 rfl (by kernel_rfl) (by kernel_rfl) qdi ((qcn n R w).symm ▸ hT)
def zpx : Ann := (.seq .leaf (.seq .leaf .leaf))
theorem qaf : okC P qs Tryz.f131.ntmps ((Tryz.f131.body).getD .skip) zpx = true := by kernel_rfl
def zvb (s : ByteArray) (R : Ending → World → Prop) (w : World) : Prop :=
  cvI .u64 (s.size : Int) fun t5 =>
  qp P zj3 #[(Value.int .u64 t5)] [.slc] false w fun (t6 : (Option Addr × Nat × Nat)) w_1 =>
  zan P (Builtin.append_ #[zh, qx] zh #[(Value.slice t6.1 t6.2.1 t6.2.2), (Value.string s)]) .slc w_1 fun (t8 : (Option Addr × Nat × Nat)) w_2 =>
  R (.returned (Value.slice t8.1 t8.2.1 t8.2.2)) w_2
theorem z9c (s : ByteArray) (R : Ending → World → Prop) (w : World) : tr P qs ((Tryz.f131.body).getD .skip) zpx (zcb 0 [(0, (Value.string s))]) (zcl P Tryz.f131.results.toList R) w = zvb s R w := by kernel_rfl
theorem qam {s : ByteArray} {R : Ending → World → Prop} {w : World} (hT : zvb s R w) : qg P zp2 #[(Value.string s)] w R :=
 zx (fn := Tryz.f131) (c := (Tryz.f131.body).getD .skip) (ann := zpx) (args := [(0, (Value.string s))]) (qs := qs) mixed Tryz.func131 rfl (by kernel_rfl) (by kernel_rfl) qaf ((z9c s R w).symm ▸ hT)
def zn6 : Ann := (.seq .leaf (.seq .leaf .leaf))
theorem z8f : okC P qs Tryz.f137.ntmps ((Tryz.f137.body).getD .skip) zn6 = true := by kernel_rfl
def zrl (b : Option Addr) (b_l b_c : Nat) (R : Ending → World → Prop) (w : World) : Prop :=
  zan P (Builtin.append_ #[zh, zh] zh #[(Value.slice none 0 0), (Value.slice b b_l b_c)]) .slc w fun (t4 : (Option Addr × Nat × Nat)) w_1 =>
  za0 P (Instr.build zmu #[(0, (Value.slice t4.1 t4.2.1 t4.2.2))]) .any w_1 fun (t5 : Value) =>
  zbi (Value.cells t5) zmu w_1 fun b6 w_2 =>
  R (.returned (Value.pointer (some (⟨b6, 0, none⟩ : Addr)))) w_2
theorem z6i (b : Option Addr) (b_l b_c : Nat) (R : Ending → World → Prop) (w : World) : tr P qs ((Tryz.f137.body).getD .skip) zn6 (zcb 0 [(0, (Value.slice b b_l b_c))]) (zcl P Tryz.f137.results.toList R) w = zrl b b_l b_c R w := by kernel_rfl
theorem z7n {b : Option Addr} {b_l b_c : Nat} {R : Ending → World → Prop} {w : World} (hT : zrl b b_l b_c R w) : qg P zri #[(Value.slice b b_l b_c)] w R :=
 zx (fn := Tryz.f137) (c := (Tryz.f137.body).getD .skip) (ann := zn6) (args := [(0, (Value.slice b b_l b_c))]) (qs := qs) mixed Tryz.func137 rfl (by kernel_rfl) (by kernel_rfl) z8f ((z6i b b_l b_c R w).symm ▸ hT)
def zot : Ann := (.seq .leaf (.seq .leaf (.join [] (.seq .leaf (.jblk [] (.seq .leaf (.cond .leaf (.seq .leaf (.cond (.seq .leaf (.seq .leaf (.blk (.loop [(26, .int .i64)] (.seq .leaf (.seq (.cond .leaf .leaf) (.seq (.blk (.tree (.op 0 [] (.op 2 [] (.op 1 [] (.op 3 [1] (.op 4 [1] (.op 5 [] (.op 6 [] (.op 7 [] .done)))))))))) .leaf))))))) (.seq .leaf (.cond (.seq .leaf (.blk (.loop [(41, .int .u64)] (.seq .leaf (.seq (.cond .leaf .leaf) (.seq (.blk (.tree (.op 0 [] (.op 2 [] (.op 4 [] (.op 8 [] (.op 1 [] (.op 3 [1] (.op 5 [1] (.op 6 [] (.op 7 [] (.op 9 [1, 6] (.op 10 [] (.op 11 [1] (.op 12 [] (.op 13 [] (.op 14 [] .done))))))))))))))))) .leaf)))))) .leaf)))))))) (.seq .leaf .leaf))))
theorem z4p : okC P qs Tryz.f138.ntmps ((Tryz.f138.body).getD .skip) zot = true := by kernel_rfl
def zq7 (inv : Option Addr) (R : Ending → World → Prop) (w : World) : Prop :=
  zbi (zc P zi) zi w fun b2 w_1 =>
  qp P zed #[(Value.pointer inv)] [.int .u64] false w_1 fun (t5 : Int) w_2 =>
  za0 P (Builtin.min_ #[zdd, zdd] zdd #[(Value.int .u64 t5), (Value.int .u64 9)]) (.int .u64) w_2 fun (t6 : Int) =>
  cvI .i64 t6 fun t7 =>
  za0 P (Instr.build zi #[(0, (Value.int .i64 t7))]) .any w_2 fun (t8 : Value) =>
  zbi (zc P zi) zi w_2 fun b3 w_3 =>
  zbn P (storeVar zi (⟨b3, 0, none⟩ : Addr) t8) w_3 fun w_4 =>
  joinP Unit (fun k =>
  ld (.int .i64) (⟨b3, 0, none⟩ : Addr) w_4 fun (t10 : Int) =>
  joinP Unit (fun k_1 =>
  xk (t10 == 1) (
  qp P zia #[(Value.pointer inv), (Value.int .i64 64)] [.str] false w_4 fun (t14 : ByteArray) w_5 =>
  stC (⟨b3, 1, none⟩ : Addr) (Value.string t14) w_5 fun w_6 =>
  k_1 () w_6) (
  xk (t10 == 2) (
  qp P zed #[(Value.pointer inv)] [.int .u64] false w_4 fun (t19 : Int) w_7 =>
  za0 P (Builtin.min_ #[zdd, zdd] zdd #[(Value.int .u64 t19), (Value.int .u64 1025)]) (.int .u64) w_7 fun (t20 : Int) =>
  cvI .i64 t20 fun t21 =>
  stC (⟨b3, 2, none⟩ : Addr) (Value.int .i64 t21) w_7 fun w_8 =>
  ld (.int .i64) (⟨b3, 2, none⟩ : Addr) w_8 fun (t24 : Int) =>
  qp P zij #[(Value.int .i64 t24)] [.int .i64] false w_8 fun (t25 : Int) w_9 =>
  zat Int (fun s w_10 k_2 =>
  xk (decide (s < t25)) (
  zbj w_10 fun w_11 =>
  ld .slc (⟨b3, 3, none⟩ : Addr) w_11 fun (t29 : (Option Addr × Nat × Nat)) =>
  qp P zf0 #[(Value.pointer inv)] [.any] false w_11 fun (t31 : Value) w_12 =>
  ((ld .slc (⟨b3, 3, none⟩ : Addr) w_12 fun (t29_1 : (Option Addr × Nat × Nat)) =>
  (Value.slice t29_1.1 t29_1.2.1 t29_1.2.2) = (Value.slice t29.1 t29.2.1 t29.2.2)) ∧
  zan P (Instr.buildSlice jy 1 #[(0, t31)]) .slc w_12 fun (t32 : (Option Addr × Nat × Nat)) w_13 =>
  ((ld .slc (⟨b3, 3, none⟩ : Addr) w_13 fun (t29_2 : (Option Addr × Nat × Nat)) =>
  (Value.slice t29_2.1 t29_2.2.1 t29_2.2.2) = (Value.slice t29.1 t29.2.1 t29.2.2)) ∧
  zan P (Builtin.append_ #[jy, jy] jy #[(Value.slice t29.1 t29.2.1 t29.2.2), (Value.slice t32.1 t32.2.1 t32.2.2)]) .slc w_13 fun (t33 : (Option Addr × Nat × Nat)) w_14 =>
  stC (⟨b3, 3, none⟩ : Addr) (Value.slice t33.1 t33.2.1 t33.2.2) w_14 fun w_15 =>
  zbb .i64 s 1 fun t35 =>
  k_2 t35 w_15))) (
  k_1 () w_10)) 0 w_9) (
  xk (t10 == 3) (
  qp P zed #[(Value.pointer inv)] [.int .u64] false w_4 fun (t39 : Int) w_16 =>
  za0 P (Builtin.min_ #[zdd, zdd] zdd #[(Value.int .u64 t39), (Value.int .u64 65)]) (.int .u64) w_16 fun (t40 : Int) =>
  zat Int (fun s_1 w_17 k_3 =>
  xk (decide (s_1 < t40)) (
  zbj w_17 fun w_18 =>
  ld .slc (⟨b3, 4, none⟩ : Addr) w_18 fun (t44 : (Option Addr × Nat × Nat)) =>
  qp P zia #[(Value.pointer inv), (Value.int .i64 16)] [.str] false w_18 fun (t46 : ByteArray) w_19 =>
  ((ld .slc (⟨b3, 4, none⟩ : Addr) w_19 fun (t44_1 : (Option Addr × Nat × Nat)) =>
  (Value.slice t44_1.1 t44_1.2.1 t44_1.2.2) = (Value.slice t44.1 t44.2.1 t44.2.2)) ∧
  qp P zed #[(Value.pointer inv)] [.int .u64] false w_19 fun (t48 : Int) w_20 =>
  ((ld .slc (⟨b3, 4, none⟩ : Addr) w_20 fun (t44_2 : (Option Addr × Nat × Nat)) =>
  (Value.slice t44_2.1 t44_2.2.1 t44_2.2.2) = (Value.slice t44.1 t44.2.1 t44.2.2)) ∧
  za0 P (Builtin.min_ #[zdd, zdd] zdd #[(Value.int .u64 t48), (Value.int .u64 9)]) (.int .u64) w_20 fun (t49 : Int) =>
  cvI .i64 t49 fun t50 =>
  qp P zf0 #[(Value.pointer inv)] [.any] false w_20 fun (t52 : Value) w_21 =>
  ((za0 P (Builtin.min_ #[zdd, zdd] zdd #[(Value.int .u64 t48), (Value.int .u64 9)]) (.int .u64) w_21 fun (t49_1 : Int) =>
  (Value.int .u64 t49_1) = (Value.int .u64 t49)) ∧
  ((ld .slc (⟨b3, 4, none⟩ : Addr) w_21 fun (t44_3 : (Option Addr × Nat × Nat)) =>
  (Value.slice t44_3.1 t44_3.2.1 t44_3.2.2) = (Value.slice t44.1 t44.2.1 t44.2.2)) ∧
  za0 P (Instr.build qj #[(0, (Value.string t46)), (1, (Value.int .i64 t50)), (2, t52)]) .any w_21 fun (t53 : Value) =>
  zan P (Instr.buildSlice zah 1 #[(0, t53)]) .slc w_21 fun (t54 : (Option Addr × Nat × Nat)) w_22 =>
  ((ld .slc (⟨b3, 4, none⟩ : Addr) w_22 fun (t44_4 : (Option Addr × Nat × Nat)) =>
  (Value.slice t44_4.1 t44_4.2.1 t44_4.2.2) = (Value.slice t44.1 t44.2.1 t44.2.2)) ∧
  zan P (Builtin.append_ #[zah, zah] zah #[(Value.slice t44.1 t44.2.1 t44.2.2), (Value.slice t54.1 t54.2.1 t54.2.2)]) .slc w_22 fun (t55 : (Option Addr × Nat × Nat)) w_23 =>
  stC (⟨b3, 4, none⟩ : Addr) (Value.slice t55.1 t55.2.1 t55.2.2) w_23 fun w_24 =>
  zbb .u64 s_1 1 fun t57 =>
  k_3 t57 w_24)))))) (
  k_1 () w_17)) 0 w_16) (
  k_1 () w_4)))) (fun _ w_25 =>
  k () w_25)) (fun _ w_26 =>
  ldA P 5 (⟨b3, 0, none⟩ : Addr) w_26 fun t58 =>
  zbn P (storeVar zi (⟨b2, 0, none⟩ : Addr) (Value.agg t58)) w_26 fun w_27 =>
  ldA P 5 (⟨b2, 0, none⟩ : Addr) w_27 fun t2 =>
  R (.returned (Value.agg t2)) w_27)
theorem z8n (inv : Option Addr) (R : Ending → World → Prop) (w : World) : tr P qs ((Tryz.f138.body).getD .skip) zot (zcb 0 [(0, (Value.pointer inv))]) (zcl P Tryz.f138.results.toList R) w = zq7 inv R w := by kernel_rfl
theorem z4l {inv : Option Addr} {R : Ending → World → Prop} {w : World} (hT : zq7 inv R w) : qg P zq6 #[(Value.pointer inv)] w R :=
 zx (fn := Tryz.f138) (c := (Tryz.f138.body).getD .skip) (ann := zot) (args := [(0, (Value.pointer inv))]) (qs := qs) mixed Tryz.func138 rfl (by kernel_rfl) (by kernel_rfl) z4p ((z8n inv R w).symm ▸ hT)
def zkt : Ann := (.seq .leaf (.seq .leaf .leaf))
theorem zzn : okC P qs Tryz.f139.ntmps ((Tryz.f139.body).getD .skip) zkt = true := by kernel_rfl
def zos (i : Option Addr) (R : Ending → World → Prop) (w : World) : Prop :=
  xk (!(Option.isNone i)) (
  zu i fun p =>
  ld (.int .i64) (Addr.add p 1) w fun (t9 : Int) =>
  xk (t9 == 0) (
  zu i fun p_1 =>
  ld .slc p_1 w fun (t16 : (Option Addr × Nat × Nat)) =>
  R (.returned (Value.bool ((t16.2.1 : Int) == 0))) w) (
  R (.returned (Value.bool false)) w)) (
  R (.returned (Value.bool false)) w)
theorem zz9 (i : Option Addr) (R : Ending → World → Prop) (w : World) : tr P qs ((Tryz.f139.body).getD .skip) zkt (zcb 0 [(0, (Value.pointer i))]) (zcl P Tryz.f139.results.toList R) w = zos i R w := by kernel_rfl
theorem z0s {i : Option Addr} {R : Ending → World → Prop} {w : World} (hT : zos i R w) : qg P zoh #[(Value.pointer i)] w R :=
 zx (fn := Tryz.f139) (c := (Tryz.f139.body).getD .skip) (ann := zkt) (args := [(0, (Value.pointer i))]) (qs := qs) mixed Tryz.func139 rfl (by kernel_rfl) (by kernel_rfl) zzn ((zz9 i R w).symm ▸ hT)
def zmo : Ann := (.seq .leaf (.seq (.seq .leaf (.blk (.seq .leaf (.cond (.seq .leaf .leaf) (.seq .leaf (.cond (.seq (.tree (.op 0 [] (.op 1 [] (.op 2 [] (.op 3 [] (.op 4 [] (.op 5 [] (.op 6 [] (.op 7 [] (.op 8 [] (.op 9 [] (.op 10 [] (.op 11 [] (.op 12 [] (.op 13 [] (.op 14 [] (.op 17 [] (.op 15 [] (.op 16 [] (.op 18 [] (.op 19 [15] (.op 20 [] (.op 21 [] (.op 22 [] (.op 23 [] (.op 24 [] (.op 25 [] (.op 26 [] (.op 27 [] (.op 28 [] .done)))))))))))))))))))))))))))))) .leaf) (.seq .leaf (.cond (.seq .leaf .leaf) .leaf)))))))) (.seq .leaf .leaf)))
theorem z3l : okC P qs Tryz.f140.ntmps ((Tryz.f140.body).getD .skip) zmo = true := by kernel_rfl
def zpa (n : Value) (R : Ending → World → Prop) (w : World) : Prop :=
  zbi (Value.cells n) zi w fun b1 w_1 =>
  ld (.int .i64) (⟨b1, 0, none⟩ : Addr) w_1 fun (t4 : Int) =>
  xk (t4 == 1) (
  ld .str (⟨b1, 1, none⟩ : Addr) w_1 fun (t8 : ByteArray) =>
  xk (decide ((t8.size : Int) > 0)) (
  ld .str (⟨b1, 1, none⟩ : Addr) w_1 fun (t13 : ByteArray) =>
  xk (decide ((t13.size : Int) ≤ 64)) (
  ld (.int .i64) (⟨b1, 2, none⟩ : Addr) w_1 fun (t19 : Int) =>
  xk (t19 == 0) (
  ld .slc (⟨b1, 3, none⟩ : Addr) w_1 fun (t24 : (Option Addr × Nat × Nat)) =>
  xk ((t24.2.1 : Int) == 0) (
  ld .slc (⟨b1, 4, none⟩ : Addr) w_1 fun (t30 : (Option Addr × Nat × Nat)) =>
  R (.returned (Value.bool ((t30.2.1 : Int) == 0))) w_1) (
  R (.returned (Value.bool false)) w_1)) (
  R (.returned (Value.bool false)) w_1)) (
  R (.returned (Value.bool false)) w_1)) (
  R (.returned (Value.bool false)) w_1)) (
  xk (t4 == 2) (
  zbj w_1 fun w_2 =>
  ld .str (⟨b1, 1, none⟩ : Addr) w_2 fun (t37 : ByteArray) =>
  xk (t37.toList == (ByteArray.mk #[]).toList) (
  ld (.int .i64) (⟨b1, 2, none⟩ : Addr) w_2 fun (t41 : Int) =>
  xk (decide (t41 ≥ 0)) (
  ld (.int .i64) (⟨b1, 2, none⟩ : Addr) w_2 fun (t46 : Int) =>
  xk (decide (t46 ≤ 1024)) (
  ld .slc (⟨b1, 3, none⟩ : Addr) w_2 fun (t51 : (Option Addr × Nat × Nat)) =>
  ld (.int .i64) (⟨b1, 2, none⟩ : Addr) w_2 fun (t54 : Int) =>
  qp P zij #[(Value.int .i64 t54)] [.int .i64] false w_2 fun (t55 : Int) w_3 =>
  ((ld .slc (⟨b1, 3, none⟩ : Addr) w_3 fun (t51_1 : (Option Addr × Nat × Nat)) =>
  (Value.slice t51_1.1 t51_1.2.1 t51_1.2.2) = (Value.slice t51.1 t51.2.1 t51.2.2)) ∧
  xk ((t51.2.1 : Int) == t55) (
  ld .slc (⟨b1, 4, none⟩ : Addr) w_3 fun (t60 : (Option Addr × Nat × Nat)) =>
  R (.returned (Value.bool ((t60.2.1 : Int) == 0))) w_3) (
  R (.returned (Value.bool false)) w_3))) (
  ((undef = undef) ∧
  R (.returned (Value.bool false)) w_2))) (
  ((undef = undef) ∧
  R (.returned (Value.bool false)) w_2))) (
  ((undef = undef) ∧
  R (.returned (Value.bool false)) w_2))) (
  xk (t4 == 3) (
  ld .str (⟨b1, 1, none⟩ : Addr) w_1 fun (t67 : ByteArray) =>
  xk (t67.toList == (ByteArray.mk #[]).toList) (
  ld (.int .i64) (⟨b1, 2, none⟩ : Addr) w_1 fun (t71 : Int) =>
  xk (t71 == 0) (
  ld .slc (⟨b1, 3, none⟩ : Addr) w_1 fun (t76 : (Option Addr × Nat × Nat)) =>
  xk ((t76.2.1 : Int) == 0) (
  ld .slc (⟨b1, 4, none⟩ : Addr) w_1 fun (t82 : (Option Addr × Nat × Nat)) =>
  qp P znt #[(Value.slice t82.1 t82.2.1 t82.2.2)] [.bool] false w_1 fun (t83 : Bool) w_4 =>
  R (.returned (Value.bool t83)) w_4) (
  R (.returned (Value.bool false)) w_1)) (
  R (.returned (Value.bool false)) w_1)) (
  R (.returned (Value.bool false)) w_1)) (
  R (.returned (Value.bool false)) w_1)))
theorem z3n (n : Value) (R : Ending → World → Prop) (w : World) : tr P qs ((Tryz.f140.body).getD .skip) zmo (zcb 0 [(1, n)]) (zcl P Tryz.f140.results.toList R) w = zpa n R w := by kernel_rfl
theorem z3r {n : Value} {R : Ending → World → Prop} {w : World} (hT : zpa n R w) : qg P zlc #[n] w R :=
 zx (fn := Tryz.f140) (c := (Tryz.f140.body).getD .skip) (ann := zmo) (args := [(1, n)]) (qs := qs) mixed Tryz.func140 rfl (by kernel_rfl) (by kernel_rfl) z3l ((z3n n R w).symm ▸ hT)
def zkw : Ann := (.seq .leaf (.seq .leaf (.seq .leaf (.blk (.loop [(3, .int .u64), (4, .int .i64)] (.seq (.jblk [(3, .int .u64)] (.seq .leaf (.seq (.seq .leaf (.cond (.seq .leaf .leaf) .leaf)) (.join [] (.seq .leaf (.cond (.seq .leaf (.seq .leaf .leaf)) .leaf)) (.seq .leaf (.seq .leaf (.cond (.seq .leaf .leaf) .leaf))))))) .leaf))))))
theorem zzm : okC P qs Tryz.f176.ntmps ((Tryz.f176.body).getD .skip) zkw = true := by kernel_rfl
def zn4 (i : Option Addr) (R : Ending → World → Prop) (w : World) : Prop :=
  zat (Int × Int) (fun s w_1 k =>
  joinP Int (fun k_1 =>
  qp P zlt #[(Value.pointer i)] [.int .u8, .bool] true w_1 fun (t11 : (Int × Bool)) w_2 =>
  xk (!t11.2) (
  R (.returned (Value.int .u64 0)) w_2) (
  joinP Unit (fun k_2 =>
  xk (s.2 == 9) (
  xk (decide (t11.1 > 1)) (
  qp P zcj #[(Value.pointer i), (Value.int .i64 21)] [] true w_2 fun (_ : Unit) w_3 =>
  R (.returned (Value.int .u64 0)) w_3) (
  xk (decide (s.2 > 0)) (
  xk (t11.1 == 0) (
  qp P zcj #[(Value.pointer i), (Value.int .i64 21)] [] true w_2 fun (_ : Unit) w_4 =>
  R (.returned (Value.int .u64 0)) w_4) (
  k_2 () w_2)) (
  k_2 () w_2))) (
  xk (decide (s.2 > 0)) (
  xk (t11.1 == 0) (
  qp P zcj #[(Value.pointer i), (Value.int .i64 21)] [] true w_2 fun (_ : Unit) w_5 =>
  R (.returned (Value.int .u64 0)) w_5) (
  k_2 () w_2)) (
  k_2 () w_2))) (fun _ w_6 =>
  qac .u8 t11.1 127 fun t34 =>
  cvI .u64 t34 fun t35 =>
  zzg .i64 7 s.2 fun t37 =>
  qgz .u64 t35 t37 fun t38 =>
  orI .u64 s.1 t38 fun t39 =>
  xk (decide (t11.1 < 128)) (
  R (.returned (Value.int .u64 t39)) w_6) (
  k_1 t39 w_6)))) (fun s_2 w_7 =>
  zbb .i64 s.2 1 fun t8 =>
  k (s_2, t8) w_7)) (0, 0) w
theorem zz7 (i : Option Addr) (R : Ending → World → Prop) (w : World) : tr P qs ((Tryz.f176.body).getD .skip) zkw (zcb 0 [(0, (Value.pointer i))]) (zcl P Tryz.f176.results.toList R) w = zn4 i R w := by kernel_rfl
theorem zzi {i : Option Addr} {R : Ending → World → Prop} {w : World} (hT : zn4 i R w) : qg P zed #[(Value.pointer i)] w R :=
 zx (fn := Tryz.f176) (c := (Tryz.f176.body).getD .skip) (ann := zkw) (args := [(0, (Value.pointer i))]) (qs := qs) mixed Tryz.func176 rfl (by kernel_rfl) (by kernel_rfl) zzm ((zz7 i R w).symm ▸ hT)
def ziv : Ann := (.seq .leaf (.seq .leaf (.join [] (.seq .leaf (.cond (.seq .leaf .leaf) .leaf)) (.seq (.seq .leaf (.cond (.seq .leaf (.seq .leaf .leaf)) .leaf)) (.seq .leaf .leaf)))))
theorem zys : okC P qs Tryz.f177.ntmps ((Tryz.f177.body).getD .skip) ziv = true := by kernel_rfl
def zlx (i : Option Addr) (most : Int) (R : Ending → World → Prop) (w : World) : Prop :=
  qp P zed #[(Value.pointer i)] [.int .u64] false w fun (t7 : Int) w_1 =>
  joinP Unit (fun k =>
  xk (Option.isNone i) (
  R (.returned (Value.string (ByteArray.mk #[]))) w_1) (
  zu i fun p =>
  ld (.int .i64) (Addr.add p 1) w_1 fun (t14 : Int) =>
  xk (t14 != 0) (
  R (.returned (Value.string (ByteArray.mk #[]))) w_1) (
  k () w_1))) (fun _ w_2 =>
  za0 P (Builtin.max_ #[zdx, zdx] zdx #[(Value.int .i64 most), (Value.int .i64 0)]) (.int .i64) w_2 fun (t19 : Int) =>
  cvI .u64 t19 fun t20 =>
  xk (decide (t7 > t20)) (
  qp P zcj #[(Value.pointer i), (Value.int .i64 2)] [] true w_2 fun (_ : Unit) w_3 =>
  R (.returned (Value.string (ByteArray.mk #[]))) w_3) (
  cvI .i64 t7 fun t26 =>
  qp P zfv #[(Value.pointer i), (Value.int .i64 t26)] [.slc] false w_2 fun (t27 : (Option Addr × Nat × Nat)) w_4 =>
  za0 P (convert zh qx (Value.slice t27.1 t27.2.1 t27.2.2)) .str w_4 fun (t28 : ByteArray) =>
  R (.returned (Value.string t28)) w_4))
theorem zxp (i : Option Addr) (most : Int) (R : Ending → World → Prop) (w : World) : tr P qs ((Tryz.f177.body).getD .skip) ziv (zcb 0 [(0, (Value.pointer i)), (0, (Value.int .i64 most))]) (zcl P Tryz.f177.results.toList R) w = zlx i most R w := by kernel_rfl
theorem zym {i : Option Addr} {most : Int} {R : Ending → World → Prop} {w : World} (hT : zlx i most R w) : qg P zia #[(Value.pointer i), (Value.int .i64 most)] w R :=
 zx (fn := Tryz.f177) (c := (Tryz.f177.body).getD .skip) (ann := ziv) (args := [(0, (Value.pointer i)), (0, (Value.int .i64 most))]) (qs := qs) mixed Tryz.func177 rfl (by kernel_rfl) (by kernel_rfl) zys ((zxp i most R w).symm ▸ hT)
def zl6 : Ann := (.seq .leaf (.seq .leaf .leaf))
theorem z1x : okC P qs Tryz.f178.ntmps ((Tryz.f178.body).getD .skip) zl6 = true := by kernel_rfl
def zlg (size : Int) (R : Ending → World → Prop) (w : World) : Prop :=
  zbb .i64 size 64 fun t4 =>
  zow .i64 t4 1 fun t5 =>
  qjz .i64 t5 64 fun t6 =>
  R (.returned (Value.int .i64 t6)) w
theorem z2a (size : Int) (R : Ending → World → Prop) (w : World) : tr P qs ((Tryz.f178.body).getD .skip) zl6 (zcb 0 [(0, (Value.int .i64 size))]) (zcl P Tryz.f178.results.toList R) w = zlg size R w := by kernel_rfl
theorem ztz {size : Int} {R : Ending → World → Prop} {w : World} (hT : zlg size R w) : qg P zij #[(Value.int .i64 size)] w R :=
 zx (fn := Tryz.f178) (c := (Tryz.f178.body).getD .skip) (ann := zl6) (args := [(0, (Value.int .i64 size))]) (qs := qs) mixed Tryz.func178 rfl (by kernel_rfl) (by kernel_rfl) z1x ((z2a size R w).symm ▸ hT)
def zgw : Ann := (.seq .leaf (.seq .leaf (.seq (.tree (.op 1 [] (.op 0 [] (.op 2 [0] (.op 3 [] .done))))) (.seq .leaf .leaf))))
theorem zuz : okC P qs Tryz.f179.ntmps ((Tryz.f179.body).getD .skip) zgw = true := by kernel_rfl
def zja (i : Option Addr) (R : Ending → World → Prop) (w : World) : Prop :=
  zbi (zc P zf) zf w fun b2 w_1 =>
  zbi (zc P zf) zf w_1 fun b3 w_2 =>
  zbj w_2 fun w_3 =>
  za0 P (Instr.sliceAt zf (Value.pointer (some (⟨b3, 0, none⟩ : Addr))) none none none) .slc w_3 fun (t4 : (Option Addr × Nat × Nat)) =>
  qp P zfv #[(Value.pointer i), (Value.int .i64 32)] [.slc] false w_3 fun (t6 : (Option Addr × Nat × Nat)) w_4 =>
  ((za0 P (Instr.sliceAt zf (Value.pointer (some (⟨b3, 0, none⟩ : Addr))) none none none) .slc w_4 fun (t4_1 : (Option Addr × Nat × Nat)) =>
  (Value.slice t4_1.1 t4_1.2.1 t4_1.2.2) = (Value.slice t4.1 t4.2.1 t4.2.2)) ∧
  zan P (Builtin.copy_ #[zh, zh] zdx #[(Value.slice t4.1 t4.2.1 t4.2.2), (Value.slice t6.1 t6.2.1 t6.2.2)]) (.int .i64) w_4 fun (_ : Int) w_5 =>
  ldA P 32 (⟨b3, 0, none⟩ : Addr) w_5 fun t8 =>
  zbn P (storeVar zf (⟨b2, 0, none⟩ : Addr) (Value.agg t8)) w_5 fun w_6 =>
  ldA P 32 (⟨b2, 0, none⟩ : Addr) w_6 fun t2 =>
  R (.returned (Value.agg t2)) w_6)
theorem zt6 (i : Option Addr) (R : Ending → World → Prop) (w : World) : tr P qs ((Tryz.f179.body).getD .skip) zgw (zcb 0 [(0, (Value.pointer i))]) (zcl P Tryz.f179.results.toList R) w = zja i R w := by kernel_rfl
theorem zuv {i : Option Addr} {R : Ending → World → Prop} {w : World} (hT : zja i R w) : qg P zf0 #[(Value.pointer i)] w R :=
 zx (fn := Tryz.f179) (c := (Tryz.f179.body).getD .skip) (ann := zgw) (args := [(0, (Value.pointer i))]) (qs := qs) mixed Tryz.func179 rfl (by kernel_rfl) (by kernel_rfl) zuz ((zt6 i R w).symm ▸ hT)
def zk4 : Ann := (.seq .leaf (.seq .leaf (.seq (.seq .leaf (.blk (.loop [(3, .str), (8, .int .i64)] (.seq .leaf (.seq (.cond .leaf .leaf) (.seq (.jblk [(3, .str)] (.seq .leaf (.join [] (.seq .leaf (.cond (.seq .leaf .leaf) .leaf)) (.seq .leaf (.jblk [(3, .str)] (.seq (.blk (.join [] (.jblk [] (.blk (.seq (.seq (.seq .leaf (.cond .leaf .leaf)) (.seq .leaf (.cond .leaf .leaf))) .leaf))) (.seq .leaf .leaf))) (.seq (.seq .leaf .leaf) .leaf))))))) .leaf)))))) (.seq .leaf .leaf))))
theorem z0a : okC P qs Tryz.f180.ntmps ((Tryz.f180.body).getD .skip) zk4 = true := by kernel_rfl
def zob (items : Option Addr) (items_l items_c : Nat) (R : Ending → World → Prop) (w : World) : Prop :=
  zat (ByteArray × Int) (fun s w_1 k =>
  xk (decide (s.2 < (items_l : Int))) (
  joinP ByteArray (fun k_1 =>
  ixS items items_l 34 s.2 fun t10 =>
  ldA P 34 t10 w_1 fun t11 =>
  zbi (zc P qj) qj w_1 fun b5 w_2 =>
  zbn P (storeVar qj (⟨b5, 0, none⟩ : Addr) (Value.agg t11)) w_2 fun w_3 =>
  joinP Unit (fun k_2 =>
  ld .str (⟨b5, 0, none⟩ : Addr) w_3 fun (t13 : ByteArray) =>
  xk ((Op.bytesLess t13.toList s.1.toList) || (t13.toList == s.1.toList)) (
  R (.returned (Value.bool false)) w_3) (
  ld .str (⟨b5, 0, none⟩ : Addr) w_3 fun (t18 : ByteArray) =>
  zan P (Instr.buildSlice ql 1 #[(0, (Value.string t18))]) .slc w_3 fun (t19 : (Option Addr × Nat × Nat)) w_4 =>
  qp P zog #[(Value.slice t19.1 t19.2.1 t19.2.2)] [.int .i64] false w_4 fun (t20 : Int) w_5 =>
  xk (t20 != 0) (
  R (.returned (Value.bool false)) w_5) (
  k_2 () w_5))) (fun _ w_6 =>
  ld (.int .i64) (⟨b5, 1, none⟩ : Addr) w_6 fun (t24 : Int) =>
  joinP ByteArray (fun k_3 =>
  joinP Unit (fun k_4 =>
  joinP Unit (fun k_5 =>
  xk (t24 == 2) (
  k_5 () w_6) (
  xk (t24 == 3) (
  k_5 () w_6) (
  R (.returned (Value.bool false)) w_6))) (fun _ w_7 =>
  k_4 () w_7)) (fun _ w_8 =>
  ld .str (⟨b5, 0, none⟩ : Addr) w_8 fun (t30 : ByteArray) =>
  k_3 t30 w_8)) (fun s_4 w_9 =>
  k_1 s_4 w_9))) (fun s_5 w_10 =>
  zbb .i64 s.2 1 fun t31 =>
  k (s_5, t31) w_10)) (
  R (.returned (Value.bool (decide ((items_l : Int) ≤ 64)))) w_1)) ((ByteArray.mk #[]), 0) w
theorem zzt (items : Option Addr) (items_l items_c : Nat) (R : Ending → World → Prop) (w : World) : tr P qs ((Tryz.f180.body).getD .skip) zk4 (zcb 0 [(0, (Value.slice items items_l items_c))]) (zcl P Tryz.f180.results.toList R) w = zob items items_l items_c R w := by kernel_rfl
theorem zzu {items : Option Addr} {items_l items_c : Nat} {R : Ending → World → Prop} {w : World} (hT : zob items items_l items_c R w) : qg P znt #[(Value.slice items items_l items_c)] w R :=
 zx (fn := Tryz.f180) (c := (Tryz.f180.body).getD .skip) (ann := zk4) (args := [(0, (Value.slice items items_l items_c))]) (qs := qs) mixed Tryz.func180 rfl (by kernel_rfl) (by kernel_rfl) z0a ((zzt items items_l items_c R w).symm ▸ hT)
def zje : Ann := (.seq .leaf (.join [] (.seq .leaf (.cond (.seq .leaf .leaf) .leaf)) (.seq (.seq .leaf (.cond (.seq .leaf (.seq .leaf .leaf)) .leaf)) (.seq .leaf (.seq .leaf (.seq .leaf .leaf))))))
theorem zwr : okC P qs Tryz.f204.ntmps ((Tryz.f204.body).getD .skip) zje = true := by kernel_rfl
def zlq (i : Option Addr) (R : Ending → World → Prop) (w : World) : Prop :=
  joinP Unit (fun k =>
  xk (Option.isNone i) (
  R (.returned (Value.tuple #[(Value.int .u8 0), (Value.bool false)])) w) (
  zu i fun p =>
  ld (.int .i64) (Addr.add p 1) w fun (t11 : Int) =>
  xk (t11 != 0) (
  R (.returned (Value.tuple #[(Value.int .u8 0), (Value.bool false)])) w) (
  k () w))) (fun _ w_1 =>
  zu i fun p_1 =>
  ld .slc p_1 w_1 fun (t17 : (Option Addr × Nat × Nat)) =>
  xk ((t17.2.1 : Int) == 0) (
  qp P zcj #[(Value.pointer i), (Value.int .i64 20)] [] true w_1 fun (_ : Unit) w_2 =>
  R (.returned (Value.tuple #[(Value.int .u8 0), (Value.bool false)])) w_2) (
  zu i fun p_2 =>
  ld .slc p_2 w_1 fun (t25 : (Option Addr × Nat × Nat)) =>
  ixS t25.1 t25.2.1 1 0 fun t26 =>
  ld (.int .u8) t26 w_1 fun (t27 : Int) =>
  zu i fun p_3 =>
  ld .slc p_3 w_1 fun (t32 : (Option Addr × Nat × Nat)) =>
  za0 P (Instr.sliceAt zh (Value.slice t32.1 t32.2.1 t32.2.2) (some (Value.int .i64 1)) none none) .slc w_1 fun (t33 : (Option Addr × Nat × Nat)) =>
  zu i fun p_4 =>
  stC p_4 (Value.slice t33.1 t33.2.1 t33.2.2) w_1 fun w_3 =>
  R (.returned (Value.tuple #[(Value.int .u8 t27), (Value.bool true)])) w_3))
theorem zyf (i : Option Addr) (R : Ending → World → Prop) (w : World) : tr P qs ((Tryz.f204.body).getD .skip) zje (zcb 0 [(0, (Value.pointer i))]) (zcl P Tryz.f204.results.toList R) w = zlq i R w := by kernel_rfl
theorem zyq {i : Option Addr} {R : Ending → World → Prop} {w : World} (hT : zlq i R w) : qg P zlt #[(Value.pointer i)] w R :=
 zx (fn := Tryz.f204) (c := (Tryz.f204.body).getD .skip) (ann := zje) (args := [(0, (Value.pointer i))]) (qs := qs) mixed Tryz.func204 rfl (by kernel_rfl) (by kernel_rfl) zwr ((zyf i R w).symm ▸ hT)
def zi5 : Ann := .leaf
theorem zxs : okC P qs Tryz.f205.ntmps ((Tryz.f205.body).getD .skip) zi5 = true := by kernel_rfl
def zmg (i : Option Addr) (e : Int) (R : Ending → World → Prop) (w : World) : Prop :=
  zu i fun p =>
  stC p (Value.slice none 0 0) w fun w_1 =>
  zu i fun p_1 =>
  stC (Addr.add p_1 1) (Value.int .i64 e) w_1 fun w_2 =>
  R (.returned (Value.tuple #[])) w_2
theorem zxm (i : Option Addr) (e : Int) (R : Ending → World → Prop) (w : World) : tr P qs ((Tryz.f205.body).getD .skip) zi5 (zcb 0 [(0, (Value.pointer i)), (0, (Value.int .i64 e))]) (zcl P Tryz.f205.results.toList R) w = zmg i e R w := by kernel_rfl
theorem zyv {i : Option Addr} {e : Int} {R : Ending → World → Prop} {w : World} (hT : zmg i e R w) : qg P zcj #[(Value.pointer i), (Value.int .i64 e)] w R :=
 zx (fn := Tryz.f205) (c := (Tryz.f205.body).getD .skip) (ann := zi5) (args := [(0, (Value.pointer i)), (0, (Value.int .i64 e))]) (qs := qs) mixed Tryz.func205 rfl (by kernel_rfl) (by kernel_rfl) zxs ((zxm i e R w).symm ▸ hT)
def zjm : Ann := (.seq .leaf (.join [] (.seq .leaf (.cond (.seq .leaf .leaf) .leaf)) (.seq (.seq .leaf (.cond (.seq .leaf (.seq .leaf .leaf)) .leaf)) (.seq .leaf (.seq .leaf (.seq .leaf .leaf))))))
theorem zxn : okC P qs Tryz.f206.ntmps ((Tryz.f206.body).getD .skip) zjm = true := by kernel_rfl
def zh8 (i : Option Addr) (n : Int) (R : Ending → World → Prop) (w : World) : Prop :=
  joinP Unit (fun k =>
  xk (Option.isNone i) (
  R (.returned (Value.slice none 0 0)) w) (
  zu i fun p =>
  ld (.int .i64) (Addr.add p 1) w fun (t12 : Int) =>
  xk (t12 != 0) (
  R (.returned (Value.slice none 0 0)) w) (
  k () w))) (fun _ w_1 =>
  zu i fun p_1 =>
  ld .slc p_1 w_1 fun (t19 : (Option Addr × Nat × Nat)) =>
  xk (decide (n > (t19.2.1 : Int))) (
  qp P zcj #[(Value.pointer i), (Value.int .i64 20)] [] true w_1 fun (_ : Unit) w_2 =>
  R (.returned (Value.slice none 0 0)) w_2) (
  zu i fun p_2 =>
  ld .slc p_2 w_1 fun (t27 : (Option Addr × Nat × Nat)) =>
  za0 P (Instr.sliceAt zh (Value.slice t27.1 t27.2.1 t27.2.2) none (some (Value.int .i64 n)) none) .slc w_1 fun (t29 : (Option Addr × Nat × Nat)) =>
  zu i fun p_3 =>
  ld .slc p_3 w_1 fun (t34 : (Option Addr × Nat × Nat)) =>
  za0 P (Instr.sliceAt zh (Value.slice t34.1 t34.2.1 t34.2.2) (some (Value.int .i64 n)) none none) .slc w_1 fun (t36 : (Option Addr × Nat × Nat)) =>
  zu i fun p_4 =>
  stC p_4 (Value.slice t36.1 t36.2.1 t36.2.2) w_1 fun w_3 =>
  R (.returned (Value.slice t29.1 t29.2.1 t29.2.2)) w_3))
theorem zyz (i : Option Addr) (n : Int) (R : Ending → World → Prop) (w : World) : tr P qs ((Tryz.f206.body).getD .skip) zjm (zcb 0 [(0, (Value.pointer i)), (0, (Value.int .i64 n))]) (zcl P Tryz.f206.results.toList R) w = zh8 i n R w := by kernel_rfl
theorem zpy {i : Option Addr} {n : Int} {R : Ending → World → Prop} {w : World} (hT : zh8 i n R w) : qg P zfv #[(Value.pointer i), (Value.int .i64 n)] w R :=
 zx (fn := Tryz.f206) (c := (Tryz.f206.body).getD .skip) (ann := zjm) (args := [(0, (Value.pointer i)), (0, (Value.int .i64 n))]) (qs := qs) mixed Tryz.func206 rfl (by kernel_rfl) (by kernel_rfl) zxn ((zyz i n R w).symm ▸ hT)
end Go.Proofs.YtbmegmbnlajbbaaGreatDoor
