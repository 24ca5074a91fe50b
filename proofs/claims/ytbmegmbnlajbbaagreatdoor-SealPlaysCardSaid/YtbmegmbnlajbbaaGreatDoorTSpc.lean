/- Part 3 of the texts below the card, joined. -/
import Derived.Test.YtbmegmbnlajbbaaGreatDoorTSpb
import Derived.Test.YtbmegmbnlajbbaaGreatDoorTSpa
import Derived.DeepKeys3
import Derived.Maps.RangeRun
import Derived.Laws.BytesString
import Derived.Lib.BytesEntry
import Derived.Lib.Bytealg
import Derived.Laws.Externs
import Derived.Shelf.SlSortCmp.WholeK
import Derived.Shelf.SlSortCmp.NoneTotal
namespace Go.Proofs.YtbmegmbnlajbbaaGreatDoor
open Go Go.Fw Go.Proofs
set_option maxRecDepth 100000
def zmy:Ann:=(.seq .leaf (.seq (.seq .leaf (.cond (.seq .leaf .leaf) .leaf)) (.seq .leaf (.seq (.seq .leaf (.cond (.seq .leaf .leaf) .leaf)) (.seq .leaf (.seq (.seq .leaf (.cond (.seq .leaf .leaf) .leaf)) (.seq .leaf (.seq .leaf (.seq .leaf (.seq .leaf (.seq (.seq .leaf (.seq .leaf (.cond (.seq .leaf .leaf) .leaf))) (.seq .leaf .leaf))))))))))))
theorem z4d:okC P qs Tryz.f14.ntmps ((Tryz.f14.body).getD .skip) zmy=true:=by kernel_rfl
def zpu (s:Option Addr) (list:Option Addr) (list_l list_c:Nat) (R:Ending→World→Prop) (w:World):Prop :=
  zbn (zc P zf) zf w fun b4 w_1 =>
  xk (Option.isNone s) (
  zaz P (Instr.build zf #[]) .any w_1 fun (t15:Value) =>
  zby P (storeVar zf (⟨b4,0,none⟩:Addr) t15) w_1 fun w_2 =>
  ldA P 32 (⟨b4,0,none⟩:Addr) w_2 fun t4 =>
  R (.returned (Value.tuple #[(Value.agg t4),(Value.int .i64 7)])) w_2) (
  xg P zpg #[(Value.slice list list_l list_c)] [.slc,.int .i64] true w_1 fun (t18:((Option Addr × Nat × Nat) × Int)) w_3 =>
  xk (t18.2 != 0) (
  zaz P (Instr.build zf #[]) .any w_3 fun (t23:Value) =>
  zby P (storeVar zf (⟨b4,0,none⟩:Addr) t23) w_3 fun w_4 =>
  ldA P 32 (⟨b4,0,none⟩:Addr) w_4 fun t4_1 =>
  R (.returned (Value.tuple #[(Value.agg t4_1),(Value.int .i64 t18.2)])) w_4) (
  xg P zqd #[(Value.slice t18.1.1 t18.1.2.1 t18.1.2.2)] [.map,.int .i64] true w_3 fun (t27:((Option Nat) × Int)) w_5 =>
  zbn (zc P jq) jq w_5 fun b8 w_6 =>
  stC (⟨b8,0,none⟩:Addr) (Value.map t27.1) w_6 fun w_7 =>
  xk (t27.2 != 0) (
  zaz P (Instr.build zf #[]) .any w_7 fun (t32:Value) =>
  zby P (storeVar zf (⟨b4,0,none⟩:Addr) t32) w_7 fun w_8 =>
  ldA P 32 (⟨b4,0,none⟩:Addr) w_8 fun t4_2 =>
  R (.returned (Value.tuple #[(Value.agg t4_2),(Value.int .i64 t27.2)])) w_8) (
  zbn (zc P jg) jg w_7 fun b9 w_9 =>
  zbn (zc P zcs) zcs w_9 fun b10 w_10 =>
  zaz P (Instr.makeFunc (Go.Fn.func zim) #[] #[(Value.pointer (some (⟨b8,0,none⟩:Addr))),(Value.pointer (some (⟨b10,0,none⟩:Addr))),(Value.pointer (some (⟨b9,0,none⟩:Addr)))]) .any w_10 fun (t34:Value) =>
  zby P (storeVar zcs (⟨b10,0,none⟩:Addr) t34) w_10 fun w_11 =>
  ld .any (⟨b10,0,none⟩:Addr) w_11 fun (t35:Value) =>
  z1e P t35 #[(Value.string (ByteArray.mk #[47]))] [.any] false w_11 fun (t36:Value) w_12 =>
  zbn (zc P zf) zf w_12 fun b11 w_13 =>
  zby P (storeVar zf (⟨b11,0,none⟩:Addr) t36) w_13 fun w_14 =>
  ld .slc (⟨b9,0,none⟩:Addr) w_14 fun (t38:(Option Addr × Nat × Nat)) =>
  xg P zga #[(Value.pointer s),(Value.slice t38.1 t38.2.1 t38.2.2)] [.int .i64] false w_14 fun (t39:Int) w_15 =>
  xk (t39 != 0) (
  zaz P (Instr.build zf #[]) .any w_15 fun (t42:Value) =>
  zby P (storeVar zf (⟨b4,0,none⟩:Addr) t42) w_15 fun w_16 =>
  ldA P 32 (⟨b4,0,none⟩:Addr) w_16 fun t4_3 =>
  R (.returned (Value.tuple #[(Value.agg t4_3),(Value.int .i64 t39)])) w_16) (
  ldA P 32 (⟨b11,0,none⟩:Addr) w_15 fun t44 =>
  zby P (storeVar zf (⟨b4,0,none⟩:Addr) (Value.agg t44)) w_15 fun w_17 =>
  ldA P 32 (⟨b4,0,none⟩:Addr) w_17 fun t4_4 =>
  R (.returned (Value.tuple #[(Value.agg t4_4),(Value.int .i64 0)])) w_17))))
theorem z5d (s:Option Addr) (list:Option Addr) (list_l list_c:Nat) (R:Ending→World→Prop) (w:World):tr P qs ((Tryz.f14.body).getD .skip) zmy (zb5 0 [(0,(Value.pointer s)),(0,(Value.slice list list_l list_c))]) (zco P Tryz.f14.results.toList R) w=zpu s list list_l list_c R w:=by kernel_rfl
theorem z4v {s:Option Addr} {list:Option Addr} {list_l list_c:Nat} {R:Ending→World→Prop} {w:World} (hT:zpu s list list_l list_c R w):qj P zpp #[(Value.pointer s),(Value.slice list list_l list_c)] w R :=
 zx (fn:=Tryz.f14) (c:=(Tryz.f14.body).getD .skip) (ann:=zmy) (args:=[(0,(Value.pointer s)),(0,(Value.slice list list_l list_c))]) (qs:=qs) mixed Tryz.func14 rfl (by kernel_rfl) (by kernel_rfl) z4d ((z5d s list list_l list_c R w).symm ▸ hT)
def zkp:Ann:=(.seq .leaf (.seq .leaf (.seq (.seq .leaf (.cond (.seq .leaf .leaf) .leaf)) (.seq .leaf (.seq (.seq .leaf (.blk (.loop [(8,.slc),(22,.int .i64)] (.seq .leaf (.seq (.cond .leaf .leaf) (.seq (.blk (.seq .leaf .leaf)) .leaf)))))) (.seq (.seq .leaf (.cond (.seq .leaf .leaf) .leaf)) (.seq .leaf .leaf)))))))
theorem z05:okC P qs Tryz.f23.ntmps ((Tryz.f23.body).getD .skip) zkp=true:=by kernel_rfl
def zns (s:Option Addr) (root:Value) (R:Ending→World→Prop) (w:World):Prop :=
  zbn (Value.cells root) zf w fun b3 w_1 =>
  ldA P 32 (⟨b3,0,none⟩:Addr) w_1 fun t13 =>
  xg P znt #[(Value.pointer s),(Value.agg t13)] [.slc,.int .i64] true w_1 fun (t14:((Option Addr × Nat × Nat) × Int)) w_2 =>
  xk (t14.2 != 0) (
  R (.returned (Value.tuple #[(Value.slice none 0 0),(Value.int .i64 t14.2)])) w_2) (
  zaw ((Option Addr × Nat × Nat) × Int) (fun s_1 w_3 k =>
  xk (decide (s_1.2 < (t14.1.2.1:Int))) (
  ixS t14.1.1 t14.1.2.1 3 s_1.2 fun t24 =>
  ldA P 3 t24 w_3 fun t25 =>
  zbn (zc P zk) zk w_3 fun b10 w_4 =>
  zby P (storeVar zk (⟨b10,0,none⟩:Addr) (Value.agg t25)) w_4 fun w_5 =>
  ld .str (⟨b10,2,none⟩:Addr) w_5 fun (t28:ByteArray) =>
  zal P (Builtin.append_ #[zh,qc] zh #[(Value.slice s_1.1.1 s_1.1.2.1 s_1.1.2.2),(Value.string t28)]) .slc w_5 fun (t29:(Option Addr × Nat × Nat)) w_6 =>
  zba .i64 s_1.2 1 fun t30 =>
  k ((t29.1,t29.2.1,t29.2.2),t30) w_6) (
  xg P zlj #[(Value.slice s_1.1.1 s_1.1.2.1 s_1.1.2.2)] [.slc] false w_3 fun (t32:(Option Addr × Nat × Nat)) w_7 =>
  xg P zbv #[(Value.slice t32.1 t32.2.1 t32.2.2),(Value.slice t14.1.1 t14.1.2.1 t14.1.2.2)] [.bool] false w_7 fun (t34:Bool) w_8 =>
  xk (!t34) (
  R (.returned (Value.tuple #[(Value.slice none 0 0),(Value.int .i64 21)])) w_8) (
  R (.returned (Value.tuple #[(Value.slice s_1.1.1 s_1.1.2.1 s_1.1.2.2),(Value.int .i64 0)])) w_8))) ((none,0,0),0) w_2)
theorem z00 (s:Option Addr) (root:Value) (R:Ending→World→Prop) (w:World):tr P qs ((Tryz.f23.body).getD .skip) zkp (zb5 0 [(0,(Value.pointer s)),(1,root)]) (zco P Tryz.f23.results.toList R) w=zns s root R w:=by kernel_rfl
theorem z0n {s:Option Addr} {root:Value} {R:Ending→World→Prop} {w:World} (hT:zns s root R w):qj P zo5 #[(Value.pointer s),root] w R :=
 zx (fn:=Tryz.f23) (c:=(Tryz.f23.body).getD .skip) (ann:=zkp) (args:=[(0,(Value.pointer s)),(1,root)]) (qs:=qs) mixed Tryz.func23 rfl (by kernel_rfl) (by kernel_rfl) z05 ((z00 s root R w).symm ▸ hT)
def zoe:Ann:=(.seq .leaf (.seq (.blk (.seq .leaf (.cond (.seq .leaf .leaf) (.seq .leaf (.cond (.seq .leaf .leaf) .leaf))))) (.seq .leaf .leaf)))
theorem z6o:okC P qs Tryz.f25.ntmps ((Tryz.f25.body).getD .skip) zoe=true:=by kernel_rfl
def zol (s:Option Addr) (state:Option Addr) (state_l state_c:Nat) (R:Ending→World→Prop) (w:World):Prop :=
  zbn (zc P zf) zf w fun b4 w_1 =>
  xk (Option.isNone s) (
  zaz P (Instr.build zf #[]) .any w_1 fun (t9:Value) =>
  zby P (storeVar zf (⟨b4,0,none⟩:Addr) t9) w_1 fun w_2 =>
  ldA P 32 (⟨b4,0,none⟩:Addr) w_2 fun t4 =>
  R (.returned (Value.tuple #[(Value.agg t4),(Value.int .i64 7)])) w_2) (
  xk (decide ((state_l:Int) > 65536)) (
  zaz P (Instr.build zf #[]) .any w_1 fun (t14:Value) =>
  zby P (storeVar zf (⟨b4,0,none⟩:Addr) t14) w_1 fun w_3 =>
  ldA P 32 (⟨b4,0,none⟩:Addr) w_3 fun t4_1 =>
  R (.returned (Value.tuple #[(Value.agg t4_1),(Value.int .i64 2)])) w_3) (
  xg P zlj #[(Value.slice state state_l state_c)] [.slc] false w_1 fun (t17:(Option Addr × Nat × Nat)) w_4 =>
  xg P zpp #[(Value.pointer s),(Value.slice t17.1 t17.2.1 t17.2.2)] [.any,.int .i64] true w_4 fun (t18:(Value × Int)) w_5 =>
  zby P (storeVar zf (⟨b4,0,none⟩:Addr) t18.1) w_5 fun w_6 =>
  ldA P 32 (⟨b4,0,none⟩:Addr) w_6 fun t4_2 =>
  R (.returned (Value.tuple #[(Value.agg t4_2),(Value.int .i64 t18.2)])) w_6))
theorem z9t (s:Option Addr) (state:Option Addr) (state_l state_c:Nat) (R:Ending→World→Prop) (w:World):tr P qs ((Tryz.f25.body).getD .skip) zoe (zb5 0 [(0,(Value.pointer s)),(0,(Value.slice state state_l state_c))]) (zco P Tryz.f25.results.toList R) w=zol s state state_l state_c R w:=by kernel_rfl
theorem zwm {s:Option Addr} {state:Option Addr} {state_l state_c:Nat} {R:Ending→World→Prop} {w:World} (hT:zol s state state_l state_c R w):qj P zf9 #[(Value.pointer s),(Value.slice state state_l state_c)] w R :=
 zx (fn:=Tryz.f25) (c:=(Tryz.f25.body).getD .skip) (ann:=zoe) (args:=[(0,(Value.pointer s)),(0,(Value.slice state state_l state_c))]) (qs:=qs) mixed Tryz.func25 rfl (by kernel_rfl) (by kernel_rfl) z6o ((z9t s state state_l state_c R w).symm ▸ hT)
def znr:Ann:=(.seq .leaf (.seq .leaf .leaf))
theorem z96:okC P qs Tryz.f27.ntmps ((Tryz.f27.body).getD .skip) znr=true:=by kernel_rfl
def zr0 (state:Option Addr) (state_l state_c:Nat) (R:Ending→World→Prop) (w:World):Prop :=
  zbn (zc P zf) zf w fun b2 w_1 =>
  xg P zm7 #[(Value.int .i64 1073741824)] [.ptr] false w_1 fun (t4:(Option Addr)) w_2 =>
  xg P zf9 #[(Value.pointer t4),(Value.slice state state_l state_c)] [.any,.int .i64] true w_2 fun (t6:(Value × Int)) w_3 =>
  zby P (storeVar zf (⟨b2,0,none⟩:Addr) t6.1) w_3 fun w_4 =>
  ldA P 32 (⟨b2,0,none⟩:Addr) w_4 fun t2 =>
  R (.returned (Value.tuple #[(Value.agg t2),(Value.int .i64 t6.2)])) w_4
theorem z99 (state:Option Addr) (state_l state_c:Nat) (R:Ending→World→Prop) (w:World):tr P qs ((Tryz.f27.body).getD .skip) znr (zb5 0 [(0,(Value.slice state state_l state_c))]) (zco P Tryz.f27.results.toList R) w=zr0 state state_l state_c R w:=by kernel_rfl
theorem z7j {state:Option Addr} {state_l state_c:Nat} {R:Ending→World→Prop} {w:World} (hT:zr0 state state_l state_c R w):qj P zsf #[(Value.slice state state_l state_c)] w R :=
 zx (fn:=Tryz.f27) (c:=(Tryz.f27.body).getD .skip) (ann:=znr) (args:=[(0,(Value.slice state state_l state_c))]) (qs:=qs) mixed Tryz.func27 rfl (by kernel_rfl) (by kernel_rfl) z96 ((z99 state state_l state_c R w).symm ▸ hT)
def zo4:Ann:=(.seq .leaf (.seq (.seq .leaf (.cond (.seq .leaf .leaf) .leaf)) (.seq .leaf (.seq (.seq .leaf (.cond (.seq .leaf .leaf) .leaf)) (.seq .leaf .leaf)))))
theorem z94:okC P qs Tryz.f53.ntmps ((Tryz.f53.body).getD .skip) zo4=true:=by kernel_rfl
def zs5 (s:Option Addr) (root:Value) (R:Ending→World→Prop) (w:World):Prop :=
  zbn (Value.cells root) zf w fun b3 w_1 =>
  xk (Option.isNone s) (
  R (.returned (Value.tuple #[(Value.slice none 0 0),(Value.int .i64 7)])) w_1) (
  ldA P 32 (⟨b3,0,none⟩:Addr) w_1 fun t12 =>
  xg P zh7 #[(Value.pointer s),(Value.agg t12),(Value.int .i64 3)] [.any,.int .i64] true w_1 fun (t13:(Value × Int)) w_2 =>
  zbn (zc P zi) zi w_2 fun b6 w_3 =>
  zby P (storeVar zi (⟨b6,0,none⟩:Addr) t13.1) w_3 fun w_4 =>
  xk (t13.2 != 0) (
  R (.returned (Value.tuple #[(Value.slice none 0 0),(Value.int .i64 t13.2)])) w_4) (
  ldA P 5 (⟨b6,0,none⟩:Addr) w_4 fun t20 =>
  xg P zb4 #[(Value.pointer s),(Value.agg t20),(Value.slice none 0 0),(Value.slice none 0 0)] [.slc,.int .i64] true w_4 fun (t21:((Option Addr × Nat × Nat) × Int)) w_5 =>
  R (.returned (Value.tuple #[(Value.slice t21.1.1 t21.1.2.1 t21.1.2.2),(Value.int .i64 t21.2)])) w_5))
theorem z6z (s:Option Addr) (root:Value) (R:Ending→World→Prop) (w:World):tr P qs ((Tryz.f53.body).getD .skip) zo4 (zb5 0 [(0,(Value.pointer s)),(1,root)]) (zco P Tryz.f53.results.toList R) w=zs5 s root R w:=by kernel_rfl
theorem z7c {s:Option Addr} {root:Value} {R:Ending→World→Prop} {w:World} (hT:zs5 s root R w):qj P znt #[(Value.pointer s),root] w R :=
 zx (fn:=Tryz.f53) (c:=(Tryz.f53.body).getD .skip) (ann:=zo4) (args:=[(0,(Value.pointer s)),(1,root)]) (qs:=qs) mixed Tryz.func53 rfl (by kernel_rfl) (by kernel_rfl) z94 ((z6z s root R w).symm ▸ hT)
def zmv:Ann:=(.seq .leaf (.seq .leaf (.seq (.seq .leaf (.blk (.loop [(4,.slc),(11,.int .i64)] (.seq .leaf (.seq (.cond .leaf .leaf) (.seq (.blk (.seq .leaf (.seq .leaf (.seq (.seq .leaf (.cond (.seq .leaf .leaf) .leaf)) .leaf)))) .leaf)))))) (.seq (.seq .leaf (.cond (.seq .leaf .leaf) .leaf)) (.seq (.seq .leaf (.cond (.seq .leaf .leaf) .leaf)) (.seq .leaf .leaf))))))
theorem z5j:okC P qs Tryz.f54.ntmps ((Tryz.f54.body).getD .skip) zmv=true:=by kernel_rfl
def zqa (list:Option Addr) (list_l list_c:Nat) (R:Ending→World→Prop) (w:World):Prop :=
  zaw ((Option Addr × Nat × Nat) × Int) (fun s w_1 k =>
  xk (decide (s.2 < (list_l:Int))) (
  ixS list list_l 3 s.2 fun t13 =>
  ldA P 3 t13 w_1 fun t14 =>
  zbn (zc P zk) zk w_1 fun b6 w_2 =>
  zby P (storeVar zk (⟨b6,0,none⟩:Addr) (Value.agg t14)) w_2 fun w_3 =>
  ld .str (⟨b6,0,none⟩:Addr) w_3 fun (t17:ByteArray) =>
  xg P znm #[(Value.string t17)] [.slc,.int .i64] true w_3 fun (t18:((Option Addr × Nat × Nat) × Int)) w_4 =>
  xk (t18.2 != 0) (
  R (.returned (Value.tuple #[(Value.slice none 0 0),(Value.int .i64 t18.2)])) w_4) (
  ldA P 3 (⟨b6,0,none⟩:Addr) w_4 fun t26 =>
  zaz P (Instr.build zy #[(0,(Value.slice t18.1.1 t18.1.2.1 t18.1.2.2)),(1,(Value.agg t26))]) .any w_4 fun (t27:Value) =>
  zal P (Instr.buildSlice zar 1 #[(0,t27)]) .slc w_4 fun (t28:(Option Addr × Nat × Nat)) w_5 =>
  zal P (Builtin.append_ #[zar,zar] zar #[(Value.slice s.1.1 s.1.2.1 s.1.2.2),(Value.slice t28.1 t28.2.1 t28.2.2)]) .slc w_5 fun (t29:(Option Addr × Nat × Nat)) w_6 =>
  zba .i64 s.2 1 fun t30 =>
  k ((t29.1,t29.2.1,t29.2.2),t30) w_6)) (
  xg P zam #[(Value.slice list list_l list_c),(Value.func (.func zmh) #[] #[])] [.bool] false w_1 fun (t32:Bool) w_7 =>
  xk t32 (
  R (.returned (Value.tuple #[(Value.slice none 0 0),(Value.int .i64 1)])) w_7) (
  xg P zam #[(Value.slice list list_l list_c),(Value.func (.func zmi) #[] #[])] [.bool] false w_7 fun (t34:Bool) w_8 =>
  xk t34 (
  R (.returned (Value.tuple #[(Value.slice none 0 0),(Value.int .i64 134)])) w_8) (
  R (.returned (Value.tuple #[(Value.slice s.1.1 s.1.2.1 s.1.2.2),(Value.int .i64 0)])) w_8)))) ((none,0,0),0) w
theorem z3o (list:Option Addr) (list_l list_c:Nat) (R:Ending→World→Prop) (w:World):tr P qs ((Tryz.f54.body).getD .skip) zmv (zb5 0 [(0,(Value.slice list list_l list_c))]) (zco P Tryz.f54.results.toList R) w=zqa list list_l list_c R w:=by kernel_rfl
theorem z5m {list:Option Addr} {list_l list_c:Nat} {R:Ending→World→Prop} {w:World} (hT:zqa list list_l list_c R w):qj P zpg #[(Value.slice list list_l list_c)] w R :=
 zx (fn:=Tryz.f54) (c:=(Tryz.f54.body).getD .skip) (ann:=zmv) (args:=[(0,(Value.slice list list_l list_c))]) (qs:=qs) mixed Tryz.func54 rfl (by kernel_rfl) (by kernel_rfl) z5j ((z3o list list_l list_c R w).symm ▸ hT)
def zl2:Ann:=(.seq .leaf (.seq .leaf (.seq (.seq .leaf (.blk (.loop [(24,.int .i64)] (.seq .leaf (.seq (.cond .leaf .leaf) (.seq (.blk (.seq .leaf (.seq (.seq .leaf (.seq .leaf (.cond (.seq .leaf .leaf) .leaf))) (.tree (.op 0 [] (.op 1 [] (.op 2 [] (.op 4 [] (.op 3 [4] (.op 5 [] .done)))))))))) .leaf)))))) (.seq .leaf (.seq .leaf (.seq (.seq .leaf (.blk (.loop [(10,.bool),(46,.int .i64)] (.seq .leaf (.seq (.cond .leaf .leaf) (.seq (.blk (.seq .leaf (.seq .leaf (.seq .leaf (.seq (.seq .leaf (.cond (.seq .leaf .leaf) .leaf)) (.join [(10,.bool)] .leaf .leaf)))))) .leaf)))))) (.seq (.seq .leaf (.cond (.seq .leaf .leaf) .leaf)) (.seq (.seq .leaf (.blk (.loop [] (.seq .leaf (.seq (.cond .leaf .leaf) (.blk (.seq .leaf (.seq (.seq .leaf (.cond (.seq .leaf .leaf) .leaf)) .leaf)))))))) (.seq .leaf .leaf)))))))))
theorem z5t:okC P qs Tryz.f55.ntmps ((Tryz.f55.body).getD .skip) zl2=true:=by kernel_rfl
def zqe (list:Option Addr) (list_l list_c:Nat) (R:Ending→World→Prop) (w:World):Prop :=
  zal P (Instr.makeMap zbp none) .map w fun (t18:(Option Nat)) w_1 =>
  zaz P (Instr.build zk #[(1,(Value.bool true))]) .any w_1 fun (t19:Value) =>
  zaz P (Instr.build zy #[(0,(Value.slice none 0 0)),(1,t19)]) .any w_1 fun (t20:Value) =>
  zby P (Instr.mapUpdate zbp (Value.map t18) (Value.string (ByteArray.mk #[47])) t20) w_1 fun w_2 =>
  zaw Int (fun s w_3 k =>
  xk (decide (s < (list_l:Int))) (
  ixS list list_l 4 s fun t26 =>
  ldA P 4 t26 w_3 fun t27 =>
  zbn (zc P zy) zy w_3 fun b6 w_4 =>
  zby P (storeVar zy (⟨b6,0,none⟩:Addr) (Value.agg t27)) w_4 fun w_5 =>
  ld .slc (⟨b6,0,none⟩:Addr) w_5 fun (t31:(Option Addr × Nat × Nat)) =>
  xg P zca #[(Value.slice t31.1 t31.2.1 t31.2.2)] [.str] false w_5 fun (t32:ByteArray) w_6 =>
  qh9 P (Instr.lookup zbp (Value.map t18) (Value.string t32) true) [.any,.bool] w_6 fun (t33:(Value × Bool)) =>
  zbn (zc P zy) zy w_6 fun b7 w_7 =>
  zby P (storeVar zy (⟨b7,0,none⟩:Addr) t33.1) w_7 fun w_8 =>
  xk t33.2 (
  R (.returned (Value.tuple #[(Value.map none),(Value.int .i64 5)])) w_8) (
  zbi w_8 fun w_9 =>
  ld .slc (⟨b6,0,none⟩:Addr) w_9 fun (t39:(Option Addr × Nat × Nat)) =>
  ldA P 4 (⟨b6,0,none⟩:Addr) w_9 fun t41 =>
  xg P zca #[(Value.slice t39.1 t39.2.1 t39.2.2)] [.str] false w_9 fun (t40:ByteArray) w_10 =>
  ((ldA P 4 (⟨b6,0,none⟩:Addr) w_10 fun t41_1 =>
  (Value.agg t41_1)=(Value.agg t41)) ∧
  zby P (Instr.mapUpdate zbp (Value.map t18) (Value.string t40) (Value.agg t41)) w_10 fun w_11 =>
  zba .i64 s 1 fun t42 =>
  k t42 w_11))) (
  zal P (Instr.makeMap jq none) .map w_3 fun (t43:(Option Nat)) w_12 =>
  zaw (Bool × Int) (fun s_1 w_13 k_1 =>
  xk (decide (s_1.2 < (list_l:Int))) (
  ixS list list_l 4 s_1.2 fun t48 =>
  ldA P 4 t48 w_13 fun t49 =>
  zbn (zc P zy) zy w_13 fun b12 w_14 =>
  zby P (storeVar zy (⟨b12,0,none⟩:Addr) (Value.agg t49)) w_14 fun w_15 =>
  ld .slc (⟨b12,0,none⟩:Addr) w_15 fun (t51:(Option Addr × Nat × Nat)) =>
  ld .slc (⟨b12,0,none⟩:Addr) w_15 fun (t53:(Option Addr × Nat × Nat)) =>
  zo9 .i64 (t53.2.1:Int) 1 fun t55 =>
  zaz P (Instr.sliceAt qp (Value.slice t51.1 t51.2.1 t51.2.2) none (some (Value.int .i64 t55)) none) .slc w_15 fun (t56:(Option Addr × Nat × Nat)) =>
  xg P zca #[(Value.slice t56.1 t56.2.1 t56.2.2)] [.str] false w_15 fun (t57:ByteArray) w_16 =>
  qh9 P (Instr.lookup zbp (Value.map t18) (Value.string t57) true) [.any,.bool] w_16 fun (t61:(Value × Bool)) =>
  zbn (zc P zy) zy w_16 fun b14 w_17 =>
  zby P (storeVar zy (⟨b14,0,none⟩:Addr) t61.1) w_17 fun w_18 =>
  xk (!t61.2) (
  R (.returned (Value.tuple #[(Value.map none),(Value.int .i64 4)])) w_18) (
  joinP Bool (fun k_2 =>
  xk s_1.1 (
  k_2 true w_18) (
  ld .bool (⟨b14,2,none⟩:Addr) w_18 fun (t70:Bool) =>
  k_2 (!t70) w_18)) (fun s_2 w_19 =>
  zaz P (Instr.lookup jq (Value.map t43) (Value.string t57) false) .slc w_19 fun (t77:(Option Addr × Nat × Nat)) =>
  ldA P 4 (⟨b12,0,none⟩:Addr) w_19 fun t78 =>
  zal P (Instr.buildSlice zar 1 #[(0,(Value.agg t78))]) .slc w_19 fun (t79:(Option Addr × Nat × Nat)) w_20 =>
  zal P (Builtin.append_ #[zar,zar] zar #[(Value.slice t77.1 t77.2.1 t77.2.2),(Value.slice t79.1 t79.2.1 t79.2.2)]) .slc w_20 fun (t80:(Option Addr × Nat × Nat)) w_21 =>
  zby P (Instr.mapUpdate jq (Value.map t43) (Value.string t57) (Value.slice t80.1 t80.2.1 t80.2.2)) w_21 fun w_22 =>
  zba .i64 s_1.2 1 fun t81 =>
  k_1 (s_2,t81) w_22))) (
  xk s_1.1 (
  R (.returned (Value.tuple #[(Value.map none),(Value.int .i64 70)])) w_13) (
  zal P (Instr.range jq (Value.map t43)) .ptr w_13 fun (t84:(Option Addr)) w_23 =>
  zaw Unit (fun _ w_24 k_3 =>
  zal P (Instr.next (Value.pointer t84) false zmp) .any w_24 fun (t85:Value) w_25 =>
  exV t85 0 .bool fun (t86:Bool) =>
  xk t86 (
  zaz P (Instr.entry (Value.pointer t84)) .any w_25 fun (t87:Value) =>
  exV t87 1 .slc fun (t88:(Option Addr × Nat × Nat)) =>
  xk (decide ((t88.2.1:Int) > 64)) (
  R (.returned (Value.tuple #[(Value.map none),(Value.int .i64 8)])) w_25) (
  xg P zcm #[(Value.slice t88.1 t88.2.1 t88.2.2),(Value.func (.func zfx) #[] #[])] [] true w_25 fun (_:Unit) w_26 =>
  k_3 () w_26)) (
  R (.returned (Value.tuple #[(Value.map t43),(Value.int .i64 0)])) w_25)) () w_23))) (false,0) w_12)) 0 w_2
theorem z5v (list:Option Addr) (list_l list_c:Nat) (R:Ending→World→Prop) (w:World):tr P qs ((Tryz.f55.body).getD .skip) zl2 (zb5 0 [(0,(Value.slice list list_l list_c))]) (zco P Tryz.f55.results.toList R) w=zqe list list_l list_c R w:=by kernel_rfl
theorem z5l {list:Option Addr} {list_l list_c:Nat} {R:Ending→World→Prop} {w:World} (hT:zqe list list_l list_c R w):qj P zqd #[(Value.slice list list_l list_c)] w R :=
 zx (fn:=Tryz.f55) (c:=(Tryz.f55.body).getD .skip) (ann:=zl2) (args:=[(0,(Value.slice list list_l list_c))]) (qs:=qs) mixed Tryz.func55 rfl (by kernel_rfl) (by kernel_rfl) z5t ((z5v list list_l list_c R w).symm ▸ hT)
def zi8:Ann:=(.seq .leaf (.seq .leaf (.seq (.seq .leaf (.blk (.loop [(16,.int .i64)] (.seq .leaf (.seq (.cond .leaf .leaf) (.join [] (.jblk [] (.seq .leaf (.seq .leaf (.join [] (.seq .leaf (.cond (.tree (.op 1 [] (.op 5 [] (.op 0 [] (.op 2 [] (.op 3 [0] (.op 4 [] (.op 6 [] (.op 7 [] (.op 8 [] .done)))))))))) .leaf)) .leaf)))) .leaf)))))) (.seq .leaf (.seq .leaf (.seq .leaf .leaf))))))
theorem zzs:okC P qs Tryz.f56.ntmps ((Tryz.f56.body).getD .skip) zi8=true:=by kernel_rfl
def zmt (atv:ByteArray) (c0:Option Addr) (c1:Option Addr) (c2:Option Addr) (R:Ending→World→Prop) (w:World):Prop :=
  zbn (zc P zf) zf w fun b5 w_1 =>
  zaz P (Instr.build zi #[(0,(Value.int .i64 3))]) .any w_1 fun (t11:Value) =>
  zbn (zc P zi) zi w_1 fun b6 w_2 =>
  zby P (storeVar zi (⟨b6,0,none⟩:Addr) t11) w_2 fun w_3 =>
  zu c0 fun p =>
  ld .map p w_3 fun (t12:(Option Nat)) =>
  zaz P (Instr.lookup jq (Value.map t12) (Value.string atv) false) .slc w_3 fun (t14:(Option Addr × Nat × Nat)) =>
  zaw Int (fun s w_4 k =>
  xk (decide (s < (t14.2.1:Int))) (
  joinP Unit (fun k_1 =>
  joinP Unit (fun k_2 =>
  ixS t14.1 t14.2.1 4 s fun t18 =>
  ldA P 4 t18 w_4 fun t19 =>
  zbn (zc P zy) zy w_4 fun b8 w_5 =>
  zby P (storeVar zy (⟨b8,0,none⟩:Addr) (Value.agg t19)) w_5 fun w_6 =>
  ld .slc (⟨b8,0,none⟩:Addr) w_6 fun (t21:(Option Addr × Nat × Nat)) =>
  ld .slc (⟨b8,0,none⟩:Addr) w_6 fun (t23:(Option Addr × Nat × Nat)) =>
  zo9 .i64 (t23.2.1:Int) 1 fun t25 =>
  ixS t21.1 t21.2.1 1 t25 fun t26 =>
  ld .str t26 w_6 fun (t27:ByteArray) =>
  zaz P (Instr.build ql #[(0,(Value.string t27)),(1,(Value.int .i64 2))]) .any w_6 fun (t28:Value) =>
  zbn (zc P ql) ql w_6 fun b9 w_7 =>
  zby P (storeVar ql (⟨b9,0,none⟩:Addr) t28) w_7 fun w_8 =>
  joinP Unit (fun k_3 =>
  ld .bool (⟨b8,2,none⟩:Addr) w_8 fun (t31:Bool) =>
  xk t31 (
  zbi w_8 fun w_9 =>
  zu c1 fun p_1 =>
  ld .any p_1 w_9 fun (t32:Value) =>
  ld .slc (⟨b8,0,none⟩:Addr) w_9 fun (t34:(Option Addr × Nat × Nat)) =>
  xg P zca #[(Value.slice t34.1 t34.2.1 t34.2.2)] [.str] false w_9 fun (t35:ByteArray) w_10 =>
  ((zu c1 fun p_2 =>
  ld .any p_2 w_10 fun (t32_1:Value) =>
  t32_1=t32) ∧
  z1e P t32 #[(Value.string t35)] [.any] false w_10 fun (t36:Value) w_11 =>
  stC (⟨b9,1,none⟩:Addr) (Value.int .i64 3) w_11 fun w_12 =>
  zby P (storeVar zf (⟨b9,2,none⟩:Addr) t36) w_12 fun w_13 =>
  k_3 () w_13)) (
  zu c2 fun p_3 =>
  ld .slc p_3 w_8 fun (t40:(Option Addr × Nat × Nat)) =>
  ld .str (⟨b8,3,none⟩:Addr) w_8 fun (t43:ByteArray) =>
  xg P zsc #[(Value.slice t40.1 t40.2.1 t40.2.2),(Value.string t43)] [.slc,.any] true w_8 fun (t44:((Option Addr × Nat × Nat) × Value)) w_14 =>
  zu c2 fun p_4 =>
  stC p_4 (Value.slice t44.1.1 t44.1.2.1 t44.1.2.2) w_14 fun w_15 =>
  zby P (storeVar zf (⟨b9,2,none⟩:Addr) t44.2) w_15 fun w_16 =>
  k_3 () w_16)) (fun _ w_17 =>
  ld .slc (⟨b6,4,none⟩:Addr) w_17 fun (t49:(Option Addr × Nat × Nat)) =>
  ldA P 34 (⟨b9,0,none⟩:Addr) w_17 fun t50 =>
  zal P (Instr.buildSlice zai 1 #[(0,(Value.agg t50))]) .slc w_17 fun (t51:(Option Addr × Nat × Nat)) w_18 =>
  zal P (Builtin.append_ #[zai,zai] zai #[(Value.slice t49.1 t49.2.1 t49.2.2),(Value.slice t51.1 t51.2.1 t51.2.2)]) .slc w_18 fun (t52:(Option Addr × Nat × Nat)) w_19 =>
  stC (⟨b6,4,none⟩:Addr) (Value.slice t52.1 t52.2.1 t52.2.2) w_19 fun w_20 =>
  k_2 () w_20)) (fun _ w_21 =>
  k_1 () w_21)) (fun _ w_22 =>
  zba .i64 s 1 fun t54 =>
  k t54 w_22)) (
  zbn (zc P zf) zf w_4 fun b10 w_23 =>
  zu c2 fun p_5 =>
  ld .slc p_5 w_23 fun (t56:(Option Addr × Nat × Nat)) =>
  ldA P 5 (⟨b6,0,none⟩:Addr) w_23 fun t57 =>
  xg P zle #[(Value.slice t56.1 t56.2.1 t56.2.2),(Value.agg t57)] [.slc,.any] true w_23 fun (t58:((Option Addr × Nat × Nat) × Value)) w_24 =>
  zu c2 fun p_6 =>
  stC p_6 (Value.slice t58.1.1 t58.1.2.1 t58.1.2.2) w_24 fun w_25 =>
  zby P (storeVar zf (⟨b10,0,none⟩:Addr) t58.2) w_25 fun w_26 =>
  ldA P 32 (⟨b10,0,none⟩:Addr) w_26 fun t61 =>
  zby P (storeVar zf (⟨b5,0,none⟩:Addr) (Value.agg t61)) w_26 fun w_27 =>
  ldA P 32 (⟨b5,0,none⟩:Addr) w_27 fun t5 =>
  R (.returned (Value.agg t5)) w_27)) 0 w_3
theorem zyh (atv:ByteArray) (c0:Option Addr) (c1:Option Addr) (c2:Option Addr) (R:Ending→World→Prop) (w:World):tr P qs ((Tryz.f56.body).getD .skip) zi8 (zb5 0 [(0,(Value.string atv)),(0,(Value.pointer c0)),(0,(Value.pointer c1)),(0,(Value.pointer c2))]) (zco P Tryz.f56.results.toList R) w=zmt atv c0 c1 c2 R w:=by kernel_rfl
theorem zxx {atv:ByteArray} {c0:Option Addr} {c1:Option Addr} {c2:Option Addr} {R:Ending→World→Prop} {w:World} (hT:zmt atv c0 c1 c2 R w):qj P zim #[(Value.string atv),(Value.pointer c0),(Value.pointer c1),(Value.pointer c2)] w R :=
 zx (fn:=Tryz.f56) (c:=(Tryz.f56.body).getD .skip) (ann:=zi8) (args:=[(0,(Value.string atv)),(0,(Value.pointer c0)),(0,(Value.pointer c1)),(0,(Value.pointer c2))]) (qs:=qs) mixed Tryz.func56 rfl (by kernel_rfl) (by kernel_rfl) zzs ((zyh atv c0 c1 c2 R w).symm ▸ hT)
def zn9:Ann2:=(.seq (.pure .leaf) (.seq (.pure .leaf) (.seq (.seq (.pure .leaf) (.blk (.rng [(15,.slc)] false [] .leaf (.blk (.seq .leaf (.seq .leaf .leaf)))))) (.pure (.seq .leaf .leaf)))))
theorem z9e:qa5 P qs Tryz.f58.ntmps ((Tryz.f58.body).getD .skip) zn9=true:=by kernel_rfl
def zru (list:Option Addr) (list_l list_c:Nat) (data:ByteArray) (R:Ending→World→Prop) (w:World):Prop :=
  zbn #[(Value.slice list list_l list_c)] jg w fun b2 w_1 =>
  zbn (zc P zf) zf w_1 fun b5 w_2 =>
  zaz P (Instr.build zi #[(0,(Value.int .i64 2)),(2,(Value.int .i64 (data.size:Int)))]) .any w_2 fun (t11:Value) =>
  zbn (zc P zi) zi w_2 fun b6 w_3 =>
  zby P (storeVar zi (⟨b6,0,none⟩:Addr) t11) w_3 fun w_4 =>
  zal P (convert qc zh (Value.string data)) .slc w_4 fun (t13:(Option Addr × Nat × Nat)) w_5 =>
  xg P zbf #[(Value.slice t13.1 t13.2.1 t13.2.2),(Value.int .i64 64)] [.any] false w_5 fun (t14:Value) w_6 =>
  z3d P [.slc] t14 w_6 (fun (x:(Option Addr × Nat × Nat)) w_7 beg kc _ _ =>
  beg w_7 fun w_8 =>
  zbn (zc P zf) zf w_8 fun b8 w_9 =>
  ld .slc (⟨b2,0,none⟩:Addr) w_9 fun (t17:(Option Addr × Nat × Nat)) =>
  zaz P (convert zh qc (Value.slice x.1 x.2.1 x.2.2)) .str w_9 fun (t19:ByteArray) =>
  zaz P (Instr.build zi #[(0,(Value.int .i64 1)),(1,(Value.string t19))]) .any w_9 fun (t20:Value) =>
  xg P zle #[(Value.slice t17.1 t17.2.1 t17.2.2),t20] [.slc,.any] true w_9 fun (t21:((Option Addr × Nat × Nat) × Value)) w_10 =>
  stC (⟨b2,0,none⟩:Addr) (Value.slice t21.1.1 t21.1.2.1 t21.1.2.2) w_10 fun w_11 =>
  zby P (storeVar zf (⟨b8,0,none⟩:Addr) t21.2) w_11 fun w_12 =>
  ld .slc (⟨b6,3,none⟩:Addr) w_12 fun (t25:(Option Addr × Nat × Nat)) =>
  ldA P 32 (⟨b8,0,none⟩:Addr) w_12 fun t26 =>
  zal P (Instr.buildSlice ku 1 #[(0,(Value.agg t26))]) .slc w_12 fun (t27:(Option Addr × Nat × Nat)) w_13 =>
  zal P (Builtin.append_ #[ku,ku] ku #[(Value.slice t25.1 t25.2.1 t25.2.2),(Value.slice t27.1 t27.2.1 t27.2.2)]) .slc w_13 fun (t28:(Option Addr × Nat × Nat)) w_14 =>
  stC (⟨b6,3,none⟩:Addr) (Value.slice t28.1 t28.2.1 t28.2.2) w_14 fun w_15 =>
  kc w_15) (fun D w_16 =>
  ld .slc (⟨b2,0,none⟩:Addr) w_16 fun (t30:(Option Addr × Nat × Nat)) =>
  ldA P 5 (⟨b6,0,none⟩:Addr) w_16 fun t31 =>
  xg P zle #[(Value.slice t30.1 t30.2.1 t30.2.2),(Value.agg t31)] [.slc,.any] true w_16 fun (t32:((Option Addr × Nat × Nat) × Value)) w_17 =>
  zby P (storeVar zf (⟨b5,0,none⟩:Addr) t32.2) w_17 fun w_18 =>
  (w_18.heap[D]?=some (.deferred (some []))∧∀ w_19,w_19=World.putObj w_18 D (.deferred none) →
  ldA P 32 (⟨b5,0,none⟩:Addr) w_19 fun t5 =>
  R (.returned (Value.tuple #[(Value.slice t32.1.1 t32.1.2.1 t32.1.2.2),(Value.agg t5)])) w_19)) (fun _D _w=>False) (fun _ _D _w=>False)
theorem z7h (list:Option Addr) (list_l list_c:Nat) (data:ByteArray) (R:Ending→World→Prop) (w:World):tr2 P qs ((Tryz.f58.body).getD .skip) zn9 [] (zb5 0 [(0,(Value.slice list list_l list_c)),(0,(Value.string data))]) (qeq P Tryz.f58.results.toList R) w=zru list list_l list_c data R w:=by kernel_rfl
theorem qae {list:Option Addr} {list_l list_c:Nat} {data:ByteArray} {R:Ending→World→Prop} {w:World} (hT:zru list list_l list_c data R w):qj P zsc #[(Value.slice list list_l list_c),(Value.string data)] w R :=
 zyo (fn:=Tryz.f58) (c:=(Tryz.f58.body).getD .skip) (ann:=zn9) (args:=[(0,(Value.slice list list_l list_c)),(0,(Value.string data))]) (qs:=qs) mixed Tryz.func58 rfl (by kernel_rfl) (by kernel_rfl) z9e ((z7h list list_l list_c data R w).symm ▸ hT)
def zoo:Ann:=(.seq .leaf (.seq .leaf (.seq .leaf .leaf)))
theorem z8e:okC P qs Tryz.f59.ntmps ((Tryz.f59.body).getD .skip) zoo=true:=by kernel_rfl
def zrv (list:Option Addr) (list_l list_c:Nat) (n:Value) (R:Ending→World→Prop) (w:World):Prop :=
  zbn (Value.cells n) zi w fun b3 w_1 =>
  zbn (zc P zf) zf w_1 fun b5 w_2 =>
  ldA P 5 (⟨b3,0,none⟩:Addr) w_2 fun t9 =>
  xg P zn1 #[(Value.agg t9)] [.slc,.int .i64] true w_2 fun (t10:((Option Addr × Nat × Nat) × Int)) w_3 =>
  zal P (Instr.buildSlice jg 1 #[(0,(Value.slice t10.1.1 t10.1.2.1 t10.1.2.2))]) .slc w_3 fun (t15:(Option Addr × Nat × Nat)) w_4 =>
  zal P (Builtin.append_ #[jg,jg] jg #[(Value.slice list list_l list_c),(Value.slice t15.1 t15.2.1 t15.2.2)]) .slc w_4 fun (t16:(Option Addr × Nat × Nat)) w_5 =>
  xg P zm9 #[(Value.slice t10.1.1 t10.1.2.1 t10.1.2.2)] [.any] false w_5 fun (t18:Value) w_6 =>
  zby P (storeVar zf (⟨b5,0,none⟩:Addr) t18) w_6 fun w_7 =>
  ldA P 32 (⟨b5,0,none⟩:Addr) w_7 fun t5 =>
  R (.returned (Value.tuple #[(Value.slice t16.1 t16.2.1 t16.2.2),(Value.agg t5)])) w_7
theorem z9c (list:Option Addr) (list_l list_c:Nat) (n:Value) (R:Ending→World→Prop) (w:World):tr P qs ((Tryz.f59.body).getD .skip) zoo (zb5 0 [(0,(Value.slice list list_l list_c)),(1,n)]) (zco P Tryz.f59.results.toList R) w=zrv list list_l list_c n R w:=by kernel_rfl
theorem z8k {list:Option Addr} {list_l list_c:Nat} {n:Value} {R:Ending→World→Prop} {w:World} (hT:zrv list list_l list_c n R w):qj P zle #[(Value.slice list list_l list_c),n] w R :=
 zx (fn:=Tryz.f59) (c:=(Tryz.f59.body).getD .skip) (ann:=zoo) (args:=[(0,(Value.slice list list_l list_c)),(1,n)]) (qs:=qs) mixed Tryz.func59 rfl (by kernel_rfl) (by kernel_rfl) z8e ((z9c list list_l list_c n R w).symm ▸ hT)
def zbl:Ann:=(.seq .leaf (.seq (.seq .leaf (.cond (.seq .leaf .leaf) .leaf)) (.seq (.seq .leaf (.blk (.loop [(13,.int .i64)] (.seq .leaf (.seq (.cond .leaf .leaf) (.seq (.blk (.seq .leaf (.seq (.tree (.op 0 [] (.op 1 [] (.op 2 [] (.op 4 [] (.op 5 [] (.op 6 [] (.op 3 [] (.op 7 [] (.op 8 [] .done)))))))))) (.cond (.seq .leaf .leaf) .leaf)))) .leaf)))))) (.seq .leaf .leaf))))
theorem zgn:okC P qs Tryz.f65.ntmps ((Tryz.f65.body).getD .skip) zbl=true:=by kernel_rfl
def zbt (s1:Option Addr) (s1_l s1_c:Nat) (s2:Option Addr) (s2_l s2_c:Nat) (R:Ending→World→Prop) (w:World):Prop :=
  xk ((s1_l:Int) != (s2_l:Int)) (
  R (.returned (Value.bool false)) w) (
  zaw Int (fun s w_1 k =>
  xk (decide (s < (s1_l:Int))) (
  zbi w_1 fun w_2 =>
  ixS s1 s1_l 3 s fun t18 =>
  ixS s2 s2_l 3 s fun t22 =>
  ldA P 3 t18 w_2 fun t19 =>
  ldA P 3 t22 w_2 fun t23 =>
  zaz P (eqM .neq zk (.tmp 19) (.tmp 23) (Value.agg t19) (Value.agg t23)) .bool w_2 fun (t24:Bool) =>
  xk t24 (
  R (.returned (Value.bool false)) w_2) (
  zba .i64 s 1 fun t25 =>
  k t25 w_2)) (
  R (.returned (Value.bool true)) w_1)) 0 w)
theorem zf6 (s1:Option Addr) (s1_l s1_c:Nat) (s2:Option Addr) (s2_l s2_c:Nat) (R:Ending→World→Prop) (w:World):tr P qs ((Tryz.f65.body).getD .skip) zbl (zb5 0 [(0,(Value.slice s1 s1_l s1_c)),(0,(Value.slice s2 s2_l s2_c))]) (zco P Tryz.f65.results.toList R) w=zbt s1 s1_l s1_c s2 s2_l s2_c R w:=by kernel_rfl
theorem zgc {s1:Option Addr} {s1_l s1_c:Nat} {s2:Option Addr} {s2_l s2_c:Nat} {R:Ending→World→Prop} {w:World} (hT:zbt s1 s1_l s1_c s2 s2_l s2_c R w):qj P zbv #[(Value.slice s1 s1_l s1_c),(Value.slice s2 s2_l s2_c)] w R :=
 zx (fn:=Tryz.f65) (c:=(Tryz.f65.body).getD .skip) (ann:=zbl) (args:=[(0,(Value.slice s1 s1_l s1_c)),(0,(Value.slice s2 s2_l s2_c))]) (qs:=qs) mixed Tryz.func65 rfl (by kernel_rfl) (by kernel_rfl) zgn ((zf6 s1 s1_l s1_c s2 s2_l s2_c R w).symm ▸ hT)
def zmk:Ann2:=(.seq (.pure .leaf) (.seq (.pure .leaf) (.seq (.seq (.pure .leaf) (.blk (.rng [(7,.slc)] false [] .leaf (.blk (.tree (.op 4 [] (.op 0 [] (.op 1 [] (.op 2 [] (.op 5 [] (.op 3 [0,5] (.op 6 [] (.op 7 [0] (.op 8 [] (.op 9 [] .done))))))))))))))) (.pure (.seq .leaf .leaf)))))
theorem z4t:qa5 P qs Tryz.f66.ntmps ((Tryz.f66.body).getD .skip) zmk=true:=by kernel_rfl
def zp3 (state:Option Addr) (state_l state_c:Nat) (R:Ending→World→Prop) (w:World):Prop :=
  zbn (zc P zo) zo w fun b3 w_1 =>
  xg P zbf #[(Value.slice state state_l state_c),(Value.int .i64 1024)] [.any] false w_1 fun (t6:Value) w_2 =>
  z3d P [.slc] t6 w_2 (fun (x:(Option Addr × Nat × Nat)) w_3 beg kc _ _ =>
  beg w_3 fun w_4 =>
  zbi w_4 fun w_5 =>
  ld .slc (⟨b3,0,none⟩:Addr) w_5 fun (t8:(Option Addr × Nat × Nat)) =>
  ld .slc (⟨b3,0,none⟩:Addr) w_5 fun (t9:(Option Addr × Nat × Nat)) =>
  zaz P (convert zh qc (Value.slice x.1 x.2.1 x.2.2)) .str w_5 fun (t13:ByteArray) =>
  xg P zss #[(Value.int .i64 (t9.2.1:Int))] [.str] false w_5 fun (t11:ByteArray) w_6 =>
  ((zaz P (convert zh qc (Value.slice x.1 x.2.1 x.2.2)) .str w_6 fun (t13_1:ByteArray) =>
  (Value.string t13_1)=(Value.string t13)) ∧
  ((ld .slc (⟨b3,0,none⟩:Addr) w_6 fun (t8_1:(Option Addr × Nat × Nat)) =>
  (Value.slice t8_1.1 t8_1.2.1 t8_1.2.2)=(Value.slice t8.1 t8.2.1 t8.2.2)) ∧
  zaz P (Instr.build zk #[(0,(Value.string t11)),(2,(Value.string t13))]) .any w_6 fun (t14:Value) =>
  zal P (Instr.buildSlice zo 1 #[(0,t14)]) .slc w_6 fun (t15:(Option Addr × Nat × Nat)) w_7 =>
  ((ld .slc (⟨b3,0,none⟩:Addr) w_7 fun (t8_2:(Option Addr × Nat × Nat)) =>
  (Value.slice t8_2.1 t8_2.2.1 t8_2.2.2)=(Value.slice t8.1 t8.2.1 t8.2.2)) ∧
  zal P (Builtin.append_ #[zo,zo] zo #[(Value.slice t8.1 t8.2.1 t8.2.2),(Value.slice t15.1 t15.2.1 t15.2.2)]) .slc w_7 fun (t16:(Option Addr × Nat × Nat)) w_8 =>
  stC (⟨b3,0,none⟩:Addr) (Value.slice t16.1 t16.2.1 t16.2.2) w_8 fun w_9 =>
  kc w_9)))) (fun D w_10 =>
  ld .slc (⟨b3,0,none⟩:Addr) w_10 fun (t17:(Option Addr × Nat × Nat)) =>
  (w_10.heap[D]?=some (.deferred (some []))∧∀ w_11,w_11=World.putObj w_10 D (.deferred none) →
  R (.returned (Value.slice t17.1 t17.2.1 t17.2.2)) w_11)) (fun _D _w=>False) (fun _ _D _w=>False)
theorem z3m (state:Option Addr) (state_l state_c:Nat) (R:Ending→World→Prop) (w:World):tr2 P qs ((Tryz.f66.body).getD .skip) zmk [] (zb5 0 [(0,(Value.slice state state_l state_c))]) (qeq P Tryz.f66.results.toList R) w=zp3 state state_l state_c R w:=by kernel_rfl
theorem z4w {state:Option Addr} {state_l state_c:Nat} {R:Ending→World→Prop} {w:World} (hT:zp3 state state_l state_c R w):qj P zlj #[(Value.slice state state_l state_c)] w R :=
 zyo (fn:=Tryz.f66) (c:=(Tryz.f66.body).getD .skip) (ann:=zmk) (args:=[(0,(Value.slice state state_l state_c))]) (qs:=qs) mixed Tryz.func66 rfl (by kernel_rfl) (by kernel_rfl) z4t ((z3m state state_l state_c R w).symm ▸ hT)
def zpk:Ann:=(.seq .leaf (.seq .leaf (.seq (.seq .leaf (.cond (.seq .leaf .leaf) .leaf)) (.seq .leaf (.join [] (.seq .leaf (.cond (.seq .leaf .leaf) .leaf)) (.seq .leaf .leaf))))))
theorem qaz:okC P qs Tryz.f103.ntmps ((Tryz.f103.body).getD .skip) zpk=true:=by kernel_rfl
def zvx (s:Option Addr) (d:Value) (kind:Int) (R:Ending→World→Prop) (w:World):Prop :=
  zbn (Value.cells d) zf w fun b4 w_1 =>
  zbn (zc P zi) zi w_1 fun b6 w_2 =>
  ldA P 32 (⟨b4,0,none⟩:Addr) w_2 fun t13 =>
  xg P zja #[(Value.pointer s),(Value.agg t13)] [.slc,.int .i64] true w_2 fun (t14:((Option Addr × Nat × Nat) × Int)) w_3 =>
  xk (t14.2 != 0) (
  zaz P (Instr.build zi #[]) .any w_3 fun (t19:Value) =>
  zby P (storeVar zi (⟨b6,0,none⟩:Addr) t19) w_3 fun w_4 =>
  ldA P 5 (⟨b6,0,none⟩:Addr) w_4 fun t6 =>
  R (.returned (Value.tuple #[(Value.agg t6),(Value.int .i64 t14.2)])) w_4) (
  xg P zou #[(Value.slice t14.1.1 t14.1.2.1 t14.1.2.2)] [.any,.int .i64] true w_3 fun (t23:(Value × Int)) w_5 =>
  zbn (zc P zi) zi w_5 fun b10 w_6 =>
  zby P (storeVar zi (⟨b10,0,none⟩:Addr) t23.1) w_6 fun w_7 =>
  joinP Unit (fun k =>
  xk (t23.2 != 0) (
  zaz P (Instr.build zi #[]) .any w_7 fun (t34:Value) =>
  zby P (storeVar zi (⟨b6,0,none⟩:Addr) t34) w_7 fun w_8 =>
  ldA P 5 (⟨b6,0,none⟩:Addr) w_8 fun t6_1 =>
  R (.returned (Value.tuple #[(Value.agg t6_1),(Value.int .i64 21)])) w_8) (
  ld (.int .i64) (⟨b10,0,none⟩:Addr) w_7 fun (t30:Int) =>
  xk (t30 != kind) (
  zaz P (Instr.build zi #[]) .any w_7 fun (t34_1:Value) =>
  zby P (storeVar zi (⟨b6,0,none⟩:Addr) t34_1) w_7 fun w_9 =>
  ldA P 5 (⟨b6,0,none⟩:Addr) w_9 fun t6_2 =>
  R (.returned (Value.tuple #[(Value.agg t6_2),(Value.int .i64 21)])) w_9) (
  k () w_7))) (fun _ w_10 =>
  ldA P 5 (⟨b10,0,none⟩:Addr) w_10 fun t35 =>
  zby P (storeVar zi (⟨b6,0,none⟩:Addr) (Value.agg t35)) w_10 fun w_11 =>
  ldA P 5 (⟨b6,0,none⟩:Addr) w_11 fun t6_3 =>
  R (.returned (Value.tuple #[(Value.agg t6_3),(Value.int .i64 0)])) w_11))
theorem qb6 (s:Option Addr) (d:Value) (kind:Int) (R:Ending→World→Prop) (w:World):tr P qs ((Tryz.f103.body).getD .skip) zpk (zb5 0 [(0,(Value.pointer s)),(1,d),(0,(Value.int .i64 kind))]) (zco P Tryz.f103.results.toList R) w=zvx s d kind R w:=by kernel_rfl
theorem qa6 {s:Option Addr} {d:Value} {kind:Int} {R:Ending→World→Prop} {w:World} (hT:zvx s d kind R w):qj P zh7 #[(Value.pointer s),d,(Value.int .i64 kind)] w R :=
 zx (fn:=Tryz.f103) (c:=(Tryz.f103.body).getD .skip) (ann:=zpk) (args:=[(0,(Value.pointer s)),(1,d),(0,(Value.int .i64 kind))]) (qs:=qs) mixed Tryz.func103 rfl (by kernel_rfl) (by kernel_rfl) qaz ((qb6 s d kind R w).symm ▸ hT)
def zn5:Ann:=(.seq .leaf (.seq (.seq .leaf (.blk (.loop [(3,.slc),(19,.int .i64)] (.seq .leaf (.seq (.cond .leaf .leaf) (.seq (.jblk [(3,.slc)] (.seq .leaf (.seq (.tree (.op 0 [] (.op 2 [] (.op 3 [] (.or (.op 1 [3] (.op 4 [] (.op 5 [] (.op 6 [] .done)))) (.op 4 [] (.op 1 [3] (.op 5 [] (.op 6 [] .done))))))))) (.seq (.blk (.seq .leaf (.cond (.seq .leaf .leaf) (.seq .leaf (.cond (.seq .leaf .leaf) .leaf))))) (.seq .leaf (.seq (.seq .leaf (.cond (.seq .leaf .leaf) .leaf)) (.seq (.tree (.op 0 [] (.op 2 [] (.op 3 [] (.op 4 [] (.or (.op 1 [3] (.op 5 [] (.op 6 [3,5] (.op 7 [] .done)))) (.op 6 [3] (.op 1 [3] (.op 5 [] (.op 7 [] .done)))))))))) (.join [] (.seq .leaf (.cond (.seq .leaf (.seq .leaf (.cond (.seq .leaf .leaf) .leaf))) .leaf)) (.seq .leaf (.seq .leaf (.cond (.seq .leaf (.seq .leaf (.cond (.seq .leaf .leaf) .leaf))) .leaf))))))))))) .leaf)))))) (.seq .leaf .leaf)))
theorem z6r:okC P qs Tryz.f104.ntmps ((Tryz.f104.body).getD .skip) zn5=true:=by kernel_rfl
def zro (s:Option Addr) (n:Value) (names:Option Addr) (names_l names_c:Nat) (out:Option Addr) (out_l out_c:Nat) (R:Ending→World→Prop) (w:World):Prop :=
  zbn (Value.cells n) zi w fun b5 w_1 =>
  ld .slc (⟨b5,4,none⟩:Addr) w_1 fun (t17:(Option Addr × Nat × Nat)) =>
  zaw ((Option Addr × Nat × Nat) × Int) (fun s_1 w_2 k =>
  xk (decide (s_1.2 < (t17.2.1:Int))) (
  joinP (Option Addr × Nat × Nat) (fun k_1 =>
  ixS t17.1 t17.2.1 34 s_1.2 fun t21 =>
  ldA P 34 t21 w_2 fun t22 =>
  zbn (zc P ql) ql w_2 fun b11 w_3 =>
  zby P (storeVar ql (⟨b11,0,none⟩:Addr) (Value.agg t22)) w_3 fun w_4 =>
  zbi w_4 fun w_5 =>
  ld .str (⟨b11,0,none⟩:Addr) w_5 fun (t26:ByteArray) =>
  ((xg P zbh #[(Value.slice names names_l names_c)] [.slc] false w_5 fun (t24:(Option Addr × Nat × Nat)) w_6 =>
  ((ld .str (⟨b11,0,none⟩:Addr) w_6 fun (t26_1:ByteArray) =>
  (Value.string t26_1)=(Value.string t26)) ∧
  zal P (Instr.buildSlice qp 1 #[(0,(Value.string t26))]) .slc w_6 fun (t27:(Option Addr × Nat × Nat)) w_7 =>
  zal P (Builtin.append_ #[qp,qp] qp #[(Value.slice t24.1 t24.2.1 t24.2.2),(Value.slice t27.1 t27.2.1 t27.2.2)]) .slc w_7 fun (t28:(Option Addr × Nat × Nat)) w_8 =>
  xk ((s_1.1.2.1:Int) == 512) (
  R (.returned (Value.tuple #[(Value.slice none 0 0),(Value.int .i64 8)])) w_8) (
  xk (decide ((t28.2.1:Int) > 8)) (
  R (.returned (Value.tuple #[(Value.slice none 0 0),(Value.int .i64 42)])) w_8) (
  ldA P 32 (⟨b11,2,none⟩:Addr) w_8 fun t40 =>
  ld (.int .i64) (⟨b11,1,none⟩:Addr) w_8 fun (t42:Int) =>
  xg P zh7 #[(Value.pointer s),(Value.agg t40),(Value.int .i64 t42)] [.any,.int .i64] true w_8 fun (t43:(Value × Int)) w_9 =>
  zbn (zc P zi) zi w_9 fun b13 w_10 =>
  zby P (storeVar zi (⟨b13,0,none⟩:Addr) t43.1) w_10 fun w_11 =>
  xk (t43.2 != 0) (
  R (.returned (Value.tuple #[(Value.slice none 0 0),(Value.int .i64 t43.2)])) w_11) (
  zbi w_11 fun w_12 =>
  ld (.int .i64) (⟨b11,1,none⟩:Addr) w_12 fun (t52:Int) =>
  ((xg P zca #[(Value.slice t28.1 t28.2.1 t28.2.2)] [.str] false w_12 fun (t50:ByteArray) w_13 =>
  ((ld (.int .i64) (⟨b11,1,none⟩:Addr) w_13 fun (t52_1:Int) =>
  (Value.int .i64 t52_1)=(Value.int .i64 t52)) ∧
  zaz P (Instr.build zk #[(0,(Value.string t50)),(1,(Value.bool (t52 == 3)))]) .any w_13 fun (t54:Value) =>
  zbn (zc P zk) zk w_13 fun b15 w_14 =>
  ((zaz P (Instr.build zk #[(0,(Value.string t50)),(1,(Value.bool (t52 == 3)))]) .any w_14 fun (t54_1:Value) =>
  t54_1=t54) ∧
  ((ld (.int .i64) (⟨b11,1,none⟩:Addr) w_14 fun (t52_2:Int) =>
  (Value.int .i64 t52_2)=(Value.int .i64 t52)) ∧
  zby P (storeVar zk (⟨b15,0,none⟩:Addr) t54) w_14 fun w_15 =>
  joinP Unit (fun k_2 =>
  ld .bool (⟨b15,1,none⟩:Addr) w_15 fun (t56:Bool) =>
  xk (!t56) (
  ldA P 5 (⟨b13,0,none⟩:Addr) w_15 fun t60 =>
  xg P zbz #[(Value.pointer s),(Value.agg t60)] [.str,.int .i64] true w_15 fun (t61:(ByteArray × Int)) w_16 =>
  stC (⟨b15,2,none⟩:Addr) (Value.string t61.1) w_16 fun w_17 =>
  xk (t61.2 != 0) (
  R (.returned (Value.tuple #[(Value.slice none 0 0),(Value.int .i64 t61.2)])) w_17) (
  k_2 () w_17)) (
  k_2 () w_15)) (fun _ w_18 =>
  ldA P 3 (⟨b15,0,none⟩:Addr) w_18 fun t69 =>
  zal P (Instr.buildSlice zo 1 #[(0,(Value.agg t69))]) .slc w_18 fun (t70:(Option Addr × Nat × Nat)) w_19 =>
  zal P (Builtin.append_ #[zo,zo] zo #[(Value.slice s_1.1.1 s_1.1.2.1 s_1.1.2.2),(Value.slice t70.1 t70.2.1 t70.2.2)]) .slc w_19 fun (t71:(Option Addr × Nat × Nat)) w_20 =>
  ld .bool (⟨b15,1,none⟩:Addr) w_20 fun (t73:Bool) =>
  xk t73 (
  ldA P 5 (⟨b13,0,none⟩:Addr) w_20 fun t76 =>
  xg P zb4 #[(Value.pointer s),(Value.agg t76),(Value.slice t28.1 t28.2.1 t28.2.2),(Value.slice t71.1 t71.2.1 t71.2.2)] [.slc,.int .i64] true w_20 fun (t79:((Option Addr × Nat × Nat) × Int)) w_21 =>
  xk (t79.2 != 0) (
  R (.returned (Value.tuple #[(Value.slice none 0 0),(Value.int .i64 t79.2)])) w_21) (
  k_1 (t79.1.1,t79.1.2.1,t79.1.2.2) w_21)) (
  k_1 (t71.1,t71.2.1,t71.2.2) w_20)))))) ∧
  (zbn (zc P zk) zk w_12 fun b15_1 w_22 =>
  ((ld (.int .i64) (⟨b11,1,none⟩:Addr) w_22 fun (t52_3:Int) =>
  (Value.int .i64 t52_3)=(Value.int .i64 t52)) ∧
  xg P zca #[(Value.slice t28.1 t28.2.1 t28.2.2)] [.str] false w_22 fun (t50_1:ByteArray) w_23 =>
  ((ld (.int .i64) (⟨b11,1,none⟩:Addr) w_23 fun (t52_4:Int) =>
  (Value.int .i64 t52_4)=(Value.int .i64 t52)) ∧
  zaz P (Instr.build zk #[(0,(Value.string t50_1)),(1,(Value.bool (t52 == 3)))]) .any w_23 fun (t54_2:Value) =>
  zby P (storeVar zk (⟨b15_1,0,none⟩:Addr) t54_2) w_23 fun w_24 =>
  joinP Unit (fun k_3 =>
  ld .bool (⟨b15_1,1,none⟩:Addr) w_24 fun (t56_1:Bool) =>
  xk (!t56_1) (
  ldA P 5 (⟨b13,0,none⟩:Addr) w_24 fun t60_1 =>
  xg P zbz #[(Value.pointer s),(Value.agg t60_1)] [.str,.int .i64] true w_24 fun (t61_1:(ByteArray × Int)) w_25 =>
  stC (⟨b15_1,2,none⟩:Addr) (Value.string t61_1.1) w_25 fun w_26 =>
  xk (t61_1.2 != 0) (
  R (.returned (Value.tuple #[(Value.slice none 0 0),(Value.int .i64 t61_1.2)])) w_26) (
  k_3 () w_26)) (
  k_3 () w_24)) (fun _ w_27 =>
  ldA P 3 (⟨b15_1,0,none⟩:Addr) w_27 fun t69_1 =>
  zal P (Instr.buildSlice zo 1 #[(0,(Value.agg t69_1))]) .slc w_27 fun (t70_1:(Option Addr × Nat × Nat)) w_28 =>
  zal P (Builtin.append_ #[zo,zo] zo #[(Value.slice s_1.1.1 s_1.1.2.1 s_1.1.2.2),(Value.slice t70_1.1 t70_1.2.1 t70_1.2.2)]) .slc w_28 fun (t71_1:(Option Addr × Nat × Nat)) w_29 =>
  ld .bool (⟨b15_1,1,none⟩:Addr) w_29 fun (t73_1:Bool) =>
  xk t73_1 (
  ldA P 5 (⟨b13,0,none⟩:Addr) w_29 fun t76_1 =>
  xg P zb4 #[(Value.pointer s),(Value.agg t76_1),(Value.slice t28.1 t28.2.1 t28.2.2),(Value.slice t71_1.1 t71_1.2.1 t71_1.2.2)] [.slc,.int .i64] true w_29 fun (t79_1:((Option Addr × Nat × Nat) × Int)) w_30 =>
  xk (t79_1.2 != 0) (
  R (.returned (Value.tuple #[(Value.slice none 0 0),(Value.int .i64 t79_1.2)])) w_30) (
  k_1 (t79_1.1.1,t79_1.1.2.1,t79_1.1.2.2) w_30)) (
  k_1 (t71_1.1,t71_1.2.1,t71_1.2.2) w_29))))))))))) ∧
  (zal P (Instr.buildSlice qp 1 #[(0,(Value.string t26))]) .slc w_5 fun (t27_1:(Option Addr × Nat × Nat)) w_31 =>
  xg P zbh #[(Value.slice names names_l names_c)] [.slc] false w_31 fun (t24_1:(Option Addr × Nat × Nat)) w_32 =>
  ((ld .str (⟨b11,0,none⟩:Addr) w_32 fun (t26_2:ByteArray) =>
  (Value.string t26_2)=(Value.string t26)) ∧
  zal P (Builtin.append_ #[qp,qp] qp #[(Value.slice t24_1.1 t24_1.2.1 t24_1.2.2),(Value.slice t27_1.1 t27_1.2.1 t27_1.2.2)]) .slc w_32 fun (t28_1:(Option Addr × Nat × Nat)) w_33 =>
  xk ((s_1.1.2.1:Int) == 512) (
  R (.returned (Value.tuple #[(Value.slice none 0 0),(Value.int .i64 8)])) w_33) (
  xk (decide ((t28_1.2.1:Int) > 8)) (
  R (.returned (Value.tuple #[(Value.slice none 0 0),(Value.int .i64 42)])) w_33) (
  ldA P 32 (⟨b11,2,none⟩:Addr) w_33 fun t40_1 =>
  ld (.int .i64) (⟨b11,1,none⟩:Addr) w_33 fun (t42_1:Int) =>
  xg P zh7 #[(Value.pointer s),(Value.agg t40_1),(Value.int .i64 t42_1)] [.any,.int .i64] true w_33 fun (t43_1:(Value × Int)) w_34 =>
  zbn (zc P zi) zi w_34 fun b13_1 w_35 =>
  zby P (storeVar zi (⟨b13_1,0,none⟩:Addr) t43_1.1) w_35 fun w_36 =>
  xk (t43_1.2 != 0) (
  R (.returned (Value.tuple #[(Value.slice none 0 0),(Value.int .i64 t43_1.2)])) w_36) (
  zbi w_36 fun w_37 =>
  ld (.int .i64) (⟨b11,1,none⟩:Addr) w_37 fun (t52_5:Int) =>
  ((xg P zca #[(Value.slice t28_1.1 t28_1.2.1 t28_1.2.2)] [.str] false w_37 fun (t50_2:ByteArray) w_38 =>
  ((ld (.int .i64) (⟨b11,1,none⟩:Addr) w_38 fun (t52_6:Int) =>
  (Value.int .i64 t52_6)=(Value.int .i64 t52_5)) ∧
  zaz P (Instr.build zk #[(0,(Value.string t50_2)),(1,(Value.bool (t52_5 == 3)))]) .any w_38 fun (t54_3:Value) =>
  zbn (zc P zk) zk w_38 fun b15_2 w_39 =>
  ((zaz P (Instr.build zk #[(0,(Value.string t50_2)),(1,(Value.bool (t52_5 == 3)))]) .any w_39 fun (t54_4:Value) =>
  t54_4=t54_3) ∧
  ((ld (.int .i64) (⟨b11,1,none⟩:Addr) w_39 fun (t52_7:Int) =>
  (Value.int .i64 t52_7)=(Value.int .i64 t52_5)) ∧
  zby P (storeVar zk (⟨b15_2,0,none⟩:Addr) t54_3) w_39 fun w_40 =>
  joinP Unit (fun k_4 =>
  ld .bool (⟨b15_2,1,none⟩:Addr) w_40 fun (t56_2:Bool) =>
  xk (!t56_2) (
  ldA P 5 (⟨b13_1,0,none⟩:Addr) w_40 fun t60_2 =>
  xg P zbz #[(Value.pointer s),(Value.agg t60_2)] [.str,.int .i64] true w_40 fun (t61_2:(ByteArray × Int)) w_41 =>
  stC (⟨b15_2,2,none⟩:Addr) (Value.string t61_2.1) w_41 fun w_42 =>
  xk (t61_2.2 != 0) (
  R (.returned (Value.tuple #[(Value.slice none 0 0),(Value.int .i64 t61_2.2)])) w_42) (
  k_4 () w_42)) (
  k_4 () w_40)) (fun _ w_43 =>
  ldA P 3 (⟨b15_2,0,none⟩:Addr) w_43 fun t69_2 =>
  zal P (Instr.buildSlice zo 1 #[(0,(Value.agg t69_2))]) .slc w_43 fun (t70_2:(Option Addr × Nat × Nat)) w_44 =>
  zal P (Builtin.append_ #[zo,zo] zo #[(Value.slice s_1.1.1 s_1.1.2.1 s_1.1.2.2),(Value.slice t70_2.1 t70_2.2.1 t70_2.2.2)]) .slc w_44 fun (t71_2:(Option Addr × Nat × Nat)) w_45 =>
  ld .bool (⟨b15_2,1,none⟩:Addr) w_45 fun (t73_2:Bool) =>
  xk t73_2 (
  ldA P 5 (⟨b13_1,0,none⟩:Addr) w_45 fun t76_2 =>
  xg P zb4 #[(Value.pointer s),(Value.agg t76_2),(Value.slice t28_1.1 t28_1.2.1 t28_1.2.2),(Value.slice t71_2.1 t71_2.2.1 t71_2.2.2)] [.slc,.int .i64] true w_45 fun (t79_2:((Option Addr × Nat × Nat) × Int)) w_46 =>
  xk (t79_2.2 != 0) (
  R (.returned (Value.tuple #[(Value.slice none 0 0),(Value.int .i64 t79_2.2)])) w_46) (
  k_1 (t79_2.1.1,t79_2.1.2.1,t79_2.1.2.2) w_46)) (
  k_1 (t71_2.1,t71_2.2.1,t71_2.2.2) w_45)))))) ∧
  (zbn (zc P zk) zk w_37 fun b15_3 w_47 =>
  ((ld (.int .i64) (⟨b11,1,none⟩:Addr) w_47 fun (t52_8:Int) =>
  (Value.int .i64 t52_8)=(Value.int .i64 t52_5)) ∧
  xg P zca #[(Value.slice t28_1.1 t28_1.2.1 t28_1.2.2)] [.str] false w_47 fun (t50_3:ByteArray) w_48 =>
  ((ld (.int .i64) (⟨b11,1,none⟩:Addr) w_48 fun (t52_9:Int) =>
  (Value.int .i64 t52_9)=(Value.int .i64 t52_5)) ∧
  zaz P (Instr.build zk #[(0,(Value.string t50_3)),(1,(Value.bool (t52_5 == 3)))]) .any w_48 fun (t54_5:Value) =>
  zby P (storeVar zk (⟨b15_3,0,none⟩:Addr) t54_5) w_48 fun w_49 =>
  joinP Unit (fun k_5 =>
  ld .bool (⟨b15_3,1,none⟩:Addr) w_49 fun (t56_3:Bool) =>
  xk (!t56_3) (
  ldA P 5 (⟨b13_1,0,none⟩:Addr) w_49 fun t60_3 =>
  xg P zbz #[(Value.pointer s),(Value.agg t60_3)] [.str,.int .i64] true w_49 fun (t61_3:(ByteArray × Int)) w_50 =>
  stC (⟨b15_3,2,none⟩:Addr) (Value.string t61_3.1) w_50 fun w_51 =>
  xk (t61_3.2 != 0) (
  R (.returned (Value.tuple #[(Value.slice none 0 0),(Value.int .i64 t61_3.2)])) w_51) (
  k_5 () w_51)) (
  k_5 () w_49)) (fun _ w_52 =>
  ldA P 3 (⟨b15_3,0,none⟩:Addr) w_52 fun t69_3 =>
  zal P (Instr.buildSlice zo 1 #[(0,(Value.agg t69_3))]) .slc w_52 fun (t70_3:(Option Addr × Nat × Nat)) w_53 =>
  zal P (Builtin.append_ #[zo,zo] zo #[(Value.slice s_1.1.1 s_1.1.2.1 s_1.1.2.2),(Value.slice t70_3.1 t70_3.2.1 t70_3.2.2)]) .slc w_53 fun (t71_3:(Option Addr × Nat × Nat)) w_54 =>
  ld .bool (⟨b15_3,1,none⟩:Addr) w_54 fun (t73_3:Bool) =>
  xk t73_3 (
  ldA P 5 (⟨b13_1,0,none⟩:Addr) w_54 fun t76_3 =>
  xg P zb4 #[(Value.pointer s),(Value.agg t76_3),(Value.slice t28_1.1 t28_1.2.1 t28_1.2.2),(Value.slice t71_3.1 t71_3.2.1 t71_3.2.2)] [.slc,.int .i64] true w_54 fun (t79_3:((Option Addr × Nat × Nat) × Int)) w_55 =>
  xk (t79_3.2 != 0) (
  R (.returned (Value.tuple #[(Value.slice none 0 0),(Value.int .i64 t79_3.2)])) w_55) (
  k_1 (t79_3.1.1,t79_3.1.2.1,t79_3.1.2.2) w_55)) (
  k_1 (t71_3.1,t71_3.2.1,t71_3.2.2) w_54))))))))))))) (fun s_6 w_56 =>
  zba .i64 s_1.2 1 fun t85 =>
  k ((s_6.1,s_6.2.1,s_6.2.2),t85) w_56)) (
  R (.returned (Value.tuple #[(Value.slice s_1.1.1 s_1.1.2.1 s_1.1.2.2),(Value.int .i64 0)])) w_2)) ((out,out_l,out_c),0) w_1
theorem z8f (s:Option Addr) (n:Value) (names:Option Addr) (names_l names_c:Nat) (out:Option Addr) (out_l out_c:Nat) (R:Ending→World→Prop) (w:World):tr P qs ((Tryz.f104.body).getD .skip) zn5 (zb5 0 [(0,(Value.pointer s)),(1,n),(0,(Value.slice names names_l names_c)),(0,(Value.slice out out_l out_c))]) (zco P Tryz.f104.results.toList R) w=zro s n names names_l names_c out out_l out_c R w:=by kernel_rfl
theorem z7x {s:Option Addr} {n:Value} {names:Option Addr} {names_l names_c:Nat} {out:Option Addr} {out_l out_c:Nat} {R:Ending→World→Prop} {w:World} (hT:zro s n names names_l names_c out out_l out_c R w):qj P zb4 #[(Value.pointer s),n,(Value.slice names names_l names_c),(Value.slice out out_l out_c)] w R :=
 zx (fn:=Tryz.f104) (c:=(Tryz.f104.body).getD .skip) (ann:=zn5) (args:=[(0,(Value.pointer s)),(1,n),(0,(Value.slice names names_l names_c)),(0,(Value.slice out out_l out_c))]) (qs:=qs) mixed Tryz.func104 rfl (by kernel_rfl) (by kernel_rfl) z6r ((z8f s n names names_l names_c out out_l out_c R w).symm ▸ hT)
def za2:Ann:=(.seq .leaf (.seq .leaf .leaf))
theorem zep:okC P qs Tryz.f106.ntmps ((Tryz.f106.body).getD .skip) za2=true:=by kernel_rfl
def za4 (s:Option Addr) (s_l s_c:Nat) (f:Value) (R:Ending→World→Prop) (w:World):Prop :=
  xg P zbd #[(Value.slice s s_l s_c),f] [.int .i64] false w fun (t7:Int) w_1 =>
  R (.returned (Value.bool (decide (t7 ≥ 0)))) w_1
theorem zes (s:Option Addr) (s_l s_c:Nat) (f:Value) (R:Ending→World→Prop) (w:World):tr P qs ((Tryz.f106.body).getD .skip) za2 (zb5 0 [(0,(Value.slice s s_l s_c)),(1,f)]) (zco P Tryz.f106.results.toList R) w=za4 s s_l s_c f R w:=by kernel_rfl
theorem zem {s:Option Addr} {s_l s_c:Nat} {f:Value} {R:Ending→World→Prop} {w:World} (hT:za4 s s_l s_c f R w):qj P zam #[(Value.slice s s_l s_c),f] w R :=
 zx (fn:=Tryz.f106) (c:=(Tryz.f106.body).getD .skip) (ann:=za2) (args:=[(0,(Value.slice s s_l s_c)),(1,f)]) (qs:=qs) mixed Tryz.func106 rfl (by kernel_rfl) (by kernel_rfl) zep ((zes s s_l s_c f R w).symm ▸ hT)
def zjl:Ann:=(.seq .leaf (.seq .leaf .leaf))
theorem zzr:okC P qs Tryz.f107.ntmps ((Tryz.f107.body).getD .skip) zjl=true:=by kernel_rfl
def zmj (f:Value) (R:Ending→World→Prop) (w:World):Prop :=
  zbn (Value.cells f) zk w fun b1 w_1 =>
  ld .bool (⟨b1,1,none⟩:Addr) w_1 fun (t4:Bool) =>
  xk t4 (
  ld .str (⟨b1,2,none⟩:Addr) w_1 fun (t7:ByteArray) =>
  R (.returned (Value.bool (!(t7.toList == (ByteArray.mk #[]).toList)))) w_1) (
  R (.returned (Value.bool false)) w_1)
theorem zy6 (f:Value) (R:Ending→World→Prop) (w:World):tr P qs ((Tryz.f107.body).getD .skip) zjl (zb5 0 [(1,f)]) (zco P Tryz.f107.results.toList R) w=zmj f R w:=by kernel_rfl
theorem zyd {f:Value} {R:Ending→World→Prop} {w:World} (hT:zmj f R w):qj P zmh #[f] w R :=
 zx (fn:=Tryz.f107) (c:=(Tryz.f107.body).getD .skip) (ann:=zjl) (args:=[(1,f)]) (qs:=qs) mixed Tryz.func107 rfl (by kernel_rfl) (by kernel_rfl) zzr ((zy6 f R w).symm ▸ hT)
def zjf:Ann:=(.seq .leaf (.seq .leaf .leaf))
theorem zx2:okC P qs Tryz.f108.ntmps ((Tryz.f108.body).getD .skip) zjf=true:=by kernel_rfl
def zmq (f:Value) (R:Ending→World→Prop) (w:World):Prop :=
  zbn (Value.cells f) zk w fun b1 w_1 =>
  ld .str (⟨b1,2,none⟩:Addr) w_1 fun (t4:ByteArray) =>
  R (.returned (Value.bool (decide ((t4.size:Int) > 1024)))) w_1
theorem zy8 (f:Value) (R:Ending→World→Prop) (w:World):tr P qs ((Tryz.f108.body).getD .skip) zjf (zb5 0 [(1,f)]) (zco P Tryz.f108.results.toList R) w=zmq f R w:=by kernel_rfl
theorem zzp {f:Value} {R:Ending→World→Prop} {w:World} (hT:zmq f R w):qj P zmi #[f] w R :=
 zx (fn:=Tryz.f108) (c:=(Tryz.f108.body).getD .skip) (ann:=zjf) (args:=[(1,f)]) (qs:=qs) mixed Tryz.func108 rfl (by kernel_rfl) (by kernel_rfl) zx2 ((zy8 f R w).symm ▸ hT)
def zi6:Ann:=(.seq .leaf (.seq .leaf .leaf))
theorem zza:okC P qs Tryz.f110.ntmps ((Tryz.f110.body).getD .skip) zi6=true:=by kernel_rfl
def zl0 (a:Value) (b:Value) (R:Ending→World→Prop) (w:World):Prop :=
  zbn (Value.cells a) zy w fun b2 w_1 =>
  zbn (Value.cells b) zy w_1 fun b3 w_2 =>
  ld .slc (⟨b2,0,none⟩:Addr) w_2 fun (t6:(Option Addr × Nat × Nat)) =>
  ld .slc (⟨b3,0,none⟩:Addr) w_2 fun (t8:(Option Addr × Nat × Nat)) =>
  xg P zk8 #[(Value.slice t6.1 t6.2.1 t6.2.2),(Value.slice t8.1 t8.2.1 t8.2.2)] [.int .i64] false w_2 fun (t9:Int) w_3 =>
  R (.returned (Value.int .i64 t9)) w_3
theorem zx5 (a:Value) (b:Value) (R:Ending→World→Prop) (w:World):tr P qs ((Tryz.f110.body).getD .skip) zi6 (zb5 0 [(1,a),(1,b)]) (zco P Tryz.f110.results.toList R) w=zl0 a b R w:=by kernel_rfl
theorem zym {a:Value} {b:Value} {R:Ending→World→Prop} {w:World} (hT:zl0 a b R w):qj P zfx #[a,b] w R :=
 zx (fn:=Tryz.f110) (c:=(Tryz.f110.body).getD .skip) (ann:=zi6) (args:=[(1,a),(1,b)]) (qs:=qs) mixed Tryz.func110 rfl (by kernel_rfl) (by kernel_rfl) zza ((zx5 a b R w).symm ▸ hT)
def zdc:Ann:=(.seq .leaf (.join [] (.seq .leaf (.cond .leaf .leaf)) (.seq .leaf .leaf)))
theorem zkf:okC P qs Tryz.f113.ntmps ((Tryz.f113.body).getD .skip) zdc=true:=by kernel_rfl
def zci (s:Option Addr) (s_l s_c:Nat) (n:Int) (R:Ending→World→Prop) (w:World):Prop :=
  zbn #[(Value.slice s s_l s_c)] zh w fun b2 w_1 =>
  zbn #[(Value.int .i64 n)] zdf w_1 fun b3 w_2 =>
  joinP Unit (fun k =>
  ld (.int .i64) (⟨b3,0,none⟩:Addr) w_2 fun (t5:Int) =>
  xk (decide (t5 < 1)) (
  zaz P (Instr.makeInterface qc (Value.string (ByteArray.mk #[99,97,110,110,111,116,32,98,101,32,108,101,115,115,32,116,104,97,110,32,49]))) .any w_2 fun (_:Value) =>
  False) (
  k () w_2)) (fun _ w_3 =>
  zaz P (Instr.makeFunc (Go.Fn.func zat) #[] #[(Value.pointer (some (⟨b2,0,none⟩:Addr))),(Value.pointer (some (⟨b3,0,none⟩:Addr)))]) .any w_3 fun (t8:Value) =>
  R (.returned t8) w_3)
theorem zk3 (s:Option Addr) (s_l s_c:Nat) (n:Int) (R:Ending→World→Prop) (w:World):tr P qs ((Tryz.f113.body).getD .skip) zdc (zb5 0 [(0,(Value.slice s s_l s_c)),(0,(Value.int .i64 n))]) (zco P Tryz.f113.results.toList R) w=zci s s_l s_c n R w:=by kernel_rfl
theorem ze4 {s:Option Addr} {s_l s_c:Nat} {n:Int} {R:Ending→World→Prop} {w:World} (hT:zci s s_l s_c n R w):qj P zbf #[(Value.slice s s_l s_c),(Value.int .i64 n)] w R :=
 zx (fn:=Tryz.f113) (c:=(Tryz.f113.body).getD .skip) (ann:=zdc) (args:=[(0,(Value.slice s s_l s_c)),(0,(Value.int .i64 n))]) (qs:=qs) mixed Tryz.func113 rfl (by kernel_rfl) (by kernel_rfl) zkf ((zk3 s s_l s_c n R w).symm ▸ hT)
def znl:Ann:=(.seq .leaf (.seq .leaf .leaf))
theorem z9r:okC P qs Tryz.f124.ntmps ((Tryz.f124.body).getD .skip) znl=true:=by kernel_rfl
def zrr (i:Int) (R:Ending→World→Prop) (w:World):Prop :=
  qig .i64 i 10 fun t4 =>
  zba .i64 48 t4 fun t5 =>
  cvI .i32 t5 fun t6 =>
  zal P (convert z5i qc (Value.int .i32 t6)) .str w fun (t7:ByteArray) w_1 =>
  qjd (ByteArray.mk #[47,112]) t7 fun t8 =>
  qju i 10 fun t10 =>
  zba .i64 48 t10 fun t11 =>
  cvI .i32 t11 fun t12 =>
  zal P (convert z5i qc (Value.int .i32 t12)) .str w_1 fun (t13:ByteArray) w_2 =>
  qjd t8 t13 fun t14 =>
  R (.returned (Value.string t14)) w_2
theorem z7f (i:Int) (R:Ending→World→Prop) (w:World):tr P qs ((Tryz.f124.body).getD .skip) znl (zb5 0 [(0,(Value.int .i64 i))]) (zco P Tryz.f124.results.toList R) w=zrr i R w:=by kernel_rfl
theorem z6d {i:Int} {R:Ending→World→Prop} {w:World} (hT:zrr i R w):qj P zss #[(Value.int .i64 i)] w R :=
 zx (fn:=Tryz.f124) (c:=(Tryz.f124.body).getD .skip) (ann:=znl) (args:=[(0,(Value.int .i64 i))]) (qs:=qs) mixed Tryz.func124 rfl (by kernel_rfl) (by kernel_rfl) z9r ((z7f i R w).symm ▸ hT)
def zi3:Ann:=(.seq .leaf (.seq .leaf (.seq (.seq .leaf (.blk (.loop [(14,.int .i64)] (.seq .leaf (.seq (.cond .leaf .leaf) (.seq (.blk (.seq .leaf (.seq .leaf (.seq (.seq .leaf (.cond (.seq .leaf .leaf) .leaf)) (.seq (.seq .leaf (.cond (.seq .leaf .leaf) .leaf)) .leaf))))) .leaf)))))) (.seq .leaf .leaf))))
theorem zz6:okC P qs Tryz.f155.ntmps ((Tryz.f155.body).getD .skip) zi3=true:=by kernel_rfl
def zmg (s:Option Addr) (n:Value) (R:Ending→World→Prop) (w:World):Prop :=
  zbn (Value.cells n) zi w fun b3 w_1 =>
  zbn (zc P ji) ji w_1 fun b6 w_2 =>
  ld .slc (⟨b3,3,none⟩:Addr) w_2 fun (t12:(Option Addr × Nat × Nat)) =>
  zaw Int (fun s_1 w_3 k =>
  xk (decide (s_1 < (t12.2.1:Int))) (
  ixS t12.1 t12.2.1 32 s_1 fun t17 =>
  ldA P 32 t17 w_3 fun t18 =>
  zbn (zc P zf) zf w_3 fun b8 w_4 =>
  zby P (storeVar zf (⟨b8,0,none⟩:Addr) (Value.agg t18)) w_4 fun w_5 =>
  ldA P 32 (⟨b8,0,none⟩:Addr) w_5 fun t21 =>
  xg P zh7 #[(Value.pointer s),(Value.agg t21),(Value.int .i64 1)] [.any,.int .i64] true w_5 fun (t22:(Value × Int)) w_6 =>
  zbn (zc P zi) zi w_6 fun b9 w_7 =>
  zby P (storeVar zi (⟨b9,0,none⟩:Addr) t22.1) w_7 fun w_8 =>
  xk (t22.2 != 0) (
  R (.returned (Value.tuple #[(Value.string (ByteArray.mk #[])),(Value.int .i64 t22.2)])) w_8) (
  ld .str (⟨b9,1,none⟩:Addr) w_8 fun (t29:ByteArray) =>
  ld (.int .i64) (⟨b3,2,none⟩:Addr) w_8 fun (t32:Int) =>
  z0d .i64 s_1 64 fun t34 =>
  zo9 .i64 t32 t34 fun t35 =>
  zaz P (Builtin.min_ #[zdf,zdf] zdf #[(Value.int .i64 64),(Value.int .i64 t35)]) (.int .i64) w_8 fun (t36:Int) =>
  xk ((t29.size:Int) != t36) (
  R (.returned (Value.tuple #[(Value.string (ByteArray.mk #[])),(Value.int .i64 21)])) w_8) (
  ld .str (⟨b9,1,none⟩:Addr) w_8 fun (t39:ByteArray) =>
  xg P zao #[(Value.pointer (some (⟨b6,0,none⟩:Addr))),(Value.string t39)] [.int .i64,.any] true w_8 fun (_:(Int × Value)) w_9 =>
  zba .i64 s_1 1 fun t41 =>
  k t41 w_9))) (
  xg P zbq #[(Value.pointer (some (⟨b6,0,none⟩:Addr)))] [.str] false w_3 fun (t42:ByteArray) w_10 =>
  R (.returned (Value.tuple #[(Value.string t42),(Value.int .i64 0)])) w_10)) 0 w_2
theorem zxi (s:Option Addr) (n:Value) (R:Ending→World→Prop) (w:World):tr P qs ((Tryz.f155.body).getD .skip) zi3 (zb5 0 [(0,(Value.pointer s)),(1,n)]) (zco P Tryz.f155.results.toList R) w=zmg s n R w:=by kernel_rfl
theorem zya {s:Option Addr} {n:Value} {R:Ending→World→Prop} {w:World} (hT:zmg s n R w):qj P zbz #[(Value.pointer s),n] w R :=
 zx (fn:=Tryz.f155) (c:=(Tryz.f155.body).getD .skip) (ann:=zi3) (args:=[(0,(Value.pointer s)),(1,n)]) (qs:=qs) mixed Tryz.func155 rfl (by kernel_rfl) (by kernel_rfl) zz6 ((zxi s n R w).symm ▸ hT)
def za7:Ann:=(.seq .leaf (.seq (.seq .leaf (.blk (.loop [(8,.int .i64)] (.seq .leaf (.seq (.cond .leaf .leaf) (.seq (.blk (.seq .leaf (.seq .leaf (.cond (.seq .leaf .leaf) .leaf)))) .leaf)))))) (.seq .leaf .leaf)))
theorem ze6:okC P qs Tryz.f159.ntmps ((Tryz.f159.body).getD .skip) za7=true:=by kernel_rfl
def zbe (s:Option Addr) (s_l s_c:Nat) (f:Value) (R:Ending→World→Prop) (w:World):Prop :=
  zaw Int (fun s_1 w_1 k =>
  xk (decide (s_1 < (s_l:Int))) (
  ixS s s_l 3 s_1 fun t14 =>
  ldA P 3 t14 w_1 fun t15 =>
  z1e P f #[(Value.agg t15)] [.bool] false w_1 fun (t16:Bool) w_2 =>
  xk t16 (
  R (.returned (Value.int .i64 s_1)) w_2) (
  zba .i64 s_1 1 fun t18 =>
  k t18 w_2)) (
  R (.returned (Value.int .i64 (-1))) w_1)) 0 w
theorem zfe (s:Option Addr) (s_l s_c:Nat) (f:Value) (R:Ending→World→Prop) (w:World):tr P qs ((Tryz.f159.body).getD .skip) za7 (zb5 0 [(0,(Value.slice s s_l s_c)),(1,f)]) (zco P Tryz.f159.results.toList R) w=zbe s s_l s_c f R w:=by kernel_rfl
theorem ze8 {s:Option Addr} {s_l s_c:Nat} {f:Value} {R:Ending→World→Prop} {w:World} (hT:zbe s s_l s_c f R w):qj P zbd #[(Value.slice s s_l s_c),f] w R :=
 zx (fn:=Tryz.f159) (c:=(Tryz.f159.body).getD .skip) (ann:=za7) (args:=[(0,(Value.slice s s_l s_c)),(1,f)]) (qs:=qs) mixed Tryz.func159 rfl (by kernel_rfl) (by kernel_rfl) ze6 ((zfe s s_l s_c f R w).symm ▸ hT)
def zcy:Ann:=(.seq .leaf (.blk (.loop [(4,.int .i64)] (.seq (.seq .leaf (.cond .leaf .leaf)) (.seq (.blk (.seq (.tree (.op 2 [] (.op 0 [] (.op 1 [] (.op 3 [] (.op 4 [] (.op 5 [] (.op 6 [] .done)))))))) (.seq .leaf (.cond .leaf .leaf)))) .leaf)))))
theorem zi4:okC P qs Tryz.f167.ntmps ((Tryz.f167.body).getD .skip) zcy=true:=by kernel_rfl
def zbs (yield:Value) (c0:Option Addr) (c1:Option Addr) (R:Ending→World→Prop) (w:World):Prop :=
  zaw Int (fun s w_1 k =>
  zu c0 fun p =>
  ld .slc p w_1 fun (t7:(Option Addr × Nat × Nat)) =>
  xk (decide (s < (t7.2.1:Int))) (
  zbi w_1 fun w_2 =>
  zu c1 fun p_1 =>
  ld (.int .i64) p_1 w_2 fun (t13:Int) =>
  zu c0 fun p_2 =>
  ld .slc p_2 w_2 fun (t14:(Option Addr × Nat × Nat)) =>
  zaz P (Instr.sliceAt zh (Value.slice t14.1 t14.2.1 t14.2.2) (some (Value.int .i64 s)) none none) .slc w_2 fun (t16:(Option Addr × Nat × Nat)) =>
  zaz P (Builtin.min_ #[zdf,zdf] zdf #[(Value.int .i64 t13),(Value.int .i64 (t16.2.1:Int))]) (.int .i64) w_2 fun (t18:Int) =>
  zu c0 fun p_3 =>
  ld .slc p_3 w_2 fun (t20:(Option Addr × Nat × Nat)) =>
  zba .i64 s t18 fun t24 =>
  zba .i64 s t18 fun t27 =>
  zaz P (Instr.sliceAt zh (Value.slice t20.1 t20.2.1 t20.2.2) (some (Value.int .i64 s)) (some (Value.int .i64 t24)) (some (Value.int .i64 t27))) .slc w_2 fun (t28:(Option Addr × Nat × Nat)) =>
  z1e P yield #[(Value.slice t28.1 t28.2.1 t28.2.2)] [.bool] false w_2 fun (t29:Bool) w_3 =>
  xk (!t29) (
  R (.returned (Value.tuple #[])) w_3) (
  zu c1 fun p_4 =>
  ld (.int .i64) p_4 w_3 fun (t11:Int) =>
  zba .i64 s t11 fun t12 =>
  k t12 w_3)) (
  R (.returned (Value.tuple #[])) w_1)) 0 w
theorem zi9 (yield:Value) (c0:Option Addr) (c1:Option Addr) (R:Ending→World→Prop) (w:World):tr P qs ((Tryz.f167.body).getD .skip) zcy (zb5 0 [(1,yield),(0,(Value.pointer c0)),(0,(Value.pointer c1))]) (zco P Tryz.f167.results.toList R) w=zbs yield c0 c1 R w:=by kernel_rfl
theorem zen {yield:Value} {c0:Option Addr} {c1:Option Addr} {R:Ending→World→Prop} {w:World} (hT:zbs yield c0 c1 R w):qj P zat #[yield,(Value.pointer c0),(Value.pointer c1)] w R :=
 zx (fn:=Tryz.f167) (c:=(Tryz.f167.body).getD .skip) (ann:=zcy) (args:=[(1,yield),(0,(Value.pointer c0)),(0,(Value.pointer c1))]) (qs:=qs) mixed Tryz.func167 rfl (by kernel_rfl) (by kernel_rfl) zi4 ((zi9 yield c0 c1 R w).symm ▸ hT)
set_option maxRecDepth 100000
def znz:Ann:=(.seq .leaf (.seq .leaf (.seq (.seq .leaf (.cond (.seq .leaf .leaf) .leaf)) (.seq .leaf (.seq .leaf (.seq (.seq .leaf (.cond (.seq .leaf .leaf) .leaf)) (.seq .leaf .leaf)))))))
theorem z6e:okC P qs Tryz.f15.ntmps ((Tryz.f15.body).getD .skip) znz=true:=by kernel_rfl
def zr2 (s:Option Addr) (list:Option Addr) (list_l list_c:Nat) (R:Ending→World→Prop) (w:World):Prop :=
  zbn (zc P zf) zf w fun b4 w_1 =>
  xg P zn6 #[(Value.slice list list_l list_c)] [.slc,.int .i64] true w_1 fun (t12:((Option Addr × Nat × Nat) × Int)) w_2 =>
  xk (t12.2 != 0) (
  zaz P (Instr.build zf #[]) .any w_2 fun (t17:Value) =>
  zby P (storeVar zf (⟨b4,0,none⟩:Addr) t17) w_2 fun w_3 =>
  ldA P 32 (⟨b4,0,none⟩:Addr) w_3 fun t4 =>
  R (.returned (Value.tuple #[(Value.agg t4),(Value.int .i64 t12.2)])) w_3) (
  xg P zr9 #[(Value.slice t12.1.1 t12.1.2.1 t12.1.2.2)] [.slc,.any] true w_2 fun (t21:((Option Addr × Nat × Nat) × Value)) w_4 =>
  zbn (zc P zf) zf w_4 fun b9 w_5 =>
  zby P (storeVar zf (⟨b9,0,none⟩:Addr) t21.2) w_5 fun w_6 =>
  xg P ze2 #[(Value.pointer s),(Value.slice t21.1.1 t21.1.2.1 t21.1.2.2)] [.int .i64] false w_6 fun (t26:Int) w_7 =>
  xk (t26 != 0) (
  zaz P (Instr.build zf #[]) .any w_7 fun (t29:Value) =>
  zby P (storeVar zf (⟨b4,0,none⟩:Addr) t29) w_7 fun w_8 =>
  ldA P 32 (⟨b4,0,none⟩:Addr) w_8 fun t4_1 =>
  R (.returned (Value.tuple #[(Value.agg t4_1),(Value.int .i64 t26)])) w_8) (
  ldA P 32 (⟨b9,0,none⟩:Addr) w_7 fun t31 =>
  zby P (storeVar zf (⟨b4,0,none⟩:Addr) (Value.agg t31)) w_7 fun w_9 =>
  ldA P 32 (⟨b4,0,none⟩:Addr) w_9 fun t4_2 =>
  R (.returned (Value.tuple #[(Value.agg t4_2),(Value.int .i64 0)])) w_9))
theorem z7a (s:Option Addr) (list:Option Addr) (list_l list_c:Nat) (R:Ending→World→Prop) (w:World):tr P qs ((Tryz.f15.body).getD .skip) znz (zb5 0 [(0,(Value.pointer s)),(0,(Value.slice list list_l list_c))]) (zco P Tryz.f15.results.toList R) w=zr2 s list list_l list_c R w:=by kernel_rfl
theorem z8n {s:Option Addr} {list:Option Addr} {list_l list_c:Nat} {R:Ending→World→Prop} {w:World} (hT:zr2 s list list_l list_c R w):qj P zr7 #[(Value.pointer s),(Value.slice list list_l list_c)] w R :=
 zx (fn:=Tryz.f15) (c:=(Tryz.f15.body).getD .skip) (ann:=znz) (args:=[(0,(Value.pointer s)),(0,(Value.slice list list_l list_c))]) (qs:=qs) mixed Tryz.func15 rfl (by kernel_rfl) (by kernel_rfl) z6e ((z7a s list list_l list_c R w).symm ▸ hT)
def zom:Ann:=(.seq .leaf (.seq (.seq .leaf (.cond (.seq .leaf .leaf) .leaf)) (.seq (.seq .leaf (.blk (.loop [(5,.int .i64)] (.seq (.seq .leaf (.cond .leaf .leaf)) (.seq (.blk (.seq (.tree (.op 0 [] (.op 1 [] (.op 2 [] (.op 4 [] (.op 5 [] (.op 6 [] (.op 3 [] (.op 7 [] (.op 8 [] .done)))))))))) (.cond (.seq .leaf .leaf) .leaf))) .leaf))))) (.seq .leaf .leaf))))
theorem z9i:okC P qs Tryz.f16.ntmps ((Tryz.f16.body).getD .skip) zom=true:=by kernel_rfl
def zsp (a:Option Addr) (a_l a_c:Nat) (b:Option Addr) (b_l b_c:Nat) (R:Ending→World→Prop) (w:World):Prop :=
  xk ((a_l:Int) != (b_l:Int)) (
  R (.returned (Value.bool false)) w) (
  zaw Int (fun s w_1 k =>
  xk (decide (s < (a_l:Int))) (
  zbi w_1 fun w_2 =>
  ixS a a_l 3 s fun t19 =>
  ixS b b_l 3 s fun t23 =>
  ldA P 3 t19 w_2 fun t20 =>
  ldA P 3 t23 w_2 fun t24 =>
  zaz P (eqM .neq zk (.tmp 20) (.tmp 24) (Value.agg t20) (Value.agg t24)) .bool w_2 fun (t25:Bool) =>
  xk t25 (
  R (.returned (Value.bool false)) w_2) (
  zba .i64 s 1 fun t16 =>
  k t16 w_2)) (
  R (.returned (Value.bool true)) w_1)) 0 w)
theorem z8p (a:Option Addr) (a_l a_c:Nat) (b:Option Addr) (b_l b_c:Nat) (R:Ending→World→Prop) (w:World):tr P qs ((Tryz.f16.body).getD .skip) zom (zb5 0 [(0,(Value.slice a a_l a_c)),(0,(Value.slice b b_l b_c))]) (zco P Tryz.f16.results.toList R) w=zsp a a_l a_c b b_l b_c R w:=by kernel_rfl
theorem z7s {a:Option Addr} {a_l a_c:Nat} {b:Option Addr} {b_l b_c:Nat} {R:Ending→World→Prop} {w:World} (hT:zsp a a_l a_c b b_l b_c R w):qj P zsi #[(Value.slice a a_l a_c),(Value.slice b b_l b_c)] w R :=
 zx (fn:=Tryz.f16) (c:=(Tryz.f16.body).getD .skip) (ann:=zom) (args:=[(0,(Value.slice a a_l a_c)),(0,(Value.slice b b_l b_c))]) (qs:=qs) mixed Tryz.func16 rfl (by kernel_rfl) (by kernel_rfl) z9i ((z8p a a_l a_c b b_l b_c R w).symm ▸ hT)
def zp9:Ann:=(.seq .leaf (.seq (.seq .leaf (.cond (.seq .leaf .leaf) .leaf)) (.seq .leaf .leaf)))
theorem qbh:okC P qs Tryz.f26.ntmps ((Tryz.f26.body).getD .skip) zp9=true:=by kernel_rfl
def zv8 (s:Option Addr) (state:Option Addr) (state_l state_c:Nat) (R:Ending→World→Prop) (w:World):Prop :=
  zbn (zc P zf) zf w fun b4 w_1 =>
  xk (decide ((state_l:Int) > 65536)) (
  zaz P (Instr.build zf #[]) .any w_1 fun (t9:Value) =>
  zby P (storeVar zf (⟨b4,0,none⟩:Addr) t9) w_1 fun w_2 =>
  ldA P 32 (⟨b4,0,none⟩:Addr) w_2 fun t4 =>
  R (.returned (Value.tuple #[(Value.agg t4),(Value.int .i64 2)])) w_2) (
  xg P zsh #[(Value.slice state state_l state_c)] [.slc] false w_1 fun (t12:(Option Addr × Nat × Nat)) w_3 =>
  xg P zr7 #[(Value.pointer s),(Value.slice t12.1 t12.2.1 t12.2.2)] [.any,.int .i64] true w_3 fun (t13:(Value × Int)) w_4 =>
  zby P (storeVar zf (⟨b4,0,none⟩:Addr) t13.1) w_4 fun w_5 =>
  ldA P 32 (⟨b4,0,none⟩:Addr) w_5 fun t4_1 =>
  R (.returned (Value.tuple #[(Value.agg t4_1),(Value.int .i64 t13.2)])) w_5)
theorem qbt (s:Option Addr) (state:Option Addr) (state_l state_c:Nat) (R:Ending→World→Prop) (w:World):tr P qs ((Tryz.f26.body).getD .skip) zp9 (zb5 0 [(0,(Value.pointer s)),(0,(Value.slice state state_l state_c))]) (zco P Tryz.f26.results.toList R) w=zv8 s state state_l state_c R w:=by kernel_rfl
theorem qbk {s:Option Addr} {state:Option Addr} {state_l state_c:Nat} {R:Ending→World→Prop} {w:World} (hT:zv8 s state state_l state_c R w):qj P zqo #[(Value.pointer s),(Value.slice state state_l state_c)] w R :=
 zx (fn:=Tryz.f26) (c:=(Tryz.f26.body).getD .skip) (ann:=zp9) (args:=[(0,(Value.pointer s)),(0,(Value.slice state state_l state_c))]) (qs:=qs) mixed Tryz.func26 rfl (by kernel_rfl) (by kernel_rfl) qbh ((qbt s state state_l state_c R w).symm ▸ hT)
def zkm:Ann:=(.seq .leaf (.seq .leaf (.seq (.seq .leaf (.blk (.loop [(4,.slc),(5,.int .i64)] (.seq (.seq .leaf (.cond .leaf .leaf)) (.seq (.blk (.seq .leaf (.seq (.seq .leaf (.cond (.seq .leaf .leaf) .leaf)) .leaf))) .leaf))))) (.seq (.seq .leaf (.blk (.loop [(8,.int .i64)] (.seq (.seq .leaf (.cond .leaf .leaf)) (.join [] (.jblk [] (.seq .leaf (.cond (.seq .leaf .leaf) .leaf))) .leaf))))) (.seq (.seq .leaf (.blk (.loop [(9,.int .i64)] (.seq (.seq .leaf (.cond .leaf .leaf)) (.seq (.blk (.seq .leaf (.cond (.seq .leaf .leaf) .leaf))) .leaf))))) (.seq (.seq .leaf (.blk (.loop [(10,.int .i64)] (.seq (.seq .leaf (.cond .leaf .leaf)) (.join [] (.jblk [] (.seq (.tree (.op 0 [] (.op 1 [] (.op 2 [] (.op 3 [] (.op 4 [] (.op 5 [] (.op 6 [] (.op 7 [] (.op 8 [] (.op 10 [] (.op 11 [] (.op 12 [] (.op 9 [] (.op 13 [] (.op 14 [] (.op 15 [] (.op 16 [] .done)))))))))))))))))) (.cond (.seq .leaf .leaf) .leaf))) .leaf))))) (.seq .leaf (.seq (.seq .leaf (.blk (.loop [(11,.bool),(12,.int .i64)] (.seq (.seq .leaf (.cond .leaf .leaf)) (.seq (.jblk [(11,.bool)] (.seq (.tree (.op 0 [] (.op 1 [] (.op 2 [] (.op 4 [] (.op 5 [] (.op 6 [] (.op 3 [] (.op 7 [] (.op 8 [] (.op 9 [] (.op 10 [] (.op 11 [] .done))))))))))))) (.seq .leaf (.join [] (.seq .leaf (.cond (.seq .leaf .leaf) .leaf)) .leaf)))) .leaf))))) (.seq (.seq .leaf (.cond (.seq .leaf .leaf) .leaf)) (.seq (.seq .leaf (.blk (.loop [(15,.int .i64)] (.seq (.seq .leaf (.cond .leaf .leaf)) (.seq (.blk (.seq .leaf (.seq (.seq .leaf (.blk (.loop [(16,.int .i64),(17,.int .i64)] (.seq (.seq .leaf (.cond .leaf .leaf)) (.seq (.jblk [(16,.int .i64)] (.seq (.tree (.op 0 [] (.op 1 [] (.op 2 [] (.op 5 [] (.op 6 [] (.op 7 [] (.op 3 [] (.op 4 [] (.op 8 [] (.op 9 [] (.op 10 [] (.op 11 [] (.op 12 [] (.op 13 [] (.op 14 [] (.op 16 [] (.op 17 [] (.op 18 [] (.op 20 [] (.op 21 [] (.op 22 [] (.op 15 [] (.op 19 [] (.op 23 [] (.op 24 [] (.op 25 [] (.op 26 [] (.op 27 [] (.op 28 [] .done)))))))))))))))))))))))))))))) (.cond .leaf .leaf))) .leaf))))) (.seq .leaf (.cond (.seq .leaf .leaf) .leaf))))) .leaf))))) (.seq .leaf (.seq (.seq .leaf (.blk (.loop [(18,.slc),(19,.int .i64)] (.seq (.seq .leaf (.cond .leaf .leaf)) (.seq (.blk (.seq .leaf (.seq .leaf .leaf))) .leaf))))) (.seq .leaf .leaf)))))))))))))
theorem z04:okC P qs Tryz.f61.ntmps ((Tryz.f61.body).getD .skip) zkm=true:=by kernel_rfl
def zo1 (list:Option Addr) (list_l list_c:Nat) (R:Ending→World→Prop) (w:World):Prop :=
  zaw ((Option Addr × Nat × Nat) × Int) (fun s w_1 k =>
  xk (decide (s.2 < (list_l:Int))) (
  ixS list list_l 3 s.2 fun t30 =>
  ld .str t30 w_1 fun (t32:ByteArray) =>
  xg P znj #[(Value.string t32)] [.slc,.int .i64] true w_1 fun (t33:((Option Addr × Nat × Nat) × Int)) w_2 =>
  xk (t33.2 != 0) (
  R (.returned (Value.tuple #[(Value.slice none 0 0),(Value.int .i64 t33.2)])) w_2) (
  zal P (Instr.buildSlice zb6 1 #[(0,(Value.slice t33.1.1 t33.1.2.1 t33.1.2.2))]) .slc w_2 fun (t41:(Option Addr × Nat × Nat)) w_3 =>
  zal P (Builtin.append_ #[zb6,zb6] zb6 #[(Value.slice s.1.1 s.1.2.1 s.1.2.2),(Value.slice t41.1 t41.2.1 t41.2.2)]) .slc w_3 fun (t42:(Option Addr × Nat × Nat)) w_4 =>
  zba .i64 s.2 1 fun t26 =>
  k ((t42.1,t42.2.1,t42.2.2),t26) w_4)) (
  zaw Int (fun s_1 w_5 k_1 =>
  xk (decide (s_1 < (list_l:Int))) (
  joinP Unit (fun k_2 =>
  joinP Unit (fun k_3 =>
  ixS list list_l 3 s_1 fun t51 =>
  ld .bool (Addr.add t51 1) w_5 fun (t53:Bool) =>
  xk t53 (
  ixS list list_l 3 s_1 fun t57 =>
  ld .str (Addr.add t57 2) w_5 fun (t59:ByteArray) =>
  xk (!(t59.toList == (ByteArray.mk #[]).toList)) (
  R (.returned (Value.tuple #[(Value.slice none 0 0),(Value.int .i64 1)])) w_5) (
  k_3 () w_5)) (
  k_3 () w_5)) (fun _ w_6 =>
  k_2 () w_6)) (fun _ w_7 =>
  zba .i64 s_1 1 fun t48 =>
  k_1 t48 w_7)) (
  zaw Int (fun s_4 w_8 k_4 =>
  xk (decide (s_4 < (list_l:Int))) (
  ixS list list_l 3 s_4 fun t70 =>
  ld .str (Addr.add t70 2) w_8 fun (t72:ByteArray) =>
  xk (decide ((t72.size:Int) > 1024)) (
  R (.returned (Value.tuple #[(Value.slice none 0 0),(Value.int .i64 134)])) w_8) (
  zba .i64 s_4 1 fun t67 =>
  k_4 t67 w_8)) (
  zaw Int (fun s_5 w_9 k_5 =>
  xk (decide (s_5 < (list_l:Int))) (
  joinP Unit (fun k_6 =>
  joinP Unit (fun k_7 =>
  zbi w_9 fun w_10 =>
  ixS s.1.1 s.1.2.1 1 s_5 fun t83 =>
  ld .slc t83 w_10 fun (t84:(Option Addr × Nat × Nat)) =>
  xk ((t84.2.1:Int) == 0) (
  R (.returned (Value.tuple #[(Value.slice none 0 0),(Value.int .i64 5)])) w_10) (
  ixS s.1.1 s.1.2.1 1 s_5 fun t93 =>
  zaz P (Instr.sliceAt zb6 (Value.slice s.1.1 s.1.2.1 s.1.2.2) none (some (Value.int .i64 s_5)) none) .slc w_10 fun (t90:(Option Addr × Nat × Nat)) =>
  ld .slc t93 w_10 fun (t94:(Option Addr × Nat × Nat)) =>
  xg P zic #[(Value.slice t90.1 t90.2.1 t90.2.2),(Value.slice t94.1 t94.2.1 t94.2.2)] [.int .i64] false w_10 fun (t95:Int) w_11 =>
  xk (decide (t95 ≥ 0)) (
  R (.returned (Value.tuple #[(Value.slice none 0 0),(Value.int .i64 5)])) w_11) (
  k_7 () w_11))) (fun _ w_12 =>
  k_6 () w_12)) (fun _ w_13 =>
  zba .i64 s_5 1 fun t80 =>
  k_5 t80 w_13)) (
  zaw (Bool × Int) (fun s_8 w_14 k_8 =>
  xk (decide (s_8.2 < (list_l:Int))) (
  joinP Bool (fun k_9 =>
  zbi w_14 fun w_15 =>
  ixS s.1.1 s.1.2.1 1 s_8.2 fun t106 =>
  ixS s.1.1 s.1.2.1 1 s_8.2 fun t110 =>
  ld .slc t106 w_15 fun (t107:(Option Addr × Nat × Nat)) =>
  ld .slc t110 w_15 fun (t111:(Option Addr × Nat × Nat)) =>
  zo9 .i64 (t111.2.1:Int) 1 fun t113 =>
  zaz P (Instr.sliceAt qp (Value.slice t107.1 t107.2.1 t107.2.2) none (some (Value.int .i64 t113)) none) .slc w_15 fun (t114:(Option Addr × Nat × Nat)) =>
  xg P zic #[(Value.slice s.1.1 s.1.2.1 s.1.2.2),(Value.slice t114.1 t114.2.1 t114.2.2)] [.int .i64] false w_15 fun (t117:Int) w_16 =>
  joinP Unit (fun k_10 =>
  xk (decide ((t114.2.1:Int) > 0)) (
  xk (decide (t117 < 0)) (
  R (.returned (Value.tuple #[(Value.slice none 0 0),(Value.int .i64 4)])) w_16) (
  k_10 () w_16)) (
  k_10 () w_16)) (fun _ w_17 =>
  xk s_8.1 (
  k_9 true w_17) (
  xk (decide ((t114.2.1:Int) > 0)) (
  ixS list list_l 3 t117 fun t133 =>
  ld .bool (Addr.add t133 1) w_17 fun (t135:Bool) =>
  k_9 (!t135) w_17) (
  k_9 false w_17)))) (fun s_10 w_18 =>
  zba .i64 s_8.2 1 fun t103 =>
  k_8 (s_10,t103) w_18)) (
  xk s_8.1 (
  R (.returned (Value.tuple #[(Value.slice none 0 0),(Value.int .i64 70)])) w_14) (
  zaw Int (fun s_11 w_19 k_11 =>
  xk (decide (s_11 < (list_l:Int))) (
  zaw (Int × Int) (fun s_12 w_20 k_12 =>
  xk (decide (s_12.2 < (list_l:Int))) (
  joinP Int (fun k_13 =>
  zbi w_20 fun w_21 =>
  ixS s.1.1 s.1.2.1 1 s_12.2 fun t154 =>
  ixS s.1.1 s.1.2.1 1 s_11 fun t159 =>
  ld .slc t154 w_21 fun (t155:(Option Addr × Nat × Nat)) =>
  ld .slc t159 w_21 fun (t160:(Option Addr × Nat × Nat)) =>
  xk ((t155.2.1:Int) == (t160.2.1:Int)) (
  ixS s.1.1 s.1.2.1 1 s_12.2 fun t166 =>
  ixS s.1.1 s.1.2.1 1 s_11 fun t170 =>
  ixS s.1.1 s.1.2.1 1 s_11 fun t174 =>
  ld .slc t166 w_21 fun (t167:(Option Addr × Nat × Nat)) =>
  ld .slc t170 w_21 fun (t171:(Option Addr × Nat × Nat)) =>
  ld .slc t174 w_21 fun (t175:(Option Addr × Nat × Nat)) =>
  zo9 .i64 (t175.2.1:Int) 1 fun t177 =>
  zaz P (Instr.sliceAt qp (Value.slice t171.1 t171.2.1 t171.2.2) none (some (Value.int .i64 t177)) none) .slc w_21 fun (t178:(Option Addr × Nat × Nat)) =>
  xg P zir #[(Value.slice t167.1 t167.2.1 t167.2.2),(Value.slice t178.1 t178.2.1 t178.2.2)] [.bool] false w_21 fun (t179:Bool) w_22 =>
  xk t179 (
  zba .i64 s_12.1 1 fun t182 =>
  k_13 t182 w_22) (
  k_13 s_12.1 w_22)) (
  k_13 s_12.1 w_21)) (fun s_13 w_23 =>
  zba .i64 s_12.2 1 fun t151 =>
  k_12 (s_13,t151) w_23)) (
  xk (decide (s_12.1 > 64)) (
  R (.returned (Value.tuple #[(Value.slice none 0 0),(Value.int .i64 8)])) w_20) (
  zba .i64 s_11 1 fun t145 =>
  k_11 t145 w_20))) (0,0) w_19) (
  zaw ((Option Addr × Nat × Nat) × Int) (fun s_14 w_24 k_14 =>
  xk (decide (s_14.2 < (list_l:Int))) (
  ixS list list_l 3 s_14.2 fun t193 =>
  ldA P 3 t193 w_24 fun t194 =>
  zbn (zc P zk) zk w_24 fun b20 w_25 =>
  zby P (storeVar zk (⟨b20,0,none⟩:Addr) (Value.agg t194)) w_25 fun w_26 =>
  ixS s.1.1 s.1.2.1 1 s_14.2 fun t197 =>
  ld .slc t197 w_26 fun (t198:(Option Addr × Nat × Nat)) =>
  xg P zqq #[(Value.slice t198.1 t198.2.1 t198.2.2)] [.str] false w_26 fun (t199:ByteArray) w_27 =>
  stC (⟨b20,0,none⟩:Addr) (Value.string t199) w_27 fun w_28 =>
  ldA P 3 (⟨b20,0,none⟩:Addr) w_28 fun t202 =>
  xg P zlr #[(Value.slice s_14.1.1 s_14.1.2.1 s_14.1.2.2),(Value.agg t202)] [.slc] false w_28 fun (t203:(Option Addr × Nat × Nat)) w_29 =>
  zba .i64 s_14.2 1 fun t190 =>
  k_14 ((t203.1,t203.2.1,t203.2.2),t190) w_29) (
  R (.returned (Value.tuple #[(Value.slice s_14.1.1 s_14.1.2.1 s_14.1.2.2),(Value.int .i64 0)])) w_24)) ((none,0,0),0) w_19)) 0 w_14))) (false,0) w_9)) 0 w_8)) 0 w_5)) 0 w_1)) ((none,0,0),0) w
theorem z1s (list:Option Addr) (list_l list_c:Nat) (R:Ending→World→Prop) (w:World):tr P qs ((Tryz.f61.body).getD .skip) zkm (zb5 0 [(0,(Value.slice list list_l list_c))]) (zco P Tryz.f61.results.toList R) w=zo1 list list_l list_c R w:=by kernel_rfl
theorem z1d {list:Option Addr} {list_l list_c:Nat} {R:Ending→World→Prop} {w:World} (hT:zo1 list list_l list_c R w):qj P zn6 #[(Value.slice list list_l list_c)] w R :=
 zx (fn:=Tryz.f61) (c:=(Tryz.f61.body).getD .skip) (ann:=zkm) (args:=[(0,(Value.slice list list_l list_c))]) (qs:=qs) mixed Tryz.func61 rfl (by kernel_rfl) (by kernel_rfl) z04 ((z1s list list_l list_c R w).symm ▸ hT)
def zog:Ann:=(.seq .leaf (.seq .leaf .leaf))
theorem z6q:okC P qs Tryz.f62.ntmps ((Tryz.f62.body).getD .skip) zog=true:=by kernel_rfl
def zrk (list:Option Addr) (list_l list_c:Nat) (R:Ending→World→Prop) (w:World):Prop :=
  zbn (zc P zf) zf w fun b3 w_1 =>
  xg P zn2 #[(Value.slice none 0 0),(Value.slice list list_l list_c),(Value.slice none 0 0)] [.slc,.any] true w_1 fun (t5:((Option Addr × Nat × Nat) × Value)) w_2 =>
  zby P (storeVar zf (⟨b3,0,none⟩:Addr) t5.2) w_2 fun w_3 =>
  ldA P 32 (⟨b3,0,none⟩:Addr) w_3 fun t3 =>
  R (.returned (Value.tuple #[(Value.slice t5.1.1 t5.1.2.1 t5.1.2.2),(Value.agg t3)])) w_3
theorem z6u (list:Option Addr) (list_l list_c:Nat) (R:Ending→World→Prop) (w:World):tr P qs ((Tryz.f62.body).getD .skip) zog (zb5 0 [(0,(Value.slice list list_l list_c))]) (zco P Tryz.f62.results.toList R) w=zrk list list_l list_c R w:=by kernel_rfl
theorem qac {list:Option Addr} {list_l list_c:Nat} {R:Ending→World→Prop} {w:World} (hT:zrk list list_l list_c R w):qj P zr9 #[(Value.slice list list_l list_c)] w R :=
 zx (fn:=Tryz.f62) (c:=(Tryz.f62.body).getD .skip) (ann:=zog) (args:=[(0,(Value.slice list list_l list_c))]) (qs:=qs) mixed Tryz.func62 rfl (by kernel_rfl) (by kernel_rfl) z6q ((z6u list list_l list_c R w).symm ▸ hT)
def zp8:Ann:=(.seq .leaf (.seq .leaf (.seq (.seq .leaf (.blk (.loop [(0,.slc),(7,.int .i64)] (.seq (.seq .leaf (.cond .leaf .leaf)) (.seq (.blk (.seq .leaf (.seq .leaf (.tree (.op 0 [] (.op 2 [] (.op 1 [] (.op 3 [1] (.op 4 [1] (.op 5 [] (.op 6 [] (.op 7 [] .done)))))))))))) .leaf))))) (.seq .leaf (.seq .leaf .leaf)))))
theorem qa4:okC P qs Tryz.f64.ntmps ((Tryz.f64.body).getD .skip) zp8=true:=by kernel_rfl
def zuy (list:Option Addr) (list_l list_c:Nat) (data:ByteArray) (R:Ending→World→Prop) (w:World):Prop :=
  zbn (zc P zf) zf w fun b5 w_1 =>
  zaz P (Instr.build zi #[(0,(Value.int .i64 2)),(2,(Value.int .i64 (data.size:Int)))]) .any w_1 fun (t12:Value) =>
  zbn (zc P zi) zi w_1 fun b6 w_2 =>
  zby P (storeVar zi (⟨b6,0,none⟩:Addr) t12) w_2 fun w_3 =>
  zaw ((Option Addr × Nat × Nat) × Int) (fun s w_4 k =>
  xk (decide (s.2 < (data.size:Int))) (
  zba .i64 s.2 64 fun t24 =>
  zaz P (Builtin.min_ #[zdf,zdf] zdf #[(Value.int .i64 (data.size:Int)),(Value.int .i64 t24)]) (.int .i64) w_4 fun (t25:Int) =>
  zaz P (Instr.sliceAt qc (Value.string data) (some (Value.int .i64 s.2)) (some (Value.int .i64 t25)) none) .str w_4 fun (t26:ByteArray) =>
  zaz P (Instr.build zi #[(0,(Value.int .i64 1)),(1,(Value.string t26))]) .any w_4 fun (t27:Value) =>
  xg P ziu #[t27] [.slc] false w_4 fun (t28:(Option Addr × Nat × Nat)) w_5 =>
  zal P (Instr.buildSlice jg 1 #[(0,(Value.slice t28.1 t28.2.1 t28.2.2))]) .slc w_5 fun (t31:(Option Addr × Nat × Nat)) w_6 =>
  zal P (Builtin.append_ #[jg,jg] jg #[(Value.slice s.1.1 s.1.2.1 s.1.2.2),(Value.slice t31.1 t31.2.1 t31.2.2)]) .slc w_6 fun (t32:(Option Addr × Nat × Nat)) w_7 =>
  zbi w_7 fun w_8 =>
  ld .slc (⟨b6,3,none⟩:Addr) w_8 fun (t34:(Option Addr × Nat × Nat)) =>
  xg P zkc #[(Value.slice t28.1 t28.2.1 t28.2.2)] [.any] false w_8 fun (t36:Value) w_9 =>
  ((ld .slc (⟨b6,3,none⟩:Addr) w_9 fun (t34_1:(Option Addr × Nat × Nat)) =>
  (Value.slice t34_1.1 t34_1.2.1 t34_1.2.2)=(Value.slice t34.1 t34.2.1 t34.2.2)) ∧
  zal P (Instr.buildSlice ku 1 #[(0,t36)]) .slc w_9 fun (t37:(Option Addr × Nat × Nat)) w_10 =>
  ((ld .slc (⟨b6,3,none⟩:Addr) w_10 fun (t34_2:(Option Addr × Nat × Nat)) =>
  (Value.slice t34_2.1 t34_2.2.1 t34_2.2.2)=(Value.slice t34.1 t34.2.1 t34.2.2)) ∧
  zal P (Builtin.append_ #[ku,ku] ku #[(Value.slice t34.1 t34.2.1 t34.2.2),(Value.slice t37.1 t37.2.1 t37.2.2)]) .slc w_10 fun (t38:(Option Addr × Nat × Nat)) w_11 =>
  stC (⟨b6,3,none⟩:Addr) (Value.slice t38.1 t38.2.1 t38.2.2) w_11 fun w_12 =>
  zba .i64 s.2 64 fun t18 =>
  k ((t32.1,t32.2.1,t32.2.2),t18) w_12))) (
  ldA P 5 (⟨b6,0,none⟩:Addr) w_4 fun t40 =>
  xg P ziu #[(Value.agg t40)] [.slc] false w_4 fun (t41:(Option Addr × Nat × Nat)) w_13 =>
  zal P (Instr.buildSlice jg 1 #[(0,(Value.slice t41.1 t41.2.1 t41.2.2))]) .slc w_13 fun (t44:(Option Addr × Nat × Nat)) w_14 =>
  zal P (Builtin.append_ #[jg,jg] jg #[(Value.slice s.1.1 s.1.2.1 s.1.2.2),(Value.slice t44.1 t44.2.1 t44.2.2)]) .slc w_14 fun (t45:(Option Addr × Nat × Nat)) w_15 =>
  xg P zkc #[(Value.slice t41.1 t41.2.1 t41.2.2)] [.any] false w_15 fun (t47:Value) w_16 =>
  zby P (storeVar zf (⟨b5,0,none⟩:Addr) t47) w_16 fun w_17 =>
  ldA P 32 (⟨b5,0,none⟩:Addr) w_17 fun t5 =>
  R (.returned (Value.tuple #[(Value.slice t45.1 t45.2.1 t45.2.2),(Value.agg t5)])) w_17)) ((list,list_l,list_c),0) w_3
theorem qbo (list:Option Addr) (list_l list_c:Nat) (data:ByteArray) (R:Ending→World→Prop) (w:World):tr P qs ((Tryz.f64.body).getD .skip) zp8 (zb5 0 [(0,(Value.slice list list_l list_c)),(0,(Value.string data))]) (zco P Tryz.f64.results.toList R) w=zuy list list_l list_c data R w:=by kernel_rfl
theorem qbw {list:Option Addr} {list_l list_c:Nat} {data:ByteArray} {R:Ending→World→Prop} {w:World} (hT:zuy list list_l list_c data R w):qj P zvz #[(Value.slice list list_l list_c),(Value.string data)] w R :=
 zx (fn:=Tryz.f64) (c:=(Tryz.f64.body).getD .skip) (ann:=zp8) (args:=[(0,(Value.slice list list_l list_c)),(0,(Value.string data))]) (qs:=qs) mixed Tryz.func64 rfl (by kernel_rfl) (by kernel_rfl) qa4 ((qbo list list_l list_c data R w).symm ▸ hT)
def zn3:Ann:=(.seq .leaf (.seq .leaf (.seq .leaf (.seq (.seq .leaf (.blk (.loop [(3,.slc),(5,.int .i64)] (.seq (.seq .leaf (.cond .leaf .leaf)) (.seq (.blk (.seq .leaf (.tree (.op 0 [] (.op 1 [] (.op 2 [] (.op 3 [] (.op 4 [] (.op 5 [] (.op 6 [] (.op 9 [] (.op 10 [] (.op 11 [] (.op 12 [] (.op 13 [] (.op 14 [] (.op 17 [] (.op 18 [] (.op 19 [] (.op 20 [] (.op 21 [] (.op 22 [] (.op 7 [] (.op 8 [] (.op 15 [] (.op 16 [] (.op 23 [] (.op 24 [] (.op 25 [] (.op 26 [] (.op 27 [] (.op 28 [] (.op 29 [] .done))))))))))))))))))))))))))))))))) .leaf))))) (.seq .leaf .leaf)))))
theorem z8j:okC P qs Tryz.f68.ntmps ((Tryz.f68.body).getD .skip) zn3=true:=by kernel_rfl
def zsx (state:Option Addr) (state_l state_c:Nat) (R:Ending→World→Prop) (w:World):Prop :=
  zaw ((Option Addr × Nat × Nat) × Int) (fun s w_1 k =>
  xk (decide (s.2 < (state_l:Int))) (
  zbi w_1 fun w_2 =>
  qig .i64 (s.1.2.1:Int) 10 fun t18 =>
  qig .i64 (s.1.2.1:Int) 10 fun t20 =>
  zba .i64 t20 1 fun t21 =>
  qju (s.1.2.1:Int) 10 fun t26 =>
  qju (s.1.2.1:Int) 10 fun t28 =>
  zba .i64 t28 1 fun t29 =>
  zba .i64 s.2 1024 fun t37 =>
  zaz P (Instr.sliceAt qc (Value.string (ByteArray.mk #[48,49,50,51,52,53,54,55,56,57])) (some (Value.int .i64 t18)) (some (Value.int .i64 t21)) none) .str w_2 fun (t22:ByteArray) =>
  qjd (ByteArray.mk #[47,112]) t22 fun t23 =>
  zaz P (Instr.sliceAt qc (Value.string (ByteArray.mk #[48,49,50,51,52,53,54,55,56,57])) (some (Value.int .i64 t26)) (some (Value.int .i64 t29)) none) .str w_2 fun (t30:ByteArray) =>
  qjd t23 t30 fun t31 =>
  zaz P (Builtin.min_ #[zdf,zdf] zdf #[(Value.int .i64 (state_l:Int)),(Value.int .i64 t37)]) (.int .i64) w_2 fun (t38:Int) =>
  zaz P (Instr.sliceAt zh (Value.slice state state_l state_c) (some (Value.int .i64 s.2)) (some (Value.int .i64 t38)) none) .slc w_2 fun (t39:(Option Addr × Nat × Nat)) =>
  zaz P (convert zh qc (Value.slice t39.1 t39.2.1 t39.2.2)) .str w_2 fun (t40:ByteArray) =>
  zaz P (Instr.build zk #[(0,(Value.string t31)),(2,(Value.string t40))]) .any w_2 fun (t41:Value) =>
  zal P (Instr.buildSlice zo 1 #[(0,t41)]) .slc w_2 fun (t42:(Option Addr × Nat × Nat)) w_3 =>
  zal P (Builtin.append_ #[zo,zo] zo #[(Value.slice s.1.1 s.1.2.1 s.1.2.2),(Value.slice t42.1 t42.2.1 t42.2.2)]) .slc w_3 fun (t43:(Option Addr × Nat × Nat)) w_4 =>
  zba .i64 s.2 1024 fun t12 =>
  k ((t43.1,t43.2.1,t43.2.2),t12) w_4) (
  R (.returned (Value.slice s.1.1 s.1.2.1 s.1.2.2)) w_1)) ((none,0,0),0) w
theorem z6k (state:Option Addr) (state_l state_c:Nat) (R:Ending→World→Prop) (w:World):tr P qs ((Tryz.f68.body).getD .skip) zn3 (zb5 0 [(0,(Value.slice state state_l state_c))]) (zco P Tryz.f68.results.toList R) w=zsx state state_l state_c R w:=by kernel_rfl
theorem z8l {state:Option Addr} {state_l state_c:Nat} {R:Ending→World→Prop} {w:World} (hT:zsx state state_l state_c R w):qj P zsh #[(Value.slice state state_l state_c)] w R :=
 zx (fn:=Tryz.f68) (c:=(Tryz.f68.body).getD .skip) (ann:=zn3) (args:=[(0,(Value.slice state state_l state_c))]) (qs:=qs) mixed Tryz.func68 rfl (by kernel_rfl) (by kernel_rfl) z8j ((z6k state state_l state_c R w).symm ▸ hT)
def zoi:Ann:=(.seq .leaf (.seq (.seq .leaf (.blk (.loop [(5,.int .i64)] (.seq (.seq .leaf (.cond .leaf .leaf)) (.seq (.blk (.seq .leaf (.cond (.seq .leaf .leaf) .leaf))) .leaf))))) (.seq .leaf .leaf)))
theorem z7o:okC P qs Tryz.f117.ntmps ((Tryz.f117.body).getD .skip) zoi=true:=by kernel_rfl
def zr6 (l:Option Addr) (l_l l_c:Nat) (p:Option Addr) (p_l p_c:Nat) (R:Ending→World→Prop) (w:World):Prop :=
  zaw Int (fun s w_1 k =>
  xk (decide (s < (l_l:Int))) (
  ixS l l_l 1 s fun t14 =>
  ld .slc t14 w_1 fun (t15:(Option Addr × Nat × Nat)) =>
  xg P zj6 #[(Value.slice t15.1 t15.2.1 t15.2.2),(Value.slice p p_l p_c)] [.int .i64] false w_1 fun (t17:Int) w_2 =>
  xk (t17 == 0) (
  R (.returned (Value.int .i64 s)) w_2) (
  zba .i64 s 1 fun t11 =>
  k t11 w_2)) (
  R (.returned (Value.int .i64 (-1))) w_1)) 0 w
theorem qaf (l:Option Addr) (l_l l_c:Nat) (p:Option Addr) (p_l p_c:Nat) (R:Ending→World→Prop) (w:World):tr P qs ((Tryz.f117.body).getD .skip) zoi (zb5 0 [(0,(Value.slice l l_l l_c)),(0,(Value.slice p p_l p_c))]) (zco P Tryz.f117.results.toList R) w=zr6 l l_l l_c p p_l p_c R w:=by kernel_rfl
theorem z9o {l:Option Addr} {l_l l_c:Nat} {p:Option Addr} {p_l p_c:Nat} {R:Ending→World→Prop} {w:World} (hT:zr6 l l_l l_c p p_l p_c R w):qj P zic #[(Value.slice l l_l l_c),(Value.slice p p_l p_c)] w R :=
 zx (fn:=Tryz.f117) (c:=(Tryz.f117.body).getD .skip) (ann:=zoi) (args:=[(0,(Value.slice l l_l l_c)),(0,(Value.slice p p_l p_c))]) (qs:=qs) mixed Tryz.func117 rfl (by kernel_rfl) (by kernel_rfl) z7o ((qaf l l_l l_c p p_l p_c R w).symm ▸ hT)
def zms:Ann:=(.seq .leaf (.seq .leaf (.seq (.jblk [(5,.int .i64)] (.loop [(5,.int .i64)] (.join [] (.seq (.tree (.op 0 [] (.op 1 [] (.op 2 [] (.op 3 [] (.op 4 [] (.op 5 [] (.op 6 [] (.op 7 [] (.op 8 [] (.op 11 [] (.op 9 [] (.op 12 [] (.op 10 [12] (.op 13 [] (.op 14 [] (.op 15 [] (.op 16 [] .done)))))))))))))))))) (.cond .leaf .leaf)) (.blk .leaf)))) (.seq .leaf (.seq .leaf (.seq .leaf .leaf))))))
theorem z3k:okC P qs Tryz.f120.ntmps ((Tryz.f120.body).getD .skip) zms=true:=by kernel_rfl
def zpw (l:Option Addr) (l_l l_c:Nat) (f:Value) (R:Ending→World→Prop) (w:World):Prop :=
  zbn (Value.cells f) zk w fun b3 w_1 =>
  joinP Int (fun k =>
  zaw Int (fun s w_2 k_1 =>
  joinP Unit (fun k_2 =>
  zbi w_2 fun w_3 =>
  xk (decide (s < (l_l:Int))) (
  ixS l l_l 3 s fun t14 =>
  ld .str t14 w_3 fun (t16:ByteArray) =>
  ld .str (⟨b3,0,none⟩:Addr) w_3 fun (t19:ByteArray) =>
  xg P zk4 #[(Value.string t16)] [.slc] false w_3 fun (t17:(Option Addr × Nat × Nat)) w_4 =>
  ((ld .str (⟨b3,0,none⟩:Addr) w_4 fun (t19_1:ByteArray) =>
  (Value.string t19_1)=(Value.string t19)) ∧
  xg P zk4 #[(Value.string t19)] [.slc] false w_4 fun (t20:(Option Addr × Nat × Nat)) w_5 =>
  xg P zj6 #[(Value.slice t17.1 t17.2.1 t17.2.2),(Value.slice t20.1 t20.2.1 t20.2.2)] [.int .i64] false w_5 fun (t21:Int) w_6 =>
  xk (decide (t21 < 0)) (
  k_2 () w_6) (
  k s w_6))) (
  ((undef=undef) ∧
  k s w_3))) (fun _ w_7 =>
  zba .i64 s 1 fun t25 =>
  k_1 t25 w_7)) 0 w_1) (fun s_2 w_8 =>
  zal P (Instr.buildSlice zo 0 #[]) .slc w_8 fun (t26:(Option Addr × Nat × Nat)) w_9 =>
  zaz P (Instr.sliceAt zo (Value.slice l l_l l_c) none (some (Value.int .i64 s_2)) none) .slc w_9 fun (t29:(Option Addr × Nat × Nat)) =>
  zal P (Builtin.append_ #[zo,zo] zo #[(Value.slice t26.1 t26.2.1 t26.2.2),(Value.slice t29.1 t29.2.1 t29.2.2)]) .slc w_9 fun (t30:(Option Addr × Nat × Nat)) w_10 =>
  ldA P 3 (⟨b3,0,none⟩:Addr) w_10 fun t32 =>
  zal P (Instr.buildSlice zo 1 #[(0,(Value.agg t32))]) .slc w_10 fun (t33:(Option Addr × Nat × Nat)) w_11 =>
  zal P (Builtin.append_ #[zo,zo] zo #[(Value.slice t30.1 t30.2.1 t30.2.2),(Value.slice t33.1 t33.2.1 t33.2.2)]) .slc w_11 fun (t34:(Option Addr × Nat × Nat)) w_12 =>
  zaz P (Instr.sliceAt zo (Value.slice l l_l l_c) (some (Value.int .i64 s_2)) none none) .slc w_12 fun (t38:(Option Addr × Nat × Nat)) =>
  zal P (Builtin.append_ #[zo,zo] zo #[(Value.slice t34.1 t34.2.1 t34.2.2),(Value.slice t38.1 t38.2.1 t38.2.2)]) .slc w_12 fun (t39:(Option Addr × Nat × Nat)) w_13 =>
  R (.returned (Value.slice t39.1 t39.2.1 t39.2.2)) w_13)
theorem z5h (l:Option Addr) (l_l l_c:Nat) (f:Value) (R:Ending→World→Prop) (w:World):tr P qs ((Tryz.f120.body).getD .skip) zms (zb5 0 [(0,(Value.slice l l_l l_c)),(1,f)]) (zco P Tryz.f120.results.toList R) w=zpw l l_l l_c f R w:=by kernel_rfl
theorem z4q {l:Option Addr} {l_l l_c:Nat} {f:Value} {R:Ending→World→Prop} {w:World} (hT:zpw l l_l l_c f R w):qj P zlr #[(Value.slice l l_l l_c),f] w R :=
 zx (fn:=Tryz.f120) (c:=(Tryz.f120.body).getD .skip) (ann:=zms) (args:=[(0,(Value.slice l l_l l_c)),(1,f)]) (qs:=qs) mixed Tryz.func120 rfl (by kernel_rfl) (by kernel_rfl) z3k ((z5h l l_l l_c f R w).symm ▸ hT)
def zov:Ann:=(.seq .leaf (.seq .leaf (.seq (.seq .leaf (.blk (.loop [(0,.slc),(9,.int .i64)] (.seq (.seq .leaf (.cond .leaf .leaf)) (.seq (.jblk [(0,.slc)] (.seq .leaf (.join [] (.seq .leaf (.cond .leaf .leaf)) (.seq .leaf (.join [(0,.slc)] (.seq .leaf (.cond (.seq .leaf (.seq .leaf (.seq .leaf .leaf))) (.seq .leaf (.seq .leaf .leaf)))) .leaf))))) .leaf))))) (.seq .leaf (.seq .leaf .leaf)))))
theorem z8c:okC P qs Tryz.f121.ntmps ((Tryz.f121.body).getD .skip) zov=true:=by kernel_rfl
def zsa (blobs:Option Addr) (blobs_l blobs_c:Nat) (list:Option Addr) (list_l list_c:Nat) (dir:Option Addr) (dir_l zxh:Nat) (R:Ending→World→Prop) (w:World):Prop :=
  zbn (zc P zf) zf w fun b7 w_1 =>
  zaz P (Instr.build zi #[(0,(Value.int .i64 3))]) .any w_1 fun (t17:Value) =>
  zbn (zc P zi) zi w_1 fun b8 w_2 =>
  zby P (storeVar zi (⟨b8,0,none⟩:Addr) t17) w_2 fun w_3 =>
  zaw ((Option Addr × Nat × Nat) × Int) (fun s w_4 k =>
  xk (decide (s.2 < (list_l:Int))) (
  joinP (Option Addr × Nat × Nat) (fun k_1 =>
  ixS list list_l 3 s.2 fun t26 =>
  ld .str t26 w_4 fun (t28:ByteArray) =>
  xg P zk4 #[(Value.string t28)] [.slc] false w_4 fun (t29:(Option Addr × Nat × Nat)) w_5 =>
  joinP Unit (fun k_2 =>
  zba .i64 (dir_l:Int) 1 fun t34 =>
  xk ((t29.2.1:Int) != t34) (
  k_1 (s.1.1,s.1.2.1,s.1.2.2) w_5) (
  xg P zir #[(Value.slice t29.1 t29.2.1 t29.2.2),(Value.slice dir dir_l zxh)] [.bool] false w_5 fun (t39:Bool) w_6 =>
  xk (!t39) (
  k_1 (s.1.1,s.1.2.1,s.1.2.2) w_6) (
  k_2 () w_6))) (fun _ w_7 =>
  zo9 .i64 (t29.2.1:Int) 1 fun t45 =>
  ixS t29.1 t29.2.1 1 t45 fun t46 =>
  ld .str t46 w_7 fun (t47:ByteArray) =>
  zaz P (Instr.build ql #[(0,(Value.string t47)),(1,(Value.int .i64 2))]) .any w_7 fun (t48:Value) =>
  zbn (zc P ql) ql w_7 fun b11 w_8 =>
  zby P (storeVar ql (⟨b11,0,none⟩:Addr) t48) w_8 fun w_9 =>
  joinP (Option Addr × Nat × Nat) (fun k_3 =>
  ixS list list_l 3 s.2 fun t51 =>
  ld .bool (Addr.add t51 1) w_9 fun (t53:Bool) =>
  xk t53 (
  stC (⟨b11,1,none⟩:Addr) (Value.int .i64 3) w_9 fun w_10 =>
  xg P zn2 #[(Value.slice s.1.1 s.1.2.1 s.1.2.2),(Value.slice list list_l list_c),(Value.slice t29.1 t29.2.1 t29.2.2)] [.slc,.any] true w_10 fun (t59:((Option Addr × Nat × Nat) × Value)) w_11 =>
  zbn (zc P zf) zf w_11 fun b13 w_12 =>
  zby P (storeVar zf (⟨b13,0,none⟩:Addr) t59.2) w_12 fun w_13 =>
  ldA P 32 (⟨b13,0,none⟩:Addr) w_13 fun t63 =>
  zby P (storeVar zf (⟨b11,2,none⟩:Addr) (Value.agg t63)) w_13 fun w_14 =>
  k_3 (t59.1.1,t59.1.2.1,t59.1.2.2) w_14) (
  ixS list list_l 3 s.2 fun t69 =>
  ld .str (Addr.add t69 2) w_9 fun (t71:ByteArray) =>
  xg P zvz #[(Value.slice s.1.1 s.1.2.1 s.1.2.2),(Value.string t71)] [.slc,.any] true w_9 fun (t72:((Option Addr × Nat × Nat) × Value)) w_15 =>
  zbn (zc P zf) zf w_15 fun b15 w_16 =>
  zby P (storeVar zf (⟨b15,0,none⟩:Addr) t72.2) w_16 fun w_17 =>
  ldA P 32 (⟨b15,0,none⟩:Addr) w_17 fun t76 =>
  zby P (storeVar zf (⟨b11,2,none⟩:Addr) (Value.agg t76)) w_17 fun w_18 =>
  k_3 (t72.1.1,t72.1.2.1,t72.1.2.2) w_18)) (fun s_2 w_19 =>
  ld .slc (⟨b8,4,none⟩:Addr) w_19 fun (t79:(Option Addr × Nat × Nat)) =>
  ldA P 34 (⟨b11,0,none⟩:Addr) w_19 fun t80 =>
  zal P (Instr.buildSlice zai 1 #[(0,(Value.agg t80))]) .slc w_19 fun (t81:(Option Addr × Nat × Nat)) w_20 =>
  zal P (Builtin.append_ #[zai,zai] zai #[(Value.slice t79.1 t79.2.1 t79.2.2),(Value.slice t81.1 t81.2.1 t81.2.2)]) .slc w_20 fun (t82:(Option Addr × Nat × Nat)) w_21 =>
  stC (⟨b8,4,none⟩:Addr) (Value.slice t82.1 t82.2.1 t82.2.2) w_21 fun w_22 =>
  k_1 (s_2.1,s_2.2.1,s_2.2.2) w_22))) (fun s_3 w_23 =>
  zba .i64 s.2 1 fun t23 =>
  k ((s_3.1,s_3.2.1,s_3.2.2),t23) w_23)) (
  ldA P 5 (⟨b8,0,none⟩:Addr) w_4 fun t84 =>
  xg P ziu #[(Value.agg t84)] [.slc] false w_4 fun (t85:(Option Addr × Nat × Nat)) w_24 =>
  zal P (Instr.buildSlice jg 1 #[(0,(Value.slice t85.1 t85.2.1 t85.2.2))]) .slc w_24 fun (t88:(Option Addr × Nat × Nat)) w_25 =>
  zal P (Builtin.append_ #[jg,jg] jg #[(Value.slice s.1.1 s.1.2.1 s.1.2.2),(Value.slice t88.1 t88.2.1 t88.2.2)]) .slc w_25 fun (t89:(Option Addr × Nat × Nat)) w_26 =>
  xg P zkc #[(Value.slice t85.1 t85.2.1 t85.2.2)] [.any] false w_26 fun (t91:Value) w_27 =>
  zby P (storeVar zf (⟨b7,0,none⟩:Addr) t91) w_27 fun w_28 =>
  ldA P 32 (⟨b7,0,none⟩:Addr) w_28 fun t7 =>
  R (.returned (Value.tuple #[(Value.slice t89.1 t89.2.1 t89.2.2),(Value.agg t7)])) w_28)) ((blobs,blobs_l,blobs_c),0) w_3
theorem z7v (blobs:Option Addr) (blobs_l blobs_c:Nat) (list:Option Addr) (list_l list_c:Nat) (dir:Option Addr) (dir_l zxh:Nat) (R:Ending→World→Prop) (w:World):tr P qs ((Tryz.f121.body).getD .skip) zov (zb5 0 [(0,(Value.slice blobs blobs_l blobs_c)),(0,(Value.slice list list_l list_c)),(0,(Value.slice dir dir_l zxh))]) (zco P Tryz.f121.results.toList R) w=zsa blobs blobs_l blobs_c list list_l list_c dir dir_l zxh R w:=by kernel_rfl
theorem z6s {blobs:Option Addr} {blobs_l blobs_c:Nat} {list:Option Addr} {list_l list_c:Nat} {dir:Option Addr} {dir_l zxh:Nat} {R:Ending→World→Prop} {w:World} (hT:zsa blobs blobs_l blobs_c list list_l list_c dir dir_l zxh R w):qj P zn2 #[(Value.slice blobs blobs_l blobs_c),(Value.slice list list_l list_c),(Value.slice dir dir_l zxh)] w R :=
 zx (fn:=Tryz.f121) (c:=(Tryz.f121.body).getD .skip) (ann:=zov) (args:=[(0,(Value.slice blobs blobs_l blobs_c)),(0,(Value.slice list list_l list_c)),(0,(Value.slice dir dir_l zxh))]) (qs:=qs) mixed Tryz.func121 rfl (by kernel_rfl) (by kernel_rfl) z8c ((z7v blobs blobs_l blobs_c list list_l list_c dir dir_l zxh R w).symm ▸ hT)
def znk:Ann:=(.seq .leaf (.seq .leaf (.seq .leaf .leaf)))
theorem z7t:okC P qs Tryz.f174.ntmps ((Tryz.f174.body).getD .skip) znk=true:=by kernel_rfl
def zsq (path:ByteArray) (R:Ending→World→Prop) (w:World):Prop :=
  xg P znj #[(Value.string path)] [.slc,.int .i64] true w fun (t7:((Option Addr × Nat × Nat) × Int)) w_1 =>
  R (.returned (Value.slice t7.1.1 t7.1.2.1 t7.1.2.2)) w_1
theorem z98 (path:ByteArray) (R:Ending→World→Prop) (w:World):tr P qs ((Tryz.f174.body).getD .skip) znk (zb5 0 [(0,(Value.string path))]) (zco P Tryz.f174.results.toList R) w=zsq path R w:=by kernel_rfl
theorem z6v {path:ByteArray} {R:Ending→World→Prop} {w:World} (hT:zsq path R w):qj P zk4 #[(Value.string path)] w R :=
 zx (fn:=Tryz.f174) (c:=(Tryz.f174.body).getD .skip) (ann:=znk) (args:=[(0,(Value.string path))]) (qs:=qs) mixed Tryz.func174 rfl (by kernel_rfl) (by kernel_rfl) z7t ((z98 path R w).symm ▸ hT)
set_option maxRecDepth 100000
def zhv:Ann:=(.seq .leaf (.seq (.seq .leaf (.cond (.seq .leaf .leaf) .leaf)) (.seq (.seq .leaf (.cond (.seq .leaf .leaf) .leaf)) (.seq .leaf (.seq .leaf (.seq .leaf (.seq .leaf (.join [] (.seq (.tree (.op 0 [] (.op 1 [] (.op 2 [] (.op 3 [] (.op 4 [] (.op 5 [] (.op 6 [] (.op 7 [] (.op 8 [] (.op 9 [] (.op 11 [] (.op 12 [] (.op 13 [] (.op 14 [] (.op 15 [] (.op 10 [14] (.op 16 [] (.op 17 [] (.op 18 [] (.op 19 [] (.op 21 [] (.op 20 [] (.op 22 [] (.op 23 [] (.op 24 [] .done)))))))))))))))))))))))))) (.cond (.seq .leaf .leaf) .leaf)) (.seq .leaf (.seq .leaf (.seq .leaf (.seq .leaf (.seq .leaf .leaf)))))))))))))
theorem zw0:okC P qs Tryz.f5.ntmps ((Tryz.f5.body).getD .skip) zhv=true:=by kernel_rfl
def zku (state:Option Addr) (state_l state_c:Nat) (quota:Int) (R:Ending→World→Prop) (w:World):Prop :=
  xg P zr4 #[] [.bool] false w fun (t18:Bool) w_1 =>
  xk (!t18) (
  R (.returned (Value.bool false)) w_1) (
  xk (decide ((state_l:Int) > 140000)) (
  R (.returned (Value.bool true)) w_1) (
  xg P zm7 #[(Value.int .i64 quota)] [.ptr] false w_1 fun (t24:(Option Addr)) w_2 =>
  xg P ztf #[(Value.int .i64 quota)] [.ptr] false w_2 fun (t26:(Option Addr)) w_3 =>
  xg P zf9 #[(Value.pointer t24),(Value.slice state state_l state_c)] [.any,.int .i64] true w_3 fun (t30:(Value × Int)) w_4 =>
  zbn (zc P zf) zf w_4 fun b7 w_5 =>
  zby P (storeVar zf (⟨b7,0,none⟩:Addr) t30.1) w_5 fun w_6 =>
  xg P zqo #[(Value.pointer t26),(Value.slice state state_l state_c)] [.any,.int .i64] true w_6 fun (t36:(Value × Int)) w_7 =>
  zbn (zc P zf) zf w_7 fun b9 w_8 =>
  zby P (storeVar zf (⟨b9,0,none⟩:Addr) t36.1) w_8 fun w_9 =>
  joinP Unit (fun k =>
  zbi w_9 fun w_10 =>
  ldA P 32 (⟨b7,0,none⟩:Addr) w_10 fun t39 =>
  ldA P 32 (⟨b9,0,none⟩:Addr) w_10 fun t40 =>
  zaz P (eqM .neq zf (.tmp 39) (.tmp 40) (Value.agg t39) (Value.agg t40)) .bool w_10 fun (t41:Bool) =>
  xk t41 (
  ((undef=undef) ∧
  R (.returned (Value.bool false)) w_10)) (
  xk (t30.2 != t36.2) (
  ((undef=undef) ∧
  R (.returned (Value.bool false)) w_10)) (
  zu t26 fun p =>
  ld .slc (Addr.add p 1) w_10 fun (t53:(Option Addr × Nat × Nat)) =>
  xg P zho #[(Value.pointer t24)] [.int .i64] false w_10 fun (t49:Int) w_11 =>
  ((ld .slc (Addr.add p 1) w_11 fun (t53_1:(Option Addr × Nat × Nat)) =>
  (Value.slice t53_1.1 t53_1.2.1 t53_1.2.2)=(Value.slice t53.1 t53.2.1 t53.2.2)) ∧
  xk (t49 != (t53.2.1:Int)) (
  R (.returned (Value.bool false)) w_11) (
  xg P zhn #[(Value.pointer t24)] [.int .i64] false w_11 fun (t59:Int) w_12 =>
  xg P zfh #[(Value.pointer t26)] [.int .i64] false w_12 fun (t61:Int) w_13 =>
  xk (t59 != t61) (
  R (.returned (Value.bool false)) w_13) (
  k () w_13)))))) (fun _ w_14 =>
  xg P zsf #[(Value.slice state state_l state_c)] [.any,.int .i64] true w_14 fun (t66:(Value × Int)) w_15 =>
  zbn (zc P zf) zf w_15 fun b11 w_16 =>
  zby P (storeVar zf (⟨b11,0,none⟩:Addr) t66.1) w_16 fun w_17 =>
  xg P ztf #[(Value.int .i64 1073741824)] [.ptr] false w_17 fun (t69:(Option Addr)) w_18 =>
  xg P zqo #[(Value.pointer t69),(Value.slice state state_l state_c)] [.any,.int .i64] true w_18 fun (t73:(Value × Int)) w_19 =>
  zbn (zc P zf) zf w_19 fun b14 w_20 =>
  zby P (storeVar zf (⟨b14,0,none⟩:Addr) t73.1) w_20 fun w_21 =>
  xg P zf9 #[(Value.pointer none),(Value.slice state state_l state_c)] [.any,.int .i64] true w_21 fun (t78:(Value × Int)) w_22 =>
  zbn (zc P zf) zf w_22 fun b16 w_23 =>
  zby P (storeVar zf (⟨b16,0,none⟩:Addr) t78.1) w_23 fun w_24 =>
  ldA P 32 (⟨b11,0,none⟩:Addr) w_24 fun t81 =>
  ldA P 32 (⟨b14,0,none⟩:Addr) w_24 fun t82 =>
  zaz P (eqM .eql zf (.tmp 81) (.tmp 82) (Value.agg t81) (Value.agg t82)) .bool w_24 fun (t83:Bool) =>
  xk t83 (
  xk (t66.2 == t73.2) (
  R (.returned (Value.bool (t78.2 == 7))) w_24) (
  R (.returned (Value.bool false)) w_24)) (
  R (.returned (Value.bool false)) w_24))))
theorem zw1 (state:Option Addr) (state_l state_c:Nat) (quota:Int) (R:Ending→World→Prop) (w:World):tr P qs ((Tryz.f5.body).getD .skip) zhv (zb5 0 [(0,(Value.slice state state_l state_c)),(0,(Value.int .i64 quota))]) (zco P Tryz.f5.results.toList R) w=zku state state_l state_c quota R w:=by kernel_rfl
theorem zw3 {state:Option Addr} {state_l state_c:Nat} {quota:Int} {R:Ending→World→Prop} {w:World} (hT:zku state state_l state_c quota R w):qj P zp6 #[(Value.slice state state_l state_c),(Value.int .i64 quota)] w R :=
 zx (fn:=Tryz.f5) (c:=(Tryz.f5.body).getD .skip) (ann:=zhv) (args:=[(0,(Value.slice state state_l state_c)),(0,(Value.int .i64 quota))]) (qs:=qs) mixed Tryz.func5 rfl (by kernel_rfl) (by kernel_rfl) zw0 ((zw1 state state_l state_c quota R w).symm ▸ hT)
def znx:Ann:=(.seq .leaf (.seq .leaf (.seq .leaf (.seq .leaf (.seq .leaf (.seq .leaf .leaf))))))
theorem z7l:okC P qs Tryz.f22.ntmps ((Tryz.f22.body).getD .skip) znx=true:=by kernel_rfl
def zs3  (R:Ending→World→Prop) (w:World):Prop :=
  xg P zm7 #[(Value.int .i64 65536)] [.ptr] false w fun (t8:(Option Addr)) w_1 =>
  zal P (Instr.buildSlice zh 5 #[(0,(Value.int .u8 115)),(1,(Value.int .u8 116)),(2,(Value.int .u8 97)),(3,(Value.int .u8 116)),(4,(Value.int .u8 101))]) .slc w_1 fun (t11:(Option Addr × Nat × Nat)) w_2 =>
  zal P (convert zh zh (Value.slice t11.1 t11.2.1 t11.2.2)) .slc w_2 fun (t12:(Option Addr × Nat × Nat)) w_3 =>
  xg P zf9 #[(Value.pointer t8),(Value.slice t12.1 t12.2.1 t12.2.2)] [.any,.int .i64] true w_3 fun (t13:(Value × Int)) w_4 =>
  zbn (zc P zf) zf w_4 fun b2 w_5 =>
  zby P (storeVar zf (⟨b2,0,none⟩:Addr) t13.1) w_5 fun w_6 =>
  ldA P 32 (⟨b2,0,none⟩:Addr) w_6 fun t18 =>
  xg P zo5 #[(Value.pointer t8),(Value.agg t18)] [.slc,.int .i64] true w_6 fun (t19:((Option Addr × Nat × Nat) × Int)) w_7 =>
  ldA P 32 (⟨b2,0,none⟩:Addr) w_7 fun t24 =>
  xg P znt #[(Value.pointer t8),(Value.agg t24)] [.slc,.int .i64] true w_7 fun (t25:((Option Addr × Nat × Nat) × Int)) w_8 =>
  xk (t13.2 == 0) (
  xk (t19.2 == 0) (
  zaz P (convert zh qc (Value.slice t19.1.1 t19.1.2.1 t19.1.2.2)) .str w_8 fun (t36:ByteArray) =>
  xk (t36.toList == (ByteArray.mk #[115,116,97,116,101]).toList) (
  xk (t25.2 == 0) (
  zaz P (Instr.build zk #[(0,(Value.string (ByteArray.mk #[47,112,48,48]))),(2,(Value.string (ByteArray.mk #[115,116,97,116,101])))]) .any w_8 fun (t45:Value) =>
  zal P (Instr.buildSlice zo 1 #[(0,t45)]) .slc w_8 fun (t46:(Option Addr × Nat × Nat)) w_9 =>
  xg P zsi #[(Value.slice t25.1.1 t25.1.2.1 t25.1.2.2),(Value.slice t46.1 t46.2.1 t46.2.2)] [.bool] false w_9 fun (t47:Bool) w_10 =>
  R (.returned (Value.bool t47)) w_10) (
  R (.returned (Value.bool false)) w_8)) (
  R (.returned (Value.bool false)) w_8)) (
  R (.returned (Value.bool false)) w_8)) (
  R (.returned (Value.bool false)) w_8)
theorem z8s  (R:Ending→World→Prop) (w:World):tr P qs ((Tryz.f22.body).getD .skip) znx (zb5 0 []) (zco P Tryz.f22.results.toList R) w=zs3  R w:=by kernel_rfl
theorem z6g  {R:Ending→World→Prop} {w:World} (hT:zs3  R w):qj P zr4 #[] w R :=
 zx (fn:=Tryz.f22) (c:=(Tryz.f22.body).getD .skip) (ann:=znx) (args:=[]) (qs:=qs) mixed Tryz.func22 rfl (by kernel_rfl) (by kernel_rfl) z7l ((z8s  R w).symm ▸ hT)
set_option maxRecDepth 100000
end Go.Proofs.YtbmegmbnlajbbaaGreatDoor
namespace Go.Fw
open Go
abbrev Heap:=Array Obj
@[simp] theorem xq {a:Addr} {K:Addr→Prop}:zu (some a) K=K a:=rfl
theorem zab {b:Bool} {A B:Prop} (h:b=true) (hA:A):xk b A B:=⟨fun _=>hA,fun h'=>(by rw [h] at h';cases h')⟩
theorem jl {b:Bool} {A B:Prop} (h:b=false) (hB:B):xk b A B:=⟨fun h'=>(by rw [h] at h';cases h'),fun _=>hB⟩
theorem zq {p:Prop} [Decidable p] {A B:Prop} (hA:p→A) (hB:¬ p→B):xk (decide p) A B:=⟨fun h=>hA (of_decide_eq_true h),fun h=>hB (of_decide_eq_false h)⟩
theorem zfc {p:Prop} {b:Bool} {A B:Prop} (h:b=true ↔ p) (hA:p→A) (hB:¬ p→B):xk b A B :=
 ⟨fun h'=>hA (h.1 h'),fun h'=>hB fun hp=>by rw [h.2 hp] at h';cases h'⟩
theorem zb3 {a b:Int} {A B:Prop} (hA:a=b→A) (hB:a ≠ b→B):xk (a == b) A B:=zfc (by simp) hA hB
theorem zb1 {a b:Int} {A B:Prop} (hA:a ≠ b→A) (hB:a=b→B):xk (a != b) A B:=zfc (p:=a ≠ b) (by simp) hA fun h=>hB (by omega)
theorem wrap_i64 {n:Int} (h1:-9223372036854775808≤n) (h2:n≤9223372036854775807):IntKind.i64.wrap n=n:=by
 simp only [IntKind.wrap,IntKind.bits,IntKind.signed]
 have e:(2:Int) ^ 64=18446744073709551616:=by decide
 have e':(2:Int) ^ (64 - 1)=9223372036854775808:=by decide
 simp only [e,e',Bool.true_and]
 split
 ·rename_i h;simp at h;omega
 ·rename_i h;simp at h;omega
theorem wrap_u64 {n:Int} (h1:0≤n) (h2:n < 18446744073709551616):IntKind.u64.wrap n=n:=by
 simp only [IntKind.wrap,IntKind.bits,IntKind.signed]
 have e:(2:Int) ^ 64=18446744073709551616:=by decide
 simp only [e,Bool.false_and,Bool.false_eq_true,if_false]
 omega
theorem qlc {a b:Int} {K:Int→Prop} (h1:-9223372036854775808≤a+b) (h2:a+b≤9223372036854775807) (hK:K (a+b)):zba .i64 a b K:=⟨_,(wrap_i64 h1 h2).symm,hK⟩
theorem qlh {a b:Int} {K:Int→Prop} (h1:-9223372036854775808≤a - b) (h2:a - b≤9223372036854775807) (hK:K (a - b)):zo9 .i64 a b K:=⟨_,(wrap_i64 h1 h2).symm,hK⟩
theorem qk1 {a b:Int} {K:Int→Prop} (h1:-9223372036854775808≤a * b) (h2:a * b≤9223372036854775807) (hK:K (a * b)):z0d .i64 a b K:=⟨_,(wrap_i64 h1 h2).symm,hK⟩
theorem xu {a b:Int} {K:Int→Prop} (c:Int) (hc:a+b=c) (h1:-9223372036854775808≤c) (h2:c≤9223372036854775807) (hK:K c):zba .i64 a b K:=by subst hc;exact qlc h1 h2 hK
theorem zbu {a b:Int} {K:Int→Prop} (c:Int) (hc:a - b=c) (h1:-9223372036854775808≤c) (h2:c≤9223372036854775807) (hK:K c):zo9 .i64 a b K:=by subst hc;exact qlh h1 h2 hK
theorem zfq {a b:Int} {K:Int→Prop} (c:Int) (hc:a * b=c) (h1:-9223372036854775808≤c) (h2:c≤9223372036854775807) (hK:K c):z0d .i64 a b K:=by subst hc;exact qk1 h1 h2 hK
theorem zp0 {a:Int} {K:Int→Prop} (h1:0≤a) (h2:a < 18446744073709551616) (hK:K a):cvI .u64 a K:=⟨_,(wrap_u64 h1 h2).symm,hK⟩
theorem z4e {a:Int} {K:Int→Prop} (h1:-9223372036854775808≤a) (h2:a≤9223372036854775807) (hK:K a):cvI .i64 a K:=⟨_,(wrap_i64 h1 h2).symm,hK⟩
theorem zf5 {n:Nat} (x:BitVec n):BitVec.ofInt n (x.toNat:Int)=x:=by
 apply BitVec.eq_of_toNat_eq
 simp
theorem zid (m:Nat):IntKind.u32.wrap (m:Int)=((m % 4294967296:Nat):Int):=by
 simp only [IntKind.wrap,IntKind.bits,IntKind.signed]
 have e:(2:Int) ^ 32=4294967296:=by decide
 simp only [e,Bool.false_and,Bool.false_eq_true,if_false]
 omega
theorem qer (m:Nat):IntKind.u64.wrap (m:Int)=((m % 18446744073709551616:Nat):Int):=by
 simp only [IntKind.wrap,IntKind.bits,IntKind.signed]
 have e:(2:Int) ^ 64=18446744073709551616:=by decide
 simp only [e,Bool.false_and,Bool.false_eq_true,if_false]
 omega
theorem zkk (m:Nat):IntKind.u8.wrap (m:Int)=((m % 256:Nat):Int):=by
 simp only [IntKind.wrap,IntKind.bits,IntKind.signed]
 have e:(2:Int) ^ 8=256:=by decide
 simp only [e,Bool.false_and,Bool.false_eq_true,if_false]
 omega
section w32
variable {K:Int→Prop} (x y:BitVec 32)
theorem z0c (hK:K ((x+y).toNat:Int)):zba .u32 (x.toNat:Int) (y.toNat:Int) K:=by
 refine ⟨_,?_,hK⟩
 rw [← Int.natCast_add,zid]
 simp [BitVec.toNat_add]
theorem qib (hK:K ((x &&& y).toNat:Int)):qbj .u32 (x.toNat:Int) (y.toNat:Int) K:=by
 refine ⟨_,?_,hK⟩
 change _=IntKind.u32.wrap ((BitVec.ofInt 32 (x.toNat:Int) &&& BitVec.ofInt 32 (y.toNat:Int)).toNat:Int)
 rw [zf5,zf5,zid,Nat.mod_eq_of_lt (BitVec.isLt _)]
theorem orW (hK:K ((x ||| y).toNat:Int)):orI .u32 (x.toNat:Int) (y.toNat:Int) K:=by
 refine ⟨_,?_,hK⟩
 change _=IntKind.u32.wrap ((BitVec.ofInt 32 (x.toNat:Int) ||| BitVec.ofInt 32 (y.toNat:Int)).toNat:Int)
 rw [zf5,zf5,zid,Nat.mod_eq_of_lt (BitVec.isLt _)]
theorem z0f (hK:K ((x ^^^ y).toNat:Int)):zrj .u32 (x.toNat:Int) (y.toNat:Int) K:=by
 refine ⟨_,?_,hK⟩
 change _=IntKind.u32.wrap ((BitVec.ofInt 32 (x.toNat:Int) ^^^ BitVec.ofInt 32 (y.toNat:Int)).toNat:Int)
 rw [zf5,zf5,zid,Nat.mod_eq_of_lt (BitVec.isLt _)]
theorem qdq (hK:K ((~~~ x).toNat:Int)):zrj .u32 (IntKind.max .u32) (x.toNat:Int) K:=by
 refine ⟨_,?_,hK⟩
 change _=IntKind.u32.wrap ((BitVec.ofInt 32 (IntKind.max .u32) ^^^ BitVec.ofInt 32 (x.toNat:Int)).toNat:Int)
 rw [zf5,zid,Nat.mod_eq_of_lt (BitVec.isLt _)]
 have:BitVec.ofInt 32 (IntKind.max .u32)=BitVec.allOnes 32:=by decide
 rw [this,BitVec.allOnes_xor]
theorem qjn (hK:K ((~~~ x).toNat:Int)):zrj .u32 4294967295 (x.toNat:Int) K:=qdq x hK
theorem ql2 {i:Int} (n:Nat) (hi:i=(n:Int)) (hn:n≤32) (hK:K ((x <<< n).toNat:Int)):qia .u32 (x.toNat:Int) i K:=by
 subst hi
 refine ⟨by omega,_,?_,hK⟩
 have h1:min (n:Int).toNat IntKind.u32.bits=n:=by simp [IntKind.bits];omega
 rw [h1]
 have h2:((x.toNat:Int) * 2 ^ n)=((x.toNat * 2 ^ n:Nat):Int):=by simp
 rw [h2,zid]
 simp [BitVec.toNat_shiftLeft,Nat.shiftLeft_eq]
theorem qif {i:Int} (n:Nat) (hi:i=(n:Int)) (hn:n≤32) (hK:K ((x >>> n).toNat:Int)):z5y .u32 (x.toNat:Int) i K:=by
 subst hi
 refine ⟨by omega,_,?_,hK⟩
 have h1:min (n:Int).toNat IntKind.u32.bits=n:=by simp [IntKind.bits];omega
 rw [h1]
 have h2:(2:Int) ^ n=((2 ^ n:Nat):Int):=by simp
 rw [h2,BitVec.toNat_ushiftRight,Nat.shiftRight_eq_div_pow,Int.fdiv_eq_ediv_of_nonneg _ (Int.natCast_nonneg _)]
 rfl
end w32
theorem qmq {i:Int} {m:Nat} (n:Nat) (hi:i=(n:Int)) (hn:n≤64) {K:Int→Prop} (hK:K ((m / 2 ^ n:Nat):Int)):z5y .u64 (m:Int) i K:=by
 subst hi
 refine ⟨by omega,_,?_,hK⟩
 have h1:min (n:Int).toNat IntKind.u64.bits=n:=by simp [IntKind.bits];omega
 rw [h1]
 have h2:(2:Int) ^ n=((2 ^ n:Nat):Int):=by simp
 rw [h2,Int.fdiv_eq_ediv_of_nonneg _ (Int.natCast_nonneg _)]
 rfl
theorem cv8 {m:Nat} {K:Int→Prop} (hK:K ((UInt8.ofNat m).toNat:Int)):cvI .u8 (m:Int) K:=by
 refine ⟨_,?_,hK⟩
 rw [zkk]
 simp
theorem qkd {a b:Int} {K:Int→Prop} (c:Int) (hc:a * b=c) (h1:0≤c) (h2:c < 18446744073709551616) (hK:K c):z0d .u64 a b K:=by
 subst hc
 exact ⟨_,(wrap_u64 h1 h2).symm,hK⟩
def b32 (b:UInt8):BitVec 32:=BitVec.ofNat 32 b.toNat
theorem cvB {b:UInt8} {K:Int→Prop} (hK:K ((b32 b).toNat:Int)):cvI .u32 (b.toNat:Int) K:=by
 refine ⟨_,?_,hK⟩
 rw [zid]
 simp [b32]
def lo8 (x:BitVec 32):UInt8:=UInt8.ofNat x.toNat
theorem cvL (x:BitVec 32) {K:Int→Prop} (hK:K ((lo8 x).toNat:Int)):cvI .u8 (x.toNat:Int) K:=by
 refine ⟨_,?_,hK⟩
 rw [zkk]
 simp [lo8]
def Bytes (c:Array Value) (o:Nat) (f:Nat→UInt8) (n:Nat):Prop:=∀ i,i < n→c[o+i]?=some (.int .u8 ((f i).toNat:Int))
def Words (c:Array Value) (o:Nat) (f:Nat→BitVec 32) (n:Nat):Prop:=∀ i,i < n→c[o+i]?=some (.int .u32 ((f i).toNat:Int))
theorem Words.at {c:Array Value} {f:Nat→BitVec 32} {n:Nat} (h:Words c 0 f n) (i:Nat) (hi:i < n):c[i]?=some (.int .u32 ((f i).toNat:Int)):=by simpa using h i hi
theorem Words.snoc {c:Array Value} {f:Nat→BitVec 32} {n:Nat} (h:Words c 0 f n) (hn:n < c.size) {x:BitVec 32} (hx:x=f n):Words (c.setIfInBounds n (.int .u32 (x.toNat:Int))) 0 f (n+1):=by
 intro i hi
 subst hx
 by_cases e:i=n
 ·subst e;simp [hn]
 ·rw [Array.getElem?_setIfInBounds_ne (by omega)];exact h i (by omega)
theorem Bytes.at {c:Array Value} {f:Nat→UInt8} {n:Nat} (h:Bytes c 0 f n) (i:Nat) (hi:i < n):c[i]?=some (.int .u8 ((f i).toNat:Int)):=by simpa using h i hi
theorem Bytes.snoc {c:Array Value} {f:Nat→UInt8} {n:Nat} (h:Bytes c 0 f n) (hn:n < c.size) {x:UInt8} (hx:x=f n):Bytes (c.setIfInBounds n (.int .u8 (x.toNat:Int))) 0 f (n+1):=by
 intro i hi
 subst hx
 by_cases e:i=n
 ·subst e;simp [hn]
 ·rw [Array.getElem?_setIfInBounds_ne (by omega)];exact h i (by omega)
def Ext (M:List Nat) (H H':Heap):Prop:=H.size≤H'.size∧∀ b,b < H.size→b ∉ M→H'[b]?=H[b]?
theorem Ext.refl (M:List Nat) (H:Heap):Ext M H H:=⟨Nat.le_refl _,fun _ _ _=>rfl⟩
theorem Ext.trans {M:List Nat} {H H' H'':Heap} (h:Ext M H H') (h':Ext M H' H''):Ext M H H'' :=
 ⟨Nat.le_trans h.1 h'.1,fun b hb hn=>(h'.2 b (Nat.lt_of_lt_of_le hb h.1) hn).trans (h.2 b hb hn)⟩
theorem Ext.mono {M M':List Nat} {H H':Heap} (hm:∀ b,b ∈ M→b ∈ M') (h:Ext M H H'):Ext M' H H':=⟨h.1,fun b hb hn=>h.2 b hb fun hm'=>hn (hm b hm')⟩
theorem Ext.own {M M':List Nat} {H H' H'':Heap} (h:Ext M H H') (h':Ext M' H' H'') (hm:∀ b,b ∈ M'→b < H.size→b ∈ M):Ext M H H'' :=
 ⟨Nat.le_trans h.1 h'.1,fun b hb hn=>(h'.2 b (Nat.lt_of_lt_of_le hb h.1) fun hm'=>hn (hm b hm' hb)).trans (h.2 b hb hn)⟩
theorem Ext.push {M:List Nat} {H:Heap} (o:Obj):Ext M H (H.push o):=⟨by simp,fun b hb _=>by rw [Array.getElem?_push_lt hb,Array.getElem?_eq_getElem hb]⟩
theorem Ext.get {M:List Nat} {H H':Heap} {b:Nat} {o:Obj} (h:Ext M H H') (hb:H[b]?=some o) (hn:b ∉ M):H'[b]?=some o:=by
 rw [h.2 b (Array.getElem?_eq_some_iff.1 hb).1 hn,hb]
theorem lt_of_get {H:Heap} {b:Nat} {o:Obj} (hb:H[b]?=some o):b < H.size:=(Array.getElem?_eq_some_iff.1 hb).1
theorem zn {H:Heap} {o:Obj}:(H.push o)[H.size]?=some o:=by simp
theorem zeg {H:Heap} {o x:Obj} {b:Nat} (h:H[b]?=some x):(H.push o)[b]?=some x:=by
 rw [Array.getElem?_push_lt (lt_of_get h),← h,Array.getElem?_eq_getElem (lt_of_get h)]
theorem qw {H:Heap} {o x:Obj} {b:Nat} (h:H[b]?=some x):(H.setIfInBounds b o)[b]?=some o:=by
 simp [lt_of_get h]
theorem zh3 {H:Heap} {o x:Obj} {b c:Nat} (h:H[c]?=some x) (hne:c ≠ b):(H.setIfInBounds b o)[c]?=some x:=by
 rw [Array.getElem?_setIfInBounds_ne (Ne.symm hne),h]
theorem Ext.set {M:List Nat} {H:Heap} {b:Nat} (o:Obj) (hb:b ∈ M):Ext M H (H.setIfInBounds b o) :=
 ⟨by simp,fun c _ hn=>by rw [Array.getElem?_setIfInBounds_ne];intro e;subst e;exact hn hb⟩
theorem Ext.set_own {M:List Nat} {H H':Heap} {b:Nat} {o:Obj} (h:Ext M H H') (hb:H.size≤b ∨ b ∈ M):Ext M H (H'.setIfInBounds b o):=by
 refine ⟨by simp;exact h.1,fun c hc hn=>?_⟩
 rw [Array.getElem?_setIfInBounds_ne]
 ·exact h.2 c hc hn
 ·intro e
  subst e
  rcases hb with hb | hb
  ·omega
  ·exact hn hb
theorem Ext.push_own {M:List Nat} {H H':Heap} {o:Obj} (h:Ext M H H'):Ext M H (H'.push o):=h.trans (.push o)
section heap
variable {w:World} {H:Heap}
theorem z2y (hw:w.heap=H) {b o:Nat} {c:Array Value} {T:TypeId} {fr:Nat × Nat} (hb:H[b]?=some (.cells c T fr)):w.cell? ⟨b,o,none⟩=c[o]?:=by
 unfold World.cell?
 rw [hw]
 simp only [hb]
 simp
theorem jh {s:Sh} {b o:Nat} {c:Array Value} {T:TypeId} {fr:Nat × Nat} {K:s.T→Prop} {t:s.T} (hw:w.heap=H) (hb:H[b]?=some (.cells c T fr)) (hc:c[o]?=some (s.val t)) (hK:K t) :
  ld s ⟨b,o,none⟩ w K:=⟨t,by rw [z2y hw hb,hc],hK⟩
theorem jw {K:World→Prop} (hw:w.heap=H) (hK:∀ w',w'.heap=H→K w'):zbi w K:=by
 rintro w' rfl
 exact hK _ hw
theorem jv {c:Array Value} {T:TypeId} {K:Nat→World→Prop} (hw:w.heap=H) (hK:∀ w',w'.heap=H.push (.cells c T)→K H.size w'):zbn c T w K:=by
 rintro b w' ⟨rfl,rfl⟩
 rw [hw]
 exact hK _ (by simp)
theorem z8m {b o:Nat} {c:Array Value} {T:TypeId} {fr:Nat × Nat} {v:Value} (hw:w.heap=H) (hb:H[b]?=some (.cells c T fr)) :
  (w.setCell ⟨b,o,none⟩ v).heap=H.setIfInBounds b (.cells (c.setIfInBounds o v) T fr):=by
 unfold World.setCell
 simp only [hw]
 apply Array.ext_getElem?
 intro i
 rw [Array.getElem?_modify]
 by_cases h:b=i
 ·subst h
  rw [if_pos rfl,hb,qw hb]
  simp
 ·rw [if_neg h,Array.getElem?_setIfInBounds_ne h]
theorem z4c {b o:Nat} {c:Array Value} {T:TypeId} (hw:w.heap=H) (hb:H[b]?=some (.cells c T (0,0))):w.frozen? ⟨b,o,none⟩=false:=by
 unfold World.frozen?
 rw [hw]
 simp only [hb]
 simp
theorem zcd {b o:Nat} {c:Array Value} {T:TypeId} {v:Value} {K:World→Prop} (hw:w.heap=H) (hb:H[b]?=some (.cells c T (0,0))) (ho:o < c.size)
  (hK:∀ w',w'.heap=H.setIfInBounds b (.cells (c.setIfInBounds o v) T (0,0))→K w'):stC ⟨b,o,none⟩ v w K:=by
 refine ⟨⟨c[o],by rw [z2y hw hb];simp [ho]⟩,z4c hw hb,?_⟩
 rintro w' rfl
 exact hK _ (z8m hw hb)
theorem jr {b o n:Nat}:Addr.add ⟨b,o,none⟩ n=⟨b,o+n,none⟩:=by
 unfold Addr.add
 split
 ·rename_i h;subst h;rfl
 ·rfl
theorem qot {b o len size:Nat} {i:Int} {K:Addr→Prop} (k:Nat) (hi:i=(k:Int)) (hk:k < len) (hK:K ⟨b,o+k * size,none⟩):ixR ⟨b,o,none⟩ len size i K:=by
 subst hi
 refine ⟨by omega,by omega,?_⟩
 rw [jr]
 exact hK
theorem qi8 {b o len size:Nat} {i:Int} {K:Addr→Prop} (k:Nat) (hi:i=(k:Int)) (hk:k < len) (hK:K ⟨b,o+k * size,none⟩):ixS (some ⟨b,o,none⟩) len size i K:=by
 subst hi
 refine ⟨_,rfl,by omega,by omega,?_⟩
 rw [jr]
 exact hK
theorem zqz {b o len:Nat} {i:Int} {K:Addr→Prop} (k:Nat) (hi:i=(k:Int)) (hk:k < len) (hK:K ⟨b,o+k,none⟩):ixS (some ⟨b,o,none⟩) len 1 i K:=qi8 k hi hk (by simpa using hK)
theorem zev {b len:Nat} {i:Int} {K:Addr→Prop} (k:Nat) (hi:i=(k:Int)) (hk:k < len) (hK:K ⟨b,k,none⟩):ixR ⟨b,0,none⟩ len 1 i K:=qot k hi hk (by simpa using hK)
end heap
theorem zsl {P:Program} {w:World} {H:Heap} {b o n:Nat} {c:Array Value} {T:TypeId} {fr:Nat × Nat} (hw:w.heap=H) (hb:H[b]?=some (.cells c T fr)) (hn:o+n≤c.size) :
  (loadCells ⟨b,o,none⟩ n).run P w=.ok (c.extract o (o+n)) w:=by
 have key:∀ (m i:Nat) (acc:Array Value),o+i+m≤c.size→(loadCellsFrom ⟨b,o,none⟩ i m acc).run P w=.ok (acc++c.extract (o+i) (o+i+m)) w:=by
  intro m
  induction m with
  | zero=>intro i acc _;simp [loadCellsFrom];omega
  | succ m ih =>
   intro i acc h
   have hc:w.cell? (Addr.add ⟨b,o,none⟩ i)=some c[o+i]:=by
    rw [jr,z2y hw hb,Array.getElem?_eq_getElem (by omega)]
   simp only [loadCellsFrom,Sem.run_bind,run_load,hc,Result.andThen_ok]
   rw [ih (i+1) _ (by omega)]
   congr 1
   apply Array.ext'
   simp only [Array.toList_append,Array.toList_push,Array.toList_extract,List.extract_eq_take_drop,List.append_assoc]
   congr 1
   have e1:o+i+(m+1) - (o+i)=m+1:=by omega
   have e2:o+(i+1)+m - (o+(i+1))=m:=by omega
   rw [e1,e2]
   have hlt:o+i < c.toList.length:=by simp;omega
   rw [List.drop_eq_getElem_cons hlt]
   simp [List.take_succ_cons,Nat.add_assoc]
 have:=key n 0 #[] (by omega)
 simpa [loadCells] using this
theorem zre {P:Program} {w:World} {H:Heap} {b o n:Nat} {c:Array Value} {T:TypeId} {fr:Nat × Nat} {K:Array Value→Prop} (hw:w.heap=H) (hb:H[b]?=some (.cells c T fr)) (hn:o+n≤c.size)
  (hK:K (c.extract o (o+n))):ldA P n ⟨b,o,none⟩ w K:=⟨_,zsl hw hb hn,hK⟩
theorem je {P:Program} {w:World} {H:Heap} {b n:Nat} {c:Array Value} {T:TypeId} {fr:Nat × Nat} {K:Array Value→Prop} (hw:w.heap=H) (hb:H[b]?=some (.cells c T fr)) (hn:c.size=n)
  (hK:K c):ldA P n ⟨b,0,none⟩ w K:=zre hw hb (by omega) (by subst hn;simpa using hK)
def zcz (vs:List Value):Prop:=∀ v ∈ vs,v.oneCell'=true
def setCells (c:Array Value) (o:Nat):List Value→Array Value
 | []=>c
 | v :: r=>setCells (c.setIfInBounds o v) (o+1) r
@[simp] theorem size_setCells {vs:List Value}:∀ {c:Array Value} {o:Nat},(setCells c o vs).size=c.size:=by
 induction vs with
 | nil=>intro c o;rfl
 | cons v r ih=>intro c o;simp [setCells,ih]
theorem zgt {vs:List Value}:∀ {c:Array Value} {o i:Nat},o+vs.length≤c.size→(setCells c o vs)[i]?=if o≤i∧i < o+vs.length then vs[i - o]? else c[i]?:=by
 induction vs with
 | nil =>
  intro c o i h
  simp only [setCells,List.length_nil,Nat.add_zero]
  rw [if_neg (by omega)]
 | cons v r ih =>
  intro c o i h
  simp only [List.length_cons] at h
  simp only [setCells,List.length_cons]
  rw [ih (by simp;omega)]
  by_cases h1:i=o
  ·subst h1
   rw [if_neg (by omega),if_pos (by omega)]
   have:i < c.size:=by omega
   simp [this]
  ·by_cases h2:o+1≤i∧i < o+1+r.length
   ·rw [if_pos h2,if_pos (by omega)]
    have:i - o=(i - (o+1))+1:=by omega
    rw [this]
    simp
   ·rw [if_neg h2,if_neg (by omega),Array.getElem?_setIfInBounds_ne (by omega)]
theorem zan {vs:List Value} {c:Array Value} (h:vs.length=c.size):setCells c 0 vs=vs.toArray:=by
 apply Array.ext_getElem?
 intro i
 rw [zgt (by omega)]
 by_cases hi:i < vs.length
 ·rw [if_pos (by omega)];simp
 ·rw [if_neg (by omega)]
  rw [Array.getElem?_eq_none (by omega),Array.getElem?_eq_none (by simp;omega)]
theorem set_set {H:Heap} {b:Nat} {x y:Obj}:(H.setIfInBounds b x).setIfInBounds b y=H.setIfInBounds b y:=by
 apply Array.ext_getElem?
 intro i
 by_cases h:b=i
 ·subst h
  by_cases hb:b < H.size
  ·simp [hb]
  ·rw [Array.getElem?_eq_none (by simp;omega),Array.getElem?_eq_none (by simp;omega)]
 ·rw [Array.getElem?_setIfInBounds_ne h,Array.getElem?_setIfInBounds_ne h,Array.getElem?_setIfInBounds_ne h]
theorem zpn {P:Program} {b:Nat} {T:TypeId}:∀ (vs:List Value) (w:World) (H:Heap) (c:Array Value) (o i:Nat),zcz vs→w.heap=H→H[b]?=some (.cells c T (0,0))→o+i+vs.length≤c.size →
  ∃ w',(storeCells ⟨b,o,none⟩ vs i).run P w=.ok () w'∧Calm w w'∧w'.heap=H.setIfInBounds b (.cells (setCells c (o+i) vs) T (0,0)):=by
 intro vs
 induction vs with
 | nil =>
  intro w H c o i _ hw hb _
  refine ⟨w,by simp [storeCells],.refl w,?_⟩
  simp only [setCells]
  rw [hw]
  apply Array.ext_getElem?
  intro j
  by_cases hj:b=j
  ·subst hj;rw [qw hb,hb]
  ·rw [Array.getElem?_setIfInBounds_ne hj]
 | cons v r ih =>
  intro w H c o i h1 hw hb hn
  simp only [List.length_cons] at hn
  have hv:=h1 v (by simp)
  have hc:w.cell? (Addr.add ⟨b,o,none⟩ i)=some c[o+i]:=by
   rw [jr,z2y hw hb,Array.getElem?_eq_getElem (by omega)]
  have hf:w.frozen? (Addr.add ⟨b,o,none⟩ i)=false:=by rw [jr];exact z4c hw hb
  obtain ⟨w',h2,h4,h3⟩:=ih (w.setCell (Addr.add ⟨b,o,none⟩ i) v) _ (c.setIfInBounds (o+i) v) o (i+1) (fun x hx=>h1 x (by simp [hx])) (by rw [jr];exact z8m hw hb) (qw hb) (by simp;omega)
  refine ⟨w',?_,h4,?_⟩
  ·simp only [storeCells,Sem.run_bind,run_store P w _ v .plain hv,hc,hf,Bool.false_eq_true,if_false,Result.andThen_ok,h2]
  ·rw [h3,set_set]
   simp [setCells,Nat.add_assoc]
theorem zbj {P:Program} {w:World} {H:Heap} {b o:Nat} {T t:TypeId} {c:Array Value} {v:Value} {K:World→Prop} (hs:P.cellsOf t=v.cells.size) (hs0:v.cells.size ≠ 0) (h1:zcz v.cells.toList) (hw:w.heap=H)
  (hb:H[b]?=some (.cells c T (0,0))) (hn:o+v.cells.size≤c.size) (hK:∀ w',w'.heap=H.setIfInBounds b (.cells (setCells c o v.cells.toList) T (0,0))→K w'):zby P (storeVar t ⟨b,o,none⟩ v) w K:=by
 obtain ⟨w',h2,h4,h3⟩:=zpn (P:=P) v.cells.toList w H c o 0 h1 hw hb (by simpa using hn)
 refine ⟨w',?_,h4,hK w' (by simpa using h3)⟩
 have h0:(sizeOf t).run P w=.ok v.cells.size w:=by rw [zi0 (by omega),hs]
 simp only [storeVar,Sem.run_bind,h0,Result.andThen_ok,ne_eq,not_true_eq_false,if_false,h2]
def W32 (s:Nat→BitVec 32) (n:Nat):Array Value:=((List.range n).map fun i=>Value.int .u32 ((s i).toNat:Int)).toArray
def B8 (f:Nat→UInt8) (n:Nat):Array Value:=((List.range n).map fun i=>Value.int .u8 ((f i).toNat:Int)).toArray
@[simp] theorem qnw {s:Nat→BitVec 32} {n:Nat}:(W32 s n).size=n:=by simp [W32]
@[simp] theorem qon {f:Nat→UInt8} {n:Nat}:(B8 f n).size=n:=by simp [B8]
theorem zm6 {s:Nat→BitVec 32} {n:Nat}:Words (W32 s n) 0 s n:=by
 intro i hi
 simp [W32,hi]
theorem qjk {f:Nat→UInt8} {n:Nat}:Bytes (B8 f n) 0 f n:=by
 intro i hi
 simp [B8,hi]
theorem zx8 {s:Nat→BitVec 32} {n:Nat}:zcz (W32 s n).toList:=by
 intro v hv
 simp only [W32,List.mem_map] at hv
 obtain ⟨i,_,rfl⟩:=hv
 rfl
theorem qkf {f:Nat→UInt8} {n:Nat}:zcz (B8 f n).toList:=by
 intro v hv
 simp only [B8,List.mem_map] at hv
 obtain ⟨i,_,rfl⟩:=hv
 rfl
theorem Words.extract {c:Array Value} {s:Nat→BitVec 32} {o n:Nat} (h:Words c o s n) (hn:o+n≤c.size):c.extract o (o+n)=W32 s n:=by
 apply Array.ext_getElem?
 intro i
 by_cases hi:i < n
 ·rw [Array.getElem?_extract,if_pos (by omega),h i hi,zm6.at i hi]
 ·rw [Array.getElem?_eq_none (by simp;omega),Array.getElem?_eq_none (by simp;omega)]
theorem Bytes.extract {c:Array Value} {f:Nat→UInt8} {o n:Nat} (h:Bytes c o f n) (hn:o+n≤c.size):c.extract o (o+n)=B8 f n:=by
 apply Array.ext_getElem?
 intro i
 by_cases hi:i < n
 ·rw [Array.getElem?_extract,if_pos (by omega),h i hi,qjk.at i hi]
 ·rw [Array.getElem?_eq_none (by simp;omega),Array.getElem?_eq_none (by simp;omega)]
theorem joinP_of {σ:Type} {m:(σ→World→Prop)→Prop} {k:σ→World→Prop} (J:σ→World→Prop) (h:m J) (hk:∀ s w,J s w→k s w):joinP σ m k:=⟨J,h,hk⟩
theorem zac {σ:Type} {m:(σ→World→Prop)→Prop} {k:σ→World→Prop} (h:m k):joinP σ m k:=⟨k,h,fun _ _ h=>h⟩
theorem jd {σ:Type} {m:σ→World→(σ→World→Prop)→Prop} {s:σ} {w:World} (I:σ→World→Prop) (μ:σ→World→Nat) (h0:I s w) (hr:∀ s w,I s w→m s w fun s' w'=>I s' w'∧μ s' w' < μ s w) :
  zaw σ m s w:=⟨I,μ,h0,hr⟩
theorem least {p:Nat→Prop} (h:∃ n,p n):∃ n,p n∧∀ m,p m→n≤m:=by
 obtain ⟨n,hn⟩:=h
 induction n using Nat.strongRecOn with
 | _ n ih =>
  by_cases hm:∃ m,m < n∧p m
  ·obtain ⟨m,h1,h2⟩:=hm;exact ih m h1 h2
  ·exact ⟨n,hn,fun m h=>Nat.le_of_not_lt fun h'=>hm ⟨m,h',h⟩⟩
theorem ztz {σ:Type} {m:σ→World→(σ→World→Prop)→Prop} {s:σ} {w:World} (I:Nat→σ→World→Prop) (n:Nat) (h0:I n s w)
  (hr:∀ n s w,I n s w→∀ K:σ→World→Prop,(∀ n' s' w',n' < n→I n' s' w'→K s' w')→m s w K):zaw σ m s w:=by
 classical
 refine ⟨fun s w=>∃ n,I n s w,fun s w=>if h:∃ n,I n s w then Classical.choose (least h) else 0,⟨n,h0⟩,fun s w h=>?_⟩
 refine hr _ s w (Classical.choose_spec (least h)).1 _ fun n' s' w' hn' hI=>⟨⟨n',hI⟩,?_⟩
 have h':∃ n,I n s' w':=⟨n',hI⟩
 have h:∃ n,I n s w:=h
 simp only [dif_pos h,dif_pos h']
 exact Nat.lt_of_le_of_lt ((Classical.choose_spec (least h')).2 n' hI) hn'
theorem qj.mono {P:Program} {f:FuncId} {args:Array Value} {w:World} {R R':Ending→World→Prop} (h:qj P f args w R) (hr:∀ e w',R e w'→R' e w'):qj P f args w R':=⟨h.1,h.2.mono fun e w' h=>⟨hr e w' h.1,h.2⟩⟩
theorem zbb {P:Program} {f:FuncId} {args:Array Value} {l:List Sh} {tup:Bool} {w:World} {K:Tup l→Prop} (t:Tup l) (h:qj P f args w (fun e w'=>e=.returned (zpz l tup t).2∧w'=w)) (hK:K t) :
  zhe P f args l tup w K:=⟨t,h,hK⟩
theorem zl {P:Program} {f:FuncId} {args:Array Value} {l:List Sh} {tup:Bool} {w:World} {K:Tup l→World→Prop} {R:Ending→World→Prop} (h:qj P f args w R)
  (hK:∀ e w',R e w'→∃ t,e=.returned (zpz l tup t).2∧K t w'):xg P f args l tup w K:=.go (h.mono hK)
theorem zxm {P:Program} {f:FuncId} {args:Array Value} {l:List Sh} {tup:Bool} {w:World} {K:Tup l→World→Prop} (t:Tup l) (h:(callFunc f args).run P w=.ok (.value (zpz l tup t).2) w) (hK:K t w):xg P f args l tup w K:=.own _ _ h (.refl w) ⟨t,rfl,hK⟩
theorem qdx {P:Program} {f:FuncId} {args:Array Value} {l:List Sh} {tup:Bool} {w:World} {K:Tup l→World→Prop} (t:Tup l) (w':World) (h:(callFunc f args).run P w=.ok (.value (zpz l tup t).2) w') (hc:Calm w w') (hK:K t w'):xg P f args l tup w K:=.own _ _ h hc ⟨t,rfl,hK⟩
theorem qm {P:Program} {m:Sem Value} {s:Sh} {w:World} {K:s.T→Prop} (t:s.T) (h:m.run P w=.ok (s.val t) w) (hK:K t):zaz P m s w K:=⟨t,h,hK⟩
theorem zad {P:Program} {m:Sem Value} {s:Sh} {w:World} {K:s.T→World→Prop} (t:s.T) (w':World) (h:m.run P w=.ok (s.val t) w') (hK:K t w') (hc:Calm w w':=by first | exact ⟨rfl,rfl,rfl,Nat.le_refl _⟩ | exact ⟨rfl,rfl,rfl,Nat.le_succ _⟩):zal P m s w K:=⟨t,w',h,hc,hK⟩
theorem z3f {a b:Int} {K:Int→Prop} (m n:Nat) (ha:a=(m:Int)) (hb:b=(n:Int)) (hn:n ≠ 0) (hK:K ((m % n:Nat):Int)):qju a b K:=by
 subst ha hb
 exact ⟨by omega,_,by rw [Int.tmod_eq_emod_of_nonneg (by omega)];rfl,hK⟩
theorem zyl {a b:Int} {K:Int→Prop} (m n:Nat) (ha:a=(m:Int)) (hb:b=(n:Int)) (hn:n ≠ 0) (hm:m < 9223372036854775808) (hK:K ((m / n:Nat):Int)):qig .i64 a b K:=by
 subst ha hb
 have hd:m / n≤m:=Nat.div_le_self _ _
 refine ⟨by omega,_,?_,hK⟩
 have he:Int.tdiv (m:Int) (n:Int)=((m / n:Nat):Int):=by rw [Int.tdiv_eq_ediv_of_nonneg (by omega)];rfl
 rw [he]
 generalize m / n=d at *
 rw [wrap_i64 (by omega) (by omega)]
theorem Words.put {c:Array Value} {f:Nat→BitVec 32} {n:Nat} (h:Words c 0 f n) (i:Nat) (hi:i < c.size) (x:BitVec 32):Words (c.setIfInBounds i (.int .u32 (x.toNat:Int))) 0 (fun k=>if k=i then x else f k) n:=by
 intro k hk
 by_cases e:k=i
 ·subst e;simp [hi]
 ·rw [Array.getElem?_setIfInBounds_ne (by omega),h k hk];simp only [if_neg e]
theorem Words.congr {c:Array Value} {f g:Nat→BitVec 32} {n:Nat} (h:Words c 0 f n) (hg:∀ k,k < n→f k=g k):Words c 0 g n:=fun k hk=>by rw [h k hk,hg k hk]
theorem qpc (a b:UInt8) {K:Int→Prop} (hK:K ((a ^^^ b).toNat:Int)):zrj .u8 (a.toNat:Int) (b.toNat:Int) K:=by
 refine ⟨_,?_,hK⟩
 have ha:BitVec.ofInt IntKind.u8.bits (a.toNat:Int)=a.toBitVec:=by
  apply BitVec.eq_of_toNat_eq
  show (BitVec.ofInt 8 (a.toNat:Int)).toNat=a.toBitVec.toNat
  rw [BitVec.ofInt_natCast];simp
 have hb:BitVec.ofInt IntKind.u8.bits (b.toNat:Int)=b.toBitVec:=by
  apply BitVec.eq_of_toNat_eq
  show (BitVec.ofInt 8 (b.toNat:Int)).toNat=b.toBitVec.toNat
  rw [BitVec.ofInt_natCast];simp
 rw [ha,hb]
 show _=IntKind.u8.wrap ((a ^^^ b).toNat:Nat)
 rw [zkk,Nat.mod_eq_of_lt (a ^^^ b).toNat_lt]
def IxO (v:Option Value) (d n:Nat):Prop:=(v=none∧n=d) ∨ ∃ k,v=some (.int k (n:Int))
theorem IxO.no {d:Nat}:IxO none d d:=.inl ⟨rfl,rfl⟩
theorem IxO.yes {d n:Nat} {k:IntKind} {i:Int} (h:i=(n:Int)):IxO (some (.int k i)) d n:=.inr ⟨k,by rw [h]⟩
section
variable {P:Program} {w:World}
theorem zvk {isS:Bool} {len cap l h:Nat} {lo hi:Option Value} (hlo:IxO lo 0 l) (hhi:IxO hi len h) (h1:l≤h) (h2:h≤cap) :
  (Instr.sliceBounds isS len cap lo hi none).run P w=.ok (l,h,cap) w:=by
 have eh:∀ k code,(Instr.sliceBound (.int k (h:Int)) cap code).run P w=.ok h w:=by
  intro k code
  simp [Instr.sliceBound,asIntOf,h2]
 have el:∀ k code,(Instr.sliceBound (.int k (l:Int)) h code).run P w=.ok l w:=by
  intro k code
  simp [Instr.sliceBound,asIntOf,h1]
 rcases hlo with ⟨rfl,rfl⟩ | ⟨k,rfl⟩ <;> rcases hhi with ⟨rfl,rfl⟩ | ⟨k',rfl⟩ <;> simp [Instr.sliceBounds,eh,el]
theorem zaq {t e:TypeId} {sz:Nat} {a:Option Addr} {len cap l h:Nat} {lo hi:Option Value} (hu:P.underlying t=some (.slice e)) (hs:(P.info? e).map (·.size)=some sz) (hlo:IxO lo 0 l) (hhi:IxO hi len h) (h1:l≤h) (h2:h≤cap) :
  (Instr.sliceAt t (.slice a len cap) lo hi none).run P w=.ok (.slice (if cap=l then a else a.map (·.add (l * sz))) (h - l) (cap - l)) w:=by
 simp [Instr.sliceAt,Instr.slice,qx hu,zvk hlo hhi h1 h2,zbm hs]
theorem zdw {t e:TypeId} {sz n:Nat} {a:Addr} {l h:Nat} {lo hi:Option Value} (hu:P.underlying t=some (.array n e)) (hs:(P.info? e).map (·.size)=some sz) (hlo:IxO lo 0 l) (hhi:IxO hi n h) (h1:l≤h) (h2:h≤n) :
  (Instr.sliceAt t (.pointer (some a)) lo hi none).run P w=.ok (.slice (some (if n=l then a else a.add (l * sz))) (h - l) (n - l)) w:=by
 simp [Instr.sliceAt,qx hu,Instr.sureAddr,zvk hlo hhi h1 h2,zbm hs]
theorem z3n {t:TypeId} {s:ByteArray} {l h:Nat} {lo hi:Option Value} (hu:P.underlying t=some .string) (hlo:IxO lo 0 l) (hhi:IxO hi s.size h) (h1:l≤h) (h2:h≤s.size) :
  (Instr.sliceAt t (.string s) lo hi none).run P w=.ok (.string (s.extract l h)) w:=by
 simp [Instr.sliceAt,Instr.slice,qx hu,zvk hlo hhi h1 h2]
def Cells (H:Heap) (a:Option Addr) (vs:List Value):Prop :=
 vs=[] ∨ ∃ b o c T fr,a=some ⟨b,o,none⟩∧H[b]?=some (.cells c T fr)∧o+vs.length≤c.size∧(c.extract o (o+vs.length)).toList=vs
theorem Cells.ext {M:List Nat} {H H':Heap} {a:Option Addr} {vs:List Value} (h:Cells H a vs) (hx:Ext M H H') (hM:∀ x,a=some x→vs ≠ []→x.block ∉ M):Cells H' a vs:=by
 by_cases hv:vs=[]
 ·exact .inl hv
 rcases h with h | ⟨b,o,c,T,fr,rfl,hb,hn,he⟩
 ·exact .inl h
 ·exact .inr ⟨b,o,c,T,fr,rfl,hx.get hb (hM _ rfl hv),hn,he⟩
theorem Cells.lt {H:Heap} {a:Option Addr} {vs:List Value} (h:Cells H a vs) (hne:vs ≠ []):∃ x,a=some x∧x.block < H.size:=by
 rcases h with h | ⟨b,o,c,T,fr,rfl,hb,hn,he⟩
 ·exact absurd h hne
 ·exact ⟨_,rfl,lt_of_get hb⟩
theorem z0s {a:Addr}:(loadCells a 0).run P w=.ok #[] w:=rfl
theorem zyt {H:Heap} {a:Option Addr} {l c sz n:Nat} {vs:List Value} (hw:w.heap=H) (h:Cells H a vs) (hn:n * sz=vs.length):(Builtin.firstCells sz n (.slice a l c)).run P w=.ok vs.toArray w:=by
 rcases h with rfl | ⟨b,o,c',T,fr,rfl,hb,hle,he⟩
 ·simp only [List.length_nil] at hn
  cases a with
  | none=>rfl
  | some a=>simp only [Builtin.firstCells,hn,z0s]
 ·simp only [Builtin.firstCells,hn]
  rw [zsl hw hb hle]
  congr 1
  apply Array.ext'
  simpa using he
theorem Cells.part {H:Heap} {a:Option Addr} {vs:List Value} (h:Cells H a vs) (k m:Nat) (hk:k+m≤vs.length):Cells H (a.map (·.add k)) ((vs.drop k).take m):=by
 rcases h with rfl | ⟨b,o,c,T,fr,rfl,hb,hle,he⟩
 ·left;simp
 ·right
  refine ⟨b,o+k,c,T,fr,by simp [jr],hb,by simp;omega,?_⟩
  have hl:((vs.drop k).take m).length=m:=by simp;omega
  rw [hl]
  conv=>rhs;rw [← he]
  simp only [Array.toList_extract,List.extract_eq_take_drop,List.drop_take,List.take_take,List.drop_drop]
  congr 1
  omega
theorem Cells.take {H:Heap} {a:Option Addr} {vs:List Value} (h:Cells H a vs) (m:Nat):Cells H a (vs.take m):=by
 by_cases hm:m≤vs.length
 ·have:=h.part 0 m (by omega)
  cases a with
  | none =>
   rcases h with rfl | ⟨b,o,c,T,fr,h,_⟩
   ·left;simp
   ·cases h
  | some a=>simpa [Addr.add] using this
 ·rw [List.take_of_length_le (by omega)];exact h
theorem Cells.drop {H:Heap} {a:Option Addr} {vs:List Value} (h:Cells H a vs) (k cap:Nat) (hcap:vs.length≤cap):Cells H (if cap=k then a else a.map (·.add k)) (vs.drop k):=by
 by_cases hk:k < vs.length
 ·rw [if_neg (by omega)]
  have:=h.part k (vs.length - k) (by omega)
  rwa [List.take_of_length_le (by simp)] at this
 ·left;exact List.drop_eq_nil_of_le (by omega)
def byteCells (L:List UInt8):List Value:=L.map fun b=>.int .u8 (b.toNat:Int)
@[simp] theorem jf {L:List UInt8}:(byteCells L).length=L.length:=by simp [byteCells]
theorem vg {L:List UInt8}:zcz (byteCells L):=by
 intro v hv
 simp only [byteCells,List.mem_map] at hv
 obtain ⟨b,_,rfl⟩:=hv
 rfl
theorem zfw {L:List UInt8} {n:Nat}:(byteCells L).take n=byteCells (L.take n):=by simp [byteCells]
theorem zfy {L:List UInt8} {n:Nat}:(byteCells L).drop n=byteCells (L.drop n):=by simp [byteCells]
theorem byteCells_append {L M:List UInt8}:byteCells L++byteCells M=byteCells (L++M):=by simp [byteCells]
theorem zdv {L:List UInt8} {i:Nat} (h:i < L.length):(byteCells L)[i]?=some (.int .u8 ((L.getD i 0).toNat:Int)):=by
 simp [byteCells,List.getD_eq_getElem?_getD,List.getElem?_eq_getElem h]
theorem Cells.bytes {H:Heap} {a:Option Addr} {L:List UInt8} (h:Cells H a (byteCells L)) (hne:L ≠ []):∃ b o c T fr,a=some ⟨b,o,none⟩∧H[b]?=some (.cells c T fr)∧o+L.length≤c.size∧Bytes c o (fun i=>L.getD i 0) L.length:=by
 rcases h with h | ⟨b,o,c,T,fr,rfl,hb,hn,he⟩
 ·exact absurd (by simpa [byteCells] using h) hne
 ·refine ⟨b,o,c,T,fr,rfl,hb,by simpa using hn,fun i hi=>?_⟩
  have h1:=zdv hi
  rw [← he,Array.getElem?_toList,Array.getElem?_extract] at h1
  simp only [jf] at h1 hn
  rw [if_pos (by omega)] at h1
  exact h1
theorem znf {H:Heap} {b o:Nat} {c:Array Value} {T:TypeId} {fr:Nat × Nat} {L:List UInt8} (hb:H[b]?=some (.cells c T fr)) (hn:o+L.length≤c.size) (h:Bytes c o (fun i=>L.getD i 0) L.length):Cells H (some ⟨b,o,none⟩) (byteCells L):=by
 refine .inr ⟨b,o,c,T,fr,rfl,hb,by simpa using hn,?_⟩
 apply List.ext_getElem?
 intro i
 simp only [jf]
 by_cases hi:i < L.length
 ·rw [zdv hi,Array.getElem?_toList,Array.getElem?_extract,if_pos (by omega),h i hi]
 ·rw [List.getElem?_eq_none (by simp;omega),List.getElem?_eq_none (by simp;omega)]
def zpf (c:Array Value):Prop:=∀ (i:Nat) (v:Value),c[i]?=some v→v.oneCell'=true
theorem zpf.set {c:Array Value} (h:zpf c) {k:Nat} {x:Value} (hx:x.oneCell'=true):zpf (c.setIfInBounds k x):=by
 intro i v hv
 by_cases e:k=i
 ·subst e
  by_cases hk:k < c.size
  ·simp [hk] at hv;subst hv;exact hx
  ·rw [Array.getElem?_eq_none (by simp;omega)] at hv;cases hv
 ·rw [Array.getElem?_setIfInBounds_ne e] at hv
  exact h i v hv
theorem zpf.setCells {vs:List Value}:∀ {c:Array Value} {o:Nat},zpf c→zcz vs→zpf (setCells c o vs):=by
 induction vs with
 | nil=>intro c o h _;exact h
 | cons v r ih=>intro c o h h1;exact ih (h.set (h1 v (by simp))) fun x hx=>h1 x (by simp [hx])
theorem zpf.one {c:Array Value} (h:zpf c):zcz c.toList:=by
 intro v hv
 obtain ⟨i,hi⟩:=List.getElem?_of_mem hv
 exact h i v (by simpa using hi)
theorem qg5 {H:Heap} {st xt e ty:TypeId} {sz bd od dl dc sl sc:Nat} {sa:Option Addr} {cd:Array Value} {Td:TypeId} {vs:List Value} (hu:P.underlying st=some (.slice e)) (hs:(P.info? e).map (·.size)=some sz)
  (hw:w.heap=H) (hsrc:Cells H sa vs) (hn:min sl dl * sz=vs.length) (h1:zcz vs) (hd:H[bd]?=some (.cells cd Td (0,0))) (hdn:od+vs.length≤cd.size) :
  ∃ w',(Builtin.copy_ #[st,xt] ty #[.slice (some ⟨bd,od,none⟩) dl dc,.slice sa sl sc]).run P w=.ok (.int .i64 ((min sl dl:Nat):Int)) w'∧Calm w w'∧w'.heap=H.setIfInBounds bd (.cells (setCells cd od vs) Td (0,0)):=by
 obtain ⟨w',h2,h4,h3⟩:=zpn (P:=P) vs w H cd od 0 h1 hw hd (by simpa using hdn)
 refine ⟨w',?_,h4,by simpa using h3⟩
 have hf:=zyt (P:=P) (l:=sl) (c:=sc) (sz:=sz) (n:=min sl dl) hw hsrc hn
 have hmin:Nat.min sl dl=min sl dl:=rfl
 simp only [Builtin.copy_,List.getElem?_toArray,List.getElem?_cons_zero,List.getElem?_cons_succ,Sem.run_bind,qx hu,Result.andThen_ok,Builtin.lenOf,Sem.run_pure,zbm hs,hmin,hf,h2,goInt]
def Mine (H:Heap) (B:Nat) (T:TypeId) (sz:Nat) (x:Option Addr × Nat × Nat) (vs:List Value):Prop :=
 (x=(none,0,0)∧vs=[]) ∨ ∃ b c,x.1=some ⟨b,0,none⟩∧B≤b∧H[b]?=some (.cells c T (0,0))∧c.size=x.2.2 * sz∧vs.length=x.2.1 * sz∧x.2.1≤x.2.2∧(c.extract 0 vs.length).toList=vs
theorem Mine.cells {H:Heap} {B:Nat} {T:TypeId} {sz:Nat} {x:Option Addr × Nat × Nat} {vs:List Value} (h:Mine H B T sz x vs):Cells H x.1 vs:=by
 rcases h with ⟨_,rfl⟩ | ⟨b,c,hx,_,hb,hc,hl,hle,he⟩
 ·exact .inl rfl
 ·refine .inr ⟨b,0,c,T,(0,0),hx,hb,?_,by simpa using he⟩
  rw [hl,hc];simpa using Nat.mul_le_mul_right sz hle
theorem Mine.len {H:Heap} {B:Nat} {T:TypeId} {sz:Nat} {x:Option Addr × Nat × Nat} {vs:List Value} (h:Mine H B T sz x vs):vs.length=x.2.1 * sz:=by
 rcases h with ⟨rfl,rfl⟩ | ⟨b,c,hx,_,hb,hc,hl,hle,he⟩
 ·simp
 ·exact hl
def xw (x:Option Addr × Nat × Nat):List Nat:=match x.1 with | some a=>[a.block] | none=>[]
theorem Mine.ext {M:List Nat} {H H':Heap} {B:Nat} {T:TypeId} {sz:Nat} {x:Option Addr × Nat × Nat} {vs:List Value} (h:Mine H B T sz x vs) (hx:Ext M H H') (hM:∀ b,b ∈ xw x→b ∉ M):Mine H' B T sz x vs:=by
 rcases h with h | ⟨b,c,hx1,hB,hb,hc,hl,hle,he⟩
 ·exact .inl h
 ·exact .inr ⟨b,c,hx1,hB,hx.get hb (hM b (by simp [xw,hx1])),hc,hl,hle,he⟩
theorem Mine.mono {H:Heap} {B B':Nat} {T:TypeId} {sz:Nat} {x:Option Addr × Nat × Nat} {vs:List Value} (h:Mine H B T sz x vs) (hB:B'≤B):Mine H B' T sz x vs:=by
 rcases h with h | ⟨b,c,hx1,hB1,hb⟩
 ·exact .inl h
 ·exact .inr ⟨b,c,hx1,Nat.le_trans hB hB1,hb⟩
theorem jc {H:Heap} {B:Nat} {T:TypeId} {sz:Nat} {x:Option Addr × Nat × Nat} {vs:List Value} (h:Mine H B T sz x vs):∀ b,b ∈ xw x→B≤b:=by
 rcases h with ⟨rfl,_⟩ | ⟨b,c,hx1,hB,_⟩
 ·simp [xw]
 ·simp [xw,hx1,hB]
theorem qge (newLen:Nat):∀ (r c:Nat),c≤2 * newLen→Builtin.growBy newLen r c≤2 * newLen+192:=by
 intro r
 induction r with
 | zero=>intro c h;simp only [Builtin.growBy];omega
 | succ r ih =>
  intro c h
  simp only [Builtin.growBy]
  split
  ·omega
  ·rename_i hlt
   by_cases hb:c+(c+768) / 4≤2 * newLen
   ·exact ih _ hb
   ·cases r with
    | zero=>simp only [Builtin.growBy];omega
    | succ r =>
     simp only [Builtin.growBy]
     rw [if_pos (by omega)]
     omega
theorem qel {newLen oldCap:Nat} (h:oldCap < newLen):Builtin.nextslicecap newLen oldCap≤2 * newLen+192:=by
 unfold Builtin.nextslicecap
 split
 ·omega
 ·split
  ·omega
  ·exact qge _ _ _ (by omega)
def Src (P:Program) (w:World) (v:Value) (sz n:Nat) (vs:List Value):Prop:=(Builtin.lenOf v).run P w=.ok n w∧vs.length=n * sz∧∀ w',w'.heap=w.heap→(Builtin.firstCells sz n v).run P w'=.ok vs.toArray w'
theorem Src.slc {H:Heap} {a:Option Addr} {l c sz:Nat} {vs:List Value} (hw:w.heap=H) (h:Cells H a vs) (hl:vs.length=l * sz):Src P w (.slice a l c) sz l vs :=
 ⟨rfl,hl,fun w' hw'=>zyt (hw'.trans hw) h hl.symm⟩
def strCells (s:ByteArray):List Value:=s.data.toList.map fun b=>.int .u8 b.toNat
theorem Src.str {s:ByteArray}:Src P w (.string s) 1 s.size (strCells s):=by
 refine ⟨rfl,by simp [strCells],fun _ _=>?_⟩
 have:s.extract 0 s.size=s:=by
  ext1
  simp
 simp only [Builtin.firstCells,this,strCells,Sem.run_pure]
 congr 1
 apply Array.ext'
 simp
theorem qdt {H:Heap} {st xt e ty:TypeId} {info:TypeInfo} {z:Value} {sz B:Nat} {x:Option Addr × Nat × Nat} {y:Value} {n:Nat} {vs us:List Value} (hu:P.underlying st=some (.slice e)) (hx:∃ d,P.underlying xt=some d∧∀ k,d ≠ .int k)
  (hi:P.info? e=some info) (hsz:info.size=sz) (hz:info.zero=some z) (hzs:z.cells.size=sz) (hb0:info.bytes ≠ 0) (hw:w.heap=H) (hown:Mine H B e sz x vs) (hB:B≤H.size) (hsrc:Src P w y sz n us) (h1:zcz us)
  (hroom:(2 * (x.2.1+n)+192) * info.bytes≤281474976710656) :
  ∃ x' w',(Builtin.append_ #[st,xt] ty #[.slice x.1 x.2.1 x.2.2,y]).run P w=.ok (.slice x'.1 x'.2.1 x'.2.2) w'∧Calm w w'∧Mine w'.heap B e sz x' (vs++us)∧x'.2.1=x.2.1+n∧Ext (xw x) H w'.heap∧(∀ b,b ∈ xw x'→b ∈ xw x ∨ H.size≤b):=by
 obtain ⟨hlen,hul,hfirst⟩:=hsrc
 obtain ⟨d,hxd,hxk⟩:=hx
 have hnoint:(d matches .int _)=false:=by
  cases d <;> first | rfl | (exact absurd rfl (hxk _))
 have hse:(P.info? e).map (·.size)=some sz:=by rw [hi];simp [hsz]
 have hti:(typeInfo e).run P w=.ok info w:=by simp [typeInfo,hi]
 by_cases hfit:x.2.1+n≤x.2.2
 ·-- there is room
  rcases hown with ⟨rfl,rfl⟩ | ⟨b,c,hx1,hBb,hb,hc,hl,hle,he⟩
  ·simp only [Nat.zero_add,Nat.le_zero] at hfit
   subst hfit
   simp only [Nat.zero_mul] at hul
   obtain rfl:us=[]:=List.length_eq_zero_iff.1 hul
   refine ⟨(none,0,0),w,?_,.refl w,.inl ⟨rfl,rfl⟩,rfl,by rw [hw];exact .refl _ _,fun b hb=>.inl hb⟩
   simp only [Builtin.append_,List.getElem?_toArray,List.getElem?_cons_zero,List.getElem?_cons_succ,Sem.run_bind,qx hu,qx hxd,Result.andThen_ok,Sem.run_pure,hnoint,Bool.false_eq_true,if_false,zbm hse,hlen,
    Nat.add_zero,Nat.le_refl,if_true,Bool.not_false,hfirst w rfl]
  ·have hcs:vs.length+us.length≤c.size:=by
    rw [hl,hul,hc,← Nat.add_mul]
    exact Nat.mul_le_mul_right sz hfit
   obtain ⟨w',h2,h4,h3⟩:=zpn (P:=P) us w H c (x.2.1 * sz) 0 h1 hw hb (by rw [← hl];simpa using hcs)
   refine ⟨(x.1,x.2.1+n,x.2.2),w',?_,h4,?_,rfl,?_,fun b hb=>.inl hb⟩
   ·rw [hx1]
    simp only [Builtin.append_,List.getElem?_toArray,List.getElem?_cons_zero,List.getElem?_cons_succ,Sem.run_bind,qx hu,qx hxd,Result.andThen_ok,Sem.run_pure,hnoint,Bool.false_eq_true,if_false,zbm hse,hlen,
     if_pos hfit,Bool.not_false,if_true,hfirst w rfl,jr,Nat.zero_add,h2]
   ·rw [h3]
    refine .inr ⟨b,_,hx1,hBb,qw hb,by simp [hc],?_,hfit,?_⟩
    ·rw [List.length_append,hl,hul,← Nat.add_mul]
    ·apply List.ext_getElem?
     intro i
     rw [Array.toList_extract,List.extract_eq_take_drop]
     simp only [List.drop_zero,Nat.sub_zero]
     rw [List.getElem?_take]
     by_cases hilt:i < (vs++us).length
     ·rw [if_pos hilt]
      rw [Array.getElem?_toList,zgt (by rw [Nat.add_zero,← hl];exact hcs)]
      simp only [Nat.add_zero]
      by_cases hiv:i < vs.length
      ·rw [if_neg (by omega),List.getElem?_append_left hiv]
       have:((c.extract 0 vs.length).toList)[i]?=vs[i]?:=by rw [he]
       rw [Array.getElem?_toList,Array.getElem?_extract,if_pos (by omega)] at this
       simpa using this
      ·rw [List.length_append] at hilt
       rw [if_pos (by omega),List.getElem?_append_right (by omega),hl]
     ·rw [if_neg hilt,List.getElem?_eq_none (by omega)]
   ·rw [h3]
    exact Ext.set _ (by simp [xw,hx1])
 ·-- it grows
  subst hw
  have hcl:=hown.cells
  have hll:=hown.len
  have hgrow:Builtin.nextslicecap (x.2.1+n) x.2.2 * info.bytes≤281474976710656 :=
   Nat.le_trans (Nat.mul_le_mul_right _ (qel (by omega))) hroom
  have hcap:x.2.1+n≤281474976710656:=by
   have:(x.2.1+n) * 1≤(2 * (x.2.1+n)+192) * info.bytes:=Nat.mul_le_mul (by omega) (by omega)
   omega
  have hold:∀ w',w'.heap=w.heap→(Builtin.firstCells sz x.2.1 (.slice x.1 x.2.1 x.2.2)).run P w'=.ok vs.toArray w':=fun w' hw'=>zyt hw' hcl hll.symm
  have hch:∀ w:World,(choose (.appendCap (x.2.1+n) x.2.2 e)).run P w=.ok (x.2.1+n+w.tape w.drawn (.appendCap (x.2.1+n) x.2.2 e) % (2 ^ 63 - (x.2.1+n))) { w with drawn:=w.drawn+1 } :=
   fun w=>by simp [Question.forced,Question.cut]
  generalize hq:x.2.1+n+w.tape w.drawn (.appendCap (x.2.1+n) x.2.2 e) % (2 ^ 63 - (x.2.1+n))=q at *
  have hqn:x.2.1+n≤q:=by omega
  have hzv:∀ w',(zeroValue e).run P w'=.ok z w':=fun w'=>by simp [zeroValue,typeInfo,hi,hz]
  refine ⟨(some ⟨w.heap.size,0,none⟩,x.2.1+n,q),{ w with drawn:=w.drawn+1,heap:=w.heap.push (.cells (vs.toArray++us.toArray++Builtin.zeroCells z.cells (q - (x.2.1+n))) e) },?_,⟨rfl,rfl,rfl,Nat.le_succ _⟩,?_,rfl,?_,?_⟩
  ·have hn1:¬ ((x.2.1+n:Nat):Int) > IntKind.i64.max:=by
    have:IntKind.i64.max=9223372036854775807:=by decide
    rw [this];omega
   have hn2:¬ Builtin.nextslicecap (x.2.1+n) x.2.2 * info.bytes > 2 ^ 48:=by
    have:(2:Nat) ^ 48=281474976710656:=by decide
    rw [this];omega
   have hti':∀ w',(typeInfo e).run P w'=.ok info w':=fun w'=>by simp [typeInfo,hi]
   simp only [Builtin.append_,List.getElem?_toArray,List.getElem?_cons_zero,List.getElem?_cons_succ,Sem.run_bind,qx hu,qx hxd,Result.andThen_ok,Sem.run_pure,hnoint,Bool.false_eq_true,if_false,zbm hse,hlen,
    if_neg hfit,Bool.not_false,if_true,hti',hn1,false_and,hn2,hch,hq,run_askRoom,hold { w with drawn:=w.drawn+1 } rfl,hfirst { w with drawn:=w.drawn+1 } rfl,hzv,newRow,run_newObj]
  ·refine .inr ⟨w.heap.size,vs.toArray++us.toArray++Builtin.zeroCells z.cells (q - (x.2.1+n)),rfl,hB,?_,?_,?_,hqn,?_⟩
   ·simp
   ·simp only [Array.size_append,List.size_toArray,Builtin.zeroCells,Array.size_map,Array.size_range,hll,hul,hzs]
    rw [← Nat.add_mul,← Nat.add_mul]
    congr 1
    omega
   ·rw [List.length_append,hll,hul,← Nat.add_mul]
   ·rw [Array.toList_extract,List.extract_eq_take_drop]
    simp only [List.drop_zero,Nat.sub_zero,Array.toList_append,List.length_append]
    rw [← List.length_append,List.take_left]
  ·exact .push _
  ·intro b hb
   simp only [xw,List.mem_singleton] at hb
   exact .inr (by omega)
end
theorem Mine.put {H:Heap} {B:Nat} {T:TypeId} {x:Option Addr × Nat × Nat} {vs:List Value} (h:Mine H B T 1 x vs) {i:Nat} (hi:i < vs.length) (v:Value) :
  ∃ b c,x.1=some ⟨b,0,none⟩∧H[b]?=some (.cells c T (0,0))∧i < c.size∧c[i]?=vs[i]?∧Mine (H.setIfInBounds b (.cells (c.setIfInBounds i v) T (0,0))) B T 1 x (vs.set i v):=by
 rcases h with ⟨_,rfl⟩ | ⟨b,c,hx,hB,hb,hc,hl,hle,he⟩
 ·cases hi
 ·have hvc:vs.length≤c.size:=by omega
  have hget:∀ j,j < vs.length→c[j]?=vs[j]?:=by
   intro j hj
   have:((c.extract 0 vs.length).toList)[j]?=vs[j]?:=by rw [he]
   rw [Array.getElem?_toList,Array.getElem?_extract,if_pos (by omega)] at this
   simpa using this
  refine ⟨b,c,hx,hb,by omega,hget i hi,.inr ⟨b,_,hx,hB,qw hb,by simpa using hc,by simpa using hl,hle,?_⟩⟩
  apply List.ext_getElem?
  intro j
  rw [Array.getElem?_toList,Array.getElem?_extract]
  simp only [List.length_set,Nat.sub_zero,Nat.zero_add,Array.size_setIfInBounds]
  by_cases hj:j < vs.length
  ·rw [if_pos (by omega),Array.getElem?_setIfInBounds,List.getElem?_set]
   by_cases e:i=j
   ·subst e;simp [hi,show i < c.size by omega]
   ·simp only [e,if_false];exact hget j hj
  ·rw [if_neg (by omega),List.getElem?_eq_none (by simp;omega)]
def arr (L:List UInt8):Value:=.agg (byteCells L).toArray
section
variable {P:Program}
theorem byte_at (L:List UInt8) (i:Nat):(byteCells L).toArray[i]?=(L[i]?).map fun b=>Value.int .u8 (b.toNat:Int):=by
 simp [byteCells]
theorem zxu {e:TypeId} {info:TypeInfo} {w:World} (he:P.underlying e=some (.int .u8)) (L:List UInt8) {i:Nat} (hi:i < L.length):(part e (byteCells L).toArray i).run P w=.ok (.int .u8 ((L[i]).toNat:Int)) w :=
 run_part_plain w (by simp [Program.plainKey,he]) (by rw [byte_at];simp [hi])
theorem ztd {e:TypeId} {d:Nat} {w:World} (he:P.underlying e=some (.int .u8)) (hc:P.cellsOf e=1) (A B:List UInt8):∀ is:List Nat,(∀ i ∈ is,i < A.length∧i < B.length) →
  (Op.eqItems (d+1) e (P.cellsOf e) (byteCells A).toArray (byteCells B).toArray is).run P w=.ok (decide (∀ i ∈ is,A[i]?=B[i]?)) w
 | [],_=>by simp [Op.eqItems]
 | i :: is,h=>by
  have h1:=h i (by simp)
  have ih:=ztd (d:=d) (w:=w) he hc A B is fun j hj=>h j (by simp [hj])
  simp only [Op.eqItems,Sem.run_bind,hc,Nat.mul_one]
  rw [zxu (info:=default) he A h1.1]
  simp only [Result.andThen_ok]
  rw [zxu (info:=default) he B h1.2]
  simp only [Result.andThen_ok]
  rw [run_equalIn_int w d e .u8 .u8 _ _ he]
  simp only [Result.andThen_ok]
  rw [hc] at ih
  by_cases hb:A[i]=B[i]
  ·have:(((A[i]).toNat:Int) == ((B[i]).toNat:Int))=true:=by rw [hb];simp
   simp only [this,Bool.not_true,Bool.false_eq_true,if_false,ih]
   congr 1
   simp [List.getElem?_eq_getElem h1.1,List.getElem?_eq_getElem h1.2,hb]
  ·have:(((A[i]).toNat:Int) == ((B[i]).toNat:Int))=false:=by
    simp only [beq_eq_false_iff_ne,ne_eq]
    intro hh
    apply hb
    apply UInt8.toNat_inj.1
    omega
   simp only [this,Bool.not_false,if_true,Sem.run_pure]
   congr 1
   simp [List.getElem?_eq_getElem h1.1,List.getElem?_eq_getElem h1.2,hb]
theorem zzq {t e:TypeId} {n:Nat} {w:World} (hu:P.underlying t=some (.array n e)) (he:P.underlying e=some (.int .u8)) (hc:P.cellsOf e=1) {A B:List UInt8} (hA:A.length=n) (hB:B.length=n) :
  (Op.equal t (arr A) (arr B)).run P w=.ok (decide (A=B)) w:=by
 have hi:∃ i,P.info? e=some i:=info_of_underlying he
 obtain ⟨i,hi⟩:=hi
 unfold Op.equal Op.maxDepth arr
 rw [run_equalIn_array w 9999 _ _ hu hi,ztd (d:=9998) he hc A B (List.range n) (by intro j hj;simp at hj;omega)]
 congr 1
 simp only [List.mem_range,decide_eq_decide]
 constructor
 ·intro h
  apply List.ext_getElem?
  intro j
  by_cases hj:j < n
  ·exact h j hj
  ·rw [List.getElem?_eq_none (by omega),List.getElem?_eq_none (by omega)]
 ·rintro rfl _ _;rfl
theorem qhq {t e:TypeId} {n:Nat} {w:World} (hu:P.underlying t=some (.array n e)) (he:P.underlying e=some (.int .u8)) (hc:P.cellsOf e=1) {A:List UInt8} (hA:A.length=n) (em:Bool) :
  (Instr.checkKey em 10000 t (arr A)).run P w=.ok () w:=by
 have hi:∃ i,P.info? e=some i:=info_of_underlying he
 obtain ⟨i,hi⟩:=hi
 unfold arr
 rw [show (10000:Nat)=9998+1+1 from rfl,Instr.checkKey]
 simp only [Sem.run_bind,qx hu,Result.andThen_ok]
 simp only [Std.Legacy.Range.forIn_eq_forIn_range',Std.Legacy.Range.size,Nat.sub_zero,Nat.add_one_sub_one,Nat.div_one]
 have each:∀ j ∈ List.range' 0 n,j < A.length:=by intro j hj;simp [List.mem_range'] at hj;omega
 generalize List.range' 0 n=is at each
 induction is with
 | nil=>simp
 | cons j is ih =>
  have p1:(part e (byteCells A).toArray j).run P w=_:=zxu (info:=default) he A (each j (by simp))
  have p2:(Instr.checkKey em (9998+1) e (.int .u8 ((A[j]'(each j (by simp))).toNat:Int))).run P w=.ok () w:=by
   rw [Instr.checkKey]
   simp only [Sem.run_bind,qx he,Result.andThen_ok,Sem.run_pure]
  simp only [List.forIn_cons,Sem.run_bind,run_sizeOf w hi,Result.andThen_ok,hc,Nat.mul_one,p1,p2,Sem.run_pure]
  exact ih fun y hy=>each y (by simp [hy])
end
structure KeyOk (P:Program) (kt:TypeId) (κ:Type) [DecidableEq κ] (ok:κ→Prop) (enc:κ→Value):Prop where
 find:∀ (w:World) (k:κ) (es:List MapEntry) (l:List (κ × Value × Nat)),ok k→(∀ x ∈ l,ok x.1)→es=l.map (fun x=>⟨enc x.1,x.2.1,x.2.2⟩) →
  (Instr.findKey kt (enc k) es).run P w=.ok ((l.findIdx? (fun x=>x.1 == k)).bind fun i=>(l[i]?).map fun x=>(i,x.2.1)) w
 chk:∀ (w:World) (k:κ) (e:Bool),ok k→(Instr.checkKey e 10000 kt (enc k)).run P w=.ok () w
 same:∀ k:κ,ok k→Instr.sameBits 10000 (enc k) (enc k)=true
section
variable {P:Program} {κ:Type} [DecidableEq κ] {ok:κ→Prop} {enc:κ→Value}
theorem zq4 {kt:TypeId} {w:World} (heq:∀ (w:World) (a b:κ),ok a→ok b→(Op.equal kt (enc a) (enc b)).run P w=.ok (decide (a=b)) w) {k:κ} (hk:ok k):∀ (l:List (κ × Value × Nat)) (i:Nat),(∀ x ∈ l,ok x.1) →
  (Instr.findAsking kt (enc k) (l.map fun x=>⟨enc x.1,x.2.1,x.2.2⟩) i).run P w=.ok ((l.findIdx? (fun x=>x.1 == k)).bind fun j=>(l[j]?).map fun x=>(i+j,x.2.1)) w
 | [],i,_=>by simp [Instr.findAsking]
 | x :: l,i,h=>by
  have ih:=zq4 (w:=w) heq hk l (i+1) fun y hy=>h y (by simp [hy])
  simp only [List.map_cons,Instr.findAsking,Sem.run_bind,heq w k x.1 hk (h x (by simp)),Result.andThen_ok]
  by_cases e:x.1=k
  ·subst e
   simp [List.findIdx?_cons]
  ·have e':¬ k=x.1:=fun h=>e h.symm
   simp only [e',decide_false,Bool.false_eq_true,if_false,ih]
   congr 1
   rw [List.findIdx?_cons]
   simp only [beq_eq_false_iff_ne.2 e]
   cases hf:List.findIdx? (fun x=>x.1 == k) l with
   | none=>simp
   | some j=>simp [Nat.add_assoc,Nat.add_comm 1 j]
theorem KeyOk.wide {kt:TypeId} (heq:∀ (w:World) (a b:κ),ok a→ok b→(Op.equal kt (enc a) (enc b)).run P w=.ok (decide (a=b)) w)
  (hw:(match P.underlying kt with | some (.array _ _) | some (.struct _)=>true | _=>false)=true) (hc:∀ (w:World) (k:κ) (e:Bool),ok k→(Instr.checkKey e 10000 kt (enc k)).run P w=.ok () w)
  (hs:∀ k:κ,ok k→Instr.sameBits 10000 (enc k) (enc k)=true):KeyOk P kt κ ok enc where
 find w k es l hk hl he:=by
  subst he
  rw [run_findKey_eq w hw,zq4 heq hk l 0 hl]
  simp
 chk:=hc
 same:=hs
end
theorem z8b (L:List UInt8):Instr.sameBits 10000 (arr L) (arr L)=true:=by
 unfold arr
 rw [show (10000:Nat)=9999+1 from rfl,Instr.sameBits]
 simp only [beq_self_eq_true,Bool.true_and,List.all_eq_true]
 intro x hx
 simp only [byteCells] at hx
 have:∀ (l:List UInt8),x ∈ (l.map fun b=>Value.int .u8 (b.toNat:Int)).zip (l.map fun b=>Value.int .u8 (b.toNat:Int))→∃ b:UInt8,x=(Value.int .u8 (b.toNat:Int),Value.int .u8 (b.toNat:Int)):=by
  intro l
  induction l with
  | nil=>intro h;cases h
  | cons b l ih =>
   intro h
   simp only [List.map_cons,List.zip_cons_cons,List.mem_cons] at h
   rcases h with rfl | h
   ·exact ⟨b,rfl⟩
   ·exact ih h
 obtain ⟨b,rfl⟩:=this L hx
 simp [Instr.sameBits]
theorem KeyOk.arr {P:Program} {t e:TypeId} {n:Nat} (hu:P.underlying t=some (.array n e)) (he:P.underlying e=some (.int .u8)) (hc:P.cellsOf e=1):KeyOk P t (List UInt8) (fun L=>L.length=n) arr :=
 .wide (fun w a b ha hb=>zzq hu he hc ha hb) (by rw [hu]) (fun w k e hk=>qhq hu he hc hk e) fun k _=>z8b k
def ents {κ:Type} (enc:κ→Value) (l:List (κ × Value × Nat)):Array MapEntry:=(l.map fun x=>⟨enc x.1,x.2.1,x.2.2⟩).toArray
set_option linter.unusedSectionVars false
section
variable {κ ν:Type} [DecidableEq κ]
abbrev ML (κ ν:Type):=List (κ × ν × Nat)
def zcj (l:ML κ ν) (k:κ):Option ν:=(l.find? fun x=>x.1 == k).map (·.2.1)
def zpd (l:ML κ ν) (k:κ) (v:ν) (c:Nat):ML κ ν:=if (zcj l k).isSome then l.map (fun x=>if x.1=k then (x.1,v,x.2.2) else x) else l++[(k,v,c)]
def zvi (l:ML κ ν) (k:κ) (c:Nat):Nat:=if (zcj l k).isSome then c else c+1
def qag (l:ML κ ν) (k:κ):ML κ ν:=l.filter fun x=>x.1 != k
structure MOk (ok:κ→Prop) (l:ML κ ν) (c:Nat):Prop where
 keys:(l.map (·.1)).Nodup
 born:(l.map (·.2.2)).Nodup
 old:∀ x ∈ l,x.2.2 < c
 fine:∀ x ∈ l,ok x.1
theorem zff {l:ML κ ν} {k:κ} {v:ν} (h:zcj l k=some v):∃ c,(k,v,c) ∈ l:=by
 simp only [zcj,Option.map_eq_some_iff] at h
 obtain ⟨x,hx,rfl⟩:=h
 have h1:=List.find?_some hx
 have h2:=List.mem_of_find?_eq_some hx
 simp at h1
 subst h1
 exact ⟨x.2.2,h2⟩
theorem zsj {l:ML κ ν} (hn:(l.map (·.1)).Nodup) {k:κ} {v:ν} {c:Nat} (h:(k,v,c) ∈ l):zcj l k=some v:=by
 induction l with
 | nil=>cases h
 | cons x l ih =>
  simp only [List.map_cons,List.nodup_cons] at hn
  simp only [zcj,List.find?_cons]
  rcases List.mem_cons.1 h with h | h
  ·subst h;simp
  ·have hne:x.1 ≠ k:=fun e=>hn.1 (by rw [e];exact List.mem_map.2 ⟨_,h,rfl⟩)
   simp only [beq_eq_false_iff_ne.2 hne]
   exact ih hn.2 h
theorem zb8 {l:ML κ ν} {k:κ} {x:κ × ν × Nat} (e:x.1=k):zcj (x :: l) k=some x.2.1:=by simp [zcj,e]
theorem zb7 {l:ML κ ν} {k:κ} {x:κ × ν × Nat} (e:x.1 ≠ k):zcj (x :: l) k=zcj l k:=by simp only [zcj,List.find?_cons,beq_eq_false_iff_ne.2 e]
theorem zwn {l:ML κ ν} {k:κ} {x:κ × ν × Nat} (e:x.1=k):qag (x :: l) k=qag l k:=by simp [qag,e]
theorem zwk {l:ML κ ν} {k:κ} {x:κ × ν × Nat} (e:x.1 ≠ k):qag (x :: l) k=x :: qag l k:=by simp [qag,e]
theorem z9b {l:ML κ ν} {k:κ} (h:∀ x ∈ l,x.1 ≠ k):qag l k=l:=by
 rw [qag,List.filter_eq_self]
 intro x hx
 simp [h x hx]
theorem zz9 {l:ML κ ν} {k:κ} (h:zcj l k=none):∀ x ∈ l,x.1 ≠ k:=by
 simp only [zcj,Option.map_eq_none_iff,List.find?_eq_none] at h
 intro x hx e
 exact absurd (h x hx) (by simp [e])
theorem zlp {l:ML κ ν} {k:κ} (h:∀ x ∈ l,x.1 ≠ k):zcj l k=none:=by
 simp only [zcj,Option.map_eq_none_iff,List.find?_eq_none]
 intro x hx
 simp [h x hx]
theorem zpq {l:ML κ ν} {k:κ} {v:ν} {c:Nat} (h:(zcj l k).isSome=true):zpd l k v c=l.map (fun x=>if x.1=k then (x.1,v,x.2.2) else x):=by simp [zpd,h]
theorem zm8 {l:ML κ ν} {k:κ} {v:ν} {c:Nat} (h:zcj l k=none):zpd l k v c=l++[(k,v,c)]:=by simp [zpd,h]
theorem zqc {l:ML κ ν} {k:κ} {v:ν} {c:Nat} {x:κ × ν × Nat} (h:x ∈ zpd l k v c):(x.1=k∧x.2.1=v) ∨ (x.1 ≠ k∧x ∈ l):=by
 cases hg:zcj l k with
 | none =>
  rw [zm8 hg] at h
  rcases List.mem_append.1 h with h | h
  ·exact .inr ⟨zz9 hg x h,h⟩
  ·simp at h;subst h;exact .inl ⟨rfl,rfl⟩
 | some v' =>
  rw [zpq (by rw [hg];rfl)] at h
  obtain ⟨y,hy,rfl⟩:=List.mem_map.1 h
  by_cases e:y.1=k
  ·rw [if_pos e];exact .inl ⟨e,rfl⟩
  ·rw [if_neg e];exact .inr ⟨e,hy⟩
theorem key_inj {ok:κ→Prop} {l:ML κ ν} {c:Nat} (h:MOk ok l c) {x y:κ × ν × Nat} (hx:x ∈ l) (hy:y ∈ l) (e:x.1=y.1):x=y:=by
 have h1:=h.keys
 clear h
 induction l with
 | nil=>cases hx
 | cons z l ih =>
  simp only [List.map_cons,List.nodup_cons] at h1
  rcases List.mem_cons.1 hx with e1 | hx1 <;> rcases List.mem_cons.1 hy with e2 | hy1
  ·rw [e1,e2]
  ·exact absurd (List.mem_map.2 ⟨y,hy1,by rw [← e,e1]⟩) h1.1
  ·exact absurd (List.mem_map.2 ⟨x,hx1,by rw [e,e2]⟩) h1.1
  ·exact ih hx1 hy1 h1.2
theorem born_inj {ok:κ→Prop} {l:ML κ ν} {c:Nat} (h:MOk ok l c) {x y:κ × ν × Nat} (hx:x ∈ l) (hy:y ∈ l) (e:x.2.2=y.2.2):x=y:=by
 have h1:=h.born
 clear h
 induction l with
 | nil=>cases hx
 | cons z l ih =>
  simp only [List.map_cons,List.nodup_cons] at h1
  rcases List.mem_cons.1 hx with e1 | hx1 <;> rcases List.mem_cons.1 hy with e2 | hy1
  ·rw [e1,e2]
  ·exact absurd (List.mem_map.2 ⟨y,hy1,by rw [← e,e1]⟩) h1.1
  ·exact absurd (List.mem_map.2 ⟨x,hx1,by rw [e,e2]⟩) h1.1
  ·exact ih hx1 hy1 h1.2
theorem z7p {l:ML κ ν} {k:κ} {v:ν}:(l.map (fun x=>if x.1=k then (x.1,v,x.2.2) else x)).map (·.1)=l.map (·.1):=by
 rw [List.map_map];congr 1;funext x;simp only [Function.comp];split <;> rfl
theorem z8d {l:ML κ ν} {k:κ} {v:ν}:(l.map (fun x=>if x.1=k then (x.1,v,x.2.2) else x)).map (·.2.2)=l.map (·.2.2):=by
 rw [List.map_map];congr 1;funext x;simp only [Function.comp];split <;> rfl
theorem MOk.upd {ok:κ→Prop} {l:ML κ ν} {c:Nat} (h:MOk ok l c) {k:κ} (hk:ok k) (v:ν):MOk ok (zpd l k v c) (zvi l k c):=by
 cases hg:zcj l k with
 | some v' =>
  rw [zpq (by rw [hg];rfl),show zvi l k c=c from by simp [zvi,hg]]
  refine ⟨by rw [z7p];exact h.keys,by rw [z8d];exact h.born,?_,?_⟩
  ·intro x hx
   obtain ⟨y,hy,rfl⟩:=List.mem_map.1 hx
   split <;> exact h.old y hy
  ·intro x hx
   obtain ⟨y,hy,rfl⟩:=List.mem_map.1 hx
   split <;> exact h.fine y hy
 | none =>
  rw [zm8 hg,show zvi l k c=c+1 from by simp [zvi,hg]]
  have hn:=zz9 hg
  refine ⟨?_,?_,?_,?_⟩
  ·rw [List.map_append,List.nodup_append]
   refine ⟨h.keys,by simp,?_⟩
   intro a ha b hb
   simp at hb;subst hb
   obtain ⟨y,hy,rfl⟩:=List.mem_map.1 ha
   exact hn y hy
  ·rw [List.map_append,List.nodup_append]
   refine ⟨h.born,by simp,?_⟩
   intro a ha b hb
   simp at hb;subst hb
   obtain ⟨y,hy,rfl⟩:=List.mem_map.1 ha
   have:=h.old y hy;omega
  ·intro x hx
   rcases List.mem_append.1 hx with hx | hx
   ·have:=h.old x hx;omega
   ·simp at hx;subst hx;simp
  ·intro x hx
   rcases List.mem_append.1 hx with hx | hx
   ·exact h.fine x hx
   ·simp at hx;subst hx;exact hk
theorem MOk.nil {ok:κ→Prop}:MOk (κ:=κ) (ν:=ν) ok [] 0:=⟨by simp,by simp,by simp,by simp⟩
theorem zxd {l:ML κ ν} {k k':κ} {v:ν} {c:Nat}:zcj (zpd l k v c) k'=if k'=k then some v else zcj l k':=by
 cases hg:zcj l k with
 | none =>
  rw [zm8 hg]
  simp only [zcj,List.find?_append]
  by_cases e:k'=k
  ·subst e
   have:l.find? (fun x=>x.1 == k')=none:=by simpa [zcj] using hg
   simp [this]
  ·have e':¬ k=k':=fun h=>e h.symm
   simp [e,e']
 | some v' =>
  rw [zpq (by rw [hg];rfl)]
  obtain ⟨c',hm⟩:=zff hg
  clear hg
  induction l with
  | nil=>cases hm
  | cons x l ih =>
   simp only [zcj,List.map_cons,List.find?_cons]
   by_cases ex:x.1=k
   ·by_cases e:k'=k
    ·subst e;simp [ex]
    ·have e':¬ x.1=k':=fun h=>e (by rw [← h,ex])
     simp only [ex,if_true,beq_eq_false_iff_ne.2 (ex ▸ e'),e,if_false]
     by_cases hml:(k,v',c') ∈ l
     ·have:=ih hml
      simp only [zcj,e,if_false] at this
      exact this
     ·have hnk:∀ y ∈ l,y.1=k'→(if y.1=k then (y.1,v,y.2.2) else y)=y:=by
       intro y _ hy;rw [if_neg (by rw [hy];exact e)]
      clear ih hm hml
      induction l with
      | nil=>rfl
      | cons y l ih2 =>
       simp only [List.map_cons,List.find?_cons]
       by_cases ey:y.1=k
       ·simp only [ey,if_true,beq_eq_false_iff_ne.2 (ex ▸ e')]
        exact ih2 fun z hz=>hnk z (by simp [hz])
       ·simp only [ey,if_false]
        by_cases ey':y.1=k'
        ·simp [ey']
        ·simp only [beq_eq_false_iff_ne.2 ey']
         exact ih2 fun z hz=>hnk z (by simp [hz])
   ·have hml:(k,v',c') ∈ l:=by
     rcases List.mem_cons.1 hm with h | h
     ·exact absurd (by rw [← h]) ex
     ·exact h
    simp only [ex,if_false]
    by_cases ex':x.1=k'
    ·subst ex';simp [ex]
    ·simp only [beq_eq_false_iff_ne.2 ex']
     exact ih hml
theorem qiy {l:ML κ ν} {k k':κ}:zcj (qag l k) k'=if k'=k then none else zcj l k':=by
 induction l with
 | nil=>simp [qag,zcj]
 | cons x l ih =>
  simp only [qag,zcj,List.filter_cons] at ih ⊢
  by_cases ex:x.1=k
  ·simp only [ex,bne_self_eq_false,Bool.false_eq_true,if_false]
   rw [ih]
   by_cases e:k'=k
   ·simp [e]
   ·have e':¬ k=k':=fun h=>e h.symm
    simp only [e,if_false,List.find?_cons,ex,beq_eq_false_iff_ne.2 e']
  ·simp only [bne_iff_ne.2 ex,if_true,List.find?_cons]
   by_cases ex':x.1=k'
   ·subst ex';simp [ex]
   ·simp only [beq_eq_false_iff_ne.2 ex']
    exact ih
end
section heap
variable {P:Program} {w:World} {H:Heap} {κ:Type} [DecidableEq κ] {ok:κ→Prop} {enc:κ→Value} {mt kt et:TypeId} {m:Nat} {l:ML κ Value} {c:Nat}
theorem qh4 {o:Obj} {r:Nat} (hw:w.heap=H) (h:H[r]?=some o) (hno:∀ c e f,o ≠ .cells c e f):(getObj r).run P w=.ok o w:=by
 subst hw
 cases o <;> first | (exact absurd rfl (hno _ _ _)) | simp [getObj,Sem.run,h]
theorem qda {o o':Obj} {r:Nat} (hw:w.heap=H) (h:H[r]?=some o) (hno:∀ c e f,o ≠ .cells c e f):(setObj r o').run P w=.ok () { w with heap:=H.setIfInBounds r o' }:=by
 subst hw
 cases o <;> first | (exact absurd rfl (hno _ _ _)) | simp [setObj,Sem.run,h]
theorem zzw {l:ML κ Value} {k:κ}:((l.findIdx? (fun x=>x.1 == k)).bind fun i=>(l[i]?).map fun x=>(i,x.2.1)).map (·.2)=zcj l k:=by
 induction l with
 | nil=>rfl
 | cons x l ih =>
  simp only [List.findIdx?_cons,zcj,List.find?_cons]
  by_cases e:x.1=k
  ·simp [e]
  ·simp only [beq_eq_false_iff_ne.2 e]
   refine Eq.trans ?_ ih
   cases List.findIdx? (fun x=>x.1 == k) l with
   | none=>simp
   | some i =>
    simp only [Bool.false_eq_true,if_false,Option.map_some,Option.bind_some,List.getElem?_cons_succ]
    cases l[i]? <;> rfl
theorem qiu (K:KeyOk P kt κ ok enc) (hu:P.underlying mt=some (.map kt et)) {z:Value} (hz:∀ w,(zeroValue et).run P w=.ok z w) (hw:w.heap=H) (hm:H[m]?=some (.map (ents enc l) c)) (hl:MOk ok l c) {k:κ} (hk:ok k) :
  (Instr.lookup mt (.map (some m)) (enc k) true).run P w=.ok (.tuple #[(zcj l k).getD z,.bool (zcj l k).isSome]) w:=by
 have hf:=K.find w k (ents enc l).toList l hk hl.fine (by simp [ents])
 have hg:=zzw (l:=l) (k:=k)
 generalize ((l.findIdx? (fun x=>x.1 == k)).bind fun i=>(l[i]?).map fun x=>(i,x.2.1))=r at hf hg
 simp only [Instr.lookup,Sem.run_bind,qx hu,Result.andThen_ok,qh4 hw hm (by intros;simp),Sem.run_pure,K.chk w k _ hk,hf]
 rw [← hg]
 cases r with
 | none=>simp [hz]
 | some x=>simp
theorem qei (hn:(l.map (·.1)).Nodup) {k:κ} {v:Value} {i:Nat} {x:κ × Value × Nat} (hi:l.findIdx? (fun x=>x.1 == k)=some i) (hx:l[i]?=some x) :
  (ents enc l).modify i (fun e=>{ e with key:=enc k,val:=v })=ents enc (l.map (fun x=>if x.1=k then (x.1,v,x.2.2) else x)):=by
 rw [List.findIdx?_eq_some_iff_getElem] at hi
 obtain ⟨hlt,hk,_⟩:=hi
 simp only [beq_iff_eq] at hk
 apply Array.ext_getElem?
 intro j
 rw [Array.getElem?_modify]
 simp only [ents,List.getElem?_toArray,List.getElem?_map,List.map_map]
 by_cases hj:i=j
 ·subst hj
  simp only [if_true]
  rw [List.getElem?_eq_getElem hlt]
  simp [hk]
 ·simp only [hj,if_false]
  by_cases hjl:j < l.length
  ·rw [List.getElem?_eq_getElem hjl]
   simp only [Option.map_some,Function.comp]
   have hne:l[j].1 ≠ k:=by
    intro e
    have:=List.pairwise_iff_getElem.1 hn
    rcases Nat.lt_or_gt_of_ne hj with h | h
    ·exact this i j (by simpa using hlt) (by simpa using hjl) h (by simp [hk,e])
    ·exact this j i (by simpa using hjl) (by simpa using hlt) h (by simp [hk,e])
   simp [hne]
  ·rw [List.getElem?_eq_none (by omega)];rfl
theorem z9w {k:κ} (h:zcj l k=none):l.findIdx? (fun x=>x.1 == k)=none:=by
 rw [List.findIdx?_eq_none_iff]
 intro x hx
 simp [zz9 h x hx]
theorem z7i {k:κ} {v:Value} (h:zcj l k=some v):∃ i x,l.findIdx? (fun x=>x.1 == k)=some i∧l[i]?=some x∧x.1=k:=by
 cases hf:l.findIdx? (fun x=>x.1 == k) with
 | none =>
  rw [List.findIdx?_eq_none_iff] at hf
  obtain ⟨c,hm⟩:=zff h
  have:=hf _ hm
  simp at this
 | some i =>
  have h2:=List.findIdx?_eq_some_iff_getElem.1 hf
  obtain ⟨hlt,hk,_⟩:=h2
  simp only [beq_iff_eq] at hk
  exact ⟨i,l[i],rfl,List.getElem?_eq_getElem hlt,hk⟩
theorem qjv (K:KeyOk P kt κ ok enc) (hu:P.underlying mt=some (.map kt et)) (hw:w.heap=H) (hm:H[m]?=some (.map (ents enc l) c)) (hl:MOk ok l c) {k:κ} (hk:ok k) (v:Value) :
  (Instr.mapUpdate mt (.map (some m)) (enc k) v).run P w=.ok () { w with heap:=H.setIfInBounds m (.map (ents enc (zpd l k v c)) (zvi l k c)) }:=by
 have hf:=K.find w k (ents enc l).toList l hk hl.fine (by simp [ents])
 simp only [Instr.mapUpdate,Sem.run_bind,qx hu,Result.andThen_ok,qh4 hw hm (by intros;simp),K.chk w k _ hk,hf]
 cases hg:zcj l k with
 | none =>
  simp only [z9w hg,Option.bind_none]
  rw [qda hw hm (by intros;simp)]
  congr 4
  rw [zm8 hg]
  ·simp [ents]
  ·simp [zvi,hg]
 | some v' =>
  obtain ⟨i,x,hi,hx,hxk⟩:=z7i hg
  simp only [hi,Option.bind_some,hx,Option.map_some]
  have hkey:((ents enc l)[i]?.map (·.key)).getD (enc k)=enc k:=by
   simp [ents,hx,hxk]
  simp only [Sem.run_bind,hkey,Instr.keyThatStays,K.same k hk,if_true,Sem.run_pure,Result.andThen_ok]
  rw [qda hw hm (by intros;simp)]
  congr 4
  ·rw [qei hl.keys hi hx,zpq (by rw [hg];rfl)]
  ·simp [zvi,hg]
theorem zui (hw:w.heap=H):(Instr.makeMap mt none).run P w=.ok (.map (some H.size)) { w with heap:=H.push (.map #[] 0) }:=by
 subst hw;simp [Instr.makeMap]
theorem qhk {ty:TypeId} (hu:P.underlying mt=some (.map kt et)) (hw:w.heap=H) (hm:H[m]?=some (.map (ents enc l) c)):(Builtin.len_ #[mt] ty #[.map (some m)]).run P w=.ok (.int .i64 (l.length:Int)) w:=by
 simp only [Builtin.len_,List.getElem?_toArray,List.getElem?_cons_zero,Sem.run_bind,qx hu,qh4 hw hm (by intros;simp),Result.andThen_ok,Sem.run_pure]
 simp [ents]
 rfl
theorem qhc (hu:P.underlying mt=some (.map kt et)) (hw:w.heap=H) (hm:H[m]?=some (.map (ents enc l) c)) :
  (Instr.range mt (.map (some m))).run P w=.ok (.pointer (some ⟨H.size,0,none⟩)) { w with heap:=H.push (.mapIter (some m) c #[] c) }:=by
 subst hw
 simp only [Instr.range,Sem.run_bind,qx hu,qh4 rfl hm (by intros;simp),Result.andThen_ok,Sem.run_pure,run_newObj]
theorem ql9 {ty:TypeId} {r since last:Nat} {seen:Array Nat} (hw:w.heap=H) (hm:H[m]?=some (.map (ents enc l) c)) (hr:H[r]?=some (.mapIter (some m) since seen last)) (hold:∀ x ∈ l,x.2.2 < since) (hsl:since≤last) :
  ((∀ x ∈ l,x.2.2 ∈ seen)∧∃ w',(Instr.next (.pointer (some ⟨r,0,none⟩)) false ty).run P w=.ok (.tuple #[.bool false]) w'∧Calm w w'∧w'.heap=H) ∨
  ∃ x ∈ l,x.2.2 ∉ seen∧∃ w',(Instr.next (.pointer (some ⟨r,0,none⟩)) false ty).run P w=.ok (.tuple #[.bool true,enc x.1,x.2.1]) w'∧Calm w w'∧w'.heap=H.setIfInBounds r (.mapIter (some m) since (seen.push x.2.2) c):=by
 subst hw
 rcases run_next_at (P:=P) w ty r m since last seen (ents enc l) c hr hm (by intro x hx;simp only [ents] at hx;obtain ⟨y,hy,rfl⟩:=List.mem_map.1 hx;exact hold y hy) hsl with ⟨h0,h1⟩ | ⟨e,he,w1,hw1,h1⟩
 ·left
  refine ⟨fun x hx=>?_,w,h1,.refl w,rfl⟩
  have h2:leftOf (ents enc l) seen=#[]:=Array.eq_empty_of_size_eq_zero h0
  unfold leftOf at h2
  rw [Array.filter_eq_empty_iff] at h2
  have:=h2 ⟨enc x.1,x.2.1,x.2.2⟩ (by simp [ents];exact ⟨_,_,_,hx,rfl,rfl,rfl⟩)
  simpa using this
 ·right
  simp only [leftOf,ents,Array.toList_filter,List.mem_filter] at he
  obtain ⟨h2,h3⟩:=he
  obtain ⟨x,hx,rfl⟩:=List.mem_map.1 h2
  refine ⟨x,hx,by simpa using h3,_,h1,?_,?_⟩
  ·rcases hw1 with rfl | rfl <;> first | exact ⟨rfl,rfl,rfl,Nat.le_refl _⟩ | exact ⟨rfl,rfl,rfl,Nat.le_succ _⟩
  ·rcases hw1 with rfl | rfl <;> rfl
theorem qkw {r since last:Nat} {seen:Array Nat} (hw:w.heap=H) (hm:H[m]?=some (.map (ents enc l) c)) {x:κ × Value × Nat} (hr:H[r]?=some (.mapIter (some m) since (seen.push x.2.2) c)) (hx:x ∈ l) (hl:MOk ok l c) :
  (Instr.entry (.pointer (some ⟨r,0,none⟩))).run P w=.ok (.tuple #[enc x.1,x.2.1]) w:=by
 subst hw
 refine run_entry_at w r m since seen (ents enc l) c ⟨enc x.1,x.2.1,x.2.2⟩ hr hm (by simp only [ents];exact List.mem_map.2 ⟨x,hx,rfl⟩) ?_
 have:=hl.born
 simp only [ents,List.map_map]
 exact this
end heap
def vl {κ ν:Type} (ev:ν→Value) (l:ML κ ν):ML κ Value:=l.map fun x=>(x.1,ev x.2.1,x.2.2)
section views
variable {P:Program} {w:World} {H:Heap} {κ ν:Type} [DecidableEq κ] {ok:κ→Prop} {enc:κ→Value} {ev:ν→Value} {mt kt et:TypeId} {m:Nat} {l:ML κ ν} {c:Nat}
theorem zv3 {k:κ}:zcj (vl ev l) k=(zcj l k).map ev:=by
 induction l with
 | nil=>rfl
 | cons x l ih =>
  simp only [vl,zcj,List.map_cons,List.find?_cons] at ih ⊢
  by_cases e:x.1=k
  ·simp [e]
  ·simp only [beq_eq_false_iff_ne.2 e];exact ih
theorem qky {k:κ} {v:ν}:zpd (vl ev l) k (ev v) c=vl ev (zpd l k v c):=by
 unfold zpd
 rw [zv3]
 cases zcj l k with
 | none=>simp [vl]
 | some v' =>
  simp only [Option.map_some,Option.isSome_some,if_true]
  simp only [vl,List.map_map]
  congr 1
  funext x
  simp only [Function.comp]
  split <;> rfl
theorem qkt {k:κ}:zvi (vl ev l) k c=zvi l k c:=by
 unfold zvi;rw [zv3];cases zcj l k <;> rfl
theorem MOk.vl (h:MOk ok l c):MOk ok (vl ev l) c:=by
 refine ⟨?_,?_,?_,?_⟩
 ·have:=h.keys;simp only [Fw.vl,List.map_map];exact this
 ·have:=h.born;simp only [Fw.vl,List.map_map];exact this
 ·intro x hx;obtain ⟨y,hy,rfl⟩:=List.mem_map.1 hx;exact h.old y hy
 ·intro x hx;obtain ⟨y,hy,rfl⟩:=List.mem_map.1 hx;exact h.fine y hy
theorem zj0 (K:KeyOk P kt κ ok enc) (hu:P.underlying mt=some (.map kt et)) {z:Value} (hz:∀ w,(zeroValue et).run P w=.ok z w) (hw:w.heap=H) (hm:H[m]?=some (.map (ents enc (vl ev l)) c)) (hl:MOk ok l c) {k:κ} (hk:ok k) :
  (Instr.lookup mt (.map (some m)) (enc k) true).run P w=.ok (.tuple #[((zcj l k).map ev).getD z,.bool (zcj l k).isSome]) w:=by
 rw [qiu K hu hz hw hm hl.vl hk,zv3]
 cases zcj l k <;> rfl
theorem ztt (K:KeyOk P kt κ ok enc) (hu:P.underlying mt=some (.map kt et)) (hw:w.heap=H) (hm:H[m]?=some (.map (ents enc (vl ev l)) c)) (hl:MOk ok l c) {k:κ} (hk:ok k) (v:ν) {y:Value} (hy:y=ev v) :
  (Instr.mapUpdate mt (.map (some m)) (enc k) y).run P w=.ok () { w with heap:=H.setIfInBounds m (.map (ents enc (vl ev (zpd l k v c))) (zvi l k c)) }:=by
 subst hy
 rw [qjv K hu hw hm hl.vl hk,qky,qkt]
theorem qht {ty:TypeId} (hu:P.underlying mt=some (.map kt et)) (hw:w.heap=H) (hm:H[m]?=some (.map (ents enc (vl ev l)) c)):(Builtin.len_ #[mt] ty #[.map (some m)]).run P w=.ok (.int .i64 (l.length:Int)) w:=by
 rw [qhk hu hw hm];simp [vl]
theorem qkl {ty:TypeId} {r since last:Nat} {seen:Array Nat} (hw:w.heap=H) (hm:H[m]?=some (.map (ents enc (vl ev l)) c)) (hr:H[r]?=some (.mapIter (some m) since seen last)) (hold:∀ x ∈ l,x.2.2 < since) (hsl:since≤last) :
  ((∀ x ∈ l,x.2.2 ∈ seen)∧∃ w',(Instr.next (.pointer (some ⟨r,0,none⟩)) false ty).run P w=.ok (.tuple #[.bool false]) w'∧Calm w w'∧w'.heap=H) ∨
  ∃ x ∈ l,x.2.2 ∉ seen∧∃ w',(Instr.next (.pointer (some ⟨r,0,none⟩)) false ty).run P w=.ok (.tuple #[.bool true,enc x.1,ev x.2.1]) w'∧Calm w w'∧w'.heap=H.setIfInBounds r (.mapIter (some m) since (seen.push x.2.2) c):=by
 rcases ql9 (P:=P) (ty:=ty) hw hm hr (by intro x hx;obtain ⟨y,hy,rfl⟩:=List.mem_map.1 hx;exact hold y hy) hsl with ⟨h1,h2⟩ | ⟨x,hx,h1,h2⟩
 ·exact .inl ⟨fun x hx=>h1 (x.1,ev x.2.1,x.2.2) (List.mem_map.2 ⟨x,hx,rfl⟩),h2⟩
 ·obtain ⟨y,hy,rfl⟩:=List.mem_map.1 hx
  exact .inr ⟨y,hy,h1,h2⟩
theorem qfw {r since last:Nat} {seen:Array Nat} (hw:w.heap=H) (hm:H[m]?=some (.map (ents enc (vl ev l)) c)) {x:κ × ν × Nat} (hr:H[r]?=some (.mapIter (some m) since (seen.push x.2.2) c)) (hx:x ∈ l) (hl:MOk ok l c) :
  (Instr.entry (.pointer (some ⟨r,0,none⟩))).run P w=.ok (.tuple #[enc x.1,ev x.2.1]) w :=
 qkw (x:=(x.1,ev x.2.1,x.2.2)) (last:=last) hw hm hr (List.mem_map.2 ⟨x,hx,rfl⟩) hl.vl
theorem qhd {seen:Array Nat} {x:κ × ν × Nat} (hx:x ∈ l) (hn:x.2.2 ∉ seen) :
  (l.filter fun y=>!(seen.push x.2.2).contains y.2.2).length < (l.filter fun y=>!seen.contains y.2.2).length:=by
 have hsub:∀ y:κ × ν × Nat,(!(seen.push x.2.2).contains y.2.2)=true→(!seen.contains y.2.2)=true:=by
  intro y hy
  simp only [Bool.not_eq_true',Array.contains_eq_mem,Array.mem_push,decide_eq_false_iff_not,not_or] at hy ⊢
  exact hy.1
 induction l with
 | nil=>cases hx
 | cons y l ih =>
  have hle:∀ l:ML κ ν,(l.filter fun y=>!(seen.push x.2.2).contains y.2.2).length≤(l.filter fun y=>!seen.contains y.2.2).length:=by
   intro l
   rw [← List.countP_eq_length_filter,← List.countP_eq_length_filter]
   exact List.countP_mono_left fun z _=>hsub z
  rcases List.mem_cons.1 hx with rfl | hx
  ·have h1:(!(seen.push x.2.2).contains x.2.2)=false:=by simp
   have h2:(!seen.contains x.2.2)=true:=by simp [hn]
   simp only [List.filter_cons,h1,h2,Bool.false_eq_true,if_false,if_true,List.length_cons]
   have:=hle l;omega
  ·have:=ih hx
   simp only [List.filter_cons]
   by_cases h:(!(seen.push x.2.2).contains y.2.2)=true
   ·simp only [h,hsub y h,if_true,List.length_cons];omega
   ·rw [if_neg h]
    by_cases h2:(!seen.contains y.2.2)=true
    ·rw [if_pos h2,List.length_cons];omega
    ·rw [if_neg h2];exact this
end views
def zcr (x:Option Addr × Nat × Nat):Value:=.slice x.1 x.2.1 x.2.2
theorem zod {P:Program} {m:Sem Value} {l:List Sh} {w:World} {K:Tup l→Prop} (t:Tup l) (h:m.run P w=.ok (.tuple (Tup.vals l t).toArray) w) (hK:K t):qh9 P m l w K:=⟨t,h,hK⟩
theorem zxr {v:Value} {i:Nat} {s:Sh} {K:s.T→Prop} {vs:Array Value} (t:s.T) (hv:v=.tuple vs) (h:vs[i]?=some (s.val t)) (hK:K t):exV v i s K:=⟨vs,t,hv,h,hK⟩
theorem zzo {P:Program} {m:Sem Unit} {w:World} {K:World→Prop} (w':World) (h:m.run P w=.ok () w') (hK:K w') (hc:Calm w w':=by first | exact ⟨rfl,rfl,rfl,Nat.le_refl _⟩ | exact ⟨rfl,rfl,rfl,Nat.le_succ _⟩):zby P m w K:=⟨w',h,hc,hK⟩
section
variable {P:Program} {w:World}
theorem qb8 {t e:TypeId} {n:Nat} {x y:Operand} (hu:P.underlying t=some (.array n e)) (he:P.underlying e=some (.int .u8)) (hc:P.cellsOf e=1) (hg:P.eqGuardType P.depth t=false) {A B:List UInt8} (hA:A.length=n) (hB:B.length=n) :
  (eqM .eql t x y (arr A) (arr B)).run P w=.ok (.bool (decide (A=B))) w:=by
 have h:=zzq (w:=w) hu he hc hA hB
 unfold arr at h ⊢
 simp [eqM,eqGuard,binOp,hg,h]
theorem z3j {t e:TypeId} {n:Nat} {x y:Operand} (hu:P.underlying t=some (.array n e)) (he:P.underlying e=some (.int .u8)) (hc:P.cellsOf e=1) (hg:P.eqGuardType P.depth t=false) {A B:List UInt8} (hA:A.length=n) (hB:B.length=n) :
  (eqM .neq t x y (arr A) (arr B)).run P w=.ok (.bool (!decide (A=B))) w:=by
 have h:=zzq (w:=w) hu he hc hA hB
 unfold arr at h ⊢
 simp [eqM,eqGuard,binOp,hg,h]
end
def strOf (L:List UInt8):ByteArray:=⟨L.toArray⟩
theorem fold_push (L:List UInt8):∀ (s:ByteArray),(L.map fun b=>(b.toNat:Int)).foldl (fun r n=>r.push (UInt8.ofNat n.toNat)) s=⟨s.data++L.toArray⟩:=by
 induction L with
 | nil=>intro s;cases s;simp
 | cons b l ih =>
  intro s
  simp only [List.map_cons,List.foldl_cons]
  rw [ih]
  cases s
  simp [ByteArray.push]
section
variable {P:Program} {w:World} {H:Heap}
theorem zvw {st sd e:TypeId} {a:Option Addr} {l c:Nat} {L:List UInt8} (hs:P.underlying st=some (.slice e)) (he:P.underlying e=some (.int .u8)) (hd:P.underlying sd=some .string) (hw:w.heap=H) (hL:Cells H a (byteCells L)) (hl:l=L.length) :
  (convert st sd (.slice a l c)).run P w=.ok (.string (strOf L)) w:=by
 subst hl
 rw [run_convert_bytes_string w st sd e a _ c hs he hd]
 cases a with
 | none =>
  have:L=[]:=by
   rcases hL with h | ⟨b,o,c,T,fr,h,_⟩
   ·simpa [byteCells] using h
   ·cases h
  subst this
  rfl
 | some a =>
  have hcs:(loadCells a L.length).run P w=.ok ((L.map fun b=>(b.toNat:Int)).map (Value.int .u8)).toArray w:=by
   rw [List.map_map]
   rcases hL with h | ⟨b,o,c,T,fr,h,hb,hn,hc⟩
   ·have:L=[]:=by simpa [byteCells] using h
    subst this
    rfl
   ·cases h
    rw [jf] at hn
    rw [zsl hw hb hn]
    congr 1
    rw [jf] at hc
    apply Array.ext'
    rw [hc]
    rfl
  rw [run_bytesToString w a L.length c _ hcs,fold_push]
  simp [strOf]
theorem qml {st e:TypeId} {b o l c:Nat} {cc:Array Value} {T:TypeId} (hs:P.underlying st=some (.slice e)) (he:P.underlying e=some (.int .u8)) (hw:w.heap=H) (hb:H[b]?=some (.cells cc T (0,0))) :
  ∃ w',(convert st st (.slice (some ⟨b,o,none⟩) l c)).run P w=.ok (.slice (some ⟨b,o,none⟩) l c) w'∧Calm w w'∧w'.heap=H.setIfInBounds b (.cells cc T (cc.size,cc.size+1)):=by
 subst hw
 refine ⟨w.freeze { block:=b,off:=cc.size } 1,?_,⟨rfl,rfl,rfl,Nat.le_refl _⟩,?_⟩
 ·simp only [convert,Sem.run_bind,qx hs,qx he,Result.andThen_ok,beq_self_eq_true,markStringish,run_shape,World.shape?,hb,run_freeze,Sem.run_pure]
 ·simp only [World.freeze,Nat.succ_ne_zero,if_false]
  apply Array.ext_getElem?
  intro i
  rw [Array.getElem?_modify,Array.getElem?_setIfInBounds]
  by_cases e:b=i
  ·subst e
   have:=lt_of_get hb
   simp only [if_true,this,hb,Option.map_some]
   rfl
  ·simp [e]
theorem z3e {a:Addr} {vs:List Value} (hw:w.heap=H) (h:Cells H (some a) vs) {i:Nat} {v:Value} (hi:vs[i]?=some v):w.cell? (a.add i)=some v:=by
 have hlt:=(List.getElem?_eq_some_iff.1 hi).1
 rcases h with h | ⟨b,o,c,T,fr,h,hb,hn,hc⟩
 ·subst h;simp at hlt
 ·cases h
  rw [jr,z2y hw hb]
  rw [← hc,Array.getElem?_toList,Array.getElem?_extract] at hi
  split at hi
  ·exact hi
  ·cases hi
theorem zyk {a:Option Addr} {l c:Nat} {L:List UInt8} (hw:w.heap=H) (hL:Cells H a (byteCells L)) (hl:l=L.length):(Extern.Bytes.bytesOf (.slice a l c)).run P w=.ok (strOf L) w:=by
 subst hl
 cases a with
 | none =>
  have:L=[]:=by
   rcases hL with h | ⟨b,o,c,T,fr,h,_⟩
   ·simpa [byteCells] using h
   ·cases h
  subst this
  rfl
 | some a =>
  simp only [Extern.Bytes.bytesOf]
  have h:=Lib.run_loadBytesX (P:=P) w (L.map fun b=>(b.toNat:Int)) a .empty fun j x hj=>z3e hw hL (by
   rw [List.getElem?_map] at hj
   obtain ⟨b,hb,rfl⟩:=Option.map_eq_some_iff.1 hj
   simp [byteCells,hb])
  rw [List.length_map] at h
  rw [h]
  simp [strOf,Lib.bytesOf,Function.comp_def]
theorem z06 {a a':Option Addr} {l c l' c':Nat} {L L':List UInt8} (hw:w.heap=H) (hL:Cells H a (byteCells L)) (hl:l=L.length) (hL':Cells H a' (byteCells L')) (hl':l'=L'.length) :
  (Extern.BytealgCompare.compare #[.slice a l c,.slice a' l' c']).run P w=.ok (.int .i64 (Lib.compareBytes L L')) w:=by
 change Sem.run P (do pure (goInt (Extern.BytealgCompare.cmp (← Extern.Bytes.bytesOf (.slice a l c)) (← Extern.Bytes.bytesOf (.slice a' l' c'))))) w=_
 simp only [Sem.run_bind,zyk hw hL hl,zyk hw hL' hl',Sem.run_pure,Result.andThen_ok]
 rw [Lib.cmp_eq]
 rfl
end
open Go.Proofs Go.Shelf Go.RowKit Go.Lib Go.Sort
theorem getElem_flatMap {α:Type} {k:Nat} (enc:α→List Value) (hk:∀ x,(enc x).length=k) (h0:0 < k):∀ (xs:List α) (t:Nat),(xs.flatMap enc)[t]?=(xs[t / k]?).bind fun x=>(enc x)[t % k]?
 | [],t=>by simp
 | x :: xs,t=>by
  rw [List.flatMap_cons]
  by_cases ht:t < k
  ·rw [List.getElem?_append_left (by rw [hk];exact ht),Nat.div_eq_of_lt ht,Nat.mod_eq_of_lt ht]
   simp
  ·rw [List.getElem?_append_right (by rw [hk];omega),hk,getElem_flatMap enc hk h0 xs (t - k)]
   have h1:t / k=(t - k) / k+1:=by
    rw [Nat.div_eq_sub_div h0 (by omega)]
   have h2:t % k=(t - k) % k:=by rw [Nat.mod_eq_sub_mod (by omega)]
   rw [h1,h2]
   simp
theorem qg {α:Type} {k:Nat} (enc:α→List Value) (hk:∀ x,(enc x).length=k) (xs:List α):(xs.flatMap enc).length=xs.length * k:=by
 induction xs with
 | nil=>simp
 | cons x r ih=>rw [List.flatMap_cons,List.length_append,hk,ih,List.length_cons,Nat.add_mul];omega
theorem z6w {α:Type} [Inhabited α] {k:Nat} (enc:α→List Value) (hk:∀ x,(enc x).length=k) (h0:0 < k) (d:Array α) (t:Nat) (h:t < d.size * k):(d.toList.flatMap enc)[t]?=some (flatK enc k d)[t]!:=by
 rw [getElem_flatMap enc hk h0,get_flatK enc k d t h]
 have h1:t / k < d.size:=(Nat.div_lt_iff_lt_mul h0).2 h
 have h2:t % k < k:=Nat.mod_lt _ h0
 simp only [Array.getElem?_toList]
 rw [Array.getElem?_eq_getElem h1,Option.bind_some,List.getElem?_eq_getElem (by rw [hk];exact h2),getElem!_pos d _ h1,getElem!_pos _ _ (by rw [hk];exact h2)]
theorem grown_of {W W':World} (hx:Ext [] W.heap W'.heap) (hc:Calm W W'):∃ q os',W'=grow (W.drewN q) os':=by
 refine ⟨W'.drawn - W.drawn,W'.heap.extract W.heap.size W'.heap.size,?_⟩
 obtain ⟨h1,h2⟩:=hx
 have hh:W'.heap=W.heap++W'.heap.extract W.heap.size W'.heap.size:=by
  apply Array.ext_getElem?
  intro i
  by_cases hi:i < W.heap.size
  ·rw [Array.getElem?_append_left hi];exact h2 i hi (by simp)
  ·rw [Array.getElem?_append_right (by omega),Array.getElem?_extract]
   by_cases hi':i < W'.heap.size
   ·rw [if_pos (by omega)];congr 1;omega
   ·rw [if_neg (by omega),Array.getElem?_eq_none (by omega)]
 obtain ⟨c1,c2,c3,c4⟩:=hc
 cases W' with
 | mk h t d o u =>
  simp only at hh c1 c2 c3 c4
  subst c1 c2 c3
  unfold grow World.drewN
  simp only [World.mk.injEq,and_self,and_true]
  exact ⟨hh,trivial,(Nat.add_sub_cancel' c4).symm⟩
variable {P:Program} {ρ:Ren} {α:Type} [Inhabited α]
def Beside (B:Nat) (W W':World):Prop:=∃ r,B≤r∧(∀ o,W.heap[r]?=some o→zk9 o)∧Ext [r] W.heap W'.heap
theorem Beside.new {B:Nat} {W W':World} (hB:B≤W.heap.size) (hx:Ext [] W.heap W'.heap):Beside B W W' :=
 ⟨W.heap.size,hB,fun o h=>by have:=(Array.getElem?_eq_some_iff.1 h).1;omega,hx.mono (by simp)⟩
theorem Beside.size {B:Nat} {W W':World} (h:Beside B W W'):W.heap.size≤W'.heap.size:=by
 obtain ⟨r,_,_,h⟩:=h;exact h.1
theorem Beside.cells {B:Nat} {W W':World} (h:Beside B W W') {b:Nat} {c:Array Value} {T:TypeId} {fr:Nat × Nat} (hb:W.heap[b]?=some (.cells c T fr)):W'.heap[b]?=some (.cells c T fr):=by
 obtain ⟨r,_,hn,hx⟩:=h
 refine hx.get hb fun hm=>?_
 simp only [List.mem_singleton] at hm
 subst hm
 exact hn _ hb c T fr rfl
theorem Beside.old {B:Nat} {W W':World} (h:Beside B W W') {b:Nat} (hb:b < B) (hlt:b < W.heap.size):W'.heap[b]?=W.heap[b]?:=by
 obtain ⟨r,hB,_,hx⟩:=h
 exact hx.2 b hlt (by simp;omega)
theorem Beside.ext {B:Nat} {W W':World} (h:Beside B W W') {M:List Nat} {H:Heap} (hH:H.size≤B) (hx:Ext M H W.heap):Ext M H W'.heap :=
 ⟨Nat.le_trans hx.1 h.size,fun b hb hn=>(h.old (Nat.lt_of_lt_of_le hb hH) (Nat.lt_of_lt_of_le hb hx.1)).trans (hx.2 b hb hn)⟩
theorem Beside.mine {B B':Nat} {W W':World} (h:Beside B' W W') {T:TypeId} {sz:Nat} {x:Option Addr × Nat × Nat} {vs:List Value} (hM:Mine W.heap B T sz x vs):Mine W'.heap B T sz x vs:=by
 rcases hM with h0 | ⟨b,c,h1,h2,h3,h4⟩
 ·exact .inl h0
 ·exact .inr ⟨b,c,h1,h2,h.cells h3,h4⟩
theorem Beside.own {B:Nat} {W W':World} (h:Beside B W W') {a:Option Addr} {vs:List Value} (hM:Cells W.heap a vs):Cells W'.heap a vs:=by
 rcases hM with h0 | ⟨b,o,c,T,fr,h1,h2,h3⟩
 ·exact .inl h0
 ·exact .inr ⟨b,o,c,T,fr,h1,h.cells h2,h3⟩
theorem Beside.mono {B B':Nat} {W W':World} (h:Beside B W W') (hB:B'≤B):Beside B' W W':=by
 obtain ⟨r,h2,h3⟩:=h;exact ⟨r,Nat.le_trans hB h2,h3⟩
theorem zb2 {W:World} {l:Nat} {o:Obj}:(W.putObj l o).heap=W.heap.setIfInBounds l o:=by
 apply Array.ext_getElem?
 intro i
 by_cases h:l=i
 ·subst h
  by_cases hl:l < W.heap.size
  ·rw [World.putObj_heap_same hl,Array.getElem?_setIfInBounds_self_of_lt hl]
  ·rw [Array.getElem?_eq_none (by simp;omega),Array.getElem?_eq_none (by simpa [World.putObj] using hl)]
 ·rw [World.putObj_heap_other (by omega),Array.getElem?_setIfInBounds_ne h]
theorem Beside.put {B:Nat} {W:World} {l:Nat} {o o':Obj} (hB:B≤l) (hl:W.heap[l]?=some o) (ho:zk9 o):Beside B W (W.putObj l o'):=by
 refine ⟨l,hB,fun x hx=>?_,?_⟩
 ·rw [hl] at hx;cases hx;exact ho
 ·rw [zb2]
  exact ⟨by simp,fun b _ hn=>Array.getElem?_setIfInBounds_ne (by rintro rfl;exact hn (by simp))⟩
def Keep (M:List Nat) (B:Nat) (H H':Heap):Prop:=H.size≤H'.size∧(∀ b,b < B→b < H.size→b ∉ M→H'[b]?=H[b]?)∧∀ b o,B≤b→H[b]?=some o→zk9 o→H'[b]?=some o
theorem Keep.refl (M:List Nat) (B:Nat) (H:Heap):Keep M B H H:=⟨Nat.le_refl _,fun _ _ _ _=>rfl,fun _ _ _ h _=>h⟩
theorem Keep.trans {M:List Nat} {B:Nat} {H H' H'':Heap} (h:Keep M B H H') (h':Keep M B H' H''):Keep M B H H'' :=
 ⟨Nat.le_trans h.1 h'.1,fun b hb hl hn=>(h'.2.1 b hb (Nat.lt_of_lt_of_le hl h.1) hn).trans (h.2.1 b hb hl hn),fun b o hb ho hn=>h'.2.2 b o hb (h.2.2 b o hb ho hn) hn⟩
theorem Keep.of {M M':List Nat} {B:Nat} {H H':Heap} (h:Ext M' H H') (hM:∀ b ∈ M',b ∈ M ∨ (B≤b∧∃ c T fr,H[b]?=some (.cells c T fr))) (hlt:∀ b ∈ M,b < B):Keep M B H H':=by
 refine ⟨h.1,fun b hb hl hn=>h.2 b hl fun hm=>?_,fun b o hb ho hn=>?_⟩
 ·rcases hM b hm with h1 | ⟨h1,_⟩
  ·exact hn h1
  ·omega
 ·refine h.get ho fun hm=>?_
  rcases hM b hm with h1 | ⟨_,c,T,fr,h1⟩
  ·have:=hlt b h1;omega
  ·rw [ho] at h1;cases h1;exact hn c T fr rfl
theorem Keep.new {M:List Nat} {B:Nat} {H H':Heap} (h:Ext [] H H'):Keep M B H H':=⟨h.1,fun b _ hl _=>h.2 b hl (by simp),fun b o _ ho _=>h.get ho (by simp)⟩
theorem Keep.get {M:List Nat} {B:Nat} {H H':Heap} (h:Keep M B H H') {b:Nat} {o:Obj} (hb:H[b]?=some o) (hB:b < B) (hM:b ∉ M):H'[b]?=some o:=(h.2.1 b hB (lt_of_get hb) hM).trans hb
theorem Keep.ext {M M0:List Nat} {B:Nat} {H0 H H':Heap} (h:Keep M B H H') (h0:Ext M0 H0 H) (hB:H0.size≤B) (hM:∀ b,b < H0.size→b ∈ M→b ∈ M0):Ext M0 H0 H' :=
 ⟨Nat.le_trans h0.1 h.1,fun b hb hn=>(h.2.1 b (Nat.lt_of_lt_of_le hb hB) (Nat.lt_of_lt_of_le hb h0.1) fun hm=>hn (hM b hb hm)).trans (h0.2 b hb hn)⟩
def qkn (P:Program) {α:Type} (gv:Value) (S:List α→Prop) (nx:List α→α→Prop) (enc:α→Array Value) (fp:List Nat) (w:World):Prop :=
 ∃ gf lb,gv=.func (.func gf) #[] lb∧∀ (l:Nat) (I:List α→World→Prop) (J:World→Prop) (w1:World) (M:List Nat),
  Ext [] w.heap w1.heap→(∀ b ∈ M,b < w1.heap.size∧b ∉ fp)→(∀ pre W W',I pre W→Beside w1.heap.size W W'→I pre W')→I [] w1 →
  (∀ pre x W,nx pre x→I pre W→zwe P l (enc x) W fun e W'=>Keep M w1.heap.size W.heap W'.heap∧((e=.returned (.bool true)∧I (pre++[x]) W') ∨ (e=.returned (.bool false)∧J W'))) →
  qj P gf (#[.func (.yield l) #[] #[]]++lb) w1 fun e W=>(∃ v,e=.returned v)∧((∃ xs,S xs∧I xs W) ∨ J W)
theorem qkn.later {P:Program} {α:Type} {gv:Value} {S:List α→Prop} {nx:List α→α→Prop} {enc:α→Array Value} {fp:List Nat} {w w':World} (h:qkn P gv S nx enc fp w) (hx:Ext [] w.heap w'.heap):qkn P gv S nx enc fp w':=by
 obtain ⟨gf,lb,hg,h⟩:=h
 exact ⟨gf,lb,hg,fun l I J w1 M h1=>h l I J w1 M (hx.trans h1)⟩
theorem zwe.mono {P:Program} {l:Nat} {args:Array Value} {w:World} {R R':Ending→World→Prop} (h:zwe P l args w R) (hr:∀ e w',R e w'→R' e w'):zwe P l args w R':=by
 obtain ⟨fn,tm,as1,bd,h1,h2⟩:=h
 exact ⟨fn,tm,as1,bd,h1,h2.mono fun e w' ⟨h,hc⟩=>⟨hr e w' h,hc⟩⟩
theorem zso {P:Program} {l:Nat} {args:Array Value} {shs:List Sh} {tup:Bool} {w:World} {K:Tup shs→World→Prop} (h:zwe P l args w fun e w'=>∃ t,e=.returned (zpz shs tup t).2∧K t w') :
  z1e P (.func (.yield l) #[] #[]) args shs tup w K:=.yield l rfl h
theorem zqp {P:Program} {f:Nat} {args cap:Array Value} {shs:List Sh} {tup:Bool} {w:World} {K:Tup shs→World→Prop} (h:qj P f (args++cap) w fun e w'=>∃ t,e=.returned (zpz shs tup t).2∧K t w') :
  z1e P (.func (.func f) #[] cap) args shs tup w K:=.func f #[] cap rfl (by simpa using h)
theorem qdn {P:Program} {α:Type} {gv:Value} {S:List α→Prop} {nx:List α→α→Prop} {shs:List Sh} {tv:α→Tup shs} {fp:List Nat} {w:World}
  {body:Tup shs→World→(World→(World→Prop)→Prop)→(World→Prop)→(World→Prop)→(Nat→World→Prop)→Prop} {done ret:Nat→World→Prop} {ext:Nat→Nat→World→Prop}
  (hseq:qkn P gv S nx (fun x=>(Tup.vals shs (tv x)).toArray) fp w) (M:List Nat) (hM:∀ b ∈ M,b < w.heap.size∧b ∉ fp) (hfp:∀ b ∈ fp,b < w.heap.size)
  (I:List α→World→Prop) (Jr:World→Prop) (Jx:Nat→World→Prop)
  (hI:∀ pre W W',I pre W→Beside w.heap.size W W'→I pre W') (hJr:∀ W W',Jr W→Beside w.heap.size W W'→Jr W') (hJx:∀ i W W',Jx i W→Beside w.heap.size W W'→Jx i W')
  (h0:I [] w)
  (hbody:∀ pre x W,nx pre x→I pre W→w.heap.size+2≤W.heap.size→∀ (beg:World→(World→Prop)→Prop) (kc kr:World→Prop) (kx:Nat→World→Prop),
   (∀ W1 (K:World→Prop),Ext [] W.heap W1.heap→(∀ W2,Beside w.heap.size W1 W2→W2.heap.size=W1.heap.size →
    (∀ W3,Keep M w.heap.size W2.heap W3.heap→I (pre++[x]) W3→kc W3)→(∀ W3,Keep M w.heap.size W2.heap W3.heap→Jr W3→kr W3)→(∀ i W3,Keep M w.heap.size W2.heap W3.heap→Jx i W3→kx i W3)→K W2)→beg W1 K) →
   body (tv x) W beg kc kr kx)
  (hdone:∀ xs W,S xs→I xs W→W.heap[w.heap.size]?=some (.deferred (some []))→done w.heap.size W)
  (hret:∀ W,Jr W→W.heap[w.heap.size]?=some (.deferred (some []))→ret w.heap.size W)
  (hext:∀ i W,Jx i W→W.heap[w.heap.size]?=some (.deferred (some []))→ext i w.heap.size W) :
  z3d P shs gv w body done ret ext:=by
 obtain ⟨gf,lb,hg,hseq⟩:=hseq
 refine ⟨gf,lb,hg,fun oD oL oB oX oE hD hno w1 hw1 hY=>?_⟩
 obtain ⟨hnL,hnB,hnX,hnE⟩:=hno
 have hx1:Ext [] w.heap w1.heap:=by rw [hw1];exact (Ext.push _).trans (Ext.push _)
 have hs1:w1.heap.size=w.heap.size+2:=by rw [hw1];simp
 have hD1:w1.heap[w.heap.size]?=some oD:=by rw [hw1];exact zeg zn
 have hL1:w1.heap[w.heap.size+1]?=some oL:=by
  rw [hw1]
  have:=zn (H:=w.heap.push oD) (o:=oL)
  simpa using this
 have hDc:zk9 oD:=by rw [hD];intro c T fr h;cases h
 have key:∀ {W W':World} {r:Nat} {o:Obj},(∀ o,W.heap[r]?=some o→zk9 o)→w1.heap.size≤r→Ext [r] W.heap W'.heap→∀ b,b < w.heap.size+2→W.heap[b]?=some o→W'.heap[b]?=some o :=
  fun _ hr hx b hb hbo=>hx.get hbo (by simp;omega)
 refine (hseq (w.heap.size+1)
  (fun pre W=>I pre W∧W.heap[w.heap.size]?=some oD∧W.heap[w.heap.size+1]?=some oL)
  (fun W=>W.heap[w.heap.size]?=some oD∧((Jr W∧W.heap[w.heap.size+1]?=some (oX .ret)) ∨ ∃ i,Jx i W∧W.heap[w.heap.size+1]?=some (oX (.exit i))))
  w1 ((w.heap.size+1) :: M) hx1 ?_ ?_ ⟨hI _ _ _ h0 (.new (Nat.le_refl _) hx1),hD1,hL1⟩ ?_).mono ?_
 ·intro b hb
  rcases List.mem_cons.1 hb with rfl | hb
  ·exact ⟨by omega,fun h=>by have:=hfp _ h;omega⟩
  ·exact ⟨by have:=(hM b hb).1;omega,(hM b hb).2⟩
 ·rintro pre W W' ⟨h1,h2,h3⟩ hA
  have hA':=hA
  obtain ⟨r,hr,hn,hx⟩:=hA'
  exact ⟨hI _ _ _ h1 (hA.mono (by omega)),key hn hr hx _ (by omega) h2,key hn hr hx _ (by omega) h3⟩
 ·rintro pre x W hnx ⟨h1,h2,h3⟩
  have hlt:w.heap.size+1 < W.heap.size:=(Array.getElem?_eq_some_iff.1 h3).1
  refine hY (tv x) W _ h3 (hbody pre x W hnx h1 (by omega) _ _ _ _ ?_)
  intro W1 K hxW1 hK
  have h31:W1.heap[w.heap.size+1]?=some oL:=hxW1.get h3 (by simp)
  have h21:W1.heap[w.heap.size]?=some oD:=hxW1.get h2 (by simp)
  refine ⟨h31,fun W2 hW2=>?_⟩
  have hlt1:w.heap.size+1 < W1.heap.size:=(Array.getElem?_eq_some_iff.1 h31).1
  have hh2:W2.heap=W1.heap.setIfInBounds (w.heap.size+1) oB:=by rw [hW2,zb2]
  have h32:W2.heap[w.heap.size+1]?=some oB:=by rw [hh2];exact Array.getElem?_setIfInBounds_self_of_lt hlt1
  have h22:W2.heap[w.heap.size]?=some oD:=by rw [hh2,Array.getElem?_setIfInBounds_ne (by omega)];exact h21
  have fin:∀ (o':Obj) (W3:World),Keep M w.heap.size W2.heap W3.heap→W3.heap[w.heap.size+1]?=some oB∧Keep ((w.heap.size+1) :: M) w1.heap.size W.heap (W3.putObj (w.heap.size+1) o').heap∧(W3.putObj (w.heap.size+1) o').heap[w.heap.size]?=some oD ∧
    (W3.putObj (w.heap.size+1) o').heap[w.heap.size+1]?=some o'∧Beside w.heap.size W3 (W3.putObj (w.heap.size+1) o'):=by
   intro o' W3 hx3
   have h33:W3.heap[w.heap.size+1]?=some oB:=hx3.2.2 _ _ (by omega) h32 hnB
   have h23:W3.heap[w.heap.size]?=some oD:=hx3.2.2 _ _ (Nat.le_refl _) h22 hDc
   have hlt3:w.heap.size+1 < W3.heap.size:=(Array.getElem?_eq_some_iff.1 h33).1
   have hn2:∀ b,b ≠ w.heap.size+1→W2.heap[b]?=W1.heap[b]?:=fun b hb=>by rw [hh2];exact Array.getElem?_setIfInBounds_ne (Ne.symm hb)
   have hn4:∀ b,b ≠ w.heap.size+1→(W3.putObj (w.heap.size+1) o').heap[b]?=W3.heap[b]?:=fun b hb=>by rw [zb2];exact Array.getElem?_setIfInBounds_ne (Ne.symm hb)
   have hs2:W2.heap.size=W1.heap.size:=by rw [hh2];simp
   refine ⟨h33,⟨?_,?_,?_⟩,?_,?_,.put (by omega) h33 hnB⟩
   ·rw [zb2]
    have:=hxW1.1;have:=hx3.1
    simp;omega
   ·intro b hb hl hn
    simp only [List.mem_cons,not_or] at hn
    rw [hn4 b hn.1]
    by_cases hbD:b=w.heap.size
    ·rw [hbD,h23,h2]
    ·rw [hx3.2.1 b (by omega) (by have:=hxW1.1;omega) hn.2,hn2 b hn.1]
     exact hxW1.2 b hl (by simp)
   ·intro b o hb ho hno
    rw [hn4 b (by omega)]
    exact hx3.2.2 b o (by omega) (by rw [hn2 b (by omega)];exact hxW1.get ho (by simp)) hno
   ·rw [hn4 _ (by omega)];exact h23
   ·rw [zb2];exact Array.getElem?_setIfInBounds_self_of_lt hlt3
  refine hK W2 (by rw [hW2];exact .put (by omega) h31 hnL) (by rw [hh2];simp) (fun W3 hx3 h=>?_) (fun W3 hx3 h=>?_) (fun i W3 hx3 h=>?_)
  ·obtain ⟨a,b,c,d,e⟩:=fin oL W3 hx3
   exact ⟨a,b,.inl ⟨rfl,hI _ _ _ h e,c,d⟩⟩
  ·obtain ⟨a,b,c,d,e⟩:=fin (oX .ret) W3 hx3
   exact ⟨a,b,.inr ⟨rfl,c,.inl ⟨hJr _ _ h e,d⟩⟩⟩
  ·obtain ⟨a,b,c,d,e⟩:=fin (oX (.exit i)) W3 hx3
   exact ⟨a,b,.inr ⟨rfl,c,.inr ⟨i,hJx _ _ _ h e,d⟩⟩⟩
 ·have put:∀ {W:World} {o o':Obj},W.heap[w.heap.size]?=some oD→(W.putObj (w.heap.size+1) o').heap[w.heap.size]?=some (.deferred (some [])):=by
   intro W o o' h
   rw [zb2,Array.getElem?_setIfInBounds_ne (by omega),h,hD]
  rintro e W ⟨hv,⟨xs,hS,h1,h2,h3⟩ | ⟨h2,⟨h1,h3⟩ | ⟨i,h1,h3⟩⟩⟩
  ·exact ⟨hv,.inl ⟨h3,hdone xs _ hS (hI _ _ _ h1 (.put (by omega) h3 hnL)) (put (o:=oD) h2)⟩⟩
  ·exact ⟨hv,.inr (.inl ⟨h3,hret _ (hJr _ _ h1 (.put (by omega) h3 (hnX _))) (put (o:=oD) h2)⟩)⟩
  ·exact ⟨hv,.inr (.inr ⟨i,h3,hext i _ (hJx _ _ _ h1 (.put (by omega) h3 (hnX _))) (put (o:=oD) h2)⟩)⟩
end Go.Fw
