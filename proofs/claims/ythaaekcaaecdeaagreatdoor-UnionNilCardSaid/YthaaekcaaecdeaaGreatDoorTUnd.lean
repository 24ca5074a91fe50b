/- Part 4 of the texts below the card, joined. -/
import Derived.Test.YthaaekcaaecdeaaGreatDoorTUnc
import Derived.Test.YthaaekcaaecdeaaGreatDoorTUna
import Derived.DeepKeys3
import Derived.Maps.RangeRun
import Derived.Laws.BytesString
import Derived.Lib.BytesEntry
import Derived.Lib.Bytealg
import Derived.Laws.Externs
import Derived.Shelf.SlSortCmp.WholeK
import Derived.Shelf.SlSortCmp.NoneTotal
namespace Go.Proofs.YthaaekcaaecdeaaGreatDoor
open Go Go.Fw Go.Proofs
set_option maxRecDepth 100000
def zt5 (s:Option Addr) (list:Option Addr) (list_l zbp:Nat) (R:Ending->World->Prop) (w:World):Prop:=
  zat (zc P zf) zf w fun b4 w_1=>
  qw (Option.isNone s) (
  zad P (Instr.build zf #[]) .any w_1 fun (t15:Value)=>
  zah P (storeVar zf (⟨b4,0,none⟩:Addr) t15) w_1 fun w_2=>
  ldA P 32 (⟨b4,0,none⟩:Addr) w_2 fun t4=>
  R (.returned (Value.tuple #[(Value.agg t4),(Value.int .i64 7)])) w_2) (
  ql P znv #[(Value.slice list list_l zbp)] [.slc,.int .i64] true w_1 fun (t18:((Option Addr×Nat×Nat)×Int)) w_3=>
  qw (t18.2 != 0) (
  zad P (Instr.build zf #[]) .any w_3 fun (t23:Value)=>
  zah P (storeVar zf (⟨b4,0,none⟩:Addr) t23) w_3 fun w_4=>
  ldA P 32 (⟨b4,0,none⟩:Addr) w_4 fun t4_1=>
  R (.returned (Value.tuple #[(Value.agg t4_1),(Value.int .i64 t18.2)])) w_4) (
  ql P zoa #[(Value.slice t18.1.1 t18.1.2.1 t18.1.2.2)] [.map,.int .i64] true w_3 fun (t27:((Option Nat)×Int)) w_5=>
  zat (zc P zab) zab w_5 fun b8 w_6=>
  stC (⟨b8,0,none⟩:Addr) (Value.map t27.1) w_6 fun w_7=>
  qw (t27.2 != 0) (
  zad P (Instr.build zf #[]) .any w_7 fun (t32:Value)=>
  zah P (storeVar zf (⟨b4,0,none⟩:Addr) t32) w_7 fun w_8=>
  ldA P 32 (⟨b4,0,none⟩:Addr) w_8 fun t4_2=>
  R (.returned (Value.tuple #[(Value.agg t4_2),(Value.int .i64 t27.2)])) w_8) (
  zat (zc P zai) zai w_7 fun b9 w_9=>
  zat (zc P zcx) zcx w_9 fun b10 w_10=>
  zad P (Instr.makeFunc (Go.Fn.func zin) #[] #[(Value.pointer (some (⟨b8,0,none⟩:Addr))),(Value.pointer (some (⟨b10,0,none⟩:Addr))),(Value.pointer (some (⟨b9,0,none⟩:Addr)))]) .any w_10 fun (t34:Value)=>
  zah P (storeVar zcx (⟨b10,0,none⟩:Addr) t34) w_10 fun w_11=>
  ld .any (⟨b10,0,none⟩:Addr) w_11 fun (t35:Value)=>
  zp1 P t35 #[(Value.string (ByteArray.mk #[47]))] [.any] false w_11 fun (t36:Value) w_12=>
  zat (zc P zf) zf w_12 fun b11 w_13=>
  zah P (storeVar zf (⟨b11,0,none⟩:Addr) t36) w_13 fun w_14=>
  ld .slc (⟨b9,0,none⟩:Addr) w_14 fun (t38:(Option Addr×Nat×Nat))=>
  ql P zgr #[(Value.pointer s),(Value.slice t38.1 t38.2.1 t38.2.2)] [.int .i64] false w_14 fun (t39:Int) w_15=>
  qw (t39 != 0) (
  zad P (Instr.build zf #[]) .any w_15 fun (t42:Value)=>
  zah P (storeVar zf (⟨b4,0,none⟩:Addr) t42) w_15 fun w_16=>
  ldA P 32 (⟨b4,0,none⟩:Addr) w_16 fun t4_3=>
  R (.returned (Value.tuple #[(Value.agg t4_3),(Value.int .i64 t39)])) w_16) (
  ldA P 32 (⟨b11,0,none⟩:Addr) w_15 fun t44=>
  zah P (storeVar zf (⟨b4,0,none⟩:Addr) (Value.agg t44)) w_15 fun w_17=>
  ldA P 32 (⟨b4,0,none⟩:Addr) w_17 fun t4_4=>
  R (.returned (Value.tuple #[(Value.agg t4_4),(Value.int .i64 0)])) w_17))))
theorem zzv {s:Option Addr}{list:Option Addr}{list_l zbp:Nat}{R:Ending->World->Prop}{w:World}(hT:zt5 s list list_l zbp R w):qj P zkq #[(Value.pointer s),(Value.slice list list_l zbp)] w R:=
 fnT (.seq .leaf (.seq (.seq .leaf (.cond (.seq .leaf .leaf) .leaf)) (.seq .leaf (.seq (.seq .leaf (.cond (.seq .leaf .leaf) .leaf)) (.seq .leaf (.seq (.seq .leaf (.cond (.seq .leaf .leaf) .leaf)) (.seq .leaf (.seq .leaf (.seq .leaf (.seq .leaf (.seq (.seq .leaf (.seq .leaf (.cond (.seq .leaf .leaf) .leaf))) (.seq .leaf .leaf)))))))))))) Tryz.func8 hT
def zpj (atv:ByteArray) (c0:Option Addr) (c1:Option Addr) (c2:Option Addr) (R:Ending->World->Prop) (w:World):Prop:=
  zat (zc P zf) zf w fun b5 w_1=>
  zad P (Instr.build zu #[(0,(Value.int .i64 3))]) .any w_1 fun (t11:Value)=>
  zat (zc P zu) zu w_1 fun b6 w_2=>
  zah P (storeVar zu (⟨b6,0,none⟩:Addr) t11) w_2 fun w_3=>
  qg c0 fun p=>
  ld .map p w_3 fun (t12:(Option Nat))=>
  zad P (Instr.lookup zab (Value.map t12) (Value.string atv) false) .slc w_3 fun (t14:(Option Addr×Nat×Nat))=>
  za4 Int (fun s w_4 k=>
  qw (decide (s < (t14.2.1:Int))) (
  joinP Unit (fun k_1=>
  joinP Unit (fun k_2=>
  ixS t14.1 t14.2.1 4 s fun t18=>
  ldA P 4 t18 w_4 fun t19=>
  zat (zc P xq) xq w_4 fun b8 w_5=>
  zah P (storeVar xq (⟨b8,0,none⟩:Addr) (Value.agg t19)) w_5 fun w_6=>
  ld .slc (⟨b8,0,none⟩:Addr) w_6 fun (t21:(Option Addr×Nat×Nat))=>
  ld .slc (⟨b8,0,none⟩:Addr) w_6 fun (t23:(Option Addr×Nat×Nat))=>
  zo5 .i64 (t23.2.1:Int) 1 fun t25=>
  ixS t21.1 t21.2.1 1 t25 fun t26=>
  ld .str t26 w_6 fun (t27:ByteArray)=>
  zad P (Instr.build jl #[(0,(Value.string t27)),(1,(Value.int .i64 2))]) .any w_6 fun (t28:Value)=>
  zat (zc P jl) jl w_6 fun b9 w_7=>
  zah P (storeVar jl (⟨b9,0,none⟩:Addr) t28) w_7 fun w_8=>
  joinP Unit (fun k_3=>
  ld .bool (⟨b8,2,none⟩:Addr) w_8 fun (t31:Bool)=>
  qw t31 (
  za5 w_8 fun w_9=>
  qg c1 fun p_1=>
  ld .any p_1 w_9 fun (t32:Value)=>
  ld .slc (⟨b8,0,none⟩:Addr) w_9 fun (t34:(Option Addr×Nat×Nat))=>
  ql P vk #[(Value.slice t34.1 t34.2.1 t34.2.2)] [.str] false w_9 fun (t35:ByteArray) w_10=>
  ((qg c1 fun p_2=>
  ld .any p_2 w_10 fun (t32_1:Value)=>
  t32_1=t32) /\
  zp1 P t32 #[(Value.string t35)] [.any] false w_10 fun (t36:Value) w_11=>
  stC (⟨b9,1,none⟩:Addr) (Value.int .i64 3) w_11 fun w_12=>
  zah P (storeVar zf (⟨b9,2,none⟩:Addr) t36) w_12 fun w_13=>
  k_3 () w_13)) (
  qg c2 fun p_3=>
  ld .slc p_3 w_8 fun (t40:(Option Addr×Nat×Nat))=>
  ld .str (⟨b8,3,none⟩:Addr) w_8 fun (t43:ByteArray)=>
  ql P zpy #[(Value.slice t40.1 t40.2.1 t40.2.2),(Value.string t43)] [.slc,.any] true w_8 fun (t44:((Option Addr×Nat×Nat)×Value)) w_14=>
  qg c2 fun p_4=>
  stC p_4 (Value.slice t44.1.1 t44.1.2.1 t44.1.2.2) w_14 fun w_15=>
  zah P (storeVar zf (⟨b9,2,none⟩:Addr) t44.2) w_15 fun w_16=>
  k_3 () w_16)) (fun _ w_17=>
  ld .slc (⟨b6,4,none⟩:Addr) w_17 fun (t49:(Option Addr×Nat×Nat))=>
  ldA P 34 (⟨b9,0,none⟩:Addr) w_17 fun t50=>
  za2 P (Instr.buildSlice za6 1 #[(0,(Value.agg t50))]) .slc w_17 fun (t51:(Option Addr×Nat×Nat)) w_18=>
  za2 P (Builtin.append_ #[za6,za6] za6 #[(Value.slice t49.1 t49.2.1 t49.2.2),(Value.slice t51.1 t51.2.1 t51.2.2)]) .slc w_18 fun (t52:(Option Addr×Nat×Nat)) w_19=>
  stC (⟨b6,4,none⟩:Addr) (Value.slice t52.1 t52.2.1 t52.2.2) w_19 fun w_20=>
  k_2 () w_20)) (fun _ w_21=>
  k_1 () w_21)) (fun _ w_22=>
  zbz .i64 s 1 fun t54=>
  k t54 w_22)) (
  zat (zc P zf) zf w_4 fun b10 w_23=>
  qg c2 fun p_5=>
  ld .slc p_5 w_23 fun (t56:(Option Addr×Nat×Nat))=>
  ldA P 5 (⟨b6,0,none⟩:Addr) w_23 fun t57=>
  ql P zjz #[(Value.slice t56.1 t56.2.1 t56.2.2),(Value.agg t57)] [.slc,.any] true w_23 fun (t58:((Option Addr×Nat×Nat)×Value)) w_24=>
  qg c2 fun p_6=>
  stC p_6 (Value.slice t58.1.1 t58.1.2.1 t58.1.2.2) w_24 fun w_25=>
  zah P (storeVar zf (⟨b10,0,none⟩:Addr) t58.2) w_25 fun w_26=>
  ldA P 32 (⟨b10,0,none⟩:Addr) w_26 fun t61=>
  zah P (storeVar zf (⟨b5,0,none⟩:Addr) (Value.agg t61)) w_26 fun w_27=>
  ldA P 32 (⟨b5,0,none⟩:Addr) w_27 fun t5=>
  R (.returned (Value.agg t5)) w_27)) 0 w_3
theorem zw0 {atv:ByteArray}{c0:Option Addr}{c1:Option Addr}{c2:Option Addr}{R:Ending->World->Prop}{w:World}(hT:zpj atv c0 c1 c2 R w):qj P zin #[(Value.string atv),(Value.pointer c0),(Value.pointer c1),(Value.pointer c2)] w R:=
 fnT (.seq .leaf (.seq .leaf (.seq (.seq .leaf (.blk (.loop [(16,.int .i64)] (.seq .leaf (.seq (.cond .leaf .leaf) (.join [] (.jblk [] (.seq .leaf (.seq .leaf (.join [] (.seq .leaf (.cond (.tree (.op 1 [] (.op 5 [] (.op 0 [] (.op 2 [] (.op 3 [0] (.op 4 [] (.op 6 [] (.op 7 [] (.op 8 [] .done)))))))))) .leaf)) .leaf)))) .leaf)))))) (.seq .leaf (.seq .leaf (.seq .leaf .leaf)))))) Tryz.func31 hT
def ztu (list:Option Addr) (list_l zbp:Nat) (R:Ending->World->Prop) (w:World):Prop:=
  za4 ((Option Addr×Nat×Nat)×Int) (fun s w_1 k=>
  qw (decide (s.2 < (list_l:Int))) (
  ixS list list_l 3 s.2 fun t13=>
  ldA P 3 t13 w_1 fun t14=>
  zat (zc P zn) zn w_1 fun b6 w_2=>
  zah P (storeVar zn (⟨b6,0,none⟩:Addr) (Value.agg t14)) w_2 fun w_3=>
  ld .str (⟨b6,0,none⟩:Addr) w_3 fun (t17:ByteArray)=>
  ql P zbw #[(Value.string t17)] [.slc,.int .i64] true w_3 fun (t18:((Option Addr×Nat×Nat)×Int)) w_4=>
  qw (t18.2 != 0) (
  R (.returned (Value.tuple #[(Value.slice none 0 0),(Value.int .i64 t18.2)])) w_4) (
  ldA P 3 (⟨b6,0,none⟩:Addr) w_4 fun t26=>
  zad P (Instr.build xq #[(0,(Value.slice t18.1.1 t18.1.2.1 t18.1.2.2)),(1,(Value.agg t26))]) .any w_4 fun (t27:Value)=>
  za2 P (Instr.buildSlice zaz 1 #[(0,t27)]) .slc w_4 fun (t28:(Option Addr×Nat×Nat)) w_5=>
  za2 P (Builtin.append_ #[zaz,zaz] zaz #[(Value.slice s.1.1 s.1.2.1 s.1.2.2),(Value.slice t28.1 t28.2.1 t28.2.2)]) .slc w_5 fun (t29:(Option Addr×Nat×Nat)) w_6=>
  zbz .i64 s.2 1 fun t30=>
  k ((t29.1,t29.2.1,t29.2.2),t30) w_6)) (
  ql P zas #[(Value.slice list list_l zbp),(Value.func (.func zle) #[] #[])] [.bool] false w_1 fun (t32:Bool) w_7=>
  qw t32 (
  R (.returned (Value.tuple #[(Value.slice none 0 0),(Value.int .i64 1)])) w_7) (
  ql P zas #[(Value.slice list list_l zbp),(Value.func (.func zlh) #[] #[])] [.bool] false w_7 fun (t34:Bool) w_8=>
  qw t34 (
  R (.returned (Value.tuple #[(Value.slice none 0 0),(Value.int .i64 134)])) w_8) (
  R (.returned (Value.tuple #[(Value.slice s.1.1 s.1.2.1 s.1.2.2),(Value.int .i64 0)])) w_8)))) ((none,0,0),0) w
theorem zz6 {list:Option Addr}{list_l zbp:Nat}{R:Ending->World->Prop}{w:World}(hT:ztu list list_l zbp R w):qj P znv #[(Value.slice list list_l zbp)] w R:=
 fnT (.seq .leaf (.seq .leaf (.seq (.seq .leaf (.blk (.loop [(4,.slc),(11,.int .i64)] (.seq .leaf (.seq (.cond .leaf .leaf) (.seq (.blk (.seq .leaf (.seq .leaf (.seq (.seq .leaf (.cond (.seq .leaf .leaf) .leaf)) .leaf)))) .leaf)))))) (.seq (.seq .leaf (.cond (.seq .leaf .leaf) .leaf)) (.seq (.seq .leaf (.cond (.seq .leaf .leaf) .leaf)) (.seq .leaf .leaf)))))) Tryz.func29 hT
def zpc (f:Value) (R:Ending->World->Prop) (w:World):Prop:=
  zat (Value.cells f) zn w fun b1 w_1=>
  ld .bool (⟨b1,1,none⟩:Addr) w_1 fun (t4:Bool)=>
  qw t4 (
  ld .str (⟨b1,2,none⟩:Addr) w_1 fun (t7:ByteArray)=>
  R (.returned (Value.bool (!(t7.toList==(ByteArray.mk #[]).toList)))) w_1) (
  R (.returned (Value.bool false)) w_1)
theorem zvt {f:Value}{R:Ending->World->Prop}{w:World}(hT:zpc f R w):qj P zle #[f] w R:=
 fnT (.seq .leaf (.seq .leaf .leaf)) Tryz.func72 hT
def zpg (f:Value) (R:Ending->World->Prop) (w:World):Prop:=
  zat (Value.cells f) zn w fun b1 w_1=>
  ld .str (⟨b1,2,none⟩:Addr) w_1 fun (t4:ByteArray)=>
  R (.returned (Value.bool (decide ((t4.size:Int) > 1024)))) w_1
theorem zvy {f:Value}{R:Ending->World->Prop}{w:World}(hT:zpg f R w):qj P zlh #[f] w R:=
 fnT (.seq .leaf (.seq .leaf .leaf)) Tryz.func73 hT
def zt4 (list:Option Addr) (list_l zbp:Nat) (R:Ending->World->Prop) (w:World):Prop:=
  za2 P (Instr.makeMap zb2 none) .map w fun (t18:(Option Nat)) w_1=>
  zad P (Instr.build zn #[(1,(Value.bool true))]) .any w_1 fun (t19:Value)=>
  zad P (Instr.build xq #[(0,(Value.slice none 0 0)),(1,t19)]) .any w_1 fun (t20:Value)=>
  zah P (Instr.mapUpdate zb2 (Value.map t18) (Value.string (ByteArray.mk #[47])) t20) w_1 fun w_2=>
  za4 Int (fun s w_3 k=>
  qw (decide (s < (list_l:Int))) (
  ixS list list_l 4 s fun t26=>
  ldA P 4 t26 w_3 fun t27=>
  zat (zc P xq) xq w_3 fun b6 w_4=>
  zah P (storeVar xq (⟨b6,0,none⟩:Addr) (Value.agg t27)) w_4 fun w_5=>
  ld .slc (⟨b6,0,none⟩:Addr) w_5 fun (t31:(Option Addr×Nat×Nat))=>
  ql P vk #[(Value.slice t31.1 t31.2.1 t31.2.2)] [.str] false w_5 fun (t32:ByteArray) w_6=>
  zoy P (Instr.lookup zb2 (Value.map t18) (Value.string t32) true) [.any,.bool] w_6 fun (t33:(Value×Bool))=>
  zat (zc P xq) xq w_6 fun b7 w_7=>
  zah P (storeVar xq (⟨b7,0,none⟩:Addr) t33.1) w_7 fun w_8=>
  qw t33.2 (
  R (.returned (Value.tuple #[(Value.map none),(Value.int .i64 5)])) w_8) (
  za5 w_8 fun w_9=>
  ld .slc (⟨b6,0,none⟩:Addr) w_9 fun (t39:(Option Addr×Nat×Nat))=>
  ldA P 4 (⟨b6,0,none⟩:Addr) w_9 fun t41=>
  ql P vk #[(Value.slice t39.1 t39.2.1 t39.2.2)] [.str] false w_9 fun (t40:ByteArray) w_10=>
  ((ldA P 4 (⟨b6,0,none⟩:Addr) w_10 fun t41_1=>
  (Value.agg t41_1)=(Value.agg t41)) /\
  zah P (Instr.mapUpdate zb2 (Value.map t18) (Value.string t40) (Value.agg t41)) w_10 fun w_11=>
  zbz .i64 s 1 fun t42=>
  k t42 w_11))) (
  za2 P (Instr.makeMap zab none) .map w_3 fun (t43:(Option Nat)) w_12=>
  za4 (Bool×Int) (fun s_1 w_13 k_1=>
  qw (decide (s_1.2 < (list_l:Int))) (
  ixS list list_l 4 s_1.2 fun t48=>
  ldA P 4 t48 w_13 fun t49=>
  zat (zc P xq) xq w_13 fun b12 w_14=>
  zah P (storeVar xq (⟨b12,0,none⟩:Addr) (Value.agg t49)) w_14 fun w_15=>
  ld .slc (⟨b12,0,none⟩:Addr) w_15 fun (t51:(Option Addr×Nat×Nat))=>
  ld .slc (⟨b12,0,none⟩:Addr) w_15 fun (t53:(Option Addr×Nat×Nat))=>
  zo5 .i64 (t53.2.1:Int) 1 fun t55=>
  zad P (Instr.sliceAt zx (Value.slice t51.1 t51.2.1 t51.2.2) none (some (Value.int .i64 t55)) none) .slc w_15 fun (t56:(Option Addr×Nat×Nat))=>
  ql P vk #[(Value.slice t56.1 t56.2.1 t56.2.2)] [.str] false w_15 fun (t57:ByteArray) w_16=>
  zoy P (Instr.lookup zb2 (Value.map t18) (Value.string t57) true) [.any,.bool] w_16 fun (t61:(Value×Bool))=>
  zat (zc P xq) xq w_16 fun b14 w_17=>
  zah P (storeVar xq (⟨b14,0,none⟩:Addr) t61.1) w_17 fun w_18=>
  qw (!t61.2) (
  R (.returned (Value.tuple #[(Value.map none),(Value.int .i64 4)])) w_18) (
  joinP Bool (fun k_2=>
  qw s_1.1 (
  k_2 true w_18) (
  ld .bool (⟨b14,2,none⟩:Addr) w_18 fun (t70:Bool)=>
  k_2 (!t70) w_18)) (fun s_2 w_19=>
  zad P (Instr.lookup zab (Value.map t43) (Value.string t57) false) .slc w_19 fun (t77:(Option Addr×Nat×Nat))=>
  ldA P 4 (⟨b12,0,none⟩:Addr) w_19 fun t78=>
  za2 P (Instr.buildSlice zaz 1 #[(0,(Value.agg t78))]) .slc w_19 fun (t79:(Option Addr×Nat×Nat)) w_20=>
  za2 P (Builtin.append_ #[zaz,zaz] zaz #[(Value.slice t77.1 t77.2.1 t77.2.2),(Value.slice t79.1 t79.2.1 t79.2.2)]) .slc w_20 fun (t80:(Option Addr×Nat×Nat)) w_21=>
  zah P (Instr.mapUpdate zab (Value.map t43) (Value.string t57) (Value.slice t80.1 t80.2.1 t80.2.2)) w_21 fun w_22=>
  zbz .i64 s_1.2 1 fun t81=>
  k_1 (s_2,t81) w_22))) (
  qw s_1.1 (
  R (.returned (Value.tuple #[(Value.map none),(Value.int .i64 70)])) w_13) (
  za2 P (Instr.range zab (Value.map t43)) .ptr w_13 fun (t84:(Option Addr)) w_23=>
  za4 Unit (fun _ w_24 k_3=>
  za2 P (Instr.next (Value.pointer t84) false zbk) .any w_24 fun (t85:Value) w_25=>
  exV t85 0 .bool fun (t86:Bool)=>
  qw t86 (
  zad P (Instr.entry (Value.pointer t84)) .any w_25 fun (t87:Value)=>
  exV t87 1 .slc fun (t88:(Option Addr×Nat×Nat))=>
  qw (decide ((t88.2.1:Int) > 64)) (
  R (.returned (Value.tuple #[(Value.map none),(Value.int .i64 8)])) w_25) (
  ql P zco #[(Value.slice t88.1 t88.2.1 t88.2.2),(Value.func (.func zgc) #[] #[])] [] true w_25 fun (_:Unit) w_26=>
  k_3 () w_26)) (
  R (.returned (Value.tuple #[(Value.map t43),(Value.int .i64 0)])) w_25)) () w_23))) (false,0) w_12)) 0 w_2
theorem z0e {list:Option Addr}{list_l zbp:Nat}{R:Ending->World->Prop}{w:World}(hT:zt4 list list_l zbp R w):qj P zoa #[(Value.slice list list_l zbp)] w R:=
 fnT (.seq .leaf (.seq .leaf (.seq (.seq .leaf (.blk (.loop [(24,.int .i64)] (.seq .leaf (.seq (.cond .leaf .leaf) (.seq (.blk (.seq .leaf (.seq (.seq .leaf (.seq .leaf (.cond (.seq .leaf .leaf) .leaf))) (.tree (.op 0 [] (.op 1 [] (.op 2 [] (.op 4 [] (.op 3 [4] (.op 5 [] .done)))))))))) .leaf)))))) (.seq .leaf (.seq .leaf (.seq (.seq .leaf (.blk (.loop [(10,.bool),(46,.int .i64)] (.seq .leaf (.seq (.cond .leaf .leaf) (.seq (.blk (.seq .leaf (.seq .leaf (.seq .leaf (.seq (.seq .leaf (.cond (.seq .leaf .leaf) .leaf)) (.join [(10,.bool)] .leaf .leaf)))))) .leaf)))))) (.seq (.seq .leaf (.cond (.seq .leaf .leaf) .leaf)) (.seq (.seq .leaf (.blk (.loop [] (.seq .leaf (.seq (.cond .leaf .leaf) (.blk (.seq .leaf (.seq (.seq .leaf (.cond (.seq .leaf .leaf) .leaf)) .leaf)))))))) (.seq .leaf .leaf))))))))) Tryz.func30 hT
def zo9 (a:Value) (b:Value) (R:Ending->World->Prop) (w:World):Prop:=
  zat (Value.cells a) xq w fun b2 w_1=>
  zat (Value.cells b) xq w_1 fun b3 w_2=>
  ld .slc (⟨b2,0,none⟩:Addr) w_2 fun (t6:(Option Addr×Nat×Nat))=>
  ld .slc (⟨b3,0,none⟩:Addr) w_2 fun (t8:(Option Addr×Nat×Nat))=>
  ql P zft #[(Value.slice t6.1 t6.2.1 t6.2.2),(Value.slice t8.1 t8.2.1 t8.2.2)] [.int .i64] false w_2 fun (t9:Int) w_3=>
  R (.returned (Value.int .i64 t9)) w_3
theorem zwp {a:Value}{b:Value}{R:Ending->World->Prop}{w:World}(hT:zo9 a b R w):qj P zgc #[a,b] w R:=
 fnT (.seq .leaf (.seq .leaf .leaf)) Tryz.func75 hT
def zvg (list:Option Addr) (list_l zbp:Nat) (data:ByteArray) (R:Ending->World->Prop) (w:World):Prop:=
  zat #[(Value.slice list list_l zbp)] zai w fun b2 w_1=>
  zat (zc P zf) zf w_1 fun b5 w_2=>
  zad P (Instr.build zu #[(0,(Value.int .i64 2)),(2,(Value.int .i64 (data.size:Int)))]) .any w_2 fun (t11:Value)=>
  zat (zc P zu) zu w_2 fun b6 w_3=>
  zah P (storeVar zu (⟨b6,0,none⟩:Addr) t11) w_3 fun w_4=>
  za2 P (convert qx xk (Value.string data)) .slc w_4 fun (t13:(Option Addr×Nat×Nat)) w_5=>
  ql P zdv #[(Value.slice t13.1 t13.2.1 t13.2.2),(Value.int .i64 64)] [.any] false w_5 fun (t14:Value) w_6=>
  z04 P [.slc] t14 w_6 (fun (x:(Option Addr×Nat×Nat)) w_7 beg kc _ _=>
  beg w_7 fun w_8=>
  zat (zc P zf) zf w_8 fun b8 w_9=>
  ld .slc (⟨b2,0,none⟩:Addr) w_9 fun (t17:(Option Addr×Nat×Nat))=>
  zad P (convert xk qx (Value.slice x.1 x.2.1 x.2.2)) .str w_9 fun (t19:ByteArray)=>
  zad P (Instr.build zu #[(0,(Value.int .i64 1)),(1,(Value.string t19))]) .any w_9 fun (t20:Value)=>
  ql P zjz #[(Value.slice t17.1 t17.2.1 t17.2.2),t20] [.slc,.any] true w_9 fun (t21:((Option Addr×Nat×Nat)×Value)) w_10=>
  stC (⟨b2,0,none⟩:Addr) (Value.slice t21.1.1 t21.1.2.1 t21.1.2.2) w_10 fun w_11=>
  zah P (storeVar zf (⟨b8,0,none⟩:Addr) t21.2) w_11 fun w_12=>
  ld .slc (⟨b6,3,none⟩:Addr) w_12 fun (t25:(Option Addr×Nat×Nat))=>
  ldA P 32 (⟨b8,0,none⟩:Addr) w_12 fun t26=>
  za2 P (Instr.buildSlice jq 1 #[(0,(Value.agg t26))]) .slc w_12 fun (t27:(Option Addr×Nat×Nat)) w_13=>
  za2 P (Builtin.append_ #[jq,jq] jq #[(Value.slice t25.1 t25.2.1 t25.2.2),(Value.slice t27.1 t27.2.1 t27.2.2)]) .slc w_13 fun (t28:(Option Addr×Nat×Nat)) w_14=>
  stC (⟨b6,3,none⟩:Addr) (Value.slice t28.1 t28.2.1 t28.2.2) w_14 fun w_15=>
  kc w_15) (fun D w_16=>
  ld .slc (⟨b2,0,none⟩:Addr) w_16 fun (t30:(Option Addr×Nat×Nat))=>
  ldA P 5 (⟨b6,0,none⟩:Addr) w_16 fun t31=>
  ql P zjz #[(Value.slice t30.1 t30.2.1 t30.2.2),(Value.agg t31)] [.slc,.any] true w_16 fun (t32:((Option Addr×Nat×Nat)×Value)) w_17=>
  zah P (storeVar zf (⟨b5,0,none⟩:Addr) t32.2) w_17 fun w_18=>
  (w_18.heap[D]?=some (.deferred (some []))/\∀ w_19,w_19=World.putObj w_18 D (.deferred none) ->
  ldA P 32 (⟨b5,0,none⟩:Addr) w_19 fun t5=>
  R (.returned (Value.tuple #[(Value.slice t32.1.1 t32.1.2.1 t32.1.2.2),(Value.agg t5)])) w_19)) (fun _D _w=>False) (fun _ _D _w=>False)
theorem z2u {list:Option Addr}{list_l zbp:Nat}{data:ByteArray}{R:Ending->World->Prop}{w:World}(hT:zvg list list_l zbp data R w):qj P zpy #[(Value.slice list list_l zbp),(Value.string data)] w R:=
 fnU (.seq (.pure .leaf) (.seq (.pure .leaf) (.seq (.seq (.pure .leaf) (.blk (.rng [(15,.slc)] false [] .leaf (.blk (.seq .leaf (.seq .leaf .leaf)))))) (.pure (.seq .leaf .leaf))))) Tryz.func33 hT
def zwr (list:Option Addr) (list_l zbp:Nat) (n:Value) (R:Ending->World->Prop) (w:World):Prop:=
  zat (Value.cells n) zu w fun b3 w_1=>
  zat (zc P zf) zf w_1 fun b5 w_2=>
  ldA P 5 (⟨b3,0,none⟩:Addr) w_2 fun t9=>
  ql P zmz #[(Value.agg t9)] [.slc,.int .i64] true w_2 fun (t10:((Option Addr×Nat×Nat)×Int)) w_3=>
  za2 P (Instr.buildSlice zai 1 #[(0,(Value.slice t10.1.1 t10.1.2.1 t10.1.2.2))]) .slc w_3 fun (t15:(Option Addr×Nat×Nat)) w_4=>
  za2 P (Builtin.append_ #[zai,zai] zai #[(Value.slice list list_l zbp),(Value.slice t15.1 t15.2.1 t15.2.2)]) .slc w_4 fun (t16:(Option Addr×Nat×Nat)) w_5=>
  ql P zlu #[(Value.slice t10.1.1 t10.1.2.1 t10.1.2.2)] [.any] false w_5 fun (t18:Value) w_6=>
  zah P (storeVar zf (⟨b5,0,none⟩:Addr) t18) w_6 fun w_7=>
  ldA P 32 (⟨b5,0,none⟩:Addr) w_7 fun t5=>
  R (.returned (Value.tuple #[(Value.slice t16.1 t16.2.1 t16.2.2),(Value.agg t5)])) w_7
theorem z1b {list:Option Addr}{list_l zbp:Nat}{n:Value}{R:Ending->World->Prop}{w:World}(hT:zwr list list_l zbp n R w):qj P zjz #[(Value.slice list list_l zbp),n] w R:=
 fnT (.seq .leaf (.seq .leaf (.seq .leaf .leaf))) Tryz.func34 hT
def zv7 (s:Option Addr) (n:Value) (names:Option Addr) (names_l jm:Nat) (out:Option Addr) (out_l out_c:Nat) (R:Ending->World->Prop) (w:World):Prop:=
  zat (Value.cells n) zu w fun b5 w_1=>
  ld .slc (⟨b5,4,none⟩:Addr) w_1 fun (t17:(Option Addr×Nat×Nat))=>
  za4 ((Option Addr×Nat×Nat)×Int) (fun s_1 w_2 k=>
  qw (decide (s_1.2 < (t17.2.1:Int))) (
  joinP (Option Addr×Nat×Nat) (fun k_1=>
  ixS t17.1 t17.2.1 34 s_1.2 fun t21=>
  ldA P 34 t21 w_2 fun t22=>
  zat (zc P jl) jl w_2 fun b11 w_3=>
  zah P (storeVar jl (⟨b11,0,none⟩:Addr) (Value.agg t22)) w_3 fun w_4=>
  za5 w_4 fun w_5=>
  ld .str (⟨b11,0,none⟩:Addr) w_5 fun (t26:ByteArray)=>
  ((ql P za8 #[(Value.slice names names_l jm)] [.slc] false w_5 fun (t24:(Option Addr×Nat×Nat)) w_6=>
  ((ld .str (⟨b11,0,none⟩:Addr) w_6 fun (t26_1:ByteArray)=>
  (Value.string t26_1)=(Value.string t26)) /\
  za2 P (Instr.buildSlice zx 1 #[(0,(Value.string t26))]) .slc w_6 fun (t27:(Option Addr×Nat×Nat)) w_7=>
  za2 P (Builtin.append_ #[zx,zx] zx #[(Value.slice t24.1 t24.2.1 t24.2.2),(Value.slice t27.1 t27.2.1 t27.2.2)]) .slc w_7 fun (t28:(Option Addr×Nat×Nat)) w_8=>
  qw ((s_1.1.2.1:Int)==512) (
  R (.returned (Value.tuple #[(Value.slice none 0 0),(Value.int .i64 8)])) w_8) (
  qw (decide ((t28.2.1:Int) > 8)) (
  R (.returned (Value.tuple #[(Value.slice none 0 0),(Value.int .i64 42)])) w_8) (
  ldA P 32 (⟨b11,2,none⟩:Addr) w_8 fun t40=>
  ld (.int .i64) (⟨b11,1,none⟩:Addr) w_8 fun (t42:Int)=>
  ql P zia #[(Value.pointer s),(Value.agg t40),(Value.int .i64 t42)] [.any,.int .i64] true w_8 fun (t43:(Value×Int)) w_9=>
  zat (zc P zu) zu w_9 fun b13 w_10=>
  zah P (storeVar zu (⟨b13,0,none⟩:Addr) t43.1) w_10 fun w_11=>
  qw (t43.2 != 0) (
  R (.returned (Value.tuple #[(Value.slice none 0 0),(Value.int .i64 t43.2)])) w_11) (
  za5 w_11 fun w_12=>
  ld (.int .i64) (⟨b11,1,none⟩:Addr) w_12 fun (t52:Int)=>
  ((ql P vk #[(Value.slice t28.1 t28.2.1 t28.2.2)] [.str] false w_12 fun (t50:ByteArray) w_13=>
  ((ld (.int .i64) (⟨b11,1,none⟩:Addr) w_13 fun (t52_1:Int)=>
  (Value.int .i64 t52_1)=(Value.int .i64 t52)) /\
  zad P (Instr.build zn #[(0,(Value.string t50)),(1,(Value.bool (t52==3)))]) .any w_13 fun (t54:Value)=>
  zat (zc P zn) zn w_13 fun b15 w_14=>
  ((zad P (Instr.build zn #[(0,(Value.string t50)),(1,(Value.bool (t52==3)))]) .any w_14 fun (t54_1:Value)=>
  t54_1=t54) /\
  ((ld (.int .i64) (⟨b11,1,none⟩:Addr) w_14 fun (t52_2:Int)=>
  (Value.int .i64 t52_2)=(Value.int .i64 t52)) /\
  zah P (storeVar zn (⟨b15,0,none⟩:Addr) t54) w_14 fun w_15=>
  joinP Unit (fun k_2=>
  ld .bool (⟨b15,1,none⟩:Addr) w_15 fun (t56:Bool)=>
  qw (!t56) (
  ldA P 5 (⟨b13,0,none⟩:Addr) w_15 fun t60=>
  ql P zb9 #[(Value.pointer s),(Value.agg t60)] [.str,.int .i64] true w_15 fun (t61:(ByteArray×Int)) w_16=>
  stC (⟨b15,2,none⟩:Addr) (Value.string t61.1) w_16 fun w_17=>
  qw (t61.2 != 0) (
  R (.returned (Value.tuple #[(Value.slice none 0 0),(Value.int .i64 t61.2)])) w_17) (
  k_2 () w_17)) (
  k_2 () w_15)) (fun _ w_18=>
  ldA P 3 (⟨b15,0,none⟩:Addr) w_18 fun t69=>
  za2 P (Instr.buildSlice qm 1 #[(0,(Value.agg t69))]) .slc w_18 fun (t70:(Option Addr×Nat×Nat)) w_19=>
  za2 P (Builtin.append_ #[qm,qm] qm #[(Value.slice s_1.1.1 s_1.1.2.1 s_1.1.2.2),(Value.slice t70.1 t70.2.1 t70.2.2)]) .slc w_19 fun (t71:(Option Addr×Nat×Nat)) w_20=>
  ld .bool (⟨b15,1,none⟩:Addr) w_20 fun (t73:Bool)=>
  qw t73 (
  ldA P 5 (⟨b13,0,none⟩:Addr) w_20 fun t76=>
  ql P zcb #[(Value.pointer s),(Value.agg t76),(Value.slice t28.1 t28.2.1 t28.2.2),(Value.slice t71.1 t71.2.1 t71.2.2)] [.slc,.int .i64] true w_20 fun (t79:((Option Addr×Nat×Nat)×Int)) w_21=>
  qw (t79.2 != 0) (
  R (.returned (Value.tuple #[(Value.slice none 0 0),(Value.int .i64 t79.2)])) w_21) (
  k_1 (t79.1.1,t79.1.2.1,t79.1.2.2) w_21)) (
  k_1 (t71.1,t71.2.1,t71.2.2) w_20)))))) /\
  (zat (zc P zn) zn w_12 fun b15_1 w_22=>
  ((ld (.int .i64) (⟨b11,1,none⟩:Addr) w_22 fun (t52_3:Int)=>
  (Value.int .i64 t52_3)=(Value.int .i64 t52)) /\
  ql P vk #[(Value.slice t28.1 t28.2.1 t28.2.2)] [.str] false w_22 fun (t50_1:ByteArray) w_23=>
  ((ld (.int .i64) (⟨b11,1,none⟩:Addr) w_23 fun (t52_4:Int)=>
  (Value.int .i64 t52_4)=(Value.int .i64 t52)) /\
  zad P (Instr.build zn #[(0,(Value.string t50_1)),(1,(Value.bool (t52==3)))]) .any w_23 fun (t54_2:Value)=>
  zah P (storeVar zn (⟨b15_1,0,none⟩:Addr) t54_2) w_23 fun w_24=>
  joinP Unit (fun k_3=>
  ld .bool (⟨b15_1,1,none⟩:Addr) w_24 fun (t56_1:Bool)=>
  qw (!t56_1) (
  ldA P 5 (⟨b13,0,none⟩:Addr) w_24 fun t60_1=>
  ql P zb9 #[(Value.pointer s),(Value.agg t60_1)] [.str,.int .i64] true w_24 fun (t61_1:(ByteArray×Int)) w_25=>
  stC (⟨b15_1,2,none⟩:Addr) (Value.string t61_1.1) w_25 fun w_26=>
  qw (t61_1.2 != 0) (
  R (.returned (Value.tuple #[(Value.slice none 0 0),(Value.int .i64 t61_1.2)])) w_26) (
  k_3 () w_26)) (
  k_3 () w_24)) (fun _ w_27=>
  ldA P 3 (⟨b15_1,0,none⟩:Addr) w_27 fun t69_1=>
  za2 P (Instr.buildSlice qm 1 #[(0,(Value.agg t69_1))]) .slc w_27 fun (t70_1:(Option Addr×Nat×Nat)) w_28=>
  za2 P (Builtin.append_ #[qm,qm] qm #[(Value.slice s_1.1.1 s_1.1.2.1 s_1.1.2.2),(Value.slice t70_1.1 t70_1.2.1 t70_1.2.2)]) .slc w_28 fun (t71_1:(Option Addr×Nat×Nat)) w_29=>
  ld .bool (⟨b15_1,1,none⟩:Addr) w_29 fun (t73_1:Bool)=>
  qw t73_1 (
  ldA P 5 (⟨b13,0,none⟩:Addr) w_29 fun t76_1=>
  ql P zcb #[(Value.pointer s),(Value.agg t76_1),(Value.slice t28.1 t28.2.1 t28.2.2),(Value.slice t71_1.1 t71_1.2.1 t71_1.2.2)] [.slc,.int .i64] true w_29 fun (t79_1:((Option Addr×Nat×Nat)×Int)) w_30=>
  qw (t79_1.2 != 0) (
  R (.returned (Value.tuple #[(Value.slice none 0 0),(Value.int .i64 t79_1.2)])) w_30) (
  k_1 (t79_1.1.1,t79_1.1.2.1,t79_1.1.2.2) w_30)) (
  k_1 (t71_1.1,t71_1.2.1,t71_1.2.2) w_29))))))))))) /\
  (za2 P (Instr.buildSlice zx 1 #[(0,(Value.string t26))]) .slc w_5 fun (t27_1:(Option Addr×Nat×Nat)) w_31=>
  ql P za8 #[(Value.slice names names_l jm)] [.slc] false w_31 fun (t24_1:(Option Addr×Nat×Nat)) w_32=>
  ((ld .str (⟨b11,0,none⟩:Addr) w_32 fun (t26_2:ByteArray)=>
  (Value.string t26_2)=(Value.string t26)) /\
  za2 P (Builtin.append_ #[zx,zx] zx #[(Value.slice t24_1.1 t24_1.2.1 t24_1.2.2),(Value.slice t27_1.1 t27_1.2.1 t27_1.2.2)]) .slc w_32 fun (t28_1:(Option Addr×Nat×Nat)) w_33=>
  qw ((s_1.1.2.1:Int)==512) (
  R (.returned (Value.tuple #[(Value.slice none 0 0),(Value.int .i64 8)])) w_33) (
  qw (decide ((t28_1.2.1:Int) > 8)) (
  R (.returned (Value.tuple #[(Value.slice none 0 0),(Value.int .i64 42)])) w_33) (
  ldA P 32 (⟨b11,2,none⟩:Addr) w_33 fun t40_1=>
  ld (.int .i64) (⟨b11,1,none⟩:Addr) w_33 fun (t42_1:Int)=>
  ql P zia #[(Value.pointer s),(Value.agg t40_1),(Value.int .i64 t42_1)] [.any,.int .i64] true w_33 fun (t43_1:(Value×Int)) w_34=>
  zat (zc P zu) zu w_34 fun b13_1 w_35=>
  zah P (storeVar zu (⟨b13_1,0,none⟩:Addr) t43_1.1) w_35 fun w_36=>
  qw (t43_1.2 != 0) (
  R (.returned (Value.tuple #[(Value.slice none 0 0),(Value.int .i64 t43_1.2)])) w_36) (
  za5 w_36 fun w_37=>
  ld (.int .i64) (⟨b11,1,none⟩:Addr) w_37 fun (t52_5:Int)=>
  ((ql P vk #[(Value.slice t28_1.1 t28_1.2.1 t28_1.2.2)] [.str] false w_37 fun (t50_2:ByteArray) w_38=>
  ((ld (.int .i64) (⟨b11,1,none⟩:Addr) w_38 fun (t52_6:Int)=>
  (Value.int .i64 t52_6)=(Value.int .i64 t52_5)) /\
  zad P (Instr.build zn #[(0,(Value.string t50_2)),(1,(Value.bool (t52_5==3)))]) .any w_38 fun (t54_3:Value)=>
  zat (zc P zn) zn w_38 fun b15_2 w_39=>
  ((zad P (Instr.build zn #[(0,(Value.string t50_2)),(1,(Value.bool (t52_5==3)))]) .any w_39 fun (t54_4:Value)=>
  t54_4=t54_3) /\
  ((ld (.int .i64) (⟨b11,1,none⟩:Addr) w_39 fun (t52_7:Int)=>
  (Value.int .i64 t52_7)=(Value.int .i64 t52_5)) /\
  zah P (storeVar zn (⟨b15_2,0,none⟩:Addr) t54_3) w_39 fun w_40=>
  joinP Unit (fun k_4=>
  ld .bool (⟨b15_2,1,none⟩:Addr) w_40 fun (t56_2:Bool)=>
  qw (!t56_2) (
  ldA P 5 (⟨b13_1,0,none⟩:Addr) w_40 fun t60_2=>
  ql P zb9 #[(Value.pointer s),(Value.agg t60_2)] [.str,.int .i64] true w_40 fun (t61_2:(ByteArray×Int)) w_41=>
  stC (⟨b15_2,2,none⟩:Addr) (Value.string t61_2.1) w_41 fun w_42=>
  qw (t61_2.2 != 0) (
  R (.returned (Value.tuple #[(Value.slice none 0 0),(Value.int .i64 t61_2.2)])) w_42) (
  k_4 () w_42)) (
  k_4 () w_40)) (fun _ w_43=>
  ldA P 3 (⟨b15_2,0,none⟩:Addr) w_43 fun t69_2=>
  za2 P (Instr.buildSlice qm 1 #[(0,(Value.agg t69_2))]) .slc w_43 fun (t70_2:(Option Addr×Nat×Nat)) w_44=>
  za2 P (Builtin.append_ #[qm,qm] qm #[(Value.slice s_1.1.1 s_1.1.2.1 s_1.1.2.2),(Value.slice t70_2.1 t70_2.2.1 t70_2.2.2)]) .slc w_44 fun (t71_2:(Option Addr×Nat×Nat)) w_45=>
  ld .bool (⟨b15_2,1,none⟩:Addr) w_45 fun (t73_2:Bool)=>
  qw t73_2 (
  ldA P 5 (⟨b13_1,0,none⟩:Addr) w_45 fun t76_2=>
  ql P zcb #[(Value.pointer s),(Value.agg t76_2),(Value.slice t28_1.1 t28_1.2.1 t28_1.2.2),(Value.slice t71_2.1 t71_2.2.1 t71_2.2.2)] [.slc,.int .i64] true w_45 fun (t79_2:((Option Addr×Nat×Nat)×Int)) w_46=>
  qw (t79_2.2 != 0) (
  R (.returned (Value.tuple #[(Value.slice none 0 0),(Value.int .i64 t79_2.2)])) w_46) (
  k_1 (t79_2.1.1,t79_2.1.2.1,t79_2.1.2.2) w_46)) (
  k_1 (t71_2.1,t71_2.2.1,t71_2.2.2) w_45)))))) /\
  (zat (zc P zn) zn w_37 fun b15_3 w_47=>
  ((ld (.int .i64) (⟨b11,1,none⟩:Addr) w_47 fun (t52_8:Int)=>
  (Value.int .i64 t52_8)=(Value.int .i64 t52_5)) /\
  ql P vk #[(Value.slice t28_1.1 t28_1.2.1 t28_1.2.2)] [.str] false w_47 fun (t50_3:ByteArray) w_48=>
  ((ld (.int .i64) (⟨b11,1,none⟩:Addr) w_48 fun (t52_9:Int)=>
  (Value.int .i64 t52_9)=(Value.int .i64 t52_5)) /\
  zad P (Instr.build zn #[(0,(Value.string t50_3)),(1,(Value.bool (t52_5==3)))]) .any w_48 fun (t54_5:Value)=>
  zah P (storeVar zn (⟨b15_3,0,none⟩:Addr) t54_5) w_48 fun w_49=>
  joinP Unit (fun k_5=>
  ld .bool (⟨b15_3,1,none⟩:Addr) w_49 fun (t56_3:Bool)=>
  qw (!t56_3) (
  ldA P 5 (⟨b13_1,0,none⟩:Addr) w_49 fun t60_3=>
  ql P zb9 #[(Value.pointer s),(Value.agg t60_3)] [.str,.int .i64] true w_49 fun (t61_3:(ByteArray×Int)) w_50=>
  stC (⟨b15_3,2,none⟩:Addr) (Value.string t61_3.1) w_50 fun w_51=>
  qw (t61_3.2 != 0) (
  R (.returned (Value.tuple #[(Value.slice none 0 0),(Value.int .i64 t61_3.2)])) w_51) (
  k_5 () w_51)) (
  k_5 () w_49)) (fun _ w_52=>
  ldA P 3 (⟨b15_3,0,none⟩:Addr) w_52 fun t69_3=>
  za2 P (Instr.buildSlice qm 1 #[(0,(Value.agg t69_3))]) .slc w_52 fun (t70_3:(Option Addr×Nat×Nat)) w_53=>
  za2 P (Builtin.append_ #[qm,qm] qm #[(Value.slice s_1.1.1 s_1.1.2.1 s_1.1.2.2),(Value.slice t70_3.1 t70_3.2.1 t70_3.2.2)]) .slc w_53 fun (t71_3:(Option Addr×Nat×Nat)) w_54=>
  ld .bool (⟨b15_3,1,none⟩:Addr) w_54 fun (t73_3:Bool)=>
  qw t73_3 (
  ldA P 5 (⟨b13_1,0,none⟩:Addr) w_54 fun t76_3=>
  ql P zcb #[(Value.pointer s),(Value.agg t76_3),(Value.slice t28_1.1 t28_1.2.1 t28_1.2.2),(Value.slice t71_3.1 t71_3.2.1 t71_3.2.2)] [.slc,.int .i64] true w_54 fun (t79_3:((Option Addr×Nat×Nat)×Int)) w_55=>
  qw (t79_3.2 != 0) (
  R (.returned (Value.tuple #[(Value.slice none 0 0),(Value.int .i64 t79_3.2)])) w_55) (
  k_1 (t79_3.1.1,t79_3.1.2.1,t79_3.1.2.2) w_55)) (
  k_1 (t71_3.1,t71_3.2.1,t71_3.2.2) w_54))))))))))))) (fun s_6 w_56=>
  zbz .i64 s_1.2 1 fun t85=>
  k ((s_6.1,s_6.2.1,s_6.2.2),t85) w_56)) (
  R (.returned (Value.tuple #[(Value.slice s_1.1.1 s_1.1.2.1 s_1.1.2.2),(Value.int .i64 0)])) w_2)) ((out,out_l,out_c),0) w_1
theorem z1z {s:Option Addr}{n:Value}{names:Option Addr}{names_l jm:Nat}{out:Option Addr}{out_l out_c:Nat}{R:Ending->World->Prop}{w:World}(hT:zv7 s n names names_l jm out out_l out_c R w):qj P zcb #[(Value.pointer s),n,(Value.slice names names_l jm),(Value.slice out out_l out_c)] w R:=
 fnT (.seq .leaf (.seq (.seq .leaf (.blk (.loop [(3,.slc),(19,.int .i64)] (.seq .leaf (.seq (.cond .leaf .leaf) (.seq (.jblk [(3,.slc)] (.seq .leaf (.seq (.tree (.op 0 [] (.op 2 [] (.op 3 [] (.or (.op 1 [3] (.op 4 [] (.op 5 [] (.op 6 [] .done)))) (.op 4 [] (.op 1 [3] (.op 5 [] (.op 6 [] .done))))))))) (.seq (.blk (.seq .leaf (.cond (.seq .leaf .leaf) (.seq .leaf (.cond (.seq .leaf .leaf) .leaf))))) (.seq .leaf (.seq (.seq .leaf (.cond (.seq .leaf .leaf) .leaf)) (.seq (.tree (.op 0 [] (.op 2 [] (.op 3 [] (.op 4 [] (.or (.op 1 [3] (.op 5 [] (.op 6 [3,5] (.op 7 [] .done)))) (.op 6 [3] (.op 1 [3] (.op 5 [] (.op 7 [] .done)))))))))) (.join [] (.seq .leaf (.cond (.seq .leaf (.seq .leaf (.cond (.seq .leaf .leaf) .leaf))) .leaf)) (.seq .leaf (.seq .leaf (.cond (.seq .leaf (.seq .leaf (.cond (.seq .leaf .leaf) .leaf))) .leaf))))))))))) .leaf)))))) (.seq .leaf .leaf))) Tryz.func82 hT
def zpq (s:Option Addr) (n:Value) (R:Ending->World->Prop) (w:World):Prop:=
  zat (Value.cells n) zu w fun b3 w_1=>
  zat (zc P ku) ku w_1 fun b6 w_2=>
  ld .slc (⟨b3,3,none⟩:Addr) w_2 fun (t12:(Option Addr×Nat×Nat))=>
  za4 Int (fun s_1 w_3 k=>
  qw (decide (s_1 < (t12.2.1:Int))) (
  ixS t12.1 t12.2.1 32 s_1 fun t17=>
  ldA P 32 t17 w_3 fun t18=>
  zat (zc P zf) zf w_3 fun b8 w_4=>
  zah P (storeVar zf (⟨b8,0,none⟩:Addr) (Value.agg t18)) w_4 fun w_5=>
  ldA P 32 (⟨b8,0,none⟩:Addr) w_5 fun t21=>
  ql P zia #[(Value.pointer s),(Value.agg t21),(Value.int .i64 1)] [.any,.int .i64] true w_5 fun (t22:(Value×Int)) w_6=>
  zat (zc P zu) zu w_6 fun b9 w_7=>
  zah P (storeVar zu (⟨b9,0,none⟩:Addr) t22.1) w_7 fun w_8=>
  qw (t22.2 != 0) (
  R (.returned (Value.tuple #[(Value.string (ByteArray.mk #[])),(Value.int .i64 t22.2)])) w_8) (
  ld .str (⟨b9,1,none⟩:Addr) w_8 fun (t29:ByteArray)=>
  ld (.int .i64) (⟨b3,2,none⟩:Addr) w_8 fun (t32:Int)=>
  z0k .i64 s_1 64 fun t34=>
  zo5 .i64 t32 t34 fun t35=>
  zad P (Builtin.min_ #[zav,zav] zav #[(Value.int .i64 64),(Value.int .i64 t35)]) (.int .i64) w_8 fun (t36:Int)=>
  qw ((t29.size:Int) != t36) (
  R (.returned (Value.tuple #[(Value.string (ByteArray.mk #[])),(Value.int .i64 21)])) w_8) (
  ld .str (⟨b9,1,none⟩:Addr) w_8 fun (t39:ByteArray)=>
  ql P zaw #[(Value.pointer (some (⟨b6,0,none⟩:Addr))),(Value.string t39)] [.int .i64,.any] true w_8 fun (_:(Int×Value)) w_9=>
  zbz .i64 s_1 1 fun t41=>
  k t41 w_9))) (
  ql P zb0 #[(Value.pointer (some (⟨b6,0,none⟩:Addr)))] [.str] false w_3 fun (t42:ByteArray) w_10=>
  R (.returned (Value.tuple #[(Value.string t42),(Value.int .i64 0)])) w_10)) 0 w_2
theorem zvh {s:Option Addr}{n:Value}{R:Ending->World->Prop}{w:World}(hT:zpq s n R w):qj P zb9 #[(Value.pointer s),n] w R:=
 fnT (.seq .leaf (.seq .leaf (.seq (.seq .leaf (.blk (.loop [(14,.int .i64)] (.seq .leaf (.seq (.cond .leaf .leaf) (.seq (.blk (.seq .leaf (.seq .leaf (.seq (.seq .leaf (.cond (.seq .leaf .leaf) .leaf)) (.seq (.seq .leaf (.cond (.seq .leaf .leaf) .leaf)) .leaf))))) .leaf)))))) (.seq .leaf .leaf)))) Tryz.func144 hT
def zcp (s:Option Addr) (s_l s_c:Nat) (f:Value) (R:Ending->World->Prop) (w:World):Prop:=
  ql P zbn #[(Value.slice s s_l s_c),f] [.int .i64] false w fun (t7:Int) w_1=>
  R (.returned (Value.bool (decide (t7>=0)))) w_1
theorem ze6 {s:Option Addr}{s_l s_c:Nat}{f:Value}{R:Ending->World->Prop}{w:World}(hT:zcp s s_l s_c f R w):qj P zas #[(Value.slice s s_l s_c),f] w R:=
 fnT (.seq .leaf (.seq .leaf .leaf)) Tryz.func71 hT
def zc7 (s:Option Addr) (s_l s_c:Nat) (f:Value) (R:Ending->World->Prop) (w:World):Prop:=
  za4 Int (fun s_1 w_1 k=>
  qw (decide (s_1 < (s_l:Int))) (
  ixS s s_l 3 s_1 fun t14=>
  ldA P 3 t14 w_1 fun t15=>
  zp1 P f #[(Value.agg t15)] [.bool] false w_1 fun (t16:Bool) w_2=>
  qw t16 (
  R (.returned (Value.int .i64 s_1)) w_2) (
  zbz .i64 s_1 1 fun t18=>
  k t18 w_2)) (
  R (.returned (Value.int .i64 (-1))) w_1)) 0 w
theorem zfs {s:Option Addr}{s_l s_c:Nat}{f:Value}{R:Ending->World->Prop}{w:World}(hT:zc7 s s_l s_c f R w):qj P zbn #[(Value.slice s s_l s_c),f] w R:=
 fnT (.seq .leaf (.seq (.seq .leaf (.blk (.loop [(8,.int .i64)] (.seq .leaf (.seq (.cond .leaf .leaf) (.seq (.blk (.seq .leaf (.seq .leaf (.cond (.seq .leaf .leaf) .leaf)))) .leaf)))))) (.seq .leaf .leaf))) Tryz.func133 hT
def zr7 (list:Option Addr) (list_l zbp:Nat) (R:Ending->World->Prop) (w:World):Prop:=
  za4 ((Option Addr×Nat×Nat)×Int) (fun s w_1 k=>
  qw (decide (s.2 < (list_l:Int))) (
  ixS list list_l 3 s.2 fun t30=>
  ld .str t30 w_1 fun (t32:ByteArray)=>
  ql P zmw #[(Value.string t32)] [.slc,.int .i64] true w_1 fun (t33:((Option Addr×Nat×Nat)×Int)) w_2=>
  qw (t33.2 != 0) (
  R (.returned (Value.tuple #[(Value.slice none 0 0),(Value.int .i64 t33.2)])) w_2) (
  za2 P (Instr.buildSlice zch 1 #[(0,(Value.slice t33.1.1 t33.1.2.1 t33.1.2.2))]) .slc w_2 fun (t41:(Option Addr×Nat×Nat)) w_3=>
  za2 P (Builtin.append_ #[zch,zch] zch #[(Value.slice s.1.1 s.1.2.1 s.1.2.2),(Value.slice t41.1 t41.2.1 t41.2.2)]) .slc w_3 fun (t42:(Option Addr×Nat×Nat)) w_4=>
  zbz .i64 s.2 1 fun t26=>
  k ((t42.1,t42.2.1,t42.2.2),t26) w_4)) (
  za4 Int (fun s_1 w_5 k_1=>
  qw (decide (s_1 < (list_l:Int))) (
  joinP Unit (fun k_2=>
  joinP Unit (fun k_3=>
  ixS list list_l 3 s_1 fun t51=>
  ld .bool (Addr.add t51 1) w_5 fun (t53:Bool)=>
  qw t53 (
  ixS list list_l 3 s_1 fun t57=>
  ld .str (Addr.add t57 2) w_5 fun (t59:ByteArray)=>
  qw (!(t59.toList==(ByteArray.mk #[]).toList)) (
  R (.returned (Value.tuple #[(Value.slice none 0 0),(Value.int .i64 1)])) w_5) (
  k_3 () w_5)) (
  k_3 () w_5)) (fun _ w_6=>
  k_2 () w_6)) (fun _ w_7=>
  zbz .i64 s_1 1 fun t48=>
  k_1 t48 w_7)) (
  za4 Int (fun s_4 w_8 k_4=>
  qw (decide (s_4 < (list_l:Int))) (
  ixS list list_l 3 s_4 fun t70=>
  ld .str (Addr.add t70 2) w_8 fun (t72:ByteArray)=>
  qw (decide ((t72.size:Int) > 1024)) (
  R (.returned (Value.tuple #[(Value.slice none 0 0),(Value.int .i64 134)])) w_8) (
  zbz .i64 s_4 1 fun t67=>
  k_4 t67 w_8)) (
  za4 Int (fun s_5 w_9 k_5=>
  qw (decide (s_5 < (list_l:Int))) (
  joinP Unit (fun k_6=>
  joinP Unit (fun k_7=>
  za5 w_9 fun w_10=>
  ixS s.1.1 s.1.2.1 1 s_5 fun t83=>
  ld .slc t83 w_10 fun (t84:(Option Addr×Nat×Nat))=>
  qw ((t84.2.1:Int)==0) (
  R (.returned (Value.tuple #[(Value.slice none 0 0),(Value.int .i64 5)])) w_10) (
  ixS s.1.1 s.1.2.1 1 s_5 fun t93=>
  zad P (Instr.sliceAt zch (Value.slice s.1.1 s.1.2.1 s.1.2.2) none (some (Value.int .i64 s_5)) none) .slc w_10 fun (t90:(Option Addr×Nat×Nat))=>
  ld .slc t93 w_10 fun (t94:(Option Addr×Nat×Nat))=>
  ql P zid #[(Value.slice t90.1 t90.2.1 t90.2.2),(Value.slice t94.1 t94.2.1 t94.2.2)] [.int .i64] false w_10 fun (t95:Int) w_11=>
  qw (decide (t95>=0)) (
  R (.returned (Value.tuple #[(Value.slice none 0 0),(Value.int .i64 5)])) w_11) (
  k_7 () w_11))) (fun _ w_12=>
  k_6 () w_12)) (fun _ w_13=>
  zbz .i64 s_5 1 fun t80=>
  k_5 t80 w_13)) (
  za4 (Bool×Int) (fun s_8 w_14 k_8=>
  qw (decide (s_8.2 < (list_l:Int))) (
  joinP Bool (fun k_9=>
  za5 w_14 fun w_15=>
  ixS s.1.1 s.1.2.1 1 s_8.2 fun t106=>
  ixS s.1.1 s.1.2.1 1 s_8.2 fun t110=>
  ld .slc t106 w_15 fun (t107:(Option Addr×Nat×Nat))=>
  ld .slc t110 w_15 fun (t111:(Option Addr×Nat×Nat))=>
  zo5 .i64 (t111.2.1:Int) 1 fun t113=>
  zad P (Instr.sliceAt zx (Value.slice t107.1 t107.2.1 t107.2.2) none (some (Value.int .i64 t113)) none) .slc w_15 fun (t114:(Option Addr×Nat×Nat))=>
  ql P zid #[(Value.slice s.1.1 s.1.2.1 s.1.2.2),(Value.slice t114.1 t114.2.1 t114.2.2)] [.int .i64] false w_15 fun (t117:Int) w_16=>
  joinP Unit (fun k_10=>
  qw (decide ((t114.2.1:Int) > 0)) (
  qw (decide (t117 < 0)) (
  R (.returned (Value.tuple #[(Value.slice none 0 0),(Value.int .i64 4)])) w_16) (
  k_10 () w_16)) (
  k_10 () w_16)) (fun _ w_17=>
  qw s_8.1 (
  k_9 true w_17) (
  qw (decide ((t114.2.1:Int) > 0)) (
  ixS list list_l 3 t117 fun t133=>
  ld .bool (Addr.add t133 1) w_17 fun (t135:Bool)=>
  k_9 (!t135) w_17) (
  k_9 false w_17)))) (fun s_10 w_18=>
  zbz .i64 s_8.2 1 fun t103=>
  k_8 (s_10,t103) w_18)) (
  qw s_8.1 (
  R (.returned (Value.tuple #[(Value.slice none 0 0),(Value.int .i64 70)])) w_14) (
  za4 Int (fun s_11 w_19 k_11=>
  qw (decide (s_11 < (list_l:Int))) (
  za4 (Int×Int) (fun s_12 w_20 k_12=>
  qw (decide (s_12.2 < (list_l:Int))) (
  joinP Int (fun k_13=>
  za5 w_20 fun w_21=>
  ixS s.1.1 s.1.2.1 1 s_12.2 fun t154=>
  ixS s.1.1 s.1.2.1 1 s_11 fun t159=>
  ld .slc t154 w_21 fun (t155:(Option Addr×Nat×Nat))=>
  ld .slc t159 w_21 fun (t160:(Option Addr×Nat×Nat))=>
  qw ((t155.2.1:Int)==(t160.2.1:Int)) (
  ixS s.1.1 s.1.2.1 1 s_12.2 fun t166=>
  ixS s.1.1 s.1.2.1 1 s_11 fun t170=>
  ixS s.1.1 s.1.2.1 1 s_11 fun t174=>
  ld .slc t166 w_21 fun (t167:(Option Addr×Nat×Nat))=>
  ld .slc t170 w_21 fun (t171:(Option Addr×Nat×Nat))=>
  ld .slc t174 w_21 fun (t175:(Option Addr×Nat×Nat))=>
  zo5 .i64 (t175.2.1:Int) 1 fun t177=>
  zad P (Instr.sliceAt zx (Value.slice t171.1 t171.2.1 t171.2.2) none (some (Value.int .i64 t177)) none) .slc w_21 fun (t178:(Option Addr×Nat×Nat))=>
  ql P zk1 #[(Value.slice t167.1 t167.2.1 t167.2.2),(Value.slice t178.1 t178.2.1 t178.2.2)] [.bool] false w_21 fun (t179:Bool) w_22=>
  qw t179 (
  zbz .i64 s_12.1 1 fun t182=>
  k_13 t182 w_22) (
  k_13 s_12.1 w_22)) (
  k_13 s_12.1 w_21)) (fun s_13 w_23=>
  zbz .i64 s_12.2 1 fun t151=>
  k_12 (s_13,t151) w_23)) (
  qw (decide (s_12.1 > 64)) (
  R (.returned (Value.tuple #[(Value.slice none 0 0),(Value.int .i64 8)])) w_20) (
  zbz .i64 s_11 1 fun t145=>
  k_11 t145 w_20))) (0,0) w_19) (
  za4 ((Option Addr×Nat×Nat)×Int) (fun s_14 w_24 k_14=>
  qw (decide (s_14.2 < (list_l:Int))) (
  ixS list list_l 3 s_14.2 fun t193=>
  ldA P 3 t193 w_24 fun t194=>
  zat (zc P zn) zn w_24 fun b20 w_25=>
  zah P (storeVar zn (⟨b20,0,none⟩:Addr) (Value.agg t194)) w_25 fun w_26=>
  ixS s.1.1 s.1.2.1 1 s_14.2 fun t197=>
  ld .slc t197 w_26 fun (t198:(Option Addr×Nat×Nat))=>
  ql P zor #[(Value.slice t198.1 t198.2.1 t198.2.2)] [.str] false w_26 fun (t199:ByteArray) w_27=>
  stC (⟨b20,0,none⟩:Addr) (Value.string t199) w_27 fun w_28=>
  ldA P 3 (⟨b20,0,none⟩:Addr) w_28 fun t202=>
  ql P zkt #[(Value.slice s_14.1.1 s_14.1.2.1 s_14.1.2.2),(Value.agg t202)] [.slc] false w_28 fun (t203:(Option Addr×Nat×Nat)) w_29=>
  zbz .i64 s_14.2 1 fun t190=>
  k_14 ((t203.1,t203.2.1,t203.2.2),t190) w_29) (
  R (.returned (Value.tuple #[(Value.slice s_14.1.1 s_14.1.2.1 s_14.1.2.2),(Value.int .i64 0)])) w_24)) ((none,0,0),0) w_19)) 0 w_14))) (false,0) w_9)) 0 w_8)) 0 w_5)) 0 w_1)) ((none,0,0),0) w
theorem zxm {list:Option Addr}{list_l zbp:Nat}{R:Ending->World->Prop}{w:World}(hT:zr7 list list_l zbp R w):qj P zmt #[(Value.slice list list_l zbp)] w R:=
 fnT (.seq .leaf (.seq .leaf (.seq (.seq .leaf (.blk (.loop [(4,.slc),(5,.int .i64)] (.seq (.seq .leaf (.cond .leaf .leaf)) (.seq (.blk (.seq .leaf (.seq (.seq .leaf (.cond (.seq .leaf .leaf) .leaf)) .leaf))) .leaf))))) (.seq (.seq .leaf (.blk (.loop [(8,.int .i64)] (.seq (.seq .leaf (.cond .leaf .leaf)) (.join [] (.jblk [] (.seq .leaf (.cond (.seq .leaf .leaf) .leaf))) .leaf))))) (.seq (.seq .leaf (.blk (.loop [(9,.int .i64)] (.seq (.seq .leaf (.cond .leaf .leaf)) (.seq (.blk (.seq .leaf (.cond (.seq .leaf .leaf) .leaf))) .leaf))))) (.seq (.seq .leaf (.blk (.loop [(10,.int .i64)] (.seq (.seq .leaf (.cond .leaf .leaf)) (.join [] (.jblk [] (.seq (.tree (.op 0 [] (.op 1 [] (.op 2 [] (.op 3 [] (.op 4 [] (.op 5 [] (.op 6 [] (.op 7 [] (.op 8 [] (.op 10 [] (.op 11 [] (.op 12 [] (.op 9 [] (.op 13 [] (.op 14 [] (.op 15 [] (.op 16 [] .done)))))))))))))))))) (.cond (.seq .leaf .leaf) .leaf))) .leaf))))) (.seq .leaf (.seq (.seq .leaf (.blk (.loop [(11,.bool),(12,.int .i64)] (.seq (.seq .leaf (.cond .leaf .leaf)) (.seq (.jblk [(11,.bool)] (.seq (.tree (.op 0 [] (.op 1 [] (.op 2 [] (.op 4 [] (.op 5 [] (.op 6 [] (.op 3 [] (.op 7 [] (.op 8 [] (.op 9 [] (.op 10 [] (.op 11 [] .done))))))))))))) (.seq .leaf (.join [] (.seq .leaf (.cond (.seq .leaf .leaf) .leaf)) .leaf)))) .leaf))))) (.seq (.seq .leaf (.cond (.seq .leaf .leaf) .leaf)) (.seq (.seq .leaf (.blk (.loop [(15,.int .i64)] (.seq (.seq .leaf (.cond .leaf .leaf)) (.seq (.blk (.seq .leaf (.seq (.seq .leaf (.blk (.loop [(16,.int .i64),(17,.int .i64)] (.seq (.seq .leaf (.cond .leaf .leaf)) (.seq (.jblk [(16,.int .i64)] (.seq (.tree (.op 0 [] (.op 1 [] (.op 2 [] (.op 5 [] (.op 6 [] (.op 7 [] (.op 3 [] (.op 4 [] (.op 8 [] (.op 9 [] (.op 10 [] (.op 11 [] (.op 12 [] (.op 13 [] (.op 14 [] (.op 16 [] (.op 17 [] (.op 18 [] (.op 20 [] (.op 21 [] (.op 22 [] (.op 15 [] (.op 19 [] (.op 23 [] (.op 24 [] (.op 25 [] (.op 26 [] (.op 27 [] (.op 28 [] .done)))))))))))))))))))))))))))))) (.cond .leaf .leaf))) .leaf))))) (.seq .leaf (.cond (.seq .leaf .leaf) .leaf))))) .leaf))))) (.seq .leaf (.seq (.seq .leaf (.blk (.loop [(18,.slc),(19,.int .i64)] (.seq (.seq .leaf (.cond .leaf .leaf)) (.seq (.blk (.seq .leaf (.seq .leaf .leaf))) .leaf))))) (.seq .leaf .leaf))))))))))))) Tryz.func61 hT
def zvm (l:Option Addr) (l_l l_c:Nat) (p:Option Addr) (p_l p_c:Nat) (R:Ending->World->Prop) (w:World):Prop:=
  za4 Int (fun s w_1 k=>
  qw (decide (s < (l_l:Int))) (
  ixS l l_l 1 s fun t14=>
  ld .slc t14 w_1 fun (t15:(Option Addr×Nat×Nat))=>
  ql P zjt #[(Value.slice t15.1 t15.2.1 t15.2.2),(Value.slice p p_l p_c)] [.int .i64] false w_1 fun (t17:Int) w_2=>
  qw (t17==0) (
  R (.returned (Value.int .i64 s)) w_2) (
  zbz .i64 s 1 fun t11=>
  k t11 w_2)) (
  R (.returned (Value.int .i64 (-1))) w_1)) 0 w
theorem z1m {l:Option Addr}{l_l l_c:Nat}{p:Option Addr}{p_l p_c:Nat}{R:Ending->World->Prop}{w:World}(hT:zvm l l_l l_c p p_l p_c R w):qj P zid #[(Value.slice l l_l l_c),(Value.slice p p_l p_c)] w R:=
 fnT (.seq .leaf (.seq (.seq .leaf (.blk (.loop [(5,.int .i64)] (.seq (.seq .leaf (.cond .leaf .leaf)) (.seq (.blk (.seq .leaf (.cond (.seq .leaf .leaf) .leaf))) .leaf))))) (.seq .leaf .leaf))) Tryz.func114 hT
def zt8 (l:Option Addr) (l_l l_c:Nat) (f:Value) (R:Ending->World->Prop) (w:World):Prop:=
  zat (Value.cells f) zn w fun b3 w_1=>
  joinP Int (fun k=>
  za4 Int (fun s w_2 k_1=>
  joinP Unit (fun k_2=>
  za5 w_2 fun w_3=>
  qw (decide (s < (l_l:Int))) (
  ixS l l_l 3 s fun t14=>
  ld .str t14 w_3 fun (t16:ByteArray)=>
  ld .str (⟨b3,0,none⟩:Addr) w_3 fun (t19:ByteArray)=>
  ql P zml #[(Value.string t16)] [.slc] false w_3 fun (t17:(Option Addr×Nat×Nat)) w_4=>
  ((ld .str (⟨b3,0,none⟩:Addr) w_4 fun (t19_1:ByteArray)=>
  (Value.string t19_1)=(Value.string t19)) /\
  ql P zml #[(Value.string t19)] [.slc] false w_4 fun (t20:(Option Addr×Nat×Nat)) w_5=>
  ql P zjt #[(Value.slice t17.1 t17.2.1 t17.2.2),(Value.slice t20.1 t20.2.1 t20.2.2)] [.int .i64] false w_5 fun (t21:Int) w_6=>
  qw (decide (t21 < 0)) (
  k_2 () w_6) (
  k s w_6))) (
  ((undef=undef) /\
  k s w_3))) (fun _ w_7=>
  zbz .i64 s 1 fun t25=>
  k_1 t25 w_7)) 0 w_1) (fun s_2 w_8=>
  za2 P (Instr.buildSlice qm 0 #[]) .slc w_8 fun (t26:(Option Addr×Nat×Nat)) w_9=>
  zad P (Instr.sliceAt qm (Value.slice l l_l l_c) none (some (Value.int .i64 s_2)) none) .slc w_9 fun (t29:(Option Addr×Nat×Nat))=>
  za2 P (Builtin.append_ #[qm,qm] qm #[(Value.slice t26.1 t26.2.1 t26.2.2),(Value.slice t29.1 t29.2.1 t29.2.2)]) .slc w_9 fun (t30:(Option Addr×Nat×Nat)) w_10=>
  ldA P 3 (⟨b3,0,none⟩:Addr) w_10 fun t32=>
  za2 P (Instr.buildSlice qm 1 #[(0,(Value.agg t32))]) .slc w_10 fun (t33:(Option Addr×Nat×Nat)) w_11=>
  za2 P (Builtin.append_ #[qm,qm] qm #[(Value.slice t30.1 t30.2.1 t30.2.2),(Value.slice t33.1 t33.2.1 t33.2.2)]) .slc w_11 fun (t34:(Option Addr×Nat×Nat)) w_12=>
  zad P (Instr.sliceAt qm (Value.slice l l_l l_c) (some (Value.int .i64 s_2)) none none) .slc w_12 fun (t38:(Option Addr×Nat×Nat))=>
  za2 P (Builtin.append_ #[qm,qm] qm #[(Value.slice t34.1 t34.2.1 t34.2.2),(Value.slice t38.1 t38.2.1 t38.2.2)]) .slc w_12 fun (t39:(Option Addr×Nat×Nat)) w_13=>
  R (.returned (Value.slice t39.1 t39.2.1 t39.2.2)) w_13)
theorem zz2 {l:Option Addr}{l_l l_c:Nat}{f:Value}{R:Ending->World->Prop}{w:World}(hT:zt8 l l_l l_c f R w):qj P zkt #[(Value.slice l l_l l_c),f] w R:=
 fnT (.seq .leaf (.seq .leaf (.seq (.jblk [(5,.int .i64)] (.loop [(5,.int .i64)] (.join [] (.seq (.tree (.op 0 [] (.op 1 [] (.op 2 [] (.op 3 [] (.op 4 [] (.op 5 [] (.op 6 [] (.op 7 [] (.op 8 [] (.op 11 [] (.op 9 [] (.op 12 [] (.op 10 [12] (.op 13 [] (.op 14 [] (.op 15 [] (.op 16 [] .done)))))))))))))))))) (.cond .leaf .leaf)) (.blk .leaf)))) (.seq .leaf (.seq .leaf (.seq .leaf .leaf)))))) Tryz.func117 hT
set_option maxRecDepth 100000
def zpo (n:Int) (o:Value) (R:Ending->World->Prop) (w:World):Prop:=
  zat (Value.cells o) jk w fun b3 w_1=>
  ql P zqk #[] [.bool] false w_1 fun (t23:Bool) w_2=>
  qw (!t23) (
  R (.returned (Value.bool false)) w_2) (
  ql P zou #[(Value.int .i64 1024)] [.ptr] false w_2 fun (t25:(Option Addr)) w_3=>
  ql P zmk #[(Value.int .i64 1),(Value.int .i64 1)] [.ptr,.int .i64] true w_3 fun (t27:((Option Addr)×Int)) w_4=>
  ql P zkq #[(Value.pointer t25),(Value.slice none 0 0)] [.any,.int .i64] true w_4 fun (t32:(Value×Int)) w_5=>
  zat (zc P zf) zf w_5 fun b8 w_6=>
  zah P (storeVar zf (⟨b8,0,none⟩:Addr) t32.1) w_6 fun w_7=>
  za4 ((Option Addr×Nat×Nat)×Int) (fun s w_8 k=>
  qhr n 8 fun t37=>
  cvI .i64 t37 fun t38=>
  qw (decide (s.2 < t38)) (
  ldA P 32 (⟨b8,0,none⟩:Addr) w_8 fun t43=>
  za2 P (Instr.buildSlice jq 1 #[(0,(Value.agg t43))]) .slc w_8 fun (t44:(Option Addr×Nat×Nat)) w_9=>
  za2 P (Builtin.append_ #[jq,jq] jq #[(Value.slice s.1.1 s.1.2.1 s.1.2.2),(Value.slice t44.1 t44.2.1 t44.2.2)]) .slc w_9 fun (t45:(Option Addr×Nat×Nat)) w_10=>
  zbz .i64 s.2 1 fun t41=>
  k ((t45.1,t45.2.1,t45.2.2),t41) w_10) (
  ql P zev #[(Value.pointer none),(Value.slice s.1.1 s.1.2.1 s.1.2.2),(Value.pointer t27.1)] [.ptr,.int .i64] true w_8 fun (t49:((Option Addr)×Int)) w_11=>
  ql P zev #[(Value.pointer t25),(Value.slice s.1.1 s.1.2.1 s.1.2.2),(Value.pointer none)] [.ptr,.int .i64] true w_11 fun (t55:((Option Addr)×Int)) w_12=>
  ql P zev #[(Value.pointer t25),(Value.slice s.1.1 s.1.2.1 s.1.2.2),(Value.pointer t27.1)] [.ptr,.int .i64] true w_12 fun (t62:((Option Addr)×Int)) w_13=>
  zad P (Instr.build zf #[(0,(Value.int .u8 1))]) .any w_13 fun (t67:Value)=>
  za2 P (Instr.buildSlice jq 1 #[(0,t67)]) .slc w_13 fun (t68:(Option Addr×Nat×Nat)) w_14=>
  ql P zev #[(Value.pointer t25),(Value.slice t68.1 t68.2.1 t68.2.2),(Value.pointer t27.1)] [.ptr,.int .i64] true w_14 fun (t70:((Option Addr)×Int)) w_15=>
  ldA P 6 (⟨b3,0,none⟩:Addr) w_15 fun t75=>
  ql P zda #[(Value.pointer none),(Value.agg t75)] [.any,.any] true w_15 fun (t76:(Value×Value)) w_16=>
  zat (zc P zq) zq w_16 fun b21 w_17=>
  zah P (storeVar zq (⟨b21,0,none⟩:Addr) t76.1) w_17 fun w_18=>
  qw (t49.2==7) (
  qw (t55.2==7) (
  zad P (eqM .eql z1v (.tmp 87) (.tmp 90) (Value.bool (t62.2==8)) (Value.bool (decide ((s.1.2.1:Int) > 4)))) .bool w_18 fun (t91:Bool)=>
  qw t91 (
  zad P (eqM .eql z1v (.tmp 95) (.tmp 97) (Value.bool (!(Option.isNone t62.1))) (Value.bool (t62.2==0))) .bool w_18 fun (t98:Bool)=>
  qw t98 (
  qw (t70.2==50) (
  ld (.int .i64) (⟨b21,0,none⟩:Addr) w_18 fun (t106:Int)=>
  qw (t106==7) (
  ql P zkx #[t76.2] [.int .i64] false w_18 fun (t111:Int) w_19=>
  qw (t111==7) (
  ql P zd1 #[(Value.pointer none)] [.slc] false w_19 fun (t116:(Option Addr×Nat×Nat)) w_20=>
  qw ((t116.2.1:Int)==0) (
  za2 P (Instr.buildSlice zx 1 #[(0,(Value.string (ByteArray.mk #[97])))]) .slc w_20 fun (t122:(Option Addr×Nat×Nat)) w_21=>
  ql P zbj #[(Value.pointer none),(Value.slice t122.1 t122.2.1 t122.2.2)] [.bool] false w_21 fun (t123:Bool) w_22=>
  qw (!t123) (
  ql P zdk #[(Value.pointer none)] [.ptr] false w_22 fun (t128:(Option Addr)) w_23=>
  qw (Option.isNone t128) (
  ql P zgo #[(Value.pointer none)] [.ptr] false w_23 fun (t133:(Option Addr)) w_24=>
  R (.returned (Value.bool (Option.isNone t133))) w_24) (
  R (.returned (Value.bool false)) w_23)) (
  R (.returned (Value.bool false)) w_22)) (
  R (.returned (Value.bool false)) w_20)) (
  R (.returned (Value.bool false)) w_19)) (
  R (.returned (Value.bool false)) w_18)) (
  R (.returned (Value.bool false)) w_18)) (
  R (.returned (Value.bool false)) w_18)) (
  R (.returned (Value.bool false)) w_18)) (
  R (.returned (Value.bool false)) w_18)) (
  R (.returned (Value.bool false)) w_18))) ((none,0,0),0) w_7)
theorem zu1 {n:Int}{o:Value}{R:Ending->World->Prop}{w:World}(hT:zpo n o R w):qj P zpl #[(Value.int .u8 n),o] w R:=
 fnT (.seq .leaf (.seq (.seq .leaf (.cond (.seq .leaf .leaf) .leaf)) (.seq .leaf (.seq .leaf (.seq .leaf (.seq .leaf (.seq (.seq .leaf (.blk (.loop [(10,.slc),(11,.int .i64)] (.seq (.seq .leaf (.cond .leaf .leaf)) (.seq (.blk .leaf) .leaf))))) (.seq .leaf (.seq .leaf (.seq .leaf (.seq .leaf (.seq .leaf (.seq .leaf (.seq .leaf .leaf)))))))))))))) Tryz.func3 hT
def zvr  (R:Ending->World->Prop) (w:World):Prop:=
  zad P (Instr.build zn #[(0,(Value.string (ByteArray.mk #[47,97]))),(1,(Value.bool true))]) .any w fun (t10:Value)=>
  zad P (Instr.build zn #[(0,(Value.string (ByteArray.mk #[47,97,47,102]))),(2,(Value.string (ByteArray.mk #[104,105])))]) .any w fun (t11:Value)=>
  zad P (Instr.build zn #[(0,(Value.string (ByteArray.mk #[47,98])))]) .any w fun (t12:Value)=>
  za2 P (Instr.buildSlice qm 3 #[(0,t10),(1,t11),(2,t12)]) .slc w fun (t13:(Option Addr×Nat×Nat)) w_1=>
  za2 P (Instr.buildSlice zfc 1 #[(0,(Value.slice t13.1 t13.2.1 t13.2.2))]) .slc w_1 fun (t14:(Option Addr×Nat×Nat)) w_2=>
  zad P (Instr.build zgs #[(0,(Value.slice t14.1 t14.2.1 t14.2.2)),(2,(Value.int .i64 9)),(3,(Value.int .i64 99))]) .any w_2 fun (t15:Value)=>
  ql P zti #[t15] [.ptr,.ptr,.bool] true w_2 fun (t16:((Option Addr)×(Option Addr)×Bool)) w_3=>
  qw (!t16.2.2) (
  R (.returned (Value.bool false)) w_3) (
  zad P (Instr.build jk #[(0,(Value.int .i64 3)),(1,(Value.string (ByteArray.mk #[47,97,47,102]))),(4,(Value.int .i64 2)),(3,(Value.string (ByteArray.mk #[33])))]) .any w_3 fun (t24:Value)=>
  ql P zda #[(Value.pointer t16.1),t24] [.any,.any] true w_3 fun (t25:(Value×Value)) w_4=>
  zat (zc P zq) zq w_4 fun b4 w_5=>
  zah P (storeVar zq (⟨b4,0,none⟩:Addr) t25.1) w_5 fun w_6=>
  zad P (Instr.build jk #[(0,(Value.int .i64 5)),(1,(Value.string (ByteArray.mk #[47,98])))]) .any w_6 fun (t29:Value)=>
  ql P zda #[(Value.pointer t16.1),t29] [.any,.any] true w_6 fun (_:(Value×Value)) w_7=>
  zad P (Instr.build jk #[(0,(Value.int .i64 10)),(1,(Value.string (ByteArray.mk #[47,98])))]) .any w_7 fun (t33:Value)=>
  ql P zda #[(Value.pointer t16.1),t33] [.any,.any] true w_7 fun (t34:(Value×Value)) w_8=>
  zat (zc P zq) zq w_8 fun b6 w_9=>
  zah P (storeVar zq (⟨b6,0,none⟩:Addr) t34.1) w_9 fun w_10=>
  ql P zdk #[(Value.pointer t16.1)] [.ptr] false w_10 fun (t38:(Option Addr)) w_11=>
  ql P zcr #[(Value.pointer t38),(Value.slice none 0 0)] [.slc] false w_11 fun (t39:(Option Addr×Nat×Nat)) w_12=>
  ld (.int .i64) (⟨b4,2,none⟩:Addr) w_12 fun (t41:Int)=>
  qw (t41==3) (
  ql P zkx #[t34.2] [.int .i64] false w_12 fun (t45:Int) w_13=>
  qw (t45==4) (
  qw ((t39.2.1:Int)==3) (
  ixS t39.1 t39.2.1 4 2 fun t55=>
  ldA P 4 t55 w_13 fun t56=>
  zad P (Instr.build zl #[(0,(Value.string (ByteArray.mk #[47,98]))),(1,(Value.int .i64 3))]) .any w_13 fun (t57:Value)=>
  zad P (eqM .eql zl (.tmp 56) (.tmp 57) (Value.agg t56) t57) .bool w_13 fun (t58:Bool)=>
  R (.returned (Value.bool t58)) w_13) (
  R (.returned (Value.bool false)) w_13)) (
  R (.returned (Value.bool false)) w_13)) (
  R (.returned (Value.bool false)) w_12))
theorem z3a  {R:Ending->World->Prop}{w:World}(hT:zvr  R w):qj P zqk #[] w R:=
 fnT (.seq .leaf (.seq .leaf (.seq (.seq .leaf (.cond (.seq .leaf .leaf) .leaf)) (.seq .leaf (.seq .leaf (.seq .leaf (.seq .leaf (.seq .leaf .leaf)))))))) Tryz.func5 hT
def zy3 (wv:Value) (R:Ending->World->Prop) (w:World):Prop:=
  zat (Value.cells wv) zgs w fun b1 w_1=>
  ql P zou #[(Value.int .i64 16777216)] [.ptr] false w_1 fun (t21:(Option Addr)) w_2=>
  zad P (Instr.build zgn #[]) .any w_2 fun (t22:Value)=>
  zat (Value.cells t22) zgn w_2 fun b23 w_3=>
  joinP (Option Addr×Nat×Nat) (fun k=>
  za4 ((Option Addr×Nat×Nat)×Int) (fun s w_4 k_1=>
  joinP Unit (fun k_2=>
  ld .slc (⟨b1,0,none⟩:Addr) w_4 fun (t26:(Option Addr×Nat×Nat))=>
  qw (decide (s.2 < (t26.2.1:Int))) (
  qw (decide ((s.1.2.1:Int) < 4)) (
  k_2 () w_4) (
  k (s.1.1,s.1.2.1,s.1.2.2) w_4)) (
  k (s.1.1,s.1.2.1,s.1.2.2) w_4)) (fun _ w_5=>
  joinP (Option Addr×Nat×Nat) (fun k_3=>
  ld .slc (⟨b1,0,none⟩:Addr) w_5 fun (t38:(Option Addr×Nat×Nat))=>
  ixS t38.1 t38.2.1 1 s.2 fun t40=>
  ld .slc t40 w_5 fun (t41:(Option Addr×Nat×Nat))=>
  ql P zmt #[(Value.slice t41.1 t41.2.1 t41.2.2)] [.slc,.int .i64] true w_5 fun (t42:((Option Addr×Nat×Nat)×Int)) w_6=>
  ld .slc (⟨b1,0,none⟩:Addr) w_6 fun (t48:(Option Addr×Nat×Nat))=>
  ixS t48.1 t48.2.1 1 s.2 fun t50=>
  ld .slc t50 w_6 fun (t51:(Option Addr×Nat×Nat))=>
  ql P zkq #[(Value.pointer t21),(Value.slice t51.1 t51.2.1 t51.2.2)] [.any,.int .i64] true w_6 fun (t52:(Value×Int)) w_7=>
  zat (zc P zf) zf w_7 fun b11 w_8=>
  zah P (storeVar zf (⟨b11,0,none⟩:Addr) t52.1) w_8 fun w_9=>
  qw (t42.2 != t52.2) (
  R (.returned (Value.tuple #[(Value.pointer none),(Value.pointer none),(Value.bool false)])) w_9) (
  qw (t42.2==0) (
  ld .slc (⟨b23,0,none⟩:Addr) w_9 fun (t64:(Option Addr×Nat×Nat))=>
  za2 P (Instr.buildSlice zfc 1 #[(0,(Value.slice t42.1.1 t42.1.2.1 t42.1.2.2))]) .slc w_9 fun (t66:(Option Addr×Nat×Nat)) w_10=>
  za2 P (Builtin.append_ #[zfc,zfc] zfc #[(Value.slice t64.1 t64.2.1 t64.2.2),(Value.slice t66.1 t66.2.1 t66.2.2)]) .slc w_10 fun (t67:(Option Addr×Nat×Nat)) w_11=>
  stC (⟨b23,0,none⟩:Addr) (Value.slice t67.1 t67.2.1 t67.2.2) w_11 fun w_12=>
  ldA P 32 (⟨b11,0,none⟩:Addr) w_12 fun t71=>
  za2 P (Instr.buildSlice jq 1 #[(0,(Value.agg t71))]) .slc w_12 fun (t72:(Option Addr×Nat×Nat)) w_13=>
  za2 P (Builtin.append_ #[jq,jq] jq #[(Value.slice s.1.1 s.1.2.1 s.1.2.2),(Value.slice t72.1 t72.2.1 t72.2.2)]) .slc w_13 fun (t73:(Option Addr×Nat×Nat)) w_14=>
  k_3 (t73.1,t73.2.1,t73.2.2) w_14) (
  k_3 (s.1.1,s.1.2.1,s.1.2.2) w_9))) (fun s_2 w_15=>
  zbz .i64 s.2 1 fun t35=>
  k_1 ((s_2.1,s_2.2.1,s_2.2.2),t35) w_15))) ((none,0,0),0) w_3) (fun s_3 w_16=>
  ld (.int .i64) (⟨b1,2,none⟩:Addr) w_16 fun (t75:Int)=>
  cvI .u64 t75 fun t76=>
  qhr t76 129 fun t77=>
  cvI .i64 t77 fun t78=>
  ld (.int .i64) (⟨b1,3,none⟩:Addr) w_16 fun (t80:Int)=>
  cvI .u64 t80 fun t81=>
  qhr t81 8193 fun t82=>
  cvI .i64 t82 fun t83=>
  ql P zmk #[(Value.int .i64 t78),(Value.int .i64 t83)] [.ptr,.int .i64] true w_16 fun (t87:((Option Addr)×Int)) w_17=>
  ql P zvw #[(Value.int .i64 t78),(Value.int .i64 t83)] [.ptr,.int .i64] true w_17 fun (t93:((Option Addr)×Int)) w_18=>
  joinP Unit (fun k_4=>
  qw (t87.2 != 0) (
  R (.returned (Value.tuple #[(Value.pointer none),(Value.pointer none),(Value.bool false)])) w_18) (
  qw (t93.2 != 0) (
  R (.returned (Value.tuple #[(Value.pointer none),(Value.pointer none),(Value.bool false)])) w_18) (
  k_4 () w_18))) (fun _ w_19=>
  za4 Int (fun s_5 w_20 k_5=>
  ld .slc (⟨b1,1,none⟩:Addr) w_20 fun (t104:(Option Addr×Nat×Nat))=>
  qw (decide (s_5 < (t104.2.1:Int))) (
  za5 w_20 fun w_21=>
  ld .slc (⟨b1,1,none⟩:Addr) w_21 fun (t111:(Option Addr×Nat×Nat))=>
  ixS t111.1 t111.2.1 4 s_5 fun t113=>
  ldA P 4 t113 w_21 fun t114=>
  ld .slc (⟨b1,1,none⟩:Addr) w_21 fun (t118:(Option Addr×Nat×Nat))=>
  ixS t118.1 t118.2.1 4 s_5 fun t120=>
  ldA P 4 t120 w_21 fun t121=>
  ql P zby #[(Value.pointer t87.1),(Value.agg t114)] [.int .i64] false w_21 fun (t115:Int) w_22=>
  ((ldA P 4 t120 w_22 fun t121_1=>
  (Value.agg t121_1)=(Value.agg t121)) /\
  ((ld .slc (⟨b1,1,none⟩:Addr) w_22 fun (t118_1:(Option Addr×Nat×Nat))=>
  (Value.slice t118_1.1 t118_1.2.1 t118_1.2.2)=(Value.slice t118.1 t118.2.1 t118.2.2)) /\
  ql P zv2 #[(Value.pointer t93.1),(Value.agg t121)] [.int .i64] false w_22 fun (t122:Int) w_23=>
  qw (t115 != t122) (
  R (.returned (Value.tuple #[(Value.pointer none),(Value.pointer none),(Value.bool false)])) w_23) (
  zbz .i64 s_5 1 fun t108=>
  k_5 t108 w_23)))) (
  stC (⟨b23,1,none⟩:Addr) (Value.pointer t93.1) w_20 fun w_24=>
  ql P zev #[(Value.pointer t21),(Value.slice s_3.1 s_3.2.1 s_3.2.2),(Value.pointer t87.1)] [.ptr,.int .i64] true w_24 fun (t132:((Option Addr)×Int)) w_25=>
  qw (t132.2==0) (
  R (.returned (Value.tuple #[(Value.pointer t132.1),(Value.pointer (some (⟨b23,0,none⟩:Addr))),(Value.bool (!(Option.isNone t132.1)))])) w_25) (
  R (.returned (Value.tuple #[(Value.pointer t132.1),(Value.pointer (some (⟨b23,0,none⟩:Addr))),(Value.bool false)])) w_25))) 0 w_19))
theorem z5c {wv:Value}{R:Ending->World->Prop}{w:World}(hT:zy3 wv R w):qj P zti #[wv] w R:=
 fnT (.seq .leaf (.seq .leaf (.seq .leaf (.seq .leaf (.seq (.seq .leaf (.jblk [(7,.slc)] (.loop [(7,.slc),(8,.int .i64)] (.join [] (.seq .leaf (.cond .leaf .leaf)) (.seq (.jblk [(7,.slc)] (.seq .leaf (.seq .leaf (.seq (.seq .leaf (.cond (.seq .leaf .leaf) .leaf)) (.seq .leaf (.cond (.seq .leaf .leaf) .leaf)))))) .leaf))))) (.seq .leaf (.seq .leaf (.seq .leaf (.seq .leaf (.join [] (.seq .leaf (.cond (.seq .leaf .leaf) .leaf)) (.seq (.seq .leaf (.blk (.loop [(19,.int .i64)] (.seq (.seq .leaf (.cond .leaf .leaf)) (.seq (.blk (.seq (.tree (.op 0 [] (.op 1 [] (.op 3 [] (.op 7 [] (.op 8 [] (.op 10 [] (.op 2 [] (.op 4 [] (.op 5 [] (.op 9 [] (.op 11 [] (.op 12 [] (.op 6 [9,12] (.op 13 [] (.op 14 [] .done)))))))))))))))) (.cond (.seq .leaf .leaf) .leaf))) .leaf))))) (.seq .leaf (.seq .leaf (.seq .leaf .leaf)))))))))))))) Tryz.func27 hT
def zgx (u:Option Addr) (R:Ending->World->Prop) (w:World):Prop:=
  qw (Option.isNone u) (
  R (.returned (Value.pointer none)) w) (
  qg u fun p=>
  ld .ptr (Addr.add p 1) w fun (t8:(Option Addr))=>
  ql P zcs #[(Value.pointer t8)] [.ptr] false w fun (t9:(Option Addr)) w_1=>
  R (.returned (Value.pointer t9)) w_1)
theorem zje {u:Option Addr}{R:Ending->World->Prop}{w:World}(hT:zgx u R w):qj P zdk #[(Value.pointer u)] w R:=
 fnT (.seq .leaf (.seq (.seq .leaf (.cond (.seq .leaf .leaf) .leaf)) (.seq .leaf .leaf))) Tryz.func14 hT
def zlq (u:Option Addr) (wv:Option Addr) (names:Option Addr) (names_l jm:Nat) (R:Ending->World->Prop) (w:World):Prop:=
  ql P zhs #[(Value.pointer wv),(Value.slice names names_l jm)] [.int .i64] false w fun (_:Int) w_1=>
  ql P zbj #[(Value.pointer u),(Value.slice names names_l jm)] [.bool] false w_1 fun (t11:Bool) w_2=>
  qw t11 (
  ql P zku #[(Value.pointer wv),(Value.slice names names_l jm)] [] true w_2 fun (_:Unit) w_3=>
  ql P vk #[(Value.slice names names_l jm)] [.str] false w_3 fun (t17:ByteArray) w_4=>
  zad P (Instr.build zl #[(0,(Value.string t17)),(1,(Value.int .i64 3))]) .any w_4 fun (t18:Value)=>
  ql P zby #[(Value.pointer wv),t18] [.int .i64] false w_4 fun (_:Int) w_5=>
  R (.returned (Value.tuple #[])) w_5) (
  R (.returned (Value.tuple #[])) w_2)
theorem zru {u:Option Addr}{wv:Option Addr}{names:Option Addr}{names_l jm:Nat}{R:Ending->World->Prop}{w:World}(hT:zlq u wv names names_l jm R w):qj P zik #[(Value.pointer u),(Value.pointer wv),(Value.slice names names_l jm)] w R:=
 fnT (.seq .leaf (.seq .leaf (.cond (.seq .leaf .leaf) .leaf))) Tryz.func155 hT
def zk5 (f:Option Addr) (o:Value) (R:Ending->World->Prop) (w:World):Prop:=
  zat (Value.cells o) jk w fun b3 w_1=>
  zat (zc P zq) zq w_1 fun b4 w_2=>
  ld .str (⟨b3,1,none⟩:Addr) w_2 fun (t11:ByteArray)=>
  ql P zfp #[(Value.pointer f),(Value.string t11)] [.any,.int .i64] true w_2 fun (t12:(Value×Int)) w_3=>
  zat (zc P zo) zo w_3 fun b5 w_4=>
  zah P (storeVar zo (⟨b5,0,none⟩:Addr) t12.1) w_4 fun w_5=>
  qw (t12.2 != 0) (
  ql P zbb #[(Value.int .i64 t12.2)] [.any] false w_5 fun (t19:Value) w_6=>
  zah P (storeVar zq (⟨b4,0,none⟩:Addr) t19) w_6 fun w_7=>
  ldA P 5 (⟨b4,0,none⟩:Addr) w_7 fun t4=>
  R (.returned (Value.agg t4)) w_7) (
  joinP Bool (fun k=>
  ld (.int .i64) (⟨b3,0,none⟩:Addr) w_5 fun (t22:Int)=>
  qw (t22==10) (
  ld .bool (⟨b5,0,none⟩:Addr) w_5 fun (t26:Bool)=>
  k t26 w_5) (
  k false w_5)) (fun s w_8=>
  qw s (
  ld .str (⟨b3,1,none⟩:Addr) w_8 fun (t30:ByteArray)=>
  ql P zoc #[(Value.pointer f),(Value.string t30)] [.slc] false w_8 fun (t31:(Option Addr×Nat×Nat)) w_9=>
  zad P (Instr.build zq #[(1,(Value.bool true)),(2,(Value.int .i64 (t31.2.1:Int)))]) .any w_9 fun (t33:Value)=>
  zah P (storeVar zq (⟨b4,0,none⟩:Addr) t33) w_9 fun w_10=>
  ldA P 5 (⟨b4,0,none⟩:Addr) w_10 fun t4_1=>
  R (.returned (Value.agg t4_1)) w_10) (
  ld (.int .i64) (⟨b3,0,none⟩:Addr) w_8 fun (t36:Int)=>
  qw (t36==10) (
  ld .str (⟨b5,1,none⟩:Addr) w_8 fun (t39:ByteArray)=>
  zad P (Instr.build zq #[(2,(Value.int .i64 (t39.size:Int)))]) .any w_8 fun (t41:Value)=>
  zah P (storeVar zq (⟨b4,0,none⟩:Addr) t41) w_8 fun w_11=>
  ldA P 5 (⟨b4,0,none⟩:Addr) w_11 fun t4_2=>
  R (.returned (Value.agg t4_2)) w_11) (
  joinP Bool (fun k_1=>
  ld (.int .i64) (⟨b3,0,none⟩:Addr) w_8 fun (t44:Int)=>
  qw (t44==9) (
  ld .bool (⟨b5,0,none⟩:Addr) w_8 fun (t48:Bool)=>
  k_1 (!t48) w_8) (
  k_1 false w_8)) (fun s_1 w_12=>
  qw s_1 (
  ql P zbb #[(Value.int .i64 70)] [.any] false w_12 fun (t51:Value) w_13=>
  zah P (storeVar zq (⟨b4,0,none⟩:Addr) t51) w_13 fun w_14=>
  ldA P 5 (⟨b4,0,none⟩:Addr) w_14 fun t4_3=>
  R (.returned (Value.agg t4_3)) w_14) (
  ld (.int .i64) (⟨b3,0,none⟩:Addr) w_12 fun (t54:Int)=>
  qw (t54==9) (
  ld .str (⟨b3,1,none⟩:Addr) w_12 fun (t58:ByteArray)=>
  ql P zoc #[(Value.pointer f),(Value.string t58)] [.slc] false w_12 fun (t59:(Option Addr×Nat×Nat)) w_15=>
  zad P (Instr.build zq #[(1,(Value.bool true)),(2,(Value.int .i64 (t59.2.1:Int))),(4,(Value.slice t59.1 t59.2.1 t59.2.2))]) .any w_15 fun (t63:Value)=>
  zah P (storeVar zq (⟨b4,0,none⟩:Addr) t63) w_15 fun w_16=>
  ldA P 5 (⟨b4,0,none⟩:Addr) w_16 fun t4_4=>
  R (.returned (Value.agg t4_4)) w_16) (
  ld .bool (⟨b5,0,none⟩:Addr) w_12 fun (t66:Bool)=>
  qw t66 (
  ql P zbb #[(Value.int .i64 71)] [.any] false w_12 fun (t67:Value) w_17=>
  zah P (storeVar zq (⟨b4,0,none⟩:Addr) t67) w_17 fun w_18=>
  ldA P 5 (⟨b4,0,none⟩:Addr) w_18 fun t4_5=>
  R (.returned (Value.agg t4_5)) w_18) (
  ld (.int .i64) (⟨b3,4,none⟩:Addr) w_12 fun (t70:Int)=>
  ld .str (⟨b5,1,none⟩:Addr) w_12 fun (t72:ByteArray)=>
  qw (decide (t70 > (t72.size:Int))) (
  ql P zbb #[(Value.int .i64 133)] [.any] false w_12 fun (t75:Value) w_19=>
  zah P (storeVar zq (⟨b4,0,none⟩:Addr) t75) w_19 fun w_20=>
  ldA P 5 (⟨b4,0,none⟩:Addr) w_20 fun t4_6=>
  R (.returned (Value.agg t4_6)) w_20) (
  za5 w_12 fun w_21=>
  ld .str (⟨b5,1,none⟩:Addr) w_21 fun (t77:ByteArray)=>
  ld (.int .i64) (⟨b3,4,none⟩:Addr) w_21 fun (t79:Int)=>
  ld .str (⟨b5,1,none⟩:Addr) w_21 fun (t81:ByteArray)=>
  ld (.int .i64) (⟨b3,4,none⟩:Addr) w_21 fun (t84:Int)=>
  ld (.int .i64) (⟨b3,5,none⟩:Addr) w_21 fun (t86:Int)=>
  zbz .i64 t84 t86 fun t87=>
  zad P (Builtin.min_ #[zav,zav] zav #[(Value.int .i64 (t81.size:Int)),(Value.int .i64 t87)]) (.int .i64) w_21 fun (t88:Int)=>
  zad P (Instr.sliceAt qx (Value.string t77) (some (Value.int .i64 t79)) (some (Value.int .i64 t88)) none) .str w_21 fun (t89:ByteArray)=>
  ld .str (⟨b5,1,none⟩:Addr) w_21 fun (t91:ByteArray)=>
  zad P (Instr.build zq #[(3,(Value.string t89)),(2,(Value.int .i64 (t91.size:Int)))]) .any w_21 fun (t93:Value)=>
  zah P (storeVar zq (⟨b4,0,none⟩:Addr) t93) w_21 fun w_22=>
  ldA P 5 (⟨b4,0,none⟩:Addr) w_22 fun t4_7=>
  R (.returned (Value.agg t4_7)) w_22)))))))))
theorem znz {f:Option Addr}{o:Value}{R:Ending->World->Prop}{w:World}(hT:zk5 f o R w):qj P zgd #[(Value.pointer f),o] w R:=
 fnT (.seq .leaf (.seq .leaf (.seq (.blk (.seq .leaf (.cond (.seq .leaf .leaf) (.join [(20,.bool)] .leaf (.cond (.seq .leaf .leaf) (.seq .leaf (.cond (.seq .leaf .leaf) (.join [(42,.bool)] .leaf (.cond (.seq .leaf .leaf) (.seq .leaf (.cond (.seq .leaf (.seq .leaf .leaf)) (.seq .leaf (.cond (.seq .leaf .leaf) (.seq .leaf (.cond (.seq .leaf .leaf) .leaf))))))))))))))) (.seq (.tree (.op 0 [] (.op 2 [] (.op 4 [] (.op 7 [] (.op 9 [] (.op 14 [] (.op 1 [] (.op 3 [] (.op 5 [] (.op 6 [] (.op 8 [] (.op 10 [] (.op 11 [] (.op 12 [] (.op 13 [] (.op 15 [] (.op 16 [] (.op 17 [] (.op 18 [] .done)))))))))))))))))))) .leaf)))) Tryz.func148 hT
def zpr (f:Option Addr) (o:Value) (R:Ending->World->Prop) (w:World):Prop:=
  zat (Value.cells o) jk w fun b3 w_1=>
  zat (zc P zq) zq w_1 fun b4 w_2=>
  ld .str (⟨b3,1,none⟩:Addr) w_2 fun (t10:ByteArray)=>
  ql P zkk #[(Value.pointer f),(Value.string t10)] [.str,.int .i64] true w_2 fun (t11:(ByteArray×Int)) w_3=>
  qw (t11.2 != 0) (
  ql P zbb #[(Value.int .i64 t11.2)] [.any] false w_3 fun (t18:Value) w_4=>
  zah P (storeVar zq (⟨b4,0,none⟩:Addr) t18) w_4 fun w_5=>
  ldA P 5 (⟨b4,0,none⟩:Addr) w_5 fun t4=>
  R (.returned (Value.agg t4)) w_5) (
  ld (.int .i64) (⟨b3,4,none⟩:Addr) w_3 fun (t21:Int)=>
  qw (decide (t21 > (t11.1.size:Int))) (
  ql P zbb #[(Value.int .i64 133)] [.any] false w_3 fun (t25:Value) w_6=>
  zah P (storeVar zq (⟨b4,0,none⟩:Addr) t25) w_6 fun w_7=>
  ldA P 5 (⟨b4,0,none⟩:Addr) w_7 fun t4_1=>
  R (.returned (Value.agg t4_1)) w_7) (
  ld (.int .i64) (⟨b3,4,none⟩:Addr) w_3 fun (t28:Int)=>
  ld .str (⟨b3,3,none⟩:Addr) w_3 fun (t30:ByteArray)=>
  zbz .i64 t28 (t30.size:Int) fun t32=>
  qw (decide (t32 > 1024)) (
  ql P zbb #[(Value.int .i64 134)] [.any] false w_3 fun (t34:Value) w_8=>
  zah P (storeVar zq (⟨b4,0,none⟩:Addr) t34) w_8 fun w_9=>
  ldA P 5 (⟨b4,0,none⟩:Addr) w_9 fun t4_2=>
  R (.returned (Value.agg t4_2)) w_9) (
  joinP ByteArray (fun k=>
  ld (.int .i64) (⟨b3,0,none⟩:Addr) w_3 fun (t36:Int)=>
  qw (t36==3) (
  za5 w_3 fun w_10=>
  ld (.int .i64) (⟨b3,4,none⟩:Addr) w_10 fun (t40:Int)=>
  zad P (Instr.sliceAt qx (Value.string t11.1) none (some (Value.int .i64 t40)) none) .str w_10 fun (t41:ByteArray)=>
  ld .str (⟨b3,3,none⟩:Addr) w_10 fun (t43:ByteArray)=>
  qd4 t41 t43 fun t44=>
  ld (.int .i64) (⟨b3,4,none⟩:Addr) w_10 fun (t49:Int)=>
  ld .str (⟨b3,3,none⟩:Addr) w_10 fun (t51:ByteArray)=>
  zbz .i64 t49 (t51.size:Int) fun t53=>
  zad P (Builtin.min_ #[zav,zav] zav #[(Value.int .i64 (t11.1.size:Int)),(Value.int .i64 t53)]) (.int .i64) w_10 fun (t54:Int)=>
  zad P (Instr.sliceAt qx (Value.string t11.1) (some (Value.int .i64 t54)) none none) .str w_10 fun (t55:ByteArray)=>
  qd4 t44 t55 fun t56=>
  k t56 w_10) (
  za5 w_3 fun w_11=>
  ld (.int .i64) (⟨b3,5,none⟩:Addr) w_11 fun (t59:Int)=>
  zo5 .i64 t59 (t11.1.size:Int) fun t62=>
  zad P (Builtin.max_ #[zav,zav] zav #[(Value.int .i64 0),(Value.int .i64 t62)]) (.int .i64) w_11 fun (t63:Int)=>
  ld (.int .i64) (⟨b3,5,none⟩:Addr) w_11 fun (t67:Int)=>
  ql P zuh #[(Value.string (ByteArray.mk #[0])),(Value.int .i64 t63)] [.str] false w_11 fun (t64:ByteArray) w_12=>
  ((ld (.int .i64) (⟨b3,5,none⟩:Addr) w_12 fun (t67_1:Int)=>
  (Value.int .i64 t67_1)=(Value.int .i64 t67)) /\
  qd4 t11.1 t64 fun t65=>
  zad P (Instr.sliceAt qx (Value.string t65) none (some (Value.int .i64 t67)) none) .str w_12 fun (t68:ByteArray)=>
  k t68 w_12))) (fun s w_13=>
  za5 w_13 fun w_14=>
  qg f fun p=>
  ld .map p w_14 fun (t72:(Option Nat))=>
  ld .str (⟨b3,1,none⟩:Addr) w_14 fun (t74:ByteArray)=>
  zad P (Instr.build zo #[(1,(Value.string s))]) .any w_14 fun (t76:Value)=>
  zah P (Instr.mapUpdate qo (Value.map t72) (Value.string t74) t76) w_14 fun w_15=>
  zad P (Instr.build zq #[(2,(Value.int .i64 (s.size:Int)))]) .any w_15 fun (t79:Value)=>
  zah P (storeVar zq (⟨b4,0,none⟩:Addr) t79) w_15 fun w_16=>
  ldA P 5 (⟨b4,0,none⟩:Addr) w_16 fun t4_3=>
  R (.returned (Value.agg t4_3)) w_16))))
theorem zvv {f:Option Addr}{o:Value}{R:Ending->World->Prop}{w:World}(hT:zpr f o R w):qj P zil #[(Value.pointer f),o] w R:=
 fnT (.seq .leaf (.seq .leaf (.seq (.blk (.seq .leaf (.cond (.seq .leaf .leaf) (.seq .leaf (.cond (.seq .leaf .leaf) (.seq .leaf (.cond (.seq .leaf .leaf) .leaf))))))) (.join [(5,.str)] (.seq .leaf (.cond (.tree (.op 0 [] (.op 1 [] (.op 4 [] (.op 7 [] (.op 8 [] (.op 9 [] (.op 10 [] (.op 12 [] (.op 2 [] (.op 3 [] (.op 5 [] (.op 6 [] (.op 11 [] (.op 13 [] (.op 14 [] (.op 15 [] (.op 16 [] (.op 17 [] (.op 18 [] (.op 19 [] .done))))))))))))))))))))) (.tree (.op 0 [] (.op 1 [] (.op 3 [] (.op 4 [] (.op 9 [] (.op 2 [] (.op 5 [] (.op 6 [] (.op 10 [] (.op 7 [10] (.op 8 [] (.op 11 [] (.op 12 [] .done)))))))))))))))) (.seq (.tree (.op 0 [] (.op 1 [] (.op 2 [] (.op 4 [] (.op 6 [] (.op 3 [] (.op 5 [] (.op 7 [] (.op 8 [] .done)))))))))) (.seq .leaf .leaf)))))) Tryz.func150 hT
def zl2 (f:Option Addr) (o:Value) (R:Ending->World->Prop) (w:World):Prop:=
  zat (Value.cells o) jk w fun b3 w_1=>
  zat (zc P zq) zq w_1 fun b4 w_2=>
  joinP Unit (fun k=>
  ld .str (⟨b3,1,none⟩:Addr) w_2 fun (t8:ByteArray)=>
  qw (t8.toList==(ByteArray.mk #[47]).toList) (
  ld (.int .i64) (⟨b3,0,none⟩:Addr) w_2 fun (t12:Int)=>
  qw (t12==6) (
  ql P zbb #[(Value.int .i64 132)] [.any] false w_2 fun (t15:Value) w_3=>
  zah P (storeVar zq (⟨b4,0,none⟩:Addr) t15) w_3 fun w_4=>
  ldA P 5 (⟨b4,0,none⟩:Addr) w_4 fun t4=>
  R (.returned (Value.agg t4)) w_4) (
  k () w_2)) (
  k () w_2)) (fun _ w_5=>
  ld .str (⟨b3,1,none⟩:Addr) w_5 fun (t19:ByteArray)=>
  ql P zfp #[(Value.pointer f),(Value.string t19)] [.any,.int .i64] true w_5 fun (t20:(Value×Int)) w_6=>
  zat (zc P zo) zo w_6 fun b5 w_7=>
  zah P (storeVar zo (⟨b5,0,none⟩:Addr) t20.1) w_7 fun w_8=>
  qw (t20.2 != 0) (
  ql P zbb #[(Value.int .i64 t20.2)] [.any] false w_8 fun (t27:Value) w_9=>
  zah P (storeVar zq (⟨b4,0,none⟩:Addr) t27) w_9 fun w_10=>
  ldA P 5 (⟨b4,0,none⟩:Addr) w_10 fun t4_1=>
  R (.returned (Value.agg t4_1)) w_10) (
  joinP Bool (fun k_1=>
  ld .bool (⟨b5,0,none⟩:Addr) w_8 fun (t30:Bool)=>
  qw t30 (
  ld (.int .i64) (⟨b3,0,none⟩:Addr) w_8 fun (t33:Int)=>
  k_1 (t33==5) w_8) (
  k_1 false w_8)) (fun s_1 w_11=>
  qw s_1 (
  ql P zbb #[(Value.int .i64 71)] [.any] false w_11 fun (t36:Value) w_12=>
  zah P (storeVar zq (⟨b4,0,none⟩:Addr) t36) w_12 fun w_13=>
  ldA P 5 (⟨b4,0,none⟩:Addr) w_13 fun t4_2=>
  R (.returned (Value.agg t4_2)) w_13) (
  joinP Bool (fun k_2=>
  ld .bool (⟨b5,0,none⟩:Addr) w_11 fun (t39:Bool)=>
  qw (!t39) (
  ld (.int .i64) (⟨b3,0,none⟩:Addr) w_11 fun (t43:Int)=>
  k_2 (t43==6) w_11) (
  k_2 false w_11)) (fun s_2 w_14=>
  qw s_2 (
  ql P zbb #[(Value.int .i64 70)] [.any] false w_14 fun (t46:Value) w_15=>
  zah P (storeVar zq (⟨b4,0,none⟩:Addr) t46) w_15 fun w_16=>
  ldA P 5 (⟨b4,0,none⟩:Addr) w_16 fun t4_3=>
  R (.returned (Value.agg t4_3)) w_16) (
  ld .str (⟨b3,1,none⟩:Addr) w_14 fun (t50:ByteArray)=>
  ql P ziz #[(Value.pointer f),(Value.string t50)] [.slc] false w_14 fun (t51:(Option Addr×Nat×Nat)) w_17=>
  qw (decide ((t51.2.1:Int) > 0)) (
  ql P zbb #[(Value.int .i64 130)] [.any] false w_17 fun (t54:Value) w_18=>
  zah P (storeVar zq (⟨b4,0,none⟩:Addr) t54) w_18 fun w_19=>
  ldA P 5 (⟨b4,0,none⟩:Addr) w_19 fun t4_4=>
  R (.returned (Value.agg t4_4)) w_19) (
  za5 w_17 fun w_20=>
  qg f fun p=>
  ld .map p w_20 fun (t58:(Option Nat))=>
  ld .str (⟨b3,1,none⟩:Addr) w_20 fun (t60:ByteArray)=>
  za2 P (Builtin.delete_ #[qo,qx] zbk #[(Value.map t58),(Value.string t60)]) .any w_20 fun (_:Value) w_21=>
  zad P (Instr.build zq #[]) .any w_21 fun (t61:Value)=>
  zah P (storeVar zq (⟨b4,0,none⟩:Addr) t61) w_21 fun w_22=>
  ldA P 5 (⟨b4,0,none⟩:Addr) w_22 fun t4_5=>
  R (.returned (Value.agg t4_5)) w_22)))))))
theorem zrr {f:Option Addr}{o:Value}{R:Ending->World->Prop}{w:World}(hT:zl2 f o R w):qj P zfw #[(Value.pointer f),o] w R:=
 fnT (.seq .leaf (.join [] (.seq .leaf (.cond (.seq .leaf .leaf) .leaf)) (.seq .leaf (.seq (.blk (.seq .leaf (.cond (.seq .leaf .leaf) (.join [(28,.bool)] .leaf (.cond (.seq .leaf .leaf) (.join [(37,.bool)] .leaf (.cond (.seq .leaf .leaf) (.seq .leaf (.cond (.seq .leaf .leaf) .leaf))))))))) (.seq (.tree (.op 0 [] (.op 1 [] (.op 2 [] (.op 4 [] (.op 3 [] (.op 5 [] (.op 6 [] .done)))))))) (.seq .leaf .leaf)))))) Tryz.func151 hT
def zn4 (f:Option Addr) (path:ByteArray) (R:Ending->World->Prop) (w:World):Prop:=
  ql P zfp #[(Value.pointer f),(Value.string path)] [.any,.int .i64] true w fun (t11:(Value×Int)) w_1=>
  zat (zc P zo) zo w_1 fun b6 w_2=>
  zah P (storeVar zo (⟨b6,0,none⟩:Addr) t11.1) w_2 fun w_3=>
  joinP Unit (fun k=>
  qw (t11.2==0) (
  ld .bool (⟨b6,0,none⟩:Addr) w_3 fun (t18:Bool)=>
  qw t18 (
  R (.returned (Value.tuple #[(Value.string (ByteArray.mk #[])),(Value.int .i64 71)])) w_3) (
  k () w_3)) (
  k () w_3)) (fun _ w_4=>
  ld .str (⟨b6,1,none⟩:Addr) w_4 fun (t21:ByteArray)=>
  R (.returned (Value.tuple #[(Value.string t21),(Value.int .i64 t11.2)])) w_4)
theorem zue {f:Option Addr}{path:ByteArray}{R:Ending->World->Prop}{w:World}(hT:zn4 f path R w):qj P zkk #[(Value.pointer f),(Value.string path)] w R:=
 fnT (.seq .leaf (.seq .leaf (.join [] (.seq .leaf (.cond (.seq .leaf .leaf) .leaf)) (.seq .leaf .leaf)))) Tryz.func203 hT
def znh (f:Option Addr) (path:ByteArray) (R:Ending->World->Prop) (w:World):Prop:=
  joinP ByteArray (fun k=>
  qw (!(path.toList==(ByteArray.mk #[47]).toList)) (
  qd4 path (ByteArray.mk #[47]) fun t10=>
  k t10 w) (
  k path w)) (fun s w_1=>
  qg f fun p=>
  ld .map p w_1 fun (t14:(Option Nat))=>
  za2 P (Instr.range qo (Value.map t14)) .ptr w_1 fun (t15:(Option Addr)) w_2=>
  za4 (Option Addr×Nat×Nat) (fun s_1 w_3 k_1=>
  za2 P (Instr.next (Value.pointer t15) false zbk) .any w_3 fun (t16:Value) w_4=>
  exV t16 0 .bool fun (t17:Bool)=>
  qw t17 (
  joinP (Option Addr×Nat×Nat) (fun k_2=>
  zad P (Instr.entry (Value.pointer t15)) .any w_4 fun (t18:Value)=>
  exV t18 0 .str fun (t19:ByteArray)=>
  qw (!(t19.toList==(ByteArray.mk #[47]).toList)) (
  zlp P zdl #[(Value.string t19),(Value.string s)] [.bool] false w_4 fun (t25:Bool)=>
  qw t25 (
  za2 P (Instr.buildSlice zx 1 #[(0,(Value.string t19))]) .slc w_4 fun (t29:(Option Addr×Nat×Nat)) w_5=>
  za2 P (Builtin.append_ #[zx,zx] zx #[(Value.slice s_1.1 s_1.2.1 s_1.2.2),(Value.slice t29.1 t29.2.1 t29.2.2)]) .slc w_5 fun (t30:(Option Addr×Nat×Nat)) w_6=>
  k_2 (t30.1,t30.2.1,t30.2.2) w_6) (
  k_2 (s_1.1,s_1.2.1,s_1.2.2) w_4)) (
  k_2 (s_1.1,s_1.2.1,s_1.2.2) w_4)) (fun s_2 w_7=>
  k_1 (s_2.1,s_2.2.1,s_2.2.2) w_7)) (
  R (.returned (Value.slice s_1.1 s_1.2.1 s_1.2.2)) w_4)) (none,0,0) w_2)
theorem zs8 {f:Option Addr}{path:ByteArray}{R:Ending->World->Prop}{w:World}(hT:znh f path R w):qj P ziz #[(Value.pointer f),(Value.string path)] w R:=
 fnT (.seq .leaf (.join [(1,.str)] (.seq .leaf (.cond .leaf .leaf)) (.seq .leaf (.seq (.seq .leaf (.blk (.loop [(5,.slc)] (.seq .leaf (.seq (.cond .leaf .leaf) (.jblk [(5,.slc)] (.seq .leaf (.seq .leaf (.cond .leaf .leaf))))))))) (.seq .leaf .leaf))))) Tryz.func205 hT
def zt2 (err:Value) (R:Ending->World->Prop) (w:World):Prop:=
  zat (zc P jd) jd w fun b3 w_1=>
  zad P (Instr.makeInterface jv (Value.pointer (some (⟨b3,0,none⟩:Addr)))) .any w_1 fun (t5:Value)=>
  ql P zwt #[err,t5] [.bool] false w_1 fun (t6:Bool) w_2=>
  qw t6 (
  ld (.int .i64) (⟨b3,0,none⟩:Addr) w_2 fun (t7:Int)=>
  R (.returned (Value.int .i64 t7)) w_2) (
  R (.returned (Value.int .i64 0)) w_2)
theorem zz5 {err:Value}{R:Ending->World->Prop}{w:World}(hT:zt2 err R w):qj P zkx #[err] w R:=
 fnT (.seq .leaf (.seq .leaf (.seq (.seq .leaf (.cond (.seq .leaf .leaf) .leaf)) (.seq .leaf .leaf)))) Tryz.func11 hT
def zvn (err:Value) (target:Value) (R:Ending->World->Prop) (w:World):Prop:=
  zad P (eqM .eql zfo (.tmp 8) (.const Value.nilIface) err Value.nilIface) .bool w fun (t9:Bool)=>
  qw t9 (
  R (.returned (Value.bool false)) w) (
  joinP Unit (fun k=>
  zad P (eqM .eql qgs (.tmp 10) (.const Value.nilIface) target Value.nilIface) .bool w fun (t11:Bool)=>
  qw t11 (
  zad P (Instr.makeInterface qx (Value.string (ByteArray.mk #[101,114,114,111,114,115,58,32,116,97,114,103,101,116,32,99,97,110,110,111,116,32,98,101,32,110,105,108]))) .any w fun (_:Value)=>
  False) (
  k () w)) (fun _ w_1=>
  ql P zc3 #[target] [.any] false w_1 fun (t14:Value) w_2=>
  zat (zc P zal) zal w_2 fun b5 w_3=>
  zah P (storeVar zal (⟨b5,0,none⟩:Addr) t14) w_3 fun w_4=>
  ldA P 3 (⟨b5,0,none⟩:Addr) w_4 fun t15=>
  ql P zd5 #[(Value.agg t15)] [.any] false w_4 fun (t16:Value) w_5=>
  joinP Unit (fun k_1=>
  zzw P (callMethod t16 "Kind" #[]) [.int .u8] false w_5 fun (t18:Int) w_6=>
  qw (t18 != 22) (
  zad P (Instr.makeInterface qx (Value.string (ByteArray.mk #[101,114,114,111,114,115,58,32,116,97,114,103,101,116,32,109,117,115,116,32,98,101,32,97,32,110,111,110,45,110,105,108,32,112,111,105,110,116,101,114]))) .any w_6 fun (_:Value)=>
  False) (
  ldA P 3 (⟨b5,0,none⟩:Addr) w_6 fun t21=>
  ql P zdp #[(Value.agg t21)] [.bool] false w_6 fun (t22:Bool) w_7=>
  qw t22 (
  zad P (Instr.makeInterface qx (Value.string (ByteArray.mk #[101,114,114,111,114,115,58,32,116,97,114,103,101,116,32,109,117,115,116,32,98,101,32,97,32,110,111,110,45,110,105,108,32,112,111,105,110,116,101,114]))) .any w_7 fun (_:Value)=>
  False) (
  k_1 () w_7))) (fun _ w_8=>
  zzw P (callMethod t16 "Elem" #[]) [.any] false w_8 fun (t26:Value) w_9=>
  joinP Unit (fun k_2=>
  zzw P (callMethod t26 "Kind" #[]) [.int .u8] false w_9 fun (t28:Int) w_10=>
  qw (t28 != 20) (
  ld .any (⟨0,0,none⟩:Addr) w_10 fun (t32:Value)=>
  zzw P (callMethod t26 "Implements" #[t32]) [.bool] false w_10 fun (t33:Bool) w_11=>
  qw (!t33) (
  zad P (Instr.makeInterface qx (Value.string (ByteArray.mk #[101,114,114,111,114,115,58,32,42,116,97,114,103,101,116,32,109,117,115,116,32,98,101,32,105,110,116,101,114,102,97,99,101,32,111,114,32,105,109,112,108,101,109,101,110,116,32,101,114,114,111,114]))) .any w_11 fun (_:Value)=>
  False) (
  k_2 () w_11)) (
  k_2 () w_10)) (fun _ w_12=>
  ldA P 3 (⟨b5,0,none⟩:Addr) w_12 fun t39=>
  ql P zme #[err,target,(Value.agg t39),t26] [.bool] false w_12 fun (t41:Bool) w_13=>
  R (.returned (Value.bool t41)) w_13))))
theorem z14 {err:Value}{target:Value}{R:Ending->World->Prop}{w:World}(hT:zvn err target R w):qj P zwt #[err,target] w R:=
 fnT (.seq .leaf (.seq (.seq .leaf (.cond (.seq .leaf .leaf) .leaf)) (.join [] (.seq .leaf (.cond .leaf .leaf)) (.seq .leaf (.seq .leaf (.join [] (.seq .leaf (.cond .leaf .leaf)) (.seq .leaf (.join [] (.seq .leaf (.cond .leaf .leaf)) (.seq .leaf .leaf))))))))) Tryz.func41 hT
def zwz (err:Value) (target:Value) (targetVal:Value) (targetType:Value) (R:Ending->World->Prop) (w:World):Prop:=
  zat (Value.cells targetVal) zal w fun b6 w_1=>
  za4 Value (fun s w_2 k=>
  joinP Value (fun k_1=>
  ql P ze3 #[s] [.any] false w_2 fun (t17:Value) w_3=>
  zzw P (callMethod t17 "AssignableTo" #[targetType]) [.bool] false w_3 fun (t19:Bool) w_4=>
  qw t19 (
  ldA P 3 (⟨b6,0,none⟩:Addr) w_4 fun t20=>
  ql P zdy #[(Value.agg t20)] [.any] false w_4 fun (t21:Value) w_5=>
  ql P zc3 #[s] [.any] false w_5 fun (t23:Value) w_6=>
  ql P zd9 #[t21,t23] [] true w_6 fun (_:Unit) w_7=>
  R (.returned (Value.bool true)) w_7) (
  joinP Unit (fun k_2=>
  zoy P (Instr.typeAssert s zfo zhk true) [.any,.bool] w_4 fun (t27:(Value×Bool))=>
  qw t27.2 (
  zzw P (callMethod t27.1 "As" #[target]) [.bool] false w_4 fun (t34:Bool) w_8=>
  qw t34 (
  R (.returned (Value.bool true)) w_8) (
  k_2 () w_8)) (
  k_2 () w_4)) (fun _ w_9=>
  zad P (Instr.typeAssert s zfo zg5 true) .any w_9 fun (t37:Value)=>
  exV t37 1 .bool fun (t38:Bool)=>
  exV t37 0 .any fun (t39:Value)=>
  qw t38 (
  zzw P (callMethod t39 "Unwrap" #[]) [.any] false w_9 fun (t41:Value) w_10=>
  zad P (eqM .eql zfo (.tmp 42) (.const Value.nilIface) t41 Value.nilIface) .bool w_10 fun (t43:Bool)=>
  qw t43 (
  R (.returned (Value.bool false)) w_10) (
  k_1 t41 w_10)) (
  zad P (Instr.typeAssert s zfo zkl true) .any w_9 fun (t44:Value)=>
  exV t44 1 .bool fun (t45:Bool)=>
  exV t44 0 .any fun (t46:Value)=>
  qw t45 (
  zzw P (callMethod t46 "Unwrap" #[]) [.slc] false w_9 fun (t48:(Option Addr×Nat×Nat)) w_11=>
  za4 Int (fun s_2 w_12 k_3=>
  qw (decide (s_2 < (t48.2.1:Int))) (
  joinP Unit (fun k_4=>
  joinP Unit (fun k_5=>
  ixS t48.1 t48.2.1 1 s_2 fun t52=>
  ld .any t52 w_12 fun (t53:Value)=>
  zad P (eqM .eql zfo (.tmp 54) (.const Value.nilIface) t53 Value.nilIface) .bool w_12 fun (t55:Bool)=>
  qw t55 (
  k_5 () w_12) (
  ldA P 3 (⟨b6,0,none⟩:Addr) w_12 fun t58=>
  ql P zme #[t53,target,(Value.agg t58),targetType] [.bool] false w_12 fun (t60:Bool) w_13=>
  qw t60 (
  R (.returned (Value.bool true)) w_13) (
  k_5 () w_13))) (fun _ w_14=>
  k_4 () w_14)) (fun _ w_15=>
  zbz .i64 s_2 1 fun t61=>
  k_3 t61 w_15)) (
  R (.returned (Value.bool false)) w_12)) 0 w_11) (
  R (.returned (Value.bool false)) w_9))))) (fun s_5 w_16=>
  k s_5 w_16)) err w_1
theorem z2a {err:Value}{target:Value}{targetVal:Value}{targetType:Value}{R:Ending->World->Prop}{w:World}(hT:zwz err target targetVal targetType R w):qj P zme #[err,target,targetVal,targetType] w R:=
 fnT (.seq .leaf (.blk (.loop [(0,.any)] (.jblk [(0,.any)] (.seq (.seq .leaf (.cond (.seq .leaf (.seq .leaf .leaf)) .leaf)) (.join [] (.seq .leaf (.seq .leaf (.cond (.seq .leaf .leaf) .leaf))) (.seq .leaf (.blk (.seq .leaf (.cond (.seq .leaf (.seq .leaf (.seq .leaf (.cond (.seq .leaf .leaf) .leaf)))) (.seq .leaf (.cond (.seq .leaf (.seq (.seq .leaf (.blk (.loop [(50,.int .i64)] (.seq .leaf (.seq (.cond .leaf .leaf) (.join [] (.jblk [] (.seq .leaf (.seq (.seq .leaf (.cond .leaf .leaf)) (.seq .leaf (.cond (.seq .leaf .leaf) .leaf))))) .leaf)))))) (.seq .leaf .leaf))) (.seq .leaf (.seq .leaf .leaf)))))))))))))) Tryz.func91 hT
set_option maxRecDepth 100000
theorem zem {e:Array Value->Sem Value}(he:Extern.find Tryz.f88=some e) (args:Array Value) (w:World):(callFunc zc3 args).run P w=((e args).run P w).andThen fun v w1=>.ok (.value v) w1:=
 Go.run_callFunc_extern Tryz.func88 (by kernel_rfl) (by kernel_rfl) (by kernel_rfl) he args w
theorem zhl {e:Array Value->Sem Value}(he:Extern.find Tryz.f89=some e) (args:Array Value) (w:World):(callFunc zd5 args).run P w=((e args).run P w).andThen fun v w1=>.ok (.value v) w1:=
 Go.run_callFunc_extern Tryz.func89 (by kernel_rfl) (by kernel_rfl) (by kernel_rfl) he args w
theorem zg8 {e:Array Value->Sem Value}(he:Extern.find Tryz.f90=some e) (args:Array Value) (w:World):(callFunc zdp args).run P w=((e args).run P w).andThen fun v w1=>.ok (.value v) w1:=
 Go.run_callFunc_extern Tryz.func90 (by kernel_rfl) (by kernel_rfl) (by kernel_rfl) he args w
theorem zhz {e:Array Value->Sem Value}(he:Extern.find Tryz.f158=some e) (args:Array Value) (w:World):(callFunc zdy args).run P w=((e args).run P w).andThen fun v w1=>.ok (.value v) w1:=
 Go.run_callFunc_extern Tryz.func158 (by kernel_rfl) (by kernel_rfl) (by kernel_rfl) he args w
theorem zh1 {e:Array Value->Sem Value}(he:Extern.find Tryz.f159=some e) (args:Array Value) (w:World):(callFunc zd9 args).run P w=((e args).run P w).andThen fun v w1=>.ok (.value v) w1:=
 Go.run_callFunc_extern Tryz.func159 (by kernel_rfl) (by kernel_rfl) (by kernel_rfl) he args w
theorem zcm {e:Array Value->Sem Value}(he:Extern.find Tryz.f290=some e) (args:Array Value) (w:World):(callFunc zcl args).run P w=((e args).run P w).andThen fun v w1=>.ok (.value v) w1:=
 Go.run_callFunc_extern Tryz.func290 (by kernel_rfl) (by kernel_rfl) (by kernel_rfl) he args w
theorem zhd {e:Array Value->Sem Value}(he:Extern.find Tryz.f292=some e) (args:Array Value) (w:World):(callFunc zd4 args).run P w=((e args).run P w).andThen fun v w1=>.ok (.value v) w1:=
 Go.run_callFunc_extern Tryz.func292 (by kernel_rfl) (by kernel_rfl) (by kernel_rfl) he args w
theorem zfm {e:Array Value->Sem Value}(he:Extern.find Tryz.f293=some e) (args:Array Value) (w:World):(callFunc zcy args).run P w=((e args).run P w).andThen fun v w1=>.ok (.value v) w1:=
 Go.run_callFunc_extern Tryz.func293 (by kernel_rfl) (by kernel_rfl) (by kernel_rfl) he args w
theorem zg4 {e:Array Value->Sem Value}(he:Extern.find Tryz.f273=some e) (args:Array Value) (w:World):(callFunc zg2 args).run P w=((e args).run P w).andThen fun v w1=>.ok (.value v) w1:=
 Go.run_callFunc_extern Tryz.func273 (by kernel_rfl) (by kernel_rfl) (by kernel_rfl) he args w
def zj4 (u:Option Addr) (R:Ending->World->Prop) (w:World):Prop:=
  qw (Option.isNone u) (
  R (.returned (Value.pointer none)) w) (
  za5 w fun w_1=>
  qg u fun p=>
  qg u fun p_1=>
  ld .slc p w_1 fun (t8:(Option Addr×Nat×Nat))=>
  ld .ptr (Addr.add p_1 1) w_1 fun (t12:(Option Addr))=>
  ql P zcs #[(Value.pointer t12)] [.ptr] false w_1 fun (t13:(Option Addr)) w_2=>
  ((ld .slc p w_2 fun (t8_1:(Option Addr×Nat×Nat))=>
  (Value.slice t8_1.1 t8_1.2.1 t8_1.2.2)=(Value.slice t8.1 t8.2.1 t8.2.2)) /\
  zad P (Instr.build zcw #[(0,(Value.slice t8.1 t8.2.1 t8.2.2)),(1,(Value.pointer t13))]) .any w_2 fun (t14:Value)=>
  zat (Value.cells t14) zcw w_2 fun b15 w_3=>
  R (.returned (Value.pointer (some (⟨b15,0,none⟩:Addr)))) w_3))
theorem zo0 {u:Option Addr}{R:Ending->World->Prop}{w:World}(hT:zj4 u R w):qj P zgo #[(Value.pointer u)] w R:=
 fnT (.seq .leaf (.seq (.seq .leaf (.cond (.seq .leaf .leaf) .leaf)) (.seq (.tree (.op 0 [] (.op 1 [] (.op 2 [] (.op 4 [] (.op 5 [] (.op 6 [] (.op 3 [] (.op 7 [] (.op 8 [3] (.op 9 [] (.op 10 [] (.op 11 [] .done))))))))))))) .leaf))) Tryz.func15 hT
end Go.Proofs.YthaaekcaaecdeaaGreatDoor
namespace Go.Fw
open Go
abbrev Heap:=Array Obj
@[simp] theorem jc {a:Addr}{K:Addr->Prop}:qg (some a) K=K a:=rfl
theorem jh {b:Bool}{A B:Prop}(h:b=true) (hA:A):qw b A B:=⟨fun _=>hA,fun h'=>(by rw [h] at h';cases h')⟩
theorem qp {b:Bool}{A B:Prop}(h:b=false) (hB:B):qw b A B:=⟨fun h'=>(by rw [h] at h';cases h'),fun _=>hB⟩
theorem zy {p:Prop} [Decidable p] {A B:Prop}(hA:p->A) (hB:¬p->B):qw (decide p) A B:=⟨fun h=>hA (of_decide_eq_true h),fun h=>hB (of_decide_eq_false h)⟩
theorem zbv {p:Prop}{b:Bool}{A B:Prop}(h:b=true ↔ p) (hA:p->A) (hB:¬p->B):qw b A B:=
 ⟨fun h'=>hA (h.1 h'),fun h'=>hB fun hp=>by rw [h.2 hp] at h';cases h'⟩
theorem zba {a b:Int}{A B:Prop}(hA:a=b->A) (hB:a≠b->B):qw (a==b) A B:=zbv (by simp) hA hB
theorem zbr {a b:Int}{A B:Prop}(hA:a≠b->A) (hB:a=b->B):qw (a != b) A B:=zbv (p:=a≠b) (by simp) hA fun h=>hB (by omega)
theorem wrap_i64 {n:Int}(h1:-9223372036854775808<=n) (h2:n<=9223372036854775807):IntKind.i64.wrap n=n:=by
 simp only [IntKind.wrap,IntKind.bits,IntKind.signed]
 have e:(2:Int) ^ 64=18446744073709551616:=by decide
 have e':(2:Int) ^ (64-1)=9223372036854775808:=by decide
 simp only [e,e',Bool.true_and]
 split
 ·rename_i h;simp at h;omega
 ·rename_i h;simp at h;omega
theorem wrap_u64 {n:Int}(h1:0<=n) (h2:n < 18446744073709551616):IntKind.u64.wrap n=n:=by
 simp only [IntKind.wrap,IntKind.bits,IntKind.signed]
 have e:(2:Int) ^ 64=18446744073709551616:=by decide
 simp only [e,Bool.false_and,Bool.false_eq_true,if_false]
 omega
theorem qgn {a b:Int}{K:Int->Prop}(h1:-9223372036854775808<=a+b) (h2:a+b<=9223372036854775807) (hK:K (a+b)):zbz .i64 a b K:=⟨_,(wrap_i64 h1 h2).symm,hK⟩
theorem qb8 {a b:Int}{K:Int->Prop}(h1:-9223372036854775808<=a-b) (h2:a-b<=9223372036854775807) (hK:K (a-b)):zo5 .i64 a b K:=⟨_,(wrap_i64 h1 h2).symm,hK⟩
theorem qg3 {a b:Int}{K:Int->Prop}(h1:-9223372036854775808<=a * b) (h2:a * b<=9223372036854775807) (hK:K (a * b)):z0k .i64 a b K:=⟨_,(wrap_i64 h1 h2).symm,hK⟩
theorem jr {a b:Int}{K:Int->Prop}(c:Int) (hc:a+b=c) (h1:-9223372036854775808<=c) (h2:c<=9223372036854775807) (hK:K c):zbz .i64 a b K:=by subst hc;exact qgn h1 h2 hK
theorem zdb {a b:Int}{K:Int->Prop}(c:Int) (hc:a-b=c) (h1:-9223372036854775808<=c) (h2:c<=9223372036854775807) (hK:K c):zo5 .i64 a b K:=by subst hc;exact qb8 h1 h2 hK
theorem zie {a b:Int}{K:Int->Prop}(c:Int) (hc:a * b=c) (h1:-9223372036854775808<=c) (h2:c<=9223372036854775807) (hK:K c):z0k .i64 a b K:=by subst hc;exact qg3 h1 h2 hK
theorem zsh {a:Int}{K:Int->Prop}(h1:0<=a) (h2:a < 18446744073709551616) (hK:K a):cvI .u64 a K:=⟨_,(wrap_u64 h1 h2).symm,hK⟩
theorem zp6 {a:Int}{K:Int->Prop}(h1:-9223372036854775808<=a) (h2:a<=9223372036854775807) (hK:K a):cvI .i64 a K:=⟨_,(wrap_i64 h1 h2).symm,hK⟩
theorem zgp {n:Nat}(x:BitVec n):BitVec.ofInt n (x.toNat:Int)=x:=by
 apply BitVec.eq_of_toNat_eq
 simp
theorem zif (m:Nat):IntKind.u32.wrap (m:Int)=((m % 4294967296:Nat):Int):=by
 simp only [IntKind.wrap,IntKind.bits,IntKind.signed]
 have e:(2:Int) ^ 32=4294967296:=by decide
 simp only [e,Bool.false_and,Bool.false_eq_true,if_false]
 omega
theorem z8s (m:Nat):IntKind.u64.wrap (m:Int)=((m % 18446744073709551616:Nat):Int):=by
 simp only [IntKind.wrap,IntKind.bits,IntKind.signed]
 have e:(2:Int) ^ 64=18446744073709551616:=by decide
 simp only [e,Bool.false_and,Bool.false_eq_true,if_false]
 omega
theorem zl6 (m:Nat):IntKind.u8.wrap (m:Int)=((m % 256:Nat):Int):=by
 simp only [IntKind.wrap,IntKind.bits,IntKind.signed]
 have e:(2:Int) ^ 8=256:=by decide
 simp only [e,Bool.false_and,Bool.false_eq_true,if_false]
 omega
section w32
variable {K:Int->Prop}(x y:BitVec 32)
theorem qbl (hK:K ((x+y).toNat:Int)):zbz .u32 (x.toNat:Int) (y.toNat:Int) K:=by
 refine⟨_,?_,hK⟩
 rw [<-Int.natCast_add,zif]
 simp [BitVec.toNat_add]
theorem qjh (hK:K ((x &&& y).toNat:Int)):qcp .u32 (x.toNat:Int) (y.toNat:Int) K:=by
 refine⟨_,?_,hK⟩
 change _=IntKind.u32.wrap ((BitVec.ofInt 32 (x.toNat:Int) &&& BitVec.ofInt 32 (y.toNat:Int)).toNat:Int)
 rw [zgp,zgp,zif,Nat.mod_eq_of_lt (BitVec.isLt _)]
theorem orW (hK:K ((x ||| y).toNat:Int)):orI .u32 (x.toNat:Int) (y.toNat:Int) K:=by
 refine⟨_,?_,hK⟩
 change _=IntKind.u32.wrap ((BitVec.ofInt 32 (x.toNat:Int) ||| BitVec.ofInt 32 (y.toNat:Int)).toNat:Int)
 rw [zgp,zgp,zif,Nat.mod_eq_of_lt (BitVec.isLt _)]
theorem z9i (hK:K ((x ^^^ y).toNat:Int)):z3h .u32 (x.toNat:Int) (y.toNat:Int) K:=by
 refine⟨_,?_,hK⟩
 change _=IntKind.u32.wrap ((BitVec.ofInt 32 (x.toNat:Int) ^^^ BitVec.ofInt 32 (y.toNat:Int)).toNat:Int)
 rw [zgp,zgp,zif,Nat.mod_eq_of_lt (BitVec.isLt _)]
theorem qek (hK:K ((~~~ x).toNat:Int)):z3h .u32 (IntKind.max .u32) (x.toNat:Int) K:=by
 refine⟨_,?_,hK⟩
 change _=IntKind.u32.wrap ((BitVec.ofInt 32 (IntKind.max .u32) ^^^ BitVec.ofInt 32 (x.toNat:Int)).toNat:Int)
 rw [zgp,zif,Nat.mod_eq_of_lt (BitVec.isLt _)]
 have:BitVec.ofInt 32 (IntKind.max .u32)=BitVec.allOnes 32:=by decide
 rw [this,BitVec.allOnes_xor]
theorem qj6 {i:Int}(n:Nat) (hi:i=(n:Int)) (hn:n<=32) (hK:K ((x <<< n).toNat:Int)):qfj .u32 (x.toNat:Int) i K:=by
 subst hi
 refine⟨by omega,_,?_,hK⟩
 have h1:min (n:Int).toNat IntKind.u32.bits=n:=by simp [IntKind.bits];omega
 rw [h1]
 have h2:((x.toNat:Int) * 2 ^ n)=((x.toNat * 2 ^ n:Nat):Int):=by simp
 rw [h2,zif]
 simp [BitVec.toNat_shiftLeft,Nat.shiftLeft_eq]
theorem qhk {i:Int}(n:Nat) (hi:i=(n:Int)) (hn:n<=32) (hK:K ((x >>> n).toNat:Int)):z7c .u32 (x.toNat:Int) i K:=by
 subst hi
 refine⟨by omega,_,?_,hK⟩
 have h1:min (n:Int).toNat IntKind.u32.bits=n:=by simp [IntKind.bits];omega
 rw [h1]
 have h2:(2:Int) ^ n=((2 ^ n:Nat):Int):=by simp
 rw [h2,BitVec.toNat_ushiftRight,Nat.shiftRight_eq_div_pow,Int.fdiv_eq_ediv_of_nonneg _ (Int.natCast_nonneg _)]
 rfl
end w32
theorem qls {i:Int}{m:Nat}(n:Nat) (hi:i=(n:Int)) (hn:n<=64){K:Int->Prop}(hK:K ((m / 2 ^ n:Nat):Int)):z7c .u64 (m:Int) i K:=by
 subst hi
 refine⟨by omega,_,?_,hK⟩
 have h1:min (n:Int).toNat IntKind.u64.bits=n:=by simp [IntKind.bits];omega
 rw [h1]
 have h2:(2:Int) ^ n=((2 ^ n:Nat):Int):=by simp
 rw [h2,Int.fdiv_eq_ediv_of_nonneg _ (Int.natCast_nonneg _)]
 rfl
theorem cv8 {m:Nat}{K:Int->Prop}(hK:K ((UInt8.ofNat m).toNat:Int)):cvI .u8 (m:Int) K:=by
 refine⟨_,?_,hK⟩
 rw [zl6]
 simp
theorem qhu {a b:Int}{K:Int->Prop}(c:Int) (hc:a * b=c) (h1:0<=c) (h2:c < 18446744073709551616) (hK:K c):z0k .u64 a b K:=by
 subst hc
 exact⟨_,(wrap_u64 h1 h2).symm,hK⟩
def b32 (b:UInt8):BitVec 32:=BitVec.ofNat 32 b.toNat
theorem cvB {b:UInt8}{K:Int->Prop}(hK:K ((b32 b).toNat:Int)):cvI .u32 (b.toNat:Int) K:=by
 refine⟨_,?_,hK⟩
 rw [zif]
 simp [b32]
def lo8 (x:BitVec 32):UInt8:=UInt8.ofNat x.toNat
theorem cvL (x:BitVec 32){K:Int->Prop}(hK:K ((lo8 x).toNat:Int)):cvI .u8 (x.toNat:Int) K:=by
 refine⟨_,?_,hK⟩
 rw [zl6]
 simp [lo8]
def Bytes (c:Array Value) (o:Nat) (f:Nat->UInt8) (n:Nat):Prop:=∀ i,i < n->c[o+i]?=some (.int .u8 ((f i).toNat:Int))
def Words (c:Array Value) (o:Nat) (f:Nat->BitVec 32) (n:Nat):Prop:=∀ i,i < n->c[o+i]?=some (.int .u32 ((f i).toNat:Int))
theorem Words.at {c:Array Value}{f:Nat->BitVec 32}{n:Nat}(h:Words c 0 f n) (i:Nat) (hi:i < n):c[i]?=some (.int .u32 ((f i).toNat:Int)):=by simpa using h i hi
theorem Words.snoc {c:Array Value}{f:Nat->BitVec 32}{n:Nat}(h:Words c 0 f n) (hn:n < c.size){x:BitVec 32}(hx:x=f n):Words (c.setIfInBounds n (.int .u32 (x.toNat:Int))) 0 f (n+1):=by
 intro i hi
 subst hx
 by_cases e:i=n
 ·subst e;simp [hn]
 ·rw [Array.getElem?_setIfInBounds_ne (by omega)];exact h i (by omega)
theorem Bytes.at {c:Array Value}{f:Nat->UInt8}{n:Nat}(h:Bytes c 0 f n) (i:Nat) (hi:i < n):c[i]?=some (.int .u8 ((f i).toNat:Int)):=by simpa using h i hi
theorem Bytes.snoc {c:Array Value}{f:Nat->UInt8}{n:Nat}(h:Bytes c 0 f n) (hn:n < c.size){x:UInt8}(hx:x=f n):Bytes (c.setIfInBounds n (.int .u8 (x.toNat:Int))) 0 f (n+1):=by
 intro i hi
 subst hx
 by_cases e:i=n
 ·subst e;simp [hn]
 ·rw [Array.getElem?_setIfInBounds_ne (by omega)];exact h i (by omega)
def Ext (M:List Nat) (H H':Heap):Prop:=H.size<=H'.size/\∀ b,b < H.size->b∉M->H'[b]?=H[b]?
theorem Ext.refl (M:List Nat) (H:Heap):Ext M H H:=⟨Nat.le_refl _,fun _ _ _=>rfl⟩
theorem Ext.trans {M:List Nat}{H H' H'':Heap}(h:Ext M H H') (h':Ext M H' H''):Ext M H H'':=
 ⟨Nat.le_trans h.1 h'.1,fun b hb hn=>(h'.2 b (Nat.lt_of_lt_of_le hb h.1) hn).trans (h.2 b hb hn)⟩
theorem Ext.mono {M M':List Nat}{H H':Heap}(hm:∀ b,b∈M->b∈M') (h:Ext M H H'):Ext M' H H':=⟨h.1,fun b hb hn=>h.2 b hb fun hm'=>hn (hm b hm')⟩
theorem Ext.own {M M':List Nat}{H H' H'':Heap}(h:Ext M H H') (h':Ext M' H' H'') (hm:∀ b,b∈M'->b < H.size->b∈M):Ext M H H'':=
 ⟨Nat.le_trans h.1 h'.1,fun b hb hn=>(h'.2 b (Nat.lt_of_lt_of_le hb h.1) fun hm'=>hn (hm b hm' hb)).trans (h.2 b hb hn)⟩
theorem Ext.push {M:List Nat}{H:Heap}(o:Obj):Ext M H (H.push o):=⟨by simp,fun b hb _=>by rw [Array.getElem?_push_lt hb,Array.getElem?_eq_getElem hb]⟩
theorem Ext.get {M:List Nat}{H H':Heap}{b:Nat}{o:Obj}(h:Ext M H H') (hb:H[b]?=some o) (hn:b∉M):H'[b]?=some o:=by
 rw [h.2 b (Array.getElem?_eq_some_iff.1 hb).1 hn,hb]
theorem lt_of_get {H:Heap}{b:Nat}{o:Obj}(hb:H[b]?=some o):b < H.size:=(Array.getElem?_eq_some_iff.1 hb).1
theorem zk {H:Heap}{o:Obj}:(H.push o)[H.size]?=some o:=by simp
theorem za1 {H:Heap}{o x:Obj}{b:Nat}(h:H[b]?=some x):(H.push o)[b]?=some x:=by
 rw [Array.getElem?_push_lt (lt_of_get h),<-h,Array.getElem?_eq_getElem (lt_of_get h)]
theorem qy {H:Heap}{o x:Obj}{b:Nat}(h:H[b]?=some x):(H.setIfInBounds b o)[b]?=some o:=by
 simp [lt_of_get h]
theorem zd8 {H:Heap}{o x:Obj}{b c:Nat}(h:H[c]?=some x) (hne:c≠b):(H.setIfInBounds b o)[c]?=some x:=by
 rw [Array.getElem?_setIfInBounds_ne (Ne.symm hne),h]
theorem Ext.set {M:List Nat}{H:Heap}{b:Nat}(o:Obj) (hb:b∈M):Ext M H (H.setIfInBounds b o):=
 ⟨by simp,fun c _ hn=>by rw [Array.getElem?_setIfInBounds_ne];intro e;subst e;exact hn hb⟩
theorem Ext.set_own {M:List Nat}{H H':Heap}{b:Nat}{o:Obj}(h:Ext M H H') (hb:H.size<=b\/b∈M):Ext M H (H'.setIfInBounds b o):=by
 refine⟨by simp;exact h.1,fun c hc hn=>?_⟩
 rw [Array.getElem?_setIfInBounds_ne]
 ·exact h.2 c hc hn
 ·intro e
  subst e
  rcases hb with hb | hb
  ·omega
  ·exact hn hb
theorem Ext.push_own {M:List Nat}{H H':Heap}{o:Obj}(h:Ext M H H'):Ext M H (H'.push o):=h.trans (.push o)
section heap
variable {w:World}{H:Heap}
theorem zrf (hw:w.heap=H){b o:Nat}{c:Array Value}{T:TypeId}{fr:Nat×Nat}(hb:H[b]?=some (.cells c T fr)):w.cell? ⟨b,o,none⟩=c[o]?:=by
 unfold World.cell?
 rw [hw]
 simp only [hb]
 simp
theorem jg {s:Sh}{b o:Nat}{c:Array Value}{T:TypeId}{fr:Nat×Nat}{K:s.T->Prop}{t:s.T}(hw:w.heap=H) (hb:H[b]?=some (.cells c T fr)) (hc:c[o]?=some (s.val t)) (hK:K t) :
  ld s ⟨b,o,none⟩ w K:=⟨t,by rw [zrf hw hb,hc],hK⟩
theorem vw {K:World->Prop}(hw:w.heap=H) (hK:∀ w',w'.heap=H->K w'):za5 w K:=by
 rintro w' rfl
 exact hK _ hw
theorem ji {c:Array Value}{T:TypeId}{K:Nat->World->Prop}(hw:w.heap=H) (hK:∀ w',w'.heap=H.push (.cells c T)->K H.size w'):zat c T w K:=by
 rintro b w' ⟨rfl,rfl⟩
 rw [hw]
 exact hK _ (by simp)
theorem z2k {b o:Nat}{c:Array Value}{T:TypeId}{fr:Nat×Nat}{v:Value}(hw:w.heap=H) (hb:H[b]?=some (.cells c T fr)) :
  (w.setCell ⟨b,o,none⟩ v).heap=H.setIfInBounds b (.cells (c.setIfInBounds o v) T fr):=by
 unfold World.setCell
 simp only [hw]
 apply Array.ext_getElem?
 intro i
 rw [Array.getElem?_modify]
 by_cases h:b=i
 ·subst h
  rw [if_pos rfl,hb,qy hb]
  simp
 ·rw [if_neg h,Array.getElem?_setIfInBounds_ne h]
theorem zq6 {b o:Nat}{c:Array Value}{T:TypeId}(hw:w.heap=H) (hb:H[b]?=some (.cells c T (0,0))):w.frozen? ⟨b,o,none⟩=false:=by
 unfold World.frozen?
 rw [hw]
 simp only [hb]
 simp
theorem zb8 {b o:Nat}{c:Array Value}{T:TypeId}{v:Value}{K:World->Prop}(hw:w.heap=H) (hb:H[b]?=some (.cells c T (0,0))) (ho:o < c.size)
  (hK:∀ w',w'.heap=H.setIfInBounds b (.cells (c.setIfInBounds o v) T (0,0))->K w'):stC ⟨b,o,none⟩ v w K:=by
 refine⟨⟨c[o],by rw [zrf hw hb];simp [ho]⟩,zq6 hw hb,?_⟩
 rintro w' rfl
 exact hK _ (z2k hw hb)
theorem zan {b o n:Nat}:Addr.add ⟨b,o,none⟩ n=⟨b,o+n,none⟩:=by
 unfold Addr.add
 split
 ·rename_i h;subst h;rfl
 ·rfl
theorem qlp {b o len size:Nat}{i:Int}{K:Addr->Prop}(k:Nat) (hi:i=(k:Int)) (hk:k < len) (hK:K ⟨b,o+k * size,none⟩):ixR ⟨b,o,none⟩ len size i K:=by
 subst hi
 refine⟨by omega,by omega,?_⟩
 rw [zan]
 exact hK
theorem qdt {b o len size:Nat}{i:Int}{K:Addr->Prop}(k:Nat) (hi:i=(k:Int)) (hk:k < len) (hK:K ⟨b,o+k * size,none⟩):ixS (some ⟨b,o,none⟩) len size i K:=by
 subst hi
 refine⟨_,rfl,by omega,by omega,?_⟩
 rw [zan]
 exact hK
theorem zvs {b o len:Nat}{i:Int}{K:Addr->Prop}(k:Nat) (hi:i=(k:Int)) (hk:k < len) (hK:K ⟨b,o+k,none⟩):ixS (some ⟨b,o,none⟩) len 1 i K:=qdt k hi hk (by simpa using hK)
theorem zo6 {b len:Nat}{i:Int}{K:Addr->Prop}(k:Nat) (hi:i=(k:Int)) (hk:k < len) (hK:K ⟨b,k,none⟩):ixR ⟨b,0,none⟩ len 1 i K:=qlp k hi hk (by simpa using hK)
end heap
theorem zqj {P:Program}{w:World}{H:Heap}{b o n:Nat}{c:Array Value}{T:TypeId}{fr:Nat×Nat}(hw:w.heap=H) (hb:H[b]?=some (.cells c T fr)) (hn:o+n<=c.size) :
  (loadCells ⟨b,o,none⟩ n).run P w=.ok (c.extract o (o+n)) w:=by
 have key:∀ (m i:Nat) (acc:Array Value),o+i+m<=c.size->(loadCellsFrom ⟨b,o,none⟩ i m acc).run P w=.ok (acc++c.extract (o+i) (o+i+m)) w:=by
  intro m
  induction m with
  | zero=>intro i acc _;simp [loadCellsFrom];omega
  | succ m ih=>
   intro i acc h
   have hc:w.cell? (Addr.add ⟨b,o,none⟩ i)=some c[o+i]:=by
    rw [zan,zrf hw hb,Array.getElem?_eq_getElem (by omega)]
   simp only [loadCellsFrom,Sem.run_bind,run_load,hc,Result.andThen_ok]
   rw [ih (i+1) _ (by omega)]
   congr 1
   apply Array.ext'
   simp only [Array.toList_append,Array.toList_push,Array.toList_extract,List.extract_eq_take_drop,List.append_assoc]
   congr 1
   have e1:o+i+(m+1)-(o+i)=m+1:=by omega
   have e2:o+(i+1)+m-(o+(i+1))=m:=by omega
   rw [e1,e2]
   have hlt:o+i < c.toList.length:=by simp;omega
   rw [List.drop_eq_getElem_cons hlt]
   simp [List.take_succ_cons,Nat.add_assoc]
 have:=key n 0 #[] (by omega)
 simpa [loadCells] using this
theorem z3s {P:Program}{w:World}{H:Heap}{b o n:Nat}{c:Array Value}{T:TypeId}{fr:Nat×Nat}{K:Array Value->Prop}(hw:w.heap=H) (hb:H[b]?=some (.cells c T fr)) (hn:o+n<=c.size)
  (hK:K (c.extract o (o+n))):ldA P n ⟨b,o,none⟩ w K:=⟨_,zqj hw hb hn,hK⟩
theorem xw {P:Program}{w:World}{H:Heap}{b n:Nat}{c:Array Value}{T:TypeId}{fr:Nat×Nat}{K:Array Value->Prop}(hw:w.heap=H) (hb:H[b]?=some (.cells c T fr)) (hn:c.size=n)
  (hK:K c):ldA P n ⟨b,0,none⟩ w K:=z3s hw hb (by omega) (by subst hn;simpa using hK)
def zbo (vs:List Value):Prop:=∀ v∈vs,v.oneCell'=true
def setCells (c:Array Value) (o:Nat):List Value->Array Value
 | []=>c
 | v :: r=>setCells (c.setIfInBounds o v) (o+1) r
@[simp] theorem size_setCells {vs:List Value}:∀ {c:Array Value}{o:Nat},(setCells c o vs).size=c.size:=by
 induction vs with
 | nil=>intro c o;rfl
 | cons v r ih=>intro c o;simp [setCells,ih]
theorem zk0 {vs:List Value}:∀ {c:Array Value}{o i:Nat},o+vs.length<=c.size->(setCells c o vs)[i]?=if o<=i/\i < o+vs.length then vs[i-o]? else c[i]?:=by
 induction vs with
 | nil=>
  intro c o i h
  simp only [setCells,List.length_nil,Nat.add_zero]
  rw [if_neg (by omega)]
 | cons v r ih=>
  intro c o i h
  simp only [List.length_cons] at h
  simp only [setCells,List.length_cons]
  rw [ih (by simp;omega)]
  by_cases h1:i=o
  ·subst h1
   rw [if_neg (by omega),if_pos (by omega)]
   have:i < c.size:=by omega
   simp [this]
  ·by_cases h2:o+1<=i/\i < o+1+r.length
   ·rw [if_pos h2,if_pos (by omega)]
    have:i-o=(i-(o+1))+1:=by omega
    rw [this]
    simp
   ·rw [if_neg h2,if_neg (by omega),Array.getElem?_setIfInBounds_ne (by omega)]
theorem zau {vs:List Value}{c:Array Value}(h:vs.length=c.size):setCells c 0 vs=vs.toArray:=by
 apply Array.ext_getElem?
 intro i
 rw [zk0 (by omega)]
 by_cases hi:i < vs.length
 ·rw [if_pos (by omega)];simp
 ·rw [if_neg (by omega)]
  rw [Array.getElem?_eq_none (by omega),Array.getElem?_eq_none (by simp;omega)]
theorem set_set {H:Heap}{b:Nat}{x y:Obj}:(H.setIfInBounds b x).setIfInBounds b y=H.setIfInBounds b y:=by
 apply Array.ext_getElem?
 intro i
 by_cases h:b=i
 ·subst h
  by_cases hb:b < H.size
  ·simp [hb]
  ·rw [Array.getElem?_eq_none (by simp;omega),Array.getElem?_eq_none (by simp;omega)]
 ·rw [Array.getElem?_setIfInBounds_ne h,Array.getElem?_setIfInBounds_ne h,Array.getElem?_setIfInBounds_ne h]
theorem zn6 {P:Program}{b:Nat}{T:TypeId}:∀ (vs:List Value) (w:World) (H:Heap) (c:Array Value) (o i:Nat),zbo vs->w.heap=H->H[b]?=some (.cells c T (0,0))->o+i+vs.length<=c.size ->
  ∃ w',(storeCells ⟨b,o,none⟩ vs i).run P w=.ok () w'/\Calm w w'/\w'.heap=H.setIfInBounds b (.cells (setCells c (o+i) vs) T (0,0)):=by
 intro vs
 induction vs with
 | nil=>
  intro w H c o i _ hw hb _
  refine⟨w,by simp [storeCells],.refl w,?_⟩
  simp only [setCells]
  rw [hw]
  apply Array.ext_getElem?
  intro j
  by_cases hj:b=j
  ·subst hj;rw [qy hb,hb]
  ·rw [Array.getElem?_setIfInBounds_ne hj]
 | cons v r ih=>
  intro w H c o i h1 hw hb hn
  simp only [List.length_cons] at hn
  have hv:=h1 v (by simp)
  have hc:w.cell? (Addr.add ⟨b,o,none⟩ i)=some c[o+i]:=by
   rw [zan,zrf hw hb,Array.getElem?_eq_getElem (by omega)]
  have hf:w.frozen? (Addr.add ⟨b,o,none⟩ i)=false:=by rw [zan];exact zq6 hw hb
  obtain⟨w',h2,h4,h3⟩:=ih (w.setCell (Addr.add ⟨b,o,none⟩ i) v) _ (c.setIfInBounds (o+i) v) o (i+1) (fun x hx=>h1 x (by simp [hx])) (by rw [zan];exact z2k hw hb) (qy hb) (by simp;omega)
  refine⟨w',?_,h4,?_⟩
  ·simp only [storeCells,Sem.run_bind,run_store P w _ v .plain hv,hc,hf,Bool.false_eq_true,if_false,Result.andThen_ok,h2]
  ·rw [h3,set_set]
   simp [setCells,Nat.add_assoc]
theorem zbe {P:Program}{w:World}{H:Heap}{b o:Nat}{T t:TypeId}{c:Array Value}{v:Value}{K:World->Prop}(hs:P.cellsOf t=v.cells.size) (hs0:v.cells.size≠0) (h1:zbo v.cells.toList) (hw:w.heap=H)
  (hb:H[b]?=some (.cells c T (0,0))) (hn:o+v.cells.size<=c.size) (hK:∀ w',w'.heap=H.setIfInBounds b (.cells (setCells c o v.cells.toList) T (0,0))->K w'):zah P (storeVar t ⟨b,o,none⟩ v) w K:=by
 obtain⟨w',h2,h4,h3⟩:=zn6 (P:=P) v.cells.toList w H c o 0 h1 hw hb (by simpa using hn)
 refine⟨w',?_,h4,hK w' (by simpa using h3)⟩
 have h0:(sizeOf t).run P w=.ok v.cells.size w:=by rw [zi9 (by omega),hs]
 simp only [storeVar,Sem.run_bind,h0,Result.andThen_ok,ne_eq,not_true_eq_false,if_false,h2]
def W32 (s:Nat->BitVec 32) (n:Nat):Array Value:=((List.range n).map fun i=>Value.int .u32 ((s i).toNat:Int)).toArray
def B8 (f:Nat->UInt8) (n:Nat):Array Value:=((List.range n).map fun i=>Value.int .u8 ((f i).toNat:Int)).toArray
@[simp] theorem qke {s:Nat->BitVec 32}{n:Nat}:(W32 s n).size=n:=by simp [W32]
@[simp] theorem qku {f:Nat->UInt8}{n:Nat}:(B8 f n).size=n:=by simp [B8]
theorem zvo {s:Nat->BitVec 32}{n:Nat}:Words (W32 s n) 0 s n:=by
 intro i hi
 simp [W32,hi]
theorem qdj {f:Nat->UInt8}{n:Nat}:Bytes (B8 f n) 0 f n:=by
 intro i hi
 simp [B8,hi]
theorem qbp {s:Nat->BitVec 32}{n:Nat}:zbo (W32 s n).toList:=by
 intro v hv
 simp only [W32,List.mem_map] at hv
 obtain⟨i,_,rfl⟩:=hv
 rfl
theorem qhq {f:Nat->UInt8}{n:Nat}:zbo (B8 f n).toList:=by
 intro v hv
 simp only [B8,List.mem_map] at hv
 obtain⟨i,_,rfl⟩:=hv
 rfl
theorem Words.extract {c:Array Value}{s:Nat->BitVec 32}{o n:Nat}(h:Words c o s n) (hn:o+n<=c.size):c.extract o (o+n)=W32 s n:=by
 apply Array.ext_getElem?
 intro i
 by_cases hi:i < n
 ·rw [Array.getElem?_extract,if_pos (by omega),h i hi,zvo.at i hi]
 ·rw [Array.getElem?_eq_none (by simp;omega),Array.getElem?_eq_none (by simp;omega)]
theorem Bytes.extract {c:Array Value}{f:Nat->UInt8}{o n:Nat}(h:Bytes c o f n) (hn:o+n<=c.size):c.extract o (o+n)=B8 f n:=by
 apply Array.ext_getElem?
 intro i
 by_cases hi:i < n
 ·rw [Array.getElem?_extract,if_pos (by omega),h i hi,qdj.at i hi]
 ·rw [Array.getElem?_eq_none (by simp;omega),Array.getElem?_eq_none (by simp;omega)]
theorem joinP_of {σ:Type}{m:(σ->World->Prop)->Prop}{k:σ->World->Prop}(J:σ->World->Prop) (h:m J) (hk:∀ s w,J s w->k s w):joinP σ m k:=⟨J,h,hk⟩
theorem jf {σ:Type}{m:(σ->World->Prop)->Prop}{k:σ->World->Prop}(h:m k):joinP σ m k:=⟨k,h,fun _ _ h=>h⟩
theorem zae {σ:Type}{m:σ->World->(σ->World->Prop)->Prop}{s:σ}{w:World}(I:σ->World->Prop) (μ:σ->World->Nat) (h0:I s w) (hr:∀ s w,I s w->m s w fun s' w'=>I s' w'/\μ s' w' < μ s w) :
  za4 σ m s w:=⟨I,μ,h0,hr⟩
theorem least {p:Nat->Prop}(h:∃ n,p n):∃ n,p n/\∀ m,p m->n<=m:=by
 obtain⟨n,hn⟩:=h
 induction n using Nat.strongRecOn with
 | _ n ih=>
  by_cases hm:∃ m,m < n/\p m
  ·obtain⟨m,h1,h2⟩:=hm;exact ih m h1 h2
  ·exact⟨n,hn,fun m h=>Nat.le_of_not_lt fun h'=>hm ⟨m,h',h⟩⟩
theorem zb3 {σ:Type}{m:σ->World->(σ->World->Prop)->Prop}{s:σ}{w:World}(I:Nat->σ->World->Prop) (n:Nat) (h0:I n s w)
  (hr:∀ n s w,I n s w->∀ K:σ->World->Prop,(∀ n' s' w',n' < n->I n' s' w'->K s' w')->m s w K):za4 σ m s w:=by
 classical
 refine⟨fun s w=>∃ n,I n s w,fun s w=>if h:∃ n,I n s w then Classical.choose (least h) else 0,⟨n,h0⟩,fun s w h=>?_⟩
 refine hr _ s w (Classical.choose_spec (least h)).1 _ fun n' s' w' hn' hI=>⟨⟨n',hI⟩,?_⟩
 have h':∃ n,I n s' w':=⟨n',hI⟩
 have h:∃ n,I n s w:=h
 simp only [dif_pos h,dif_pos h']
 exact Nat.lt_of_le_of_lt ((Classical.choose_spec (least h')).2 n' hI) hn'
theorem qj.mono {P:Program}{f:FuncId}{args:Array Value}{w:World}{R R':Ending->World->Prop}(h:qj P f args w R) (hr:∀ e w',R e w'->R' e w'):qj P f args w R':=⟨h.1,h.2.mono fun e w' h=>⟨hr e w' h.1,h.2⟩⟩
theorem zdf {P:Program}{f:FuncId}{args:Array Value}{l:List Sh}{tup:Bool}{w:World}{K:Tup l->Prop}(t:Tup l) (h:qj P f args w (fun e w'=>e=.returned (zof l tup t).2/\w'=w)) (hK:K t) :
  zlp P f args l tup w K:=⟨t,h,hK⟩
theorem zh {P:Program}{f:FuncId}{args:Array Value}{l:List Sh}{tup:Bool}{w:World}{K:Tup l->World->Prop}{R:Ending->World->Prop}(h:qj P f args w R)
  (hK:∀ e w',R e w'->∃ t,e=.returned (zof l tup t).2/\K t w'):ql P f args l tup w K:=.go (h.mono hK)
theorem zj9 {P:Program}{f:FuncId}{args:Array Value}{l:List Sh}{tup:Bool}{w:World}{K:Tup l->World->Prop}(t:Tup l) (h:(callFunc f args).run P w=.ok (.value (zof l tup t).2) w) (hK:K t w):ql P f args l tup w K:=.own _ _ h (.refl w) ⟨t,rfl,hK⟩
theorem zl1 {P:Program}{f:FuncId}{args:Array Value}{l:List Sh}{tup:Bool}{w:World}{K:Tup l->World->Prop}(t:Tup l) (w':World) (h:(callFunc f args).run P w=.ok (.value (zof l tup t).2) w') (hc:Calm w w') (hK:K t w'):ql P f args l tup w K:=.own _ _ h hc ⟨t,rfl,hK⟩
theorem qc {P:Program}{m:Sem Value}{s:Sh}{w:World}{K:s.T->Prop}(t:s.T) (h:m.run P w=.ok (s.val t) w) (hK:K t):zad P m s w K:=⟨t,h,hK⟩
theorem zaf {P:Program}{m:Sem Value}{s:Sh}{w:World}{K:s.T->World->Prop}(t:s.T) (w':World) (h:m.run P w=.ok (s.val t) w') (hK:K t w') (hc:Calm w w':=by first | exact⟨rfl,rfl,rfl,Nat.le_refl _⟩ | exact⟨rfl,rfl,rfl,Nat.le_succ _⟩):za2 P m s w K:=⟨t,w',h,hc,hK⟩
theorem qai {a b:Int}{K:Int->Prop}(m n:Nat) (ha:a=(m:Int)) (hb:b=(n:Int)) (hn:n≠0) (hK:K ((m % n:Nat):Int)):qhr a b K:=by
 subst ha hb
 exact⟨by omega,_,by rw [Int.tmod_eq_emod_of_nonneg (by omega)];rfl,hK⟩
theorem qb6 {a b:Int}{K:Int->Prop}(m n:Nat) (ha:a=(m:Int)) (hb:b=(n:Int)) (hn:n≠0) (hm:m < 9223372036854775808) (hK:K ((m / n:Nat):Int)):qj9 .i64 a b K:=by
 subst ha hb
 have hd:m / n<=m:=Nat.div_le_self _ _
 refine⟨by omega,_,?_,hK⟩
 have he:Int.tdiv (m:Int) (n:Int)=((m / n:Nat):Int):=by rw [Int.tdiv_eq_ediv_of_nonneg (by omega)];rfl
 rw [he]
 generalize m / n=d at *
 rw [wrap_i64 (by omega) (by omega)]
def IxO (v:Option Value) (d n:Nat):Prop:=(v=none/\n=d)\/∃ k,v=some (.int k (n:Int))
theorem IxO.no {d:Nat}:IxO none d d:=.inl ⟨rfl,rfl⟩
theorem IxO.yes {d n:Nat}{k:IntKind}{i:Int}(h:i=(n:Int)):IxO (some (.int k i)) d n:=.inr ⟨k,by rw [h]⟩
section
variable {P:Program}{w:World}
theorem zte {isS:Bool}{len cap l h:Nat}{lo hi:Option Value}(hlo:IxO lo 0 l) (hhi:IxO hi len h) (h1:l<=h) (h2:h<=cap) :
  (Instr.sliceBounds isS len cap lo hi none).run P w=.ok (l,h,cap) w:=by
 have eh:∀ k code,(Instr.sliceBound (.int k (h:Int)) cap code).run P w=.ok h w:=by
  intro k code
  simp [Instr.sliceBound,asIntOf,h2]
 have el:∀ k code,(Instr.sliceBound (.int k (l:Int)) h code).run P w=.ok l w:=by
  intro k code
  simp [Instr.sliceBound,asIntOf,h1]
 rcases hlo with⟨rfl,rfl⟩ | ⟨k,rfl⟩ <;> rcases hhi with⟨rfl,rfl⟩ | ⟨k',rfl⟩ <;> simp [Instr.sliceBounds,eh,el]
theorem zbd {t e:TypeId}{sz:Nat}{a:Option Addr}{len cap l h:Nat}{lo hi:Option Value}(hu:P.underlying t=some (.slice e)) (hs:(P.info? e).map (·.size)=some sz) (hlo:IxO lo 0 l) (hhi:IxO hi len h) (h1:l<=h) (h2:h<=cap) :
  (Instr.sliceAt t (.slice a len cap) lo hi none).run P w=.ok (.slice (if cap=l then a else a.map (·.add (l * sz))) (h-l) (cap-l)) w:=by
 simp [Instr.sliceAt,Instr.slice,xu hu,zte hlo hhi h1 h2,zbt hs]
theorem zhj {t e:TypeId}{sz n:Nat}{a:Addr}{l h:Nat}{lo hi:Option Value}(hu:P.underlying t=some (.array n e)) (hs:(P.info? e).map (·.size)=some sz) (hlo:IxO lo 0 l) (hhi:IxO hi n h) (h1:l<=h) (h2:h<=n) :
  (Instr.sliceAt t (.pointer (some a)) lo hi none).run P w=.ok (.slice (some (if n=l then a else a.add (l * sz))) (h-l) (n-l)) w:=by
 simp [Instr.sliceAt,xu hu,Instr.sureAddr,zte hlo hhi h1 h2,zbt hs]
theorem zzx {t:TypeId}{s:ByteArray}{l h:Nat}{lo hi:Option Value}(hu:P.underlying t=some .string) (hlo:IxO lo 0 l) (hhi:IxO hi s.size h) (h1:l<=h) (h2:h<=s.size) :
  (Instr.sliceAt t (.string s) lo hi none).run P w=.ok (.string (s.extract l h)) w:=by
 simp [Instr.sliceAt,Instr.slice,xu hu,zte hlo hhi h1 h2]
def Cells (H:Heap) (a:Option Addr) (vs:List Value):Prop:=
 vs=[]\/∃ b o c T fr,a=some ⟨b,o,none⟩/\H[b]?=some (.cells c T fr)/\o+vs.length<=c.size/\(c.extract o (o+vs.length)).toList=vs
theorem Cells.ext {M:List Nat}{H H':Heap}{a:Option Addr}{vs:List Value}(h:Cells H a vs) (hx:Ext M H H') (hM:∀ x,a=some x->vs≠[]->x.block∉M):Cells H' a vs:=by
 by_cases hv:vs=[]
 ·exact .inl hv
 rcases h with h | ⟨b,o,c,T,fr,rfl,hb,hn,he⟩
 ·exact .inl h
 ·exact .inr ⟨b,o,c,T,fr,rfl,hx.get hb (hM _ rfl hv),hn,he⟩
theorem Cells.lt {H:Heap}{a:Option Addr}{vs:List Value}(h:Cells H a vs) (hne:vs≠[]):∃ x,a=some x/\x.block < H.size:=by
 rcases h with h | ⟨b,o,c,T,fr,rfl,hb,hn,he⟩
 ·exact absurd h hne
 ·exact⟨_,rfl,lt_of_get hb⟩
theorem zxe {a:Addr}:(loadCells a 0).run P w=.ok #[] w:=rfl
theorem zve {H:Heap}{a:Option Addr}{l c sz n:Nat}{vs:List Value}(hw:w.heap=H) (h:Cells H a vs) (hn:n * sz=vs.length):(Builtin.firstCells sz n (.slice a l c)).run P w=.ok vs.toArray w:=by
 rcases h with rfl | ⟨b,o,c',T,fr,rfl,hb,hle,he⟩
 ·simp only [List.length_nil] at hn
  cases a with
  | none=>rfl
  | some a=>simp only [Builtin.firstCells,hn,zxe]
 ·simp only [Builtin.firstCells,hn]
  rw [zqj hw hb hle]
  congr 1
  apply Array.ext'
  simpa using he
theorem Cells.part {H:Heap}{a:Option Addr}{vs:List Value}(h:Cells H a vs) (k m:Nat) (hk:k+m<=vs.length):Cells H (a.map (·.add k)) ((vs.drop k).take m):=by
 rcases h with rfl | ⟨b,o,c,T,fr,rfl,hb,hle,he⟩
 ·left;simp
 ·right
  refine⟨b,o+k,c,T,fr,by simp [zan],hb,by simp;omega,?_⟩
  have hl:((vs.drop k).take m).length=m:=by simp;omega
  rw [hl]
  conv=>rhs;rw [<-he]
  simp only [Array.toList_extract,List.extract_eq_take_drop,List.drop_take,List.take_take,List.drop_drop]
  congr 1
  omega
theorem Cells.take {H:Heap}{a:Option Addr}{vs:List Value}(h:Cells H a vs) (m:Nat):Cells H a (vs.take m):=by
 by_cases hm:m<=vs.length
 ·have:=h.part 0 m (by omega)
  cases a with
  | none=>
   rcases h with rfl | ⟨b,o,c,T,fr,h,_⟩
   ·left;simp
   ·cases h
  | some a=>simpa [Addr.add] using this
 ·rw [List.take_of_length_le (by omega)];exact h
theorem Cells.drop {H:Heap}{a:Option Addr}{vs:List Value}(h:Cells H a vs) (k cap:Nat) (hcap:vs.length<=cap):Cells H (if cap=k then a else a.map (·.add k)) (vs.drop k):=by
 by_cases hk:k < vs.length
 ·rw [if_neg (by omega)]
  have:=h.part k (vs.length-k) (by omega)
  rwa [List.take_of_length_le (by simp)] at this
 ·left;exact List.drop_eq_nil_of_le (by omega)
def byteCells (L:List UInt8):List Value:=L.map fun b=>.int .u8 (b.toNat:Int)
@[simp] theorem zam {L:List UInt8}:(byteCells L).length=L.length:=by simp [byteCells]
theorem zay {L:List UInt8}:zbo (byteCells L):=by
 intro v hv
 simp only [byteCells,List.mem_map] at hv
 obtain⟨b,_,rfl⟩:=hv
 rfl
theorem zlb {L:List UInt8}{n:Nat}:(byteCells L).take n=byteCells (L.take n):=by simp [byteCells]
theorem zk7 {L:List UInt8}{n:Nat}:(byteCells L).drop n=byteCells (L.drop n):=by simp [byteCells]
theorem byteCells_append {L M:List UInt8}:byteCells L++byteCells M=byteCells (L++M):=by simp [byteCells]
theorem zmb {L:List UInt8}{i:Nat}(h:i < L.length):(byteCells L)[i]?=some (.int .u8 ((L.getD i 0).toNat:Int)):=by
 simp [byteCells,List.getD_eq_getElem?_getD,List.getElem?_eq_getElem h]
theorem Cells.bytes {H:Heap}{a:Option Addr}{L:List UInt8}(h:Cells H a (byteCells L)) (hne:L≠[]):∃ b o c T fr,a=some ⟨b,o,none⟩/\H[b]?=some (.cells c T fr)/\o+L.length<=c.size/\Bytes c o (fun i=>L.getD i 0) L.length:=by
 rcases h with h | ⟨b,o,c,T,fr,rfl,hb,hn,he⟩
 ·exact absurd (by simpa [byteCells] using h) hne
 ·refine⟨b,o,c,T,fr,rfl,hb,by simpa using hn,fun i hi=>?_⟩
  have h1:=zmb hi
  rw [<-he,Array.getElem?_toList,Array.getElem?_extract] at h1
  simp only [zam] at h1 hn
  rw [if_pos (by omega)] at h1
  exact h1
theorem zpz {H:Heap}{b o:Nat}{c:Array Value}{T:TypeId}{fr:Nat×Nat}{L:List UInt8}(hb:H[b]?=some (.cells c T fr)) (hn:o+L.length<=c.size) (h:Bytes c o (fun i=>L.getD i 0) L.length):Cells H (some ⟨b,o,none⟩) (byteCells L):=by
 refine .inr ⟨b,o,c,T,fr,rfl,hb,by simpa using hn,?_⟩
 apply List.ext_getElem?
 intro i
 simp only [zam]
 by_cases hi:i < L.length
 ·rw [zmb hi,Array.getElem?_toList,Array.getElem?_extract,if_pos (by omega),h i hi]
 ·rw [List.getElem?_eq_none (by simp;omega),List.getElem?_eq_none (by simp;omega)]
def zn8 (c:Array Value):Prop:=∀ (i:Nat) (v:Value),c[i]?=some v->v.oneCell'=true
theorem zn8.set {c:Array Value}(h:zn8 c){k:Nat}{x:Value}(hx:x.oneCell'=true):zn8 (c.setIfInBounds k x):=by
 intro i v hv
 by_cases e:k=i
 ·subst e
  by_cases hk:k < c.size
  ·simp [hk] at hv;subst hv;exact hx
  ·rw [Array.getElem?_eq_none (by simp;omega)] at hv;cases hv
 ·rw [Array.getElem?_setIfInBounds_ne e] at hv
  exact h i v hv
theorem zn8.setCells {vs:List Value}:∀ {c:Array Value}{o:Nat},zn8 c->zbo vs->zn8 (setCells c o vs):=by
 induction vs with
 | nil=>intro c o h _;exact h
 | cons v r ih=>intro c o h h1;exact ih (h.set (h1 v (by simp))) fun x hx=>h1 x (by simp [hx])
theorem zn8.one {c:Array Value}(h:zn8 c):zbo c.toList:=by
 intro v hv
 obtain⟨i,hi⟩:=List.getElem?_of_mem hv
 exact h i v (by simpa using hi)
theorem qcd {H:Heap}{st xt e ty:TypeId}{sz bd od dl dc sl sc:Nat}{sa:Option Addr}{cd:Array Value}{Td:TypeId}{vs:List Value}(hu:P.underlying st=some (.slice e)) (hs:(P.info? e).map (·.size)=some sz)
  (hw:w.heap=H) (hsrc:Cells H sa vs) (hn:min sl dl * sz=vs.length) (h1:zbo vs) (hd:H[bd]?=some (.cells cd Td (0,0))) (hdn:od+vs.length<=cd.size) :
  ∃ w',(Builtin.copy_ #[st,xt] ty #[.slice (some ⟨bd,od,none⟩) dl dc,.slice sa sl sc]).run P w=.ok (.int .i64 ((min sl dl:Nat):Int)) w'/\Calm w w'/\w'.heap=H.setIfInBounds bd (.cells (setCells cd od vs) Td (0,0)):=by
 obtain⟨w',h2,h4,h3⟩:=zn6 (P:=P) vs w H cd od 0 h1 hw hd (by simpa using hdn)
 refine⟨w',?_,h4,by simpa using h3⟩
 have hf:=zve (P:=P) (l:=sl) (c:=sc) (sz:=sz) (n:=min sl dl) hw hsrc hn
 have hmin:Nat.min sl dl=min sl dl:=rfl
 simp only [Builtin.copy_,List.getElem?_toArray,List.getElem?_cons_zero,List.getElem?_cons_succ,Sem.run_bind,xu hu,Result.andThen_ok,Builtin.lenOf,Sem.run_pure,zbt hs,hmin,hf,h2,goInt]
def Mine (H:Heap) (B:Nat) (T:TypeId) (sz:Nat) (x:Option Addr×Nat×Nat) (vs:List Value):Prop:=
 (x=(none,0,0)/\vs=[])\/∃ b c,x.1=some ⟨b,0,none⟩/\B<=b/\H[b]?=some (.cells c T (0,0))/\c.size=x.2.2 * sz/\vs.length=x.2.1 * sz/\x.2.1<=x.2.2/\(c.extract 0 vs.length).toList=vs
theorem Mine.cells {H:Heap}{B:Nat}{T:TypeId}{sz:Nat}{x:Option Addr×Nat×Nat}{vs:List Value}(h:Mine H B T sz x vs):Cells H x.1 vs:=by
 rcases h with⟨_,rfl⟩ | ⟨b,c,hx,_,hb,hc,hl,hle,he⟩
 ·exact .inl rfl
 ·refine .inr ⟨b,0,c,T,(0,0),hx,hb,?_,by simpa using he⟩
  rw [hl,hc];simpa using Nat.mul_le_mul_right sz hle
theorem Mine.len {H:Heap}{B:Nat}{T:TypeId}{sz:Nat}{x:Option Addr×Nat×Nat}{vs:List Value}(h:Mine H B T sz x vs):vs.length=x.2.1 * sz:=by
 rcases h with⟨rfl,rfl⟩ | ⟨b,c,hx,_,hb,hc,hl,hle,he⟩
 ·simp
 ·exact hl
def jw (x:Option Addr×Nat×Nat):List Nat:=match x.1 with | some a=>[a.block] | none=>[]
theorem Mine.ext {M:List Nat}{H H':Heap}{B:Nat}{T:TypeId}{sz:Nat}{x:Option Addr×Nat×Nat}{vs:List Value}(h:Mine H B T sz x vs) (hx:Ext M H H') (hM:∀ b,b∈jw x->b∉M):Mine H' B T sz x vs:=by
 rcases h with h | ⟨b,c,hx1,hB,hb,hc,hl,hle,he⟩
 ·exact .inl h
 ·exact .inr ⟨b,c,hx1,hB,hx.get hb (hM b (by simp [jw,hx1])),hc,hl,hle,he⟩
theorem Mine.mono {H:Heap}{B B':Nat}{T:TypeId}{sz:Nat}{x:Option Addr×Nat×Nat}{vs:List Value}(h:Mine H B T sz x vs) (hB:B'<=B):Mine H B' T sz x vs:=by
 rcases h with h | ⟨b,c,hx1,hB1,hb⟩
 ·exact .inl h
 ·exact .inr ⟨b,c,hx1,Nat.le_trans hB hB1,hb⟩
theorem jo {H:Heap}{B:Nat}{T:TypeId}{sz:Nat}{x:Option Addr×Nat×Nat}{vs:List Value}(h:Mine H B T sz x vs):∀ b,b∈jw x->B<=b:=by
 rcases h with⟨rfl,_⟩ | ⟨b,c,hx1,hB,_⟩
 ·simp [jw]
 ·simp [jw,hx1,hB]
theorem z9w (newLen:Nat):∀ (r c:Nat),c<=2 * newLen->Builtin.growBy newLen r c<=2 * newLen+192:=by
 intro r
 induction r with
 | zero=>intro c h;simp only [Builtin.growBy];omega
 | succ r ih=>
  intro c h
  simp only [Builtin.growBy]
  split
  ·omega
  ·rename_i hlt
   by_cases hb:c+(c+768) / 4<=2 * newLen
   ·exact ih _ hb
   ·cases r with
    | zero=>simp only [Builtin.growBy];omega
    | succ r=>
     simp only [Builtin.growBy]
     rw [if_pos (by omega)]
     omega
theorem z8z {newLen oldCap:Nat}(h:oldCap < newLen):Builtin.nextslicecap newLen oldCap<=2 * newLen+192:=by
 unfold Builtin.nextslicecap
 split
 ·omega
 ·split
  ·omega
  ·exact z9w _ _ _ (by omega)
def Src (P:Program) (w:World) (v:Value) (sz n:Nat) (vs:List Value):Prop:=(Builtin.lenOf v).run P w=.ok n w/\vs.length=n * sz/\∀ w',w'.heap=w.heap->(Builtin.firstCells sz n v).run P w'=.ok vs.toArray w'
theorem Src.slc {H:Heap}{a:Option Addr}{l c sz:Nat}{vs:List Value}(hw:w.heap=H) (h:Cells H a vs) (hl:vs.length=l * sz):Src P w (.slice a l c) sz l vs:=
 ⟨rfl,hl,fun w' hw'=>zve (hw'.trans hw) h hl.symm⟩
def strCells (s:ByteArray):List Value:=s.data.toList.map fun b=>.int .u8 b.toNat
theorem Src.str {s:ByteArray}:Src P w (.string s) 1 s.size (strCells s):=by
 refine⟨rfl,by simp [strCells],fun _ _=>?_⟩
 have:s.extract 0 s.size=s:=by
  ext1
  simp
 simp only [Builtin.firstCells,this,strCells,Sem.run_pure]
 congr 1
 apply Array.ext'
 simp
theorem z5n {H:Heap}{st xt e ty:TypeId}{info:TypeInfo}{z:Value}{sz B:Nat}{x:Option Addr×Nat×Nat}{y:Value}{n:Nat}{vs us:List Value}(hu:P.underlying st=some (.slice e)) (hx:∃ d,P.underlying xt=some d/\∀ k,d≠.int k)
  (hi:P.info? e=some info) (hsz:info.size=sz) (hz:info.zero=some z) (hzs:z.cells.size=sz) (hb0:info.bytes≠0) (hw:w.heap=H) (hown:Mine H B e sz x vs) (hB:B<=H.size) (hsrc:Src P w y sz n us) (h1:zbo us)
  (hroom:(2 * (x.2.1+n)+192) * info.bytes<=281474976710656) :
  ∃ x' w',(Builtin.append_ #[st,xt] ty #[.slice x.1 x.2.1 x.2.2,y]).run P w=.ok (.slice x'.1 x'.2.1 x'.2.2) w'/\Calm w w'/\Mine w'.heap B e sz x' (vs++us)/\x'.2.1=x.2.1+n/\Ext (jw x) H w'.heap/\(∀ b,b∈jw x'->b∈jw x\/H.size<=b):=by
 obtain⟨hlen,hul,hfirst⟩:=hsrc
 obtain⟨d,hxd,hxk⟩:=hx
 have hnoint:(d matches .int _)=false:=by
  cases d <;> first | rfl | (exact absurd rfl (hxk _))
 have hse:(P.info? e).map (·.size)=some sz:=by rw [hi];simp [hsz]
 have hti:(typeInfo e).run P w=.ok info w:=by simp [typeInfo,hi]
 by_cases hfit:x.2.1+n<=x.2.2
 ·-- there is room
  rcases hown with⟨rfl,rfl⟩ | ⟨b,c,hx1,hBb,hb,hc,hl,hle,he⟩
  ·simp only [Nat.zero_add,Nat.le_zero] at hfit
   subst hfit
   simp only [Nat.zero_mul] at hul
   obtain rfl:us=[]:=List.length_eq_zero_iff.1 hul
   refine⟨(none,0,0),w,?_,.refl w,.inl ⟨rfl,rfl⟩,rfl,by rw [hw];exact .refl _ _,fun b hb=>.inl hb⟩
   simp only [Builtin.append_,List.getElem?_toArray,List.getElem?_cons_zero,List.getElem?_cons_succ,Sem.run_bind,xu hu,xu hxd,Result.andThen_ok,Sem.run_pure,hnoint,Bool.false_eq_true,if_false,zbt hse,hlen,
    Nat.add_zero,Nat.le_refl,if_true,Bool.not_false,hfirst w rfl]
  ·have hcs:vs.length+us.length<=c.size:=by
    rw [hl,hul,hc,<-Nat.add_mul]
    exact Nat.mul_le_mul_right sz hfit
   obtain⟨w',h2,h4,h3⟩:=zn6 (P:=P) us w H c (x.2.1 * sz) 0 h1 hw hb (by rw [<-hl];simpa using hcs)
   refine⟨(x.1,x.2.1+n,x.2.2),w',?_,h4,?_,rfl,?_,fun b hb=>.inl hb⟩
   ·rw [hx1]
    simp only [Builtin.append_,List.getElem?_toArray,List.getElem?_cons_zero,List.getElem?_cons_succ,Sem.run_bind,xu hu,xu hxd,Result.andThen_ok,Sem.run_pure,hnoint,Bool.false_eq_true,if_false,zbt hse,hlen,
     if_pos hfit,Bool.not_false,if_true,hfirst w rfl,zan,Nat.zero_add,h2]
   ·rw [h3]
    refine .inr ⟨b,_,hx1,hBb,qy hb,by simp [hc],?_,hfit,?_⟩
    ·rw [List.length_append,hl,hul,<-Nat.add_mul]
    ·apply List.ext_getElem?
     intro i
     rw [Array.toList_extract,List.extract_eq_take_drop]
     simp only [List.drop_zero,Nat.sub_zero]
     rw [List.getElem?_take]
     by_cases hilt:i < (vs++us).length
     ·rw [if_pos hilt]
      rw [Array.getElem?_toList,zk0 (by rw [Nat.add_zero,<-hl];exact hcs)]
      simp only [Nat.add_zero]
      by_cases hiv:i < vs.length
      ·rw [if_neg (by omega),List.getElem?_append_left hiv]
       have:((c.extract 0 vs.length).toList)[i]?=vs[i]?:=by rw [he]
       rw [Array.getElem?_toList,Array.getElem?_extract,if_pos (by omega)] at this
       simpa using this
      ·rw [List.length_append] at hilt
       rw [if_pos (by omega),List.getElem?_append_right (by omega),hl]
     ·rw [if_neg hilt,List.getElem?_eq_none (by omega)]
   ·rw [h3]
    exact Ext.set _ (by simp [jw,hx1])
 ·-- it grows
  subst hw
  have hcl:=hown.cells
  have hll:=hown.len
  have hgrow:Builtin.nextslicecap (x.2.1+n) x.2.2 * info.bytes<=281474976710656:=
   Nat.le_trans (Nat.mul_le_mul_right _ (z8z (by omega))) hroom
  have hcap:x.2.1+n<=281474976710656:=by
   have:(x.2.1+n) * 1<=(2 * (x.2.1+n)+192) * info.bytes:=Nat.mul_le_mul (by omega) (by omega)
   omega
  have hold:∀ w',w'.heap=w.heap->(Builtin.firstCells sz x.2.1 (.slice x.1 x.2.1 x.2.2)).run P w'=.ok vs.toArray w':=fun w' hw'=>zve hw' hcl hll.symm
  have hch:∀ w:World,(choose (.appendCap (x.2.1+n) x.2.2 e)).run P w=.ok (x.2.1+n+w.tape w.drawn (.appendCap (x.2.1+n) x.2.2 e) % (2 ^ 63-(x.2.1+n))) { w with drawn:=w.drawn+1 }:=
   fun w=>by simp [Question.forced,Question.cut]
  generalize hq:x.2.1+n+w.tape w.drawn (.appendCap (x.2.1+n) x.2.2 e) % (2 ^ 63-(x.2.1+n))=q at *
  have hqn:x.2.1+n<=q:=by omega
  have hzv:∀ w',(zeroValue e).run P w'=.ok z w':=fun w'=>by simp [zeroValue,typeInfo,hi,hz]
  refine⟨(some ⟨w.heap.size,0,none⟩,x.2.1+n,q),{ w with drawn:=w.drawn+1,heap:=w.heap.push (.cells (vs.toArray++us.toArray++Builtin.zeroCells z.cells (q-(x.2.1+n))) e) },?_,⟨rfl,rfl,rfl,Nat.le_succ _⟩,?_,rfl,?_,?_⟩
  ·have hn1:¬((x.2.1+n:Nat):Int) > IntKind.i64.max:=by
    have:IntKind.i64.max=9223372036854775807:=by decide
    rw [this];omega
   have hn2:¬Builtin.nextslicecap (x.2.1+n) x.2.2 * info.bytes > 2 ^ 48:=by
    have:(2:Nat) ^ 48=281474976710656:=by decide
    rw [this];omega
   have hti':∀ w',(typeInfo e).run P w'=.ok info w':=fun w'=>by simp [typeInfo,hi]
   simp only [Builtin.append_,List.getElem?_toArray,List.getElem?_cons_zero,List.getElem?_cons_succ,Sem.run_bind,xu hu,xu hxd,Result.andThen_ok,Sem.run_pure,hnoint,Bool.false_eq_true,if_false,zbt hse,hlen,
    if_neg hfit,Bool.not_false,if_true,hti',hn1,false_and,hn2,hch,hq,run_askRoom,hold { w with drawn:=w.drawn+1 } rfl,hfirst { w with drawn:=w.drawn+1 } rfl,hzv,newRow,run_newObj]
  ·refine .inr ⟨w.heap.size,vs.toArray++us.toArray++Builtin.zeroCells z.cells (q-(x.2.1+n)),rfl,hB,?_,?_,?_,hqn,?_⟩
   ·simp
   ·simp only [Array.size_append,List.size_toArray,Builtin.zeroCells,Array.size_map,Array.size_range,hll,hul,hzs]
    rw [<-Nat.add_mul,<-Nat.add_mul]
    congr 1
    omega
   ·rw [List.length_append,hll,hul,<-Nat.add_mul]
   ·rw [Array.toList_extract,List.extract_eq_take_drop]
    simp only [List.drop_zero,Nat.sub_zero,Array.toList_append,List.length_append]
    rw [<-List.length_append,List.take_left]
  ·exact .push _
  ·intro b hb
   simp only [jw,List.mem_singleton] at hb
   exact .inr (by omega)
end
def arr (L:List UInt8):Value:=.agg (byteCells L).toArray
section
variable {P:Program}
theorem byte_at (L:List UInt8) (i:Nat):(byteCells L).toArray[i]?=(L[i]?).map fun b=>Value.int .u8 (b.toNat:Int):=by
 simp [byteCells]
theorem zu3 {e:TypeId}{info:TypeInfo}{w:World}(he:P.underlying e=some (.int .u8)) (L:List UInt8){i:Nat}(hi:i < L.length):(part e (byteCells L).toArray i).run P w=.ok (.int .u8 ((L[i]).toNat:Int)) w:=
 run_part_plain w (by simp [Program.plainKey,he]) (by rw [byte_at];simp [hi])
theorem zrb {e:TypeId}{d:Nat}{w:World}(he:P.underlying e=some (.int .u8)) (hc:P.cellsOf e=1) (A B:List UInt8):∀ is:List Nat,(∀ i∈is,i < A.length/\i < B.length) ->
  (Op.eqItems (d+1) e (P.cellsOf e) (byteCells A).toArray (byteCells B).toArray is).run P w=.ok (decide (∀ i∈is,A[i]?=B[i]?)) w
 | [],_=>by simp [Op.eqItems]
 | i :: is,h=>by
  have h1:=h i (by simp)
  have ih:=zrb (d:=d) (w:=w) he hc A B is fun j hj=>h j (by simp [hj])
  simp only [Op.eqItems,Sem.run_bind,hc,Nat.mul_one]
  rw [zu3 (info:=default) he A h1.1]
  simp only [Result.andThen_ok]
  rw [zu3 (info:=default) he B h1.2]
  simp only [Result.andThen_ok]
  rw [run_equalIn_int w d e .u8 .u8 _ _ he]
  simp only [Result.andThen_ok]
  rw [hc] at ih
  by_cases hb:A[i]=B[i]
  ·have:(((A[i]).toNat:Int)==((B[i]).toNat:Int))=true:=by rw [hb];simp
   simp only [this,Bool.not_true,Bool.false_eq_true,if_false,ih]
   congr 1
   simp [List.getElem?_eq_getElem h1.1,List.getElem?_eq_getElem h1.2,hb]
  ·have:(((A[i]).toNat:Int)==((B[i]).toNat:Int))=false:=by
    simp only [beq_eq_false_iff_ne,ne_eq]
    intro hh
    apply hb
    apply UInt8.toNat_inj.1
    omega
   simp only [this,Bool.not_false,if_true,Sem.run_pure]
   congr 1
   simp [List.getElem?_eq_getElem h1.1,List.getElem?_eq_getElem h1.2,hb]
theorem zw4 {t e:TypeId}{n:Nat}{w:World}(hu:P.underlying t=some (.array n e)) (he:P.underlying e=some (.int .u8)) (hc:P.cellsOf e=1){A B:List UInt8}(hA:A.length=n) (hB:B.length=n) :
  (Op.equal t (arr A) (arr B)).run P w=.ok (decide (A=B)) w:=by
 have hi:∃ i,P.info? e=some i:=info_of_underlying he
 obtain⟨i,hi⟩:=hi
 unfold Op.equal Op.maxDepth arr
 rw [run_equalIn_array w 9999 _ _ hu hi,zrb (d:=9998) he hc A B (List.range n) (by intro j hj;simp at hj;omega)]
 congr 1
 simp only [List.mem_range,decide_eq_decide]
 constructor
 ·intro h
  apply List.ext_getElem?
  intro j
  by_cases hj:j < n
  ·exact h j hj
  ·rw [List.getElem?_eq_none (by omega),List.getElem?_eq_none (by omega)]
 ·rintro rfl _ _;rfl
theorem qa9 {t e:TypeId}{n:Nat}{w:World}(hu:P.underlying t=some (.array n e)) (he:P.underlying e=some (.int .u8)) (hc:P.cellsOf e=1){A:List UInt8}(hA:A.length=n) (em:Bool) :
  (Instr.checkKey em 10000 t (arr A)).run P w=.ok () w:=by
 have hi:∃ i,P.info? e=some i:=info_of_underlying he
 obtain⟨i,hi⟩:=hi
 unfold arr
 rw [show (10000:Nat)=9998+1+1 from rfl,Instr.checkKey]
 simp only [Sem.run_bind,xu hu,Result.andThen_ok]
 simp only [Std.Legacy.Range.forIn_eq_forIn_range',Std.Legacy.Range.size,Nat.sub_zero,Nat.add_one_sub_one,Nat.div_one]
 have each:∀ j∈List.range' 0 n,j < A.length:=by intro j hj;simp [List.mem_range'] at hj;omega
 generalize List.range' 0 n=is at each
 induction is with
 | nil=>simp
 | cons j is ih=>
  have p1:(part e (byteCells A).toArray j).run P w=_:=zu3 (info:=default) he A (each j (by simp))
  have p2:(Instr.checkKey em (9998+1) e (.int .u8 ((A[j]'(each j (by simp))).toNat:Int))).run P w=.ok () w:=by
   rw [Instr.checkKey]
   simp only [Sem.run_bind,xu he,Result.andThen_ok,Sem.run_pure]
  simp only [List.forIn_cons,Sem.run_bind,run_sizeOf w hi,Result.andThen_ok,hc,Nat.mul_one,p1,p2,Sem.run_pure]
  exact ih fun y hy=>each y (by simp [hy])
end
structure KeyOk (P:Program) (kt:TypeId) (κ:Type) [DecidableEq κ] (ok:κ->Prop) (enc:κ->Value):Prop where
 find:∀ (w:World) (k:κ) (es:List MapEntry) (l:List (κ×Value×Nat)),ok k->(∀ x∈l,ok x.1)->es=l.map (fun x=>⟨enc x.1,x.2.1,x.2.2⟩) ->
  (Instr.findKey kt (enc k) es).run P w=.ok ((l.findIdx? (fun x=>x.1==k)).bind fun i=>(l[i]?).map fun x=>(i,x.2.1)) w
 chk:∀ (w:World) (k:κ) (e:Bool),ok k->(Instr.checkKey e 10000 kt (enc k)).run P w=.ok () w
 same:∀ k:κ,ok k->Instr.sameBits 10000 (enc k) (enc k)=true
section
variable {P:Program}{κ:Type} [DecidableEq κ] {ok:κ->Prop}{enc:κ->Value}
theorem zpe {kt:TypeId}{w:World}(heq:∀ (w:World) (a b:κ),ok a->ok b->(Op.equal kt (enc a) (enc b)).run P w=.ok (decide (a=b)) w){k:κ}(hk:ok k):∀ (l:List (κ×Value×Nat)) (i:Nat),(∀ x∈l,ok x.1) ->
  (Instr.findAsking kt (enc k) (l.map fun x=>⟨enc x.1,x.2.1,x.2.2⟩) i).run P w=.ok ((l.findIdx? (fun x=>x.1==k)).bind fun j=>(l[j]?).map fun x=>(i+j,x.2.1)) w
 | [],i,_=>by simp [Instr.findAsking]
 | x :: l,i,h=>by
  have ih:=zpe (w:=w) heq hk l (i+1) fun y hy=>h y (by simp [hy])
  simp only [List.map_cons,Instr.findAsking,Sem.run_bind,heq w k x.1 hk (h x (by simp)),Result.andThen_ok]
  by_cases e:x.1=k
  ·subst e
   simp [List.findIdx?_cons]
  ·have e':¬k=x.1:=fun h=>e h.symm
   simp only [e',decide_false,Bool.false_eq_true,if_false,ih]
   congr 1
   rw [List.findIdx?_cons]
   simp only [beq_eq_false_iff_ne.2 e]
   cases hf:List.findIdx? (fun x=>x.1==k) l with
   | none=>simp
   | some j=>simp [Nat.add_assoc,Nat.add_comm 1 j]
theorem KeyOk.wide {kt:TypeId}(heq:∀ (w:World) (a b:κ),ok a->ok b->(Op.equal kt (enc a) (enc b)).run P w=.ok (decide (a=b)) w)
  (hw:(match P.underlying kt with | some (.array _ _) | some (.struct _)=>true | _=>false)=true) (hc:∀ (w:World) (k:κ) (e:Bool),ok k->(Instr.checkKey e 10000 kt (enc k)).run P w=.ok () w)
  (hs:∀ k:κ,ok k->Instr.sameBits 10000 (enc k) (enc k)=true):KeyOk P kt κ ok enc where
 find w k es l hk hl he:=by
  subst he
  rw [run_findKey_eq w hw,zpe heq hk l 0 hl]
  simp
 chk:=hc
 same:=hs
end
theorem z2t (L:List UInt8):Instr.sameBits 10000 (arr L) (arr L)=true:=by
 unfold arr
 rw [show (10000:Nat)=9999+1 from rfl,Instr.sameBits]
 simp only [beq_self_eq_true,Bool.true_and,List.all_eq_true]
 intro x hx
 simp only [byteCells] at hx
 have:∀ (l:List UInt8),x∈(l.map fun b=>Value.int .u8 (b.toNat:Int)).zip (l.map fun b=>Value.int .u8 (b.toNat:Int))->∃ b:UInt8,x=(Value.int .u8 (b.toNat:Int),Value.int .u8 (b.toNat:Int)):=by
  intro l
  induction l with
  | nil=>intro h;cases h
  | cons b l ih=>
   intro h
   simp only [List.map_cons,List.zip_cons_cons,List.mem_cons] at h
   rcases h with rfl | h
   ·exact⟨b,rfl⟩
   ·exact ih h
 obtain⟨b,rfl⟩:=this L hx
 simp [Instr.sameBits]
theorem KeyOk.arr {P:Program}{t e:TypeId}{n:Nat}(hu:P.underlying t=some (.array n e)) (he:P.underlying e=some (.int .u8)) (hc:P.cellsOf e=1):KeyOk P t (List UInt8) (fun L=>L.length=n) arr:=
 .wide (fun w a b ha hb=>zw4 hu he hc ha hb) (by rw [hu]) (fun w k e hk=>qa9 hu he hc hk e) fun k _=>z2t k
def ents {κ:Type}(enc:κ->Value) (l:List (κ×Value×Nat)):Array MapEntry:=(l.map fun x=>⟨enc x.1,x.2.1,x.2.2⟩).toArray
set_option linter.unusedSectionVars false
section
variable {κ ν:Type} [DecidableEq κ]
abbrev ML (κ ν:Type):=List (κ×ν×Nat)
def zc6 (l:ML κ ν) (k:κ):Option ν:=(l.find? fun x=>x.1==k).map (·.2.1)
def zl9 (l:ML κ ν) (k:κ) (v:ν) (c:Nat):ML κ ν:=if (zc6 l k).isSome then l.map (fun x=>if x.1=k then (x.1,v,x.2.2) else x) else l++[(k,v,c)]
def zqn (l:ML κ ν) (k:κ) (c:Nat):Nat:=if (zc6 l k).isSome then c else c+1
def z3j (l:ML κ ν) (k:κ):ML κ ν:=l.filter fun x=>x.1 != k
structure MOk (ok:κ->Prop) (l:ML κ ν) (c:Nat):Prop where
 keys:(l.map (·.1)).Nodup
 born:(l.map (·.2.2)).Nodup
 old:∀ x∈l,x.2.2 < c
 fine:∀ x∈l,ok x.1
theorem zet {l:ML κ ν}{k:κ}{v:ν}(h:zc6 l k=some v):∃ c,(k,v,c)∈l:=by
 simp only [zc6,Option.map_eq_some_iff] at h
 obtain⟨x,hx,rfl⟩:=h
 have h1:=List.find?_some hx
 have h2:=List.mem_of_find?_eq_some hx
 simp at h1
 subst h1
 exact⟨x.2.2,h2⟩
theorem zp2 {l:ML κ ν}(hn:(l.map (·.1)).Nodup){k:κ}{v:ν}{c:Nat}(h:(k,v,c)∈l):zc6 l k=some v:=by
 induction l with
 | nil=>cases h
 | cons x l ih=>
  simp only [List.map_cons,List.nodup_cons] at hn
  simp only [zc6,List.find?_cons]
  rcases List.mem_cons.1 h with h | h
  ·subst h;simp
  ·have hne:x.1≠k:=fun e=>hn.1 (by rw [e];exact List.mem_map.2 ⟨_,h,rfl⟩)
   simp only [beq_eq_false_iff_ne.2 hne]
   exact ih hn.2 h
theorem ztp {l:ML κ ν}{k:κ}{x:κ×ν×Nat}(e:x.1=k):zc6 (x :: l) k=some x.2.1:=by simp [zc6,e]
theorem ztv {l:ML κ ν}{k:κ}{x:κ×ν×Nat}(e:x.1≠k):zc6 (x :: l) k=zc6 l k:=by simp only [zc6,List.find?_cons,beq_eq_false_iff_ne.2 e]
theorem znm {l:ML κ ν}{k:κ}(h:zc6 l k=none):∀ x∈l,x.1≠k:=by
 simp only [zc6,Option.map_eq_none_iff,List.find?_eq_none] at h
 intro x hx e
 exact absurd (h x hx) (by simp [e])
theorem zn0 {l:ML κ ν}{k:κ}(h:∀ x∈l,x.1≠k):zc6 l k=none:=by
 simp only [zc6,Option.map_eq_none_iff,List.find?_eq_none]
 intro x hx
 simp [h x hx]
theorem zj0 {l:ML κ ν}{k:κ}{v:ν}{c:Nat}(h:(zc6 l k).isSome=true):zl9 l k v c=l.map (fun x=>if x.1=k then (x.1,v,x.2.2) else x):=by simp [zl9,h]
theorem zho {l:ML κ ν}{k:κ}{v:ν}{c:Nat}(h:zc6 l k=none):zl9 l k v c=l++[(k,v,c)]:=by simp [zl9,h]
theorem zkc {l:ML κ ν}{k:κ}{v:ν}{c:Nat}{x:κ×ν×Nat}(h:x∈zl9 l k v c):(x.1=k/\x.2.1=v)\/(x.1≠k/\x∈l):=by
 cases hg:zc6 l k with
 | none=>
  rw [zho hg] at h
  rcases List.mem_append.1 h with h | h
  ·exact .inr ⟨znm hg x h,h⟩
  ·simp at h;subst h;exact .inl ⟨rfl,rfl⟩
 | some v'=>
  rw [zj0 (by rw [hg];rfl)] at h
  obtain⟨y,hy,rfl⟩:=List.mem_map.1 h
  by_cases e:y.1=k
  ·rw [if_pos e];exact .inl ⟨e,rfl⟩
  ·rw [if_neg e];exact .inr ⟨e,hy⟩
theorem key_inj {ok:κ->Prop}{l:ML κ ν}{c:Nat}(h:MOk ok l c){x y:κ×ν×Nat}(hx:x∈l) (hy:y∈l) (e:x.1=y.1):x=y:=by
 have h1:=h.keys
 clear h
 induction l with
 | nil=>cases hx
 | cons z l ih=>
  simp only [List.map_cons,List.nodup_cons] at h1
  rcases List.mem_cons.1 hx with e1 | hx1 <;> rcases List.mem_cons.1 hy with e2 | hy1
  ·rw [e1,e2]
  ·exact absurd (List.mem_map.2 ⟨y,hy1,by rw [<-e,e1]⟩) h1.1
  ·exact absurd (List.mem_map.2 ⟨x,hx1,by rw [e,e2]⟩) h1.1
  ·exact ih hx1 hy1 h1.2
theorem born_inj {ok:κ->Prop}{l:ML κ ν}{c:Nat}(h:MOk ok l c){x y:κ×ν×Nat}(hx:x∈l) (hy:y∈l) (e:x.2.2=y.2.2):x=y:=by
 have h1:=h.born
 clear h
 induction l with
 | nil=>cases hx
 | cons z l ih=>
  simp only [List.map_cons,List.nodup_cons] at h1
  rcases List.mem_cons.1 hx with e1 | hx1 <;> rcases List.mem_cons.1 hy with e2 | hy1
  ·rw [e1,e2]
  ·exact absurd (List.mem_map.2 ⟨y,hy1,by rw [<-e,e1]⟩) h1.1
  ·exact absurd (List.mem_map.2 ⟨x,hx1,by rw [e,e2]⟩) h1.1
  ·exact ih hx1 hy1 h1.2
theorem z2c {l:ML κ ν}{k:κ}{v:ν}:(l.map (fun x=>if x.1=k then (x.1,v,x.2.2) else x)).map (·.1)=l.map (·.1):=by
 rw [List.map_map];congr 1;funext x;simp only [Function.comp];split <;> rfl
theorem z0m {l:ML κ ν}{k:κ}{v:ν}:(l.map (fun x=>if x.1=k then (x.1,v,x.2.2) else x)).map (·.2.2)=l.map (·.2.2):=by
 rw [List.map_map];congr 1;funext x;simp only [Function.comp];split <;> rfl
theorem MOk.upd {ok:κ->Prop}{l:ML κ ν}{c:Nat}(h:MOk ok l c){k:κ}(hk:ok k) (v:ν):MOk ok (zl9 l k v c) (zqn l k c):=by
 cases hg:zc6 l k with
 | some v'=>
  rw [zj0 (by rw [hg];rfl),show zqn l k c=c from by simp [zqn,hg]]
  refine⟨by rw [z2c];exact h.keys,by rw [z0m];exact h.born,?_,?_⟩
  ·intro x hx
   obtain⟨y,hy,rfl⟩:=List.mem_map.1 hx
   split <;> exact h.old y hy
  ·intro x hx
   obtain⟨y,hy,rfl⟩:=List.mem_map.1 hx
   split <;> exact h.fine y hy
 | none=>
  rw [zho hg,show zqn l k c=c+1 from by simp [zqn,hg]]
  have hn:=znm hg
  refine⟨?_,?_,?_,?_⟩
  ·rw [List.map_append,List.nodup_append]
   refine⟨h.keys,by simp,?_⟩
   intro a ha b hb
   simp at hb;subst hb
   obtain⟨y,hy,rfl⟩:=List.mem_map.1 ha
   exact hn y hy
  ·rw [List.map_append,List.nodup_append]
   refine⟨h.born,by simp,?_⟩
   intro a ha b hb
   simp at hb;subst hb
   obtain⟨y,hy,rfl⟩:=List.mem_map.1 ha
   have:=h.old y hy;omega
  ·intro x hx
   rcases List.mem_append.1 hx with hx | hx
   ·have:=h.old x hx;omega
   ·simp at hx;subst hx;simp
  ·intro x hx
   rcases List.mem_append.1 hx with hx | hx
   ·exact h.fine x hx
   ·simp at hx;subst hx;exact hk
theorem MOk.del {ok:κ->Prop}{l:ML κ ν}{c:Nat}(h:MOk ok l c) (k:κ):MOk ok (z3j l k) c:=
 ⟨h.keys.sublist (List.Sublist.map _ List.filter_sublist),h.born.sublist (List.Sublist.map _ List.filter_sublist),fun x hx=>h.old x (List.mem_filter.1 hx).1,fun x hx=>h.fine x (List.mem_filter.1 hx).1⟩
theorem MOk.nil {ok:κ->Prop}:MOk (κ:=κ) (ν:=ν) ok [] 0:=⟨by simp,by simp,by simp,by simp⟩
theorem zur {l:ML κ ν}{k k':κ}{v:ν}{c:Nat}:zc6 (zl9 l k v c) k'=if k'=k then some v else zc6 l k':=by
 cases hg:zc6 l k with
 | none=>
  rw [zho hg]
  simp only [zc6,List.find?_append]
  by_cases e:k'=k
  ·subst e
   have:l.find? (fun x=>x.1==k')=none:=by simpa [zc6] using hg
   simp [this]
  ·have e':¬k=k':=fun h=>e h.symm
   simp [e,e']
 | some v'=>
  rw [zj0 (by rw [hg];rfl)]
  obtain⟨c',hm⟩:=zet hg
  clear hg
  induction l with
  | nil=>cases hm
  | cons x l ih=>
   simp only [zc6,List.map_cons,List.find?_cons]
   by_cases ex:x.1=k
   ·by_cases e:k'=k
    ·subst e;simp [ex]
    ·have e':¬x.1=k':=fun h=>e (by rw [<-h,ex])
     simp only [ex,if_true,beq_eq_false_iff_ne.2 (ex▸e'),e,if_false]
     by_cases hml:(k,v',c')∈l
     ·have:=ih hml
      simp only [zc6,e,if_false] at this
      exact this
     ·have hnk:∀ y∈l,y.1=k'->(if y.1=k then (y.1,v,y.2.2) else y)=y:=by
       intro y _ hy;rw [if_neg (by rw [hy];exact e)]
      clear ih hm hml
      induction l with
      | nil=>rfl
      | cons y l ih2=>
       simp only [List.map_cons,List.find?_cons]
       by_cases ey:y.1=k
       ·simp only [ey,if_true,beq_eq_false_iff_ne.2 (ex▸e')]
        exact ih2 fun z hz=>hnk z (by simp [hz])
       ·simp only [ey,if_false]
        by_cases ey':y.1=k'
        ·simp [ey']
        ·simp only [beq_eq_false_iff_ne.2 ey']
         exact ih2 fun z hz=>hnk z (by simp [hz])
   ·have hml:(k,v',c')∈l:=by
     rcases List.mem_cons.1 hm with h | h
     ·exact absurd (by rw [<-h]) ex
     ·exact h
    simp only [ex,if_false]
    by_cases ex':x.1=k'
    ·subst ex';simp [ex]
    ·simp only [beq_eq_false_iff_ne.2 ex']
     exact ih hml
end
section heap
variable {P:Program}{w:World}{H:Heap}{κ:Type} [DecidableEq κ] {ok:κ->Prop}{enc:κ->Value}{mt kt et:TypeId}{m:Nat}{l:ML κ Value}{c:Nat}
theorem z5d {o:Obj}{r:Nat}(hw:w.heap=H) (h:H[r]?=some o) (hno:∀ c e f,o≠.cells c e f):(getObj r).run P w=.ok o w:=by
 subst hw
 cases o <;> first | (exact absurd rfl (hno _ _ _)) | simp [getObj,Sem.run,h]
theorem zuj {o o':Obj}{r:Nat}(hw:w.heap=H) (h:H[r]?=some o) (hno:∀ c e f,o≠.cells c e f):(setObj r o').run P w=.ok () { w with heap:=H.setIfInBounds r o' }:=by
 subst hw
 cases o <;> first | (exact absurd rfl (hno _ _ _)) | simp [setObj,Sem.run,h]
theorem zwn {l:ML κ Value}{k:κ}:((l.findIdx? (fun x=>x.1==k)).bind fun i=>(l[i]?).map fun x=>(i,x.2.1)).map (·.2)=zc6 l k:=by
 induction l with
 | nil=>rfl
 | cons x l ih=>
  simp only [List.findIdx?_cons,zc6,List.find?_cons]
  by_cases e:x.1=k
  ·simp [e]
  ·simp only [beq_eq_false_iff_ne.2 e]
   refine Eq.trans ?_ ih
   cases List.findIdx? (fun x=>x.1==k) l with
   | none=>simp
   | some i=>
    simp only [Bool.false_eq_true,if_false,Option.map_some,Option.bind_some,List.getElem?_cons_succ]
    cases l[i]? <;> rfl
theorem qcz (K:KeyOk P kt κ ok enc) (hu:P.underlying mt=some (.map kt et)){z:Value}(hz:∀ w,(zeroValue et).run P w=.ok z w) (hw:w.heap=H) (hm:H[m]?=some (.map (ents enc l) c)) (hl:MOk ok l c){k:κ}(hk:ok k) :
  (Instr.lookup mt (.map (some m)) (enc k) true).run P w=.ok (.tuple #[(zc6 l k).getD z,.bool (zc6 l k).isSome]) w:=by
 have hf:=K.find w k (ents enc l).toList l hk hl.fine (by simp [ents])
 have hg:=zwn (l:=l) (k:=k)
 generalize ((l.findIdx? (fun x=>x.1==k)).bind fun i=>(l[i]?).map fun x=>(i,x.2.1))=r at hf hg
 simp only [Instr.lookup,Sem.run_bind,xu hu,Result.andThen_ok,z5d hw hm (by intros;simp),Sem.run_pure,K.chk w k _ hk,hf]
 rw [<-hg]
 cases r with
 | none=>simp [hz]
 | some x=>simp
theorem z8j (hn:(l.map (·.1)).Nodup){k:κ}{v:Value}{i:Nat}{x:κ×Value×Nat}(hi:l.findIdx? (fun x=>x.1==k)=some i) (hx:l[i]?=some x) :
  (ents enc l).modify i (fun e=>{ e with key:=enc k,val:=v })=ents enc (l.map (fun x=>if x.1=k then (x.1,v,x.2.2) else x)):=by
 rw [List.findIdx?_eq_some_iff_getElem] at hi
 obtain⟨hlt,hk,_⟩:=hi
 simp only [beq_iff_eq] at hk
 apply Array.ext_getElem?
 intro j
 rw [Array.getElem?_modify]
 simp only [ents,List.getElem?_toArray,List.getElem?_map,List.map_map]
 by_cases hj:i=j
 ·subst hj
  simp only [if_true]
  rw [List.getElem?_eq_getElem hlt]
  simp [hk]
 ·simp only [hj,if_false]
  by_cases hjl:j < l.length
  ·rw [List.getElem?_eq_getElem hjl]
   simp only [Option.map_some,Function.comp]
   have hne:l[j].1≠k:=by
    intro e
    have:=List.pairwise_iff_getElem.1 hn
    rcases Nat.lt_or_gt_of_ne hj with h | h
    ·exact this i j (by simpa using hlt) (by simpa using hjl) h (by simp [hk,e])
    ·exact this j i (by simpa using hjl) (by simpa using hlt) h (by simp [hk,e])
   simp [hne]
  ·rw [List.getElem?_eq_none (by omega)];rfl
theorem ztt {k:κ}(h:zc6 l k=none):l.findIdx? (fun x=>x.1==k)=none:=by
 rw [List.findIdx?_eq_none_iff]
 intro x hx
 simp [znm h x hx]
theorem ztk {k:κ}{v:Value}(h:zc6 l k=some v):∃ i x,l.findIdx? (fun x=>x.1==k)=some i/\l[i]?=some x/\x.1=k:=by
 cases hf:l.findIdx? (fun x=>x.1==k) with
 | none=>
  rw [List.findIdx?_eq_none_iff] at hf
  obtain⟨c,hm⟩:=zet h
  have:=hf _ hm
  simp at this
 | some i=>
  have h2:=List.findIdx?_eq_some_iff_getElem.1 hf
  obtain⟨hlt,hk,_⟩:=h2
  simp only [beq_iff_eq] at hk
  exact⟨i,l[i],rfl,List.getElem?_eq_getElem hlt,hk⟩
theorem qcv (K:KeyOk P kt κ ok enc) (hu:P.underlying mt=some (.map kt et)) (hw:w.heap=H) (hm:H[m]?=some (.map (ents enc l) c)) (hl:MOk ok l c){k:κ}(hk:ok k) (v:Value) :
  (Instr.mapUpdate mt (.map (some m)) (enc k) v).run P w=.ok () { w with heap:=H.setIfInBounds m (.map (ents enc (zl9 l k v c)) (zqn l k c)) }:=by
 have hf:=K.find w k (ents enc l).toList l hk hl.fine (by simp [ents])
 simp only [Instr.mapUpdate,Sem.run_bind,xu hu,Result.andThen_ok,z5d hw hm (by intros;simp),K.chk w k _ hk,hf]
 cases hg:zc6 l k with
 | none=>
  simp only [ztt hg,Option.bind_none]
  rw [zuj hw hm (by intros;simp)]
  congr 4
  rw [zho hg]
  ·simp [ents]
  ·simp [zqn,hg]
 | some v'=>
  obtain⟨i,x,hi,hx,hxk⟩:=ztk hg
  simp only [hi,Option.bind_some,hx,Option.map_some]
  have hkey:((ents enc l)[i]?.map (·.key)).getD (enc k)=enc k:=by
   simp [ents,hx,hxk]
  simp only [Sem.run_bind,hkey,Instr.keyThatStays,K.same k hk,if_true,Sem.run_pure,Result.andThen_ok]
  rw [zuj hw hm (by intros;simp)]
  congr 4
  ·rw [z8j hl.keys hi hx,zj0 (by rw [hg];rfl)]
  ·simp [zqn,hg]
theorem z0u {α β:Type}(f:α->β):∀ (l:List α) (i:Nat),(l.eraseIdx i).map f=(l.map f).eraseIdx i
 | [],_=>rfl
 | _ :: _,0=>rfl
 | x :: l,i+1=>by simp only [List.eraseIdx_cons_succ,List.map_cons,z0u f l i]
theorem erase_filter:∀ {l:ML κ Value}(hn:(l.map (·.1)).Nodup){k:κ}{i:Nat}(hi:l.findIdx? (fun x=>x.1==k)=some i),l.eraseIdx i=l.filter fun x=>x.1 != k
 | [],_,_,_,hi=>by simp at hi
 | x :: l,hn,k,i,hi=>by
  simp only [List.map_cons,List.nodup_cons] at hn
  rw [List.findIdx?_cons] at hi
  by_cases e:x.1=k
  ·simp only [e,beq_self_eq_true,if_true,Option.some.injEq] at hi
   subst hi
   simp only [List.eraseIdx_cons_zero,List.filter_cons,e,bne_self_eq_false,Bool.false_eq_true,if_false]
   symm
   rw [List.filter_eq_self]
   intro y hy
   simp only [bne_iff_ne,ne_eq]
   intro h
   exact hn.1 (by rw [e,<-h];exact List.mem_map.2 ⟨y,hy,rfl⟩)
  ·simp only [beq_eq_false_iff_ne.2 e,Bool.false_eq_true,if_false,Option.map_eq_some_iff] at hi
   obtain⟨j,hj,rfl⟩:=hi
   simp only [List.eraseIdx_cons_succ,List.filter_cons,bne_iff_ne.2 e,if_true]
   rw [erase_filter hn.2 hj]
theorem qey (K:KeyOk P kt κ ok enc) (hu:P.underlying mt=some (.map kt et)){ks ty:TypeId}(hw:w.heap=H) (hm:H[m]?=some (.map (ents enc l) c)) (hl:MOk ok l c){k:κ}(hk:ok k) :
  (Builtin.delete_ #[mt,ks] ty #[.map (some m),enc k]).run P w=.ok (.tuple #[]) { w with heap:=H.setIfInBounds m (.map (ents enc (z3j l k)) c) }:=by
 have hf:=K.find w k (ents enc l).toList l hk hl.fine (by simp [ents])
 simp only [Builtin.delete_,List.getElem?_toArray,List.getElem?_cons_zero,List.getElem?_cons_succ,Sem.run_bind,xu hu,Result.andThen_ok,z5d hw hm (by intros;simp),K.chk w k _ hk,hf]
 cases hg:zc6 l k with
 | none=>
  simp only [ztt hg,Option.bind_none,Sem.run_bind]
  rw [zuj hw hm (by intros;simp)]
  simp only [Result.andThen_ok,Sem.run_pure]
  have:z3j l k=l:=by
   rw [z3j,List.filter_eq_self]
   intro x hx
   simp [znm hg x hx]
  rw [this]
 | some v'=>
  obtain⟨i,x,hi,hx,hxk⟩:=ztk hg
  simp only [hi,Option.bind_some,hx,Option.map_some,Sem.run_bind]
  rw [zuj hw hm (by intros;simp)]
  simp only [Result.andThen_ok,Sem.run_pure]
  have:(ents enc l).eraseIdxIfInBounds i=ents enc (z3j l k):=by
   rw [z3j,<-erase_filter hl.keys hi]
   apply Array.ext'
   simp only [ents,Array.toList_eraseIdxIfInBounds,z0u]
  rw [this]
theorem zkd (hw:w.heap=H):(Instr.makeMap mt none).run P w=.ok (.map (some H.size)) { w with heap:=H.push (.map #[] 0) }:=by
 subst hw;simp [Instr.makeMap]
theorem qas {ty:TypeId}(hu:P.underlying mt=some (.map kt et)) (hw:w.heap=H) (hm:H[m]?=some (.map (ents enc l) c)):(Builtin.len_ #[mt] ty #[.map (some m)]).run P w=.ok (.int .i64 (l.length:Int)) w:=by
 simp only [Builtin.len_,List.getElem?_toArray,List.getElem?_cons_zero,Sem.run_bind,xu hu,z5d hw hm (by intros;simp),Result.andThen_ok,Sem.run_pure]
 simp [ents]
 rfl
theorem zwc (hu:P.underlying mt=some (.map kt et)) (hw:w.heap=H) (hm:H[m]?=some (.map (ents enc l) c)) :
  (Instr.range mt (.map (some m))).run P w=.ok (.pointer (some ⟨H.size,0,none⟩)) { w with heap:=H.push (.mapIter (some m) c #[] c) }:=by
 subst hw
 simp only [Instr.range,Sem.run_bind,xu hu,z5d rfl hm (by intros;simp),Result.andThen_ok,Sem.run_pure,run_newObj]
theorem qij {ty:TypeId}{r since last:Nat}{seen:Array Nat}(hw:w.heap=H) (hm:H[m]?=some (.map (ents enc l) c)) (hr:H[r]?=some (.mapIter (some m) since seen last)) (hold:∀ x∈l,x.2.2 < since) (hsl:since<=last) :
  ((∀ x∈l,x.2.2∈seen)/\∃ w',(Instr.next (.pointer (some ⟨r,0,none⟩)) false ty).run P w=.ok (.tuple #[.bool false]) w'/\Calm w w'/\w'.heap=H) \/
  ∃ x∈l,x.2.2∉seen/\∃ w',(Instr.next (.pointer (some ⟨r,0,none⟩)) false ty).run P w=.ok (.tuple #[.bool true,enc x.1,x.2.1]) w'/\Calm w w'/\w'.heap=H.setIfInBounds r (.mapIter (some m) since (seen.push x.2.2) c):=by
 subst hw
 rcases run_next_at (P:=P) w ty r m since last seen (ents enc l) c hr hm (by intro x hx;simp only [ents] at hx;obtain⟨y,hy,rfl⟩:=List.mem_map.1 hx;exact hold y hy) hsl with⟨h0,h1⟩ | ⟨e,he,w1,hw1,h1⟩
 ·left
  refine⟨fun x hx=>?_,w,h1,.refl w,rfl⟩
  have h2:leftOf (ents enc l) seen=#[]:=Array.eq_empty_of_size_eq_zero h0
  unfold leftOf at h2
  rw [Array.filter_eq_empty_iff] at h2
  have:=h2 ⟨enc x.1,x.2.1,x.2.2⟩ (by simp [ents];exact⟨_,_,_,hx,rfl,rfl,rfl⟩)
  simpa using this
 ·right
  simp only [leftOf,ents,Array.toList_filter,List.mem_filter] at he
  obtain⟨h2,h3⟩:=he
  obtain⟨x,hx,rfl⟩:=List.mem_map.1 h2
  refine⟨x,hx,by simpa using h3,_,h1,?_,?_⟩
  ·rcases hw1 with rfl | rfl <;> first | exact⟨rfl,rfl,rfl,Nat.le_refl _⟩ | exact⟨rfl,rfl,rfl,Nat.le_succ _⟩
  ·rcases hw1 with rfl | rfl <;> rfl
theorem qhh {r since last:Nat}{seen:Array Nat}(hw:w.heap=H) (hm:H[m]?=some (.map (ents enc l) c)){x:κ×Value×Nat}(hr:H[r]?=some (.mapIter (some m) since (seen.push x.2.2) c)) (hx:x∈l) (hl:MOk ok l c) :
  (Instr.entry (.pointer (some ⟨r,0,none⟩))).run P w=.ok (.tuple #[enc x.1,x.2.1]) w:=by
 subst hw
 refine run_entry_at w r m since seen (ents enc l) c ⟨enc x.1,x.2.1,x.2.2⟩ hr hm (by simp only [ents];exact List.mem_map.2 ⟨x,hx,rfl⟩) ?_
 have:=hl.born
 simp only [ents,List.map_map]
 exact this
end heap
def vl {κ ν:Type}(ev:ν->Value) (l:ML κ ν):ML κ Value:=l.map fun x=>(x.1,ev x.2.1,x.2.2)
section views
variable {P:Program}{w:World}{H:Heap}{κ ν:Type} [DecidableEq κ] {ok:κ->Prop}{enc:κ->Value}{ev:ν->Value}{mt kt et:TypeId}{m:Nat}{l:ML κ ν}{c:Nat}
theorem zst {k:κ}:zc6 (vl ev l) k=(zc6 l k).map ev:=by
 induction l with
 | nil=>rfl
 | cons x l ih=>
  simp only [vl,zc6,List.map_cons,List.find?_cons] at ih |-
  by_cases e:x.1=k
  ·simp [e]
  ·simp only [beq_eq_false_iff_ne.2 e];exact ih
theorem qg4 {k:κ}{v:ν}:zl9 (vl ev l) k (ev v) c=vl ev (zl9 l k v c):=by
 unfold zl9
 rw [zst]
 cases zc6 l k with
 | none=>simp [vl]
 | some v'=>
  simp only [Option.map_some,Option.isSome_some,if_true]
  simp only [vl,List.map_map]
  congr 1
  funext x
  simp only [Function.comp]
  split <;> rfl
theorem qgo {k:κ}:zqn (vl ev l) k c=zqn l k c:=by
 unfold zqn;rw [zst];cases zc6 l k <;> rfl
theorem qgc {k:κ}:z3j (vl ev l) k=vl ev (z3j l k):=by
 simp only [z3j,vl,List.filter_map]
 rfl
theorem MOk.vl (h:MOk ok l c):MOk ok (vl ev l) c:=by
 refine⟨?_,?_,?_,?_⟩
 ·have:=h.keys;simp only [Fw.vl,List.map_map];exact this
 ·have:=h.born;simp only [Fw.vl,List.map_map];exact this
 ·intro x hx;obtain⟨y,hy,rfl⟩:=List.mem_map.1 hx;exact h.old y hy
 ·intro x hx;obtain⟨y,hy,rfl⟩:=List.mem_map.1 hx;exact h.fine y hy
theorem zfv (K:KeyOk P kt κ ok enc) (hu:P.underlying mt=some (.map kt et)){z:Value}(hz:∀ w,(zeroValue et).run P w=.ok z w) (hw:w.heap=H) (hm:H[m]?=some (.map (ents enc (vl ev l)) c)) (hl:MOk ok l c){k:κ}(hk:ok k) :
  (Instr.lookup mt (.map (some m)) (enc k) true).run P w=.ok (.tuple #[((zc6 l k).map ev).getD z,.bool (zc6 l k).isSome]) w:=by
 rw [qcz K hu hz hw hm hl.vl hk,zst]
 cases zc6 l k <;> rfl
theorem zjn (K:KeyOk P kt κ ok enc) (hu:P.underlying mt=some (.map kt et)) (hw:w.heap=H) (hm:H[m]?=some (.map (ents enc (vl ev l)) c)) (hl:MOk ok l c){k:κ}(hk:ok k) (v:ν){y:Value}(hy:y=ev v) :
  (Instr.mapUpdate mt (.map (some m)) (enc k) y).run P w=.ok () { w with heap:=H.setIfInBounds m (.map (ents enc (vl ev (zl9 l k v c))) (zqn l k c)) }:=by
 subst hy
 rw [qcv K hu hw hm hl.vl hk,qg4,qgo]
theorem z6m (K:KeyOk P kt κ ok enc) (hu:P.underlying mt=some (.map kt et)){ks ty:TypeId}(hw:w.heap=H) (hm:H[m]?=some (.map (ents enc (vl ev l)) c)) (hl:MOk ok l c){k:κ}(hk:ok k) :
  (Builtin.delete_ #[mt,ks] ty #[.map (some m),enc k]).run P w=.ok (.tuple #[]) { w with heap:=H.setIfInBounds m (.map (ents enc (vl ev (z3j l k))) c) }:=by
 rw [qey K hu hw hm hl.vl hk,qgc]
theorem z1r {ty:TypeId}(hu:P.underlying mt=some (.map kt et)) (hw:w.heap=H) (hm:H[m]?=some (.map (ents enc (vl ev l)) c)):(Builtin.len_ #[mt] ty #[.map (some m)]).run P w=.ok (.int .i64 (l.length:Int)) w:=by
 rw [qas hu hw hm];simp [vl]
theorem z0z {ty:TypeId}{r since last:Nat}{seen:Array Nat}(hw:w.heap=H) (hm:H[m]?=some (.map (ents enc (vl ev l)) c)) (hr:H[r]?=some (.mapIter (some m) since seen last)) (hold:∀ x∈l,x.2.2 < since) (hsl:since<=last) :
  ((∀ x∈l,x.2.2∈seen)/\∃ w',(Instr.next (.pointer (some ⟨r,0,none⟩)) false ty).run P w=.ok (.tuple #[.bool false]) w'/\Calm w w'/\w'.heap=H) \/
  ∃ x∈l,x.2.2∉seen/\∃ w',(Instr.next (.pointer (some ⟨r,0,none⟩)) false ty).run P w=.ok (.tuple #[.bool true,enc x.1,ev x.2.1]) w'/\Calm w w'/\w'.heap=H.setIfInBounds r (.mapIter (some m) since (seen.push x.2.2) c):=by
 rcases qij (P:=P) (ty:=ty) hw hm hr (by intro x hx;obtain⟨y,hy,rfl⟩:=List.mem_map.1 hx;exact hold y hy) hsl with⟨h1,h2⟩ | ⟨x,hx,h1,h2⟩
 ·exact .inl ⟨fun x hx=>h1 (x.1,ev x.2.1,x.2.2) (List.mem_map.2 ⟨x,hx,rfl⟩),h2⟩
 ·obtain⟨y,hy,rfl⟩:=List.mem_map.1 hx
  exact .inr ⟨y,hy,h1,h2⟩
theorem zwe {r since last:Nat}{seen:Array Nat}(hw:w.heap=H) (hm:H[m]?=some (.map (ents enc (vl ev l)) c)){x:κ×ν×Nat}(hr:H[r]?=some (.mapIter (some m) since (seen.push x.2.2) c)) (hx:x∈l) (hl:MOk ok l c) :
  (Instr.entry (.pointer (some ⟨r,0,none⟩))).run P w=.ok (.tuple #[enc x.1,ev x.2.1]) w:=
 qhh (x:=(x.1,ev x.2.1,x.2.2)) (last:=last) hw hm hr (List.mem_map.2 ⟨x,hx,rfl⟩) hl.vl
theorem zuw {seen:Array Nat}{x:κ×ν×Nat}(hx:x∈l) (hn:x.2.2∉seen) :
  (l.filter fun y=>!(seen.push x.2.2).contains y.2.2).length < (l.filter fun y=>!seen.contains y.2.2).length:=by
 have hsub:∀ y:κ×ν×Nat,(!(seen.push x.2.2).contains y.2.2)=true->(!seen.contains y.2.2)=true:=by
  intro y hy
  simp only [Bool.not_eq_true',Array.contains_eq_mem,Array.mem_push,decide_eq_false_iff_not,not_or] at hy |-
  exact hy.1
 induction l with
 | nil=>cases hx
 | cons y l ih=>
  have hle:∀ l:ML κ ν,(l.filter fun y=>!(seen.push x.2.2).contains y.2.2).length<=(l.filter fun y=>!seen.contains y.2.2).length:=by
   intro l
   rw [<-List.countP_eq_length_filter,<-List.countP_eq_length_filter]
   exact List.countP_mono_left fun z _=>hsub z
  rcases List.mem_cons.1 hx with rfl | hx
  ·have h1:(!(seen.push x.2.2).contains x.2.2)=false:=by simp
   have h2:(!seen.contains x.2.2)=true:=by simp [hn]
   simp only [List.filter_cons,h1,h2,Bool.false_eq_true,if_false,if_true,List.length_cons]
   have:=hle l;omega
  ·have:=ih hx
   simp only [List.filter_cons]
   by_cases h:(!(seen.push x.2.2).contains y.2.2)=true
   ·simp only [h,hsub y h,if_true,List.length_cons];omega
   ·rw [if_neg h]
    by_cases h2:(!seen.contains y.2.2)=true
    ·rw [if_pos h2,List.length_cons];omega
    ·rw [if_neg h2];exact this
theorem znb {seen:Array Nat}{a b:Nat}(h:b≠a):(seen.push a).contains b=seen.contains b:=by
 simp only [Array.contains_eq_mem,Array.mem_push,h,or_false]
theorem z1w {seen:Array Nat}{x:κ×ν×Nat}(hb:(l.map (·.2.2)).Nodup) (hx:x∈l) (hn:x.2.2∉seen) :
  (l.filter fun y=>(seen.push x.2.2).contains y.2.2).Perm ((l.filter fun y=>seen.contains y.2.2)++[x]):=by
 induction l with
 | nil=>cases hx
 | cons y l ih=>
  simp only [List.map_cons,List.nodup_cons] at hb
  by_cases hxy:x=y
  ·subst hxy
   have h1:(l.filter fun y=>(seen.push x.2.2).contains y.2.2)=l.filter fun y=>seen.contains y.2.2:=by
    apply List.filter_congr
    intro z hz
    exact znb fun h=>hb.1 (h▸List.mem_map_of_mem hz)
   have h2:(seen.push x.2.2).contains x.2.2=true:=by simp
   have h3:seen.contains x.2.2=false:=by simpa using hn
   simp only [List.filter_cons,h2,h3,if_true,h1,Bool.false_eq_true,if_false]
   exact (List.perm_append_singleton _ _).symm
  ·have hxl:x∈l:=by
    rcases List.mem_cons.1 hx with h | h
    ·exact absurd h hxy
    ·exact h
   have hne:y.2.2≠x.2.2:=fun h=>hb.1 (h▸List.mem_map_of_mem hxl)
   simp only [List.filter_cons,znb hne]
   split
   ·exact (ih hb.2 hxl).cons _
   ·exact ih hb.2 hxl
end views
def zdr (x:Option Addr×Nat×Nat):Value:=.slice x.1 x.2.1 x.2.2
theorem zct {P:Program}{m:Sem Value}{l:List Sh}{w:World}{K:Tup l->Prop}(t:Tup l) (h:m.run P w=.ok (.tuple (Tup.vals l t).toArray) w) (hK:K t):zoy P m l w K:=⟨t,h,hK⟩
theorem ziv {v:Value}{i:Nat}{s:Sh}{K:s.T->Prop}{vs:Array Value}(t:s.T) (hv:v=.tuple vs) (h:vs[i]?=some (s.val t)) (hK:K t):exV v i s K:=⟨vs,t,hv,h,hK⟩
theorem zm1 {P:Program}{m:Sem Unit}{w:World}{K:World->Prop}(w':World) (h:m.run P w=.ok () w') (hK:K w') (hc:Calm w w':=by first | exact⟨rfl,rfl,rfl,Nat.le_refl _⟩ | exact⟨rfl,rfl,rfl,Nat.le_succ _⟩):zah P m w K:=⟨w',h,hc,hK⟩
section
variable {P:Program}{w:World}
theorem qg1 {t e:TypeId}{n:Nat}{x y:Operand}(hu:P.underlying t=some (.array n e)) (he:P.underlying e=some (.int .u8)) (hc:P.cellsOf e=1) (hg:P.eqGuardType P.depth t=false){A B:List UInt8}(hA:A.length=n) (hB:B.length=n) :
  (eqM .eql t x y (arr A) (arr B)).run P w=.ok (.bool (decide (A=B))) w:=by
 have h:=zw4 (w:=w) hu he hc hA hB
 unfold arr at h |-
 simp [eqM,eqGuard,binOp,hg,h]
theorem qd1 {t e:TypeId}{n:Nat}{x y:Operand}(hu:P.underlying t=some (.array n e)) (he:P.underlying e=some (.int .u8)) (hc:P.cellsOf e=1) (hg:P.eqGuardType P.depth t=false){A B:List UInt8}(hA:A.length=n) (hB:B.length=n) :
  (eqM .neq t x y (arr A) (arr B)).run P w=.ok (.bool (!decide (A=B))) w:=by
 have h:=zw4 (w:=w) hu he hc hA hB
 unfold arr at h |-
 simp [eqM,eqGuard,binOp,hg,h]
end
def strOf (L:List UInt8):ByteArray:=⟨L.toArray⟩
theorem fold_push (L:List UInt8):∀ (s:ByteArray),(L.map fun b=>(b.toNat:Int)).foldl (fun r n=>r.push (UInt8.ofNat n.toNat)) s=⟨s.data++L.toArray⟩:=by
 induction L with
 | nil=>intro s;cases s;simp
 | cons b l ih=>
  intro s
  simp only [List.map_cons,List.foldl_cons]
  rw [ih]
  cases s
  simp [ByteArray.push]
section
variable {P:Program}{w:World}{H:Heap}
theorem z4f {st sd e:TypeId}{a:Option Addr}{l c:Nat}{L:List UInt8}(hs:P.underlying st=some (.slice e)) (he:P.underlying e=some (.int .u8)) (hd:P.underlying sd=some .string) (hw:w.heap=H) (hL:Cells H a (byteCells L)) (hl:l=L.length) :
  (convert st sd (.slice a l c)).run P w=.ok (.string (strOf L)) w:=by
 subst hl
 rw [run_convert_bytes_string w st sd e a _ c hs he hd]
 cases a with
 | none=>
  have:L=[]:=by
   rcases hL with h | ⟨b,o,c,T,fr,h,_⟩
   ·simpa [byteCells] using h
   ·cases h
  subst this
  rfl
 | some a=>
  have hcs:(loadCells a L.length).run P w=.ok ((L.map fun b=>(b.toNat:Int)).map (Value.int .u8)).toArray w:=by
   rw [List.map_map]
   rcases hL with h | ⟨b,o,c,T,fr,h,hb,hn,hc⟩
   ·have:L=[]:=by simpa [byteCells] using h
    subst this
    rfl
   ·cases h
    rw [zam] at hn
    rw [zqj hw hb hn]
    congr 1
    rw [zam] at hc
    apply Array.ext'
    rw [hc]
    rfl
  rw [run_bytesToString w a L.length c _ hcs,fold_push]
  simp [strOf]
theorem z7o {a:Addr}{vs:List Value}(hw:w.heap=H) (h:Cells H (some a) vs){i:Nat}{v:Value}(hi:vs[i]?=some v):w.cell? (a.add i)=some v:=by
 have hlt:=(List.getElem?_eq_some_iff.1 hi).1
 rcases h with h | ⟨b,o,c,T,fr,h,hb,hn,hc⟩
 ·subst h;simp at hlt
 ·cases h
  rw [zan,zrf hw hb]
  rw [<-hc,Array.getElem?_toList,Array.getElem?_extract] at hi
  split at hi
  ·exact hi
  ·cases hi
end
open Go.Proofs Go.Shelf Go.RowKit Go.Lib Go.Sort
theorem getElem_flatMap {α:Type}{k:Nat}(enc:α->List Value) (hk:∀ x,(enc x).length=k) (h0:0 < k):∀ (xs:List α) (t:Nat),(xs.flatMap enc)[t]?=(xs[t / k]?).bind fun x=>(enc x)[t % k]?
 | [],t=>by simp
 | x :: xs,t=>by
  rw [List.flatMap_cons]
  by_cases ht:t < k
  ·rw [List.getElem?_append_left (by rw [hk];exact ht),Nat.div_eq_of_lt ht,Nat.mod_eq_of_lt ht]
   simp
  ·rw [List.getElem?_append_right (by rw [hk];omega),hk,getElem_flatMap enc hk h0 xs (t-k)]
   have h1:t / k=(t-k) / k+1:=by
    rw [Nat.div_eq_sub_div h0 (by omega)]
   have h2:t % k=(t-k) % k:=by rw [Nat.mod_eq_sub_mod (by omega)]
   rw [h1,h2]
   simp
theorem xg {α:Type}{k:Nat}(enc:α->List Value) (hk:∀ x,(enc x).length=k) (xs:List α):(xs.flatMap enc).length=xs.length * k:=by
 induction xs with
 | nil=>simp
 | cons x r ih=>rw [List.flatMap_cons,List.length_append,hk,ih,List.length_cons,Nat.add_mul];omega
theorem zsb {α:Type} [Inhabited α] {k:Nat}(enc:α->List Value) (hk:∀ x,(enc x).length=k) (h0:0 < k) (d:Array α) (t:Nat) (h:t < d.size * k):(d.toList.flatMap enc)[t]?=some (flatK enc k d)[t]!:=by
 rw [getElem_flatMap enc hk h0,get_flatK enc k d t h]
 have h1:t / k < d.size:=(Nat.div_lt_iff_lt_mul h0).2 h
 have h2:t % k < k:=Nat.mod_lt _ h0
 simp only [Array.getElem?_toList]
 rw [Array.getElem?_eq_getElem h1,Option.bind_some,List.getElem?_eq_getElem (by rw [hk];exact h2),getElem!_pos d _ h1,getElem!_pos _ _ (by rw [hk];exact h2)]
theorem grown_of {W W':World}(hx:Ext [] W.heap W'.heap) (hc:Calm W W'):∃ q os',W'=grow (W.drewN q) os':=by
 refine⟨W'.drawn-W.drawn,W'.heap.extract W.heap.size W'.heap.size,?_⟩
 obtain⟨h1,h2⟩:=hx
 have hh:W'.heap=W.heap++W'.heap.extract W.heap.size W'.heap.size:=by
  apply Array.ext_getElem?
  intro i
  by_cases hi:i < W.heap.size
  ·rw [Array.getElem?_append_left hi];exact h2 i hi (by simp)
  ·rw [Array.getElem?_append_right (by omega),Array.getElem?_extract]
   by_cases hi':i < W'.heap.size
   ·rw [if_pos (by omega)];congr 1;omega
   ·rw [if_neg (by omega),Array.getElem?_eq_none (by omega)]
 obtain⟨c1,c2,c3,c4⟩:=hc
 cases W' with
 | mk h t d o u=>
  simp only at hh c1 c2 c3 c4
  subst c1 c2 c3
  unfold grow World.drewN
  simp only [World.mk.injEq,and_self,and_true]
  exact⟨hh,trivial,(Nat.add_sub_cancel' c4).symm⟩
variable {P:Program}{ρ:Ren}{α:Type} [Inhabited α]
theorem qjf (L:SlLaysF0.n6 P ρ){k:Nat}(aE:∀ w,(isAgg (ρ.t 24)).run P w=.ok true w) (zE:∀ w,(Go.sizeOf (ρ.t 24)).run P w=.ok k w) (enc:α->List Value) (hk:∀ x,(enc x).length=k) (h0:0 < k)
  (h1:∀ x,∀ v∈enc x,v.oneCell'=true) (cf:α->α->Int) (hO:SWO (ltOf cf)){g:Nat}(eg:∀ args w,(callFunc g args).run P w=.ok (.enter g args) w) (e6:∀ args w,(callFunc (ρ.f 6) args).run P w=.ok (.enter (ρ.f 6) args) w)
  (hcmp:∀ W x y,qj P g #[.agg (enc x).toArray,.agg (enc y).toArray] W fun e W'=>e=.returned (.int .i64 (cf x y))/\Ext [] W.heap W'.heap)
  {w:World}{H:Heap}(hw:w.heap=H){B:Nat}{T:TypeId}{x:Option Addr×Nat×Nat}{xs:List α}(hM:Mine H B T k x (xs.flatMap enc)) (hlen:xs.length < 4611686018427387904) :
  qj P (ρ.f 6) #[.slice x.1 x.2.1 x.2.2,.func (.func g) #[] #[]] w fun e w'=>e=.returned (.tuple #[])/\∃ ys:List α,ys.Perm xs/\ys.Pairwise (fun a b=>¬cf b a < 0)/\Mine w'.heap B T k x (ys.flatMap enc)/\Ext (jw x) H w'.heap:=by
 subst hw
 have hl:=hM.len
 rw [xg enc hk] at hl
 have hxl:x.2.1=xs.length:=(Nat.eq_of_mul_eq_mul_right h0 hl).symm
 refine⟨e6 _ _,?_⟩
 rcases hM with⟨rfl,hnil⟩ | ⟨b,c,hx1,hB,hb,hc,hl2,hle,he⟩
 ·clear hxl hl
  have hx0:xs=[]:=by
   have:=congrArg List.length hnil
   rw [xg enc hk,List.length_nil] at this
   rcases Nat.mul_eq_zero.1 this with h | h
   ·exact List.eq_nil_of_length_eq_zero h
   ·omega
  refine (AnyF.slices_SortFunc_none L none 0 _ w).mono ?_
  rintro e w' ⟨he,hw'⟩
  subst hw'
  exact⟨⟨he,[],by rw [hx0],.nil,.inl ⟨rfl,rfl⟩,.refl _ _⟩,.refl _⟩
 ·obtain⟨xa,xl,xc⟩:=x
  simp only at hx1 hxl hc hl2 hle
  subst hx1 hxl
  have hlt:b < w.heap.size:=lt_of_get hb
  have hcl:xs.length * k<=c.size:=by rw [hc];exact Nat.mul_le_mul_right k hle
  have hget:∀ t,t < xs.length * k->c[t]?=(xs.flatMap enc)[t]?:=by
   intro t ht
   rw [<-he,Array.getElem?_toList,Array.getElem?_extract]
   rw [if_pos (by rw [xg enc hk];omega)]
   simp
  have hH:HoldsK enc k w b 0 xs.toArray:=by
   intro j hj
   simp only [size_flatK,List.size_toArray] at hj
   have h2:=zsb enc hk h0 xs.toArray j (by simpa using hj)
   refine⟨?_,?_⟩
   ·rw [Nat.zero_add,zrf rfl hb,hget j hj]
    simpa using h2
   ·exact zq6 rfl hb
  have hcon:=AnyQ.slices_SortFunc L k aE zE enc hk h1 cf hO g #[] b 0 xc xs.toArray w eg (fun m os dk _ x y=>?_) hH hlt (by simpa using hlen)
  ·simp only [List.size_toArray] at hcon
   refine hcon.mono ?_
   rintro e w' ⟨rfl,d',n,os,hp,hs,rfl⟩
   obtain⟨hps,_,hpp⟩:=hp
   have hps':d'.size=xs.length:=by simpa using hps
   have hperm:d'.toList.Perm xs:=by
    have h3:(d'.extract 0 xs.length).toList=d'.toList:=by
     simp only [Array.toList_extract,List.extract_eq_take_drop,List.drop_zero,Nat.sub_zero]
     exact List.take_of_length_le (by simp [hps'])
    have h4:((xs.toArray).extract 0 xs.length).toList=xs:=by simp
    rw [h3,h4] at hpp
    exact hpp
   have hsort:d'.toList.Pairwise (fun a b=>¬cf b a < 0):=by
    rw [List.pairwise_iff_getElem]
    intro i j hi hj hij
    have:=hs i j (Nat.zero_le _) hij (by simpa [hps'] using hj)
    simp only [ltOf,decide_eq_false_iff_not] at this
    rw [getElem!_pos d' j (by simpa using hj),getElem!_pos d' i (by simpa using hi)] at this
    simpa using this
   have hheap:(sortWorldK enc k w b 0 n d' os).heap=(w.heap.setIfInBounds b (.cells (putCells id 0 (flatK enc k d') c) T (0,0)))++os:=by
    unfold sortWorldK grow putRowK putRow mapBlock
    simp only [Sort.ahead]
    congr 1
    apply Array.ext_getElem?
    intro i
    rw [Array.getElem?_modify]
    by_cases hib:b=i
    ·subst hib
     simp only [if_pos,Array.getElem?_setIfInBounds_self_of_lt hlt,hb,Option.map_some]
     rfl
    ·rw [if_neg hib,Array.getElem?_setIfInBounds_ne hib]
   have hsz:(putCells id 0 (flatK enc k d') c).size=c.size:=by simp [putCells]
   have hext:Ext (jw (some ⟨b,0,none⟩,xs.length,xc)) w.heap (sortWorldK enc k w b 0 n d' os).heap:=by
    rw [hheap]
    refine⟨by simp,fun i hi hn=>?_⟩
    rw [Array.getElem?_append_left (by simpa using hi)]
    exact Array.getElem?_setIfInBounds_ne (by rintro rfl;exact hn (by simp [jw]))
   refine⟨⟨rfl,d'.toList,hperm,hsort,.inr ⟨b,_,rfl,hB,?_,hsz.trans hc,?_,hle,?_⟩,hext⟩,?_⟩
   ·rw [hheap,Array.getElem?_append_left (by simpa using hlt),Array.getElem?_setIfInBounds_self_of_lt hlt]
   ·rw [xg enc hk];simp [hps']
   ·apply List.ext_getElem?
    intro t
    rw [Array.getElem?_toList,Array.getElem?_extract,xg enc hk]
    simp only [Array.length_toList,hps']
    by_cases ht:t < xs.length * k
    ·rw [if_pos (by omega)]
     have h5:=zsb enc hk h0 d' t (by rw [hps'];exact ht)
     rw [h5]
     have h6:t < c.size:=by omega
     simp only [putCells,Nat.zero_add,Array.getElem?_mapIdx,Array.getElem?_eq_getElem h6,Option.map_some]
     rw [if_pos ⟨Nat.zero_le _,by simp [hps',ht]⟩]
     rfl
    ·rw [if_neg (by omega),List.getElem?_eq_none (by rw [xg enc hk];simp [hps'];omega)]
   ·unfold sortWorldK grow putRowK putRow mapBlock
    exact⟨rfl,rfl,rfl,by simp [Sort.ahead]⟩
  ·have h:=(hcmp (sortWorldK enc k w b 0 m dk os) x y).2
   exact h.mono fun e W' ⟨⟨he,hx⟩,hc⟩=>⟨he,grown_of hx hc⟩
end Go.Fw
