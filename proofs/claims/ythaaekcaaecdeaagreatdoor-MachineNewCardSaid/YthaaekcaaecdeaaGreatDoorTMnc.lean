/- Part 3 of the texts below the card, joined. -/
import Derived.Test.YthaaekcaaecdeaaGreatDoorTMnb
import Derived.Test.YthaaekcaaecdeaaGreatDoorTMna
import Derived.DeepKeys3
import Derived.Maps.RangeRun
import Derived.Laws.BytesString
import Derived.Lib.BytesEntry
import Derived.Lib.Bytealg
import Derived.Laws.Externs
import Derived.Shelf.SlSortCmp.WholeK
import Derived.Shelf.SlSortCmp.NoneTotal
import Derived.Great.BuildSlice
import Derived.Sort.LotA
import Derived.Shelf.SlSortCmp.Insertion
import Derived.Laws.Strings
import Derived.Lib.Builder
import Derived.Lib.MakeNoZero
import Derived.Lib.UnsafeStr
namespace Go.Proofs.YthaaekcaaecdeaaGreatDoor
open Go Go.Fw Go.Proofs
set_option maxRecDepth 100000
def zl9 (path:ByteArray) (R:Ending->World->Prop) (w:World):Prop:=
  qc P zau #[(Value.string path)] [.slc,.int .i64] true w fun (t7:((Option Addr×Nat×Nat)×Int)) w_1=>
  R (.returned (Value.slice t7.1.1 t7.1.2.1 t7.1.2.2)) w_1
theorem zqq {path:ByteArray}{R:Ending->World->Prop}{w:World}(hT:zl9 path R w):zx P zgj #[(Value.string path)] w R:=
 fnT (.seq .leaf (.seq .leaf (.seq .leaf .leaf))) Tryz.func199 hT
def zmf (path:ByteArray) (R:Ending->World->Prop) (w:World):Prop:=
  qc P zgj #[(Value.string path)] [.slc] false w fun (t5:(Option Addr×Nat×Nat)) w_1=>
  zul .i64 (t5.2.1:Int) 1 fun t9=>
  jv P (Builtin.max_ #[zai,zai] zai #[(Value.int .i64 t9),(Value.int .i64 0)]) (.int .i64) w_1 fun (t10:Int)=>
  jv P (Instr.sliceAt zu (Value.slice t5.1 t5.2.1 t5.2.2) none (some (Value.int .i64 t10)) none) .slc w_1 fun (t11:(Option Addr×Nat×Nat))=>
  qc P jr #[(Value.slice t11.1 t11.2.1 t11.2.2)] [.str] false w_1 fun (t12:ByteArray) w_2=>
  R (.returned (Value.string t12)) w_2
theorem zqj {path:ByteArray}{R:Ending->World->Prop}{w:World}(hT:zmf path R w):zx P ze9 #[(Value.string path)] w R:=
 fnT (.seq .leaf (.seq .leaf (.seq .leaf .leaf))) Tryz.func146 hT
def zmx (list:Option Addr) (list_l ziz:Nat) (R:Ending->World->Prop) (w:World):Prop:=
  qc P zar #[(Value.slice list list_l ziz)] [.slc] false w fun (t10:(Option Addr×Nat×Nat)) w_1=>
  zc1 (Bool×Bool×Int) (fun s w_2 k=>
  qx (decide (s.2.2 < (t10.2.1:Int))) (
  joinP (Bool×Bool) (fun k_1=>
  ixS t10.1 t10.2.1 3 s.2.2 fun t19=>
  ld .str t19 w_2 fun (t21:ByteArray)=>
  qc P ze6 #[(Value.string t21)] [.str,.int .i64] true w_2 fun (t22:(ByteArray×Int)) w_3=>
  qx (t22.2 != 0) (
  R (.returned (Value.tuple #[(Value.slice none 0 0),(Value.int .i64 t22.2)])) w_3) (
  ixS t10.1 t10.2.1 3 s.2.2 fun t31=>
  stC t31 (Value.string t22.1) w_3 fun w_4=>
  joinP Bool (fun k_2=>
  qx s.1 (
  k_2 true w_4) (
  ixS t10.1 t10.2.1 3 s.2.2 fun t37=>
  ld .bool (Addr.add t37 1) w_4 fun (t39:Bool)=>
  qx t39 (
  ixS t10.1 t10.2.1 3 s.2.2 fun t43=>
  ld .str (Addr.add t43 2) w_4 fun (t45:ByteArray)=>
  k_2 (!(t45.toList==(ByteArray.mk #[]).toList)) w_4) (
  k_2 false w_4))) (fun s_1 w_5=>
  qx s.2.1 (
  k_1 (s_1,true) w_5) (
  ixS t10.1 t10.2.1 3 s.2.2 fun t53=>
  ld .str (Addr.add t53 2) w_5 fun (t55:ByteArray)=>
  k_1 (s_1,(decide ((t55.size:Int) > 1024))) w_5)))) (fun s_2 w_6=>
  zfl .i64 s.2.2 1 fun t59=>
  k (s_2.1,s_2.2,t59) w_6)) (
  qx s.1 (
  R (.returned (Value.tuple #[(Value.slice none 0 0),(Value.int .i64 1)])) w_2) (
  qx s.2.1 (
  R (.returned (Value.tuple #[(Value.slice none 0 0),(Value.int .i64 134)])) w_2) (
  R (.returned (Value.tuple #[(Value.slice t10.1 t10.2.1 t10.2.2),(Value.int .i64 0)])) w_2)))) (false,false,0) w_1
theorem zqy {list:Option Addr}{list_l ziz:Nat}{R:Ending->World->Prop}{w:World}(hT:zmx list list_l ziz R w):zx P zh6 #[(Value.slice list list_l ziz)] w R:=
 fnT (.seq .leaf (.seq .leaf (.seq .leaf (.seq (.seq .leaf (.blk (.loop [(4,.bool),(5,.bool),(13,.int .i64)] (.seq .leaf (.seq (.cond .leaf .leaf) (.seq (.jblk [(4,.bool),(5,.bool)] (.seq .leaf (.seq .leaf (.seq (.seq .leaf (.cond (.seq .leaf .leaf) .leaf)) (.seq .leaf (.join [(4,.bool)] .leaf .leaf)))))) .leaf)))))) (.seq (.blk (.seq .leaf (.cond (.seq .leaf .leaf) (.seq .leaf (.cond (.seq .leaf .leaf) .leaf))))) (.seq .leaf .leaf)))))) Tryz.func145 hT
def zoz (list:Option Addr) (list_l ziz:Nat) (R:Ending->World->Prop) (w:World):Prop:=
  qc P zh6 #[(Value.slice list list_l ziz)] [.slc,.int .i64] true w fun (t17:((Option Addr×Nat×Nat)×Int)) w_1=>
  qx (t17.2 != 0) (
  R (.returned (Value.tuple #[(Value.pointer none),(Value.int .i64 t17.2)])) w_1) (
  zde P (Instr.makeMap zo none) .map w_1 fun (t23:(Option Nat)) w_2=>
  jv P (Instr.build zi #[(0,(Value.bool true))]) .any w_2 fun (t24:Value)=>
  jy P (Instr.mapUpdate zo (Value.map t23) (Value.string (ByteArray.mk #[47])) t24) w_2 fun w_3=>
  jv P (Instr.build zkg #[(0,(Value.map t23))]) .any w_3 fun (t26:Value)=>
  zam (Value.cells t26) zkg w_3 fun b27 w_4=>
  zc1 Int (fun s w_5 k=>
  qx (decide (s < (t17.1.2.1:Int))) (
  ixS t17.1.1 t17.1.2.1 3 s fun t32=>
  ldA P 3 t32 w_5 fun t33=>
  zam (zc P qj) qj w_5 fun b7 w_6=>
  jy P (storeVar qj (⟨b7,0,none⟩:Addr) (Value.agg t33)) w_6 fun w_7=>
  zbz w_7 fun w_8=>
  ld .map (⟨b27,0,none⟩:Addr) w_8 fun (t38:(Option Nat))=>
  ld .str (⟨b7,0,none⟩:Addr) w_8 fun (t40:ByteArray)=>
  zlt P (Instr.lookup zo (Value.map t38) (Value.string t40) true) [.any,.bool] w_8 fun (t41:(Value×Bool))=>
  zam (zc P zi) zi w_8 fun b8 w_9=>
  ((zlt P (Instr.lookup zo (Value.map t38) (Value.string t40) true) [.any,.bool] w_9 fun (t41_1:(Value×Bool))=>
  (Value.tuple #[t41_1.1,(Value.bool t41_1.2)])=(Value.tuple #[t41.1,(Value.bool t41.2)])) /\
  ((ld .str (⟨b7,0,none⟩:Addr) w_9 fun (t40_1:ByteArray)=>
  (Value.string t40_1)=(Value.string t40)) /\
  ((ld .map (⟨b27,0,none⟩:Addr) w_9 fun (t38_1:(Option Nat))=>
  (Value.map t38_1)=(Value.map t38)) /\
  jy P (storeVar zi (⟨b8,0,none⟩:Addr) t41.1) w_9 fun w_10=>
  qx t41.2 (
  R (.returned (Value.tuple #[(Value.pointer none),(Value.int .i64 5)])) w_10) (
  zbz w_10 fun w_11=>
  ld .map (⟨b27,0,none⟩:Addr) w_11 fun (t48:(Option Nat))=>
  ld .str (⟨b7,0,none⟩:Addr) w_11 fun (t50:ByteArray)=>
  ld .bool (⟨b7,1,none⟩:Addr) w_11 fun (t52:Bool)=>
  ld .str (⟨b7,2,none⟩:Addr) w_11 fun (t54:ByteArray)=>
  jv P (Instr.build zi #[(0,(Value.bool t52)),(1,(Value.string t54))]) .any w_11 fun (t55:Value)=>
  jy P (Instr.mapUpdate zo (Value.map t48) (Value.string t50) t55) w_11 fun w_12=>
  zfl .i64 s 1 fun t56=>
  k t56 w_12))))) (
  zc1 (Bool×Int) (fun s_1 w_13 k_1=>
  qx (decide (s_1.2 < (t17.1.2.1:Int))) (
  joinP Bool (fun k_2=>
  ixS t17.1.1 t17.1.2.1 3 s_1.2 fun t61=>
  ldA P 3 t61 w_13 fun t62=>
  zam (zc P qj) qj w_13 fun b12 w_14=>
  jy P (storeVar qj (⟨b12,0,none⟩:Addr) (Value.agg t62)) w_14 fun w_15=>
  zbz w_15 fun w_16=>
  ld .map (⟨b27,0,none⟩:Addr) w_16 fun (t67:(Option Nat))=>
  ld .str (⟨b12,0,none⟩:Addr) w_16 fun (t69:ByteArray)=>
  ((qc P ze9 #[(Value.string t69)] [.str] false w_16 fun (t70:ByteArray) w_17=>
  ((ld .map (⟨b27,0,none⟩:Addr) w_17 fun (t67_1:(Option Nat))=>
  (Value.map t67_1)=(Value.map t67)) /\
  zlt P (Instr.lookup zo (Value.map t67) (Value.string t70) true) [.any,.bool] w_17 fun (t71:(Value×Bool))=>
  zam (zc P zi) zi w_17 fun b13 w_18=>
  ((zlt P (Instr.lookup zo (Value.map t67) (Value.string t70) true) [.any,.bool] w_18 fun (t71_1:(Value×Bool))=>
  (Value.tuple #[t71_1.1,(Value.bool t71_1.2)])=(Value.tuple #[t71.1,(Value.bool t71.2)])) /\
  ((ld .str (⟨b12,0,none⟩:Addr) w_18 fun (t69_1:ByteArray)=>
  (Value.string t69_1)=(Value.string t69)) /\
  ((ld .map (⟨b27,0,none⟩:Addr) w_18 fun (t67_2:(Option Nat))=>
  (Value.map t67_2)=(Value.map t67)) /\
  jy P (storeVar zi (⟨b13,0,none⟩:Addr) t71.1) w_18 fun w_19=>
  qx (!t71.2) (
  R (.returned (Value.tuple #[(Value.pointer none),(Value.int .i64 4)])) w_19) (
  qx s_1.1 (
  k_2 true w_19) (
  ld .bool (⟨b13,0,none⟩:Addr) w_19 fun (t79:Bool)=>
  k_2 (!t79) w_19))))))) /\
  (zam (zc P zi) zi w_16 fun b13_1 w_20=>
  ((ld .str (⟨b12,0,none⟩:Addr) w_20 fun (t69_2:ByteArray)=>
  (Value.string t69_2)=(Value.string t69)) /\
  ((ld .map (⟨b27,0,none⟩:Addr) w_20 fun (t67_3:(Option Nat))=>
  (Value.map t67_3)=(Value.map t67)) /\
  qc P ze9 #[(Value.string t69)] [.str] false w_20 fun (t70_1:ByteArray) w_21=>
  ((ld .map (⟨b27,0,none⟩:Addr) w_21 fun (t67_4:(Option Nat))=>
  (Value.map t67_4)=(Value.map t67)) /\
  zlt P (Instr.lookup zo (Value.map t67) (Value.string t70_1) true) [.any,.bool] w_21 fun (t71_2:(Value×Bool))=>
  jy P (storeVar zi (⟨b13_1,0,none⟩:Addr) t71_2.1) w_21 fun w_22=>
  qx (!t71_2.2) (
  R (.returned (Value.tuple #[(Value.pointer none),(Value.int .i64 4)])) w_22) (
  qx s_1.1 (
  k_2 true w_22) (
  ld .bool (⟨b13_1,0,none⟩:Addr) w_22 fun (t79_1:Bool)=>
  k_2 (!t79_1) w_22)))))))) (fun s_2 w_23=>
  zfl .i64 s_1.2 1 fun t82=>
  k_1 (s_2,t82) w_23)) (
  qx s_1.1 (
  R (.returned (Value.tuple #[(Value.pointer none),(Value.int .i64 70)])) w_13) (
  R (.returned (Value.tuple #[(Value.pointer (some (⟨b27,0,none⟩:Addr))),(Value.int .i64 0)])) w_13))) (false,0) w_5)) 0 w_4)
theorem zua {list:Option Addr}{list_l ziz:Nat}{R:Ending->World->Prop}{w:World}(hT:zoz list list_l ziz R w):zx P zlx #[(Value.slice list list_l ziz)] w R:=
 fnT (.seq .leaf (.seq .leaf (.seq (.seq .leaf (.cond (.seq .leaf .leaf) .leaf)) (.seq .leaf (.seq (.seq .leaf (.blk (.loop [(30,.int .i64)] (.seq .leaf (.seq (.cond .leaf .leaf) (.seq (.blk (.seq .leaf (.seq (.seq (.tree (.op 0 [] (.op 1 [] (.op 2 [] (.op 4 [] (.op 3 [] (.op 5 [] (.op 6 [] (.op 7 [] (.op 8 [] (.op 9 [] (.op 10 [3,5,6] (.op 11 [] (.op 12 [] .done)))))))))))))) (.seq .leaf (.cond (.seq .leaf .leaf) .leaf))) (.tree (.op 0 [] (.op 1 [] (.op 2 [] (.op 4 [] (.op 6 [] (.op 8 [] (.op 3 [] (.op 5 [] (.op 7 [] (.op 9 [] (.op 10 [] (.op 11 [] .done)))))))))))))))) .leaf)))))) (.seq .leaf (.seq (.seq .leaf (.blk (.loop [(10,.bool),(59,.int .i64)] (.seq .leaf (.seq (.cond .leaf .leaf) (.seq (.jblk [(10,.bool)] (.seq .leaf (.seq (.tree (.op 0 [] (.op 1 [] (.op 2 [] (.op 4 [] (.op 3 [] (.op 5 [] (.or (.op 6 [3] (.op 7 [] (.op 8 [] (.op 9 [] (.op 10 [] (.op 11 [3,5,7] (.op 12 [] (.op 13 [] .done)))))))) (.op 11 [3,5] (.op 6 [3] (.op 7 [] (.op 8 [] (.op 9 [] (.op 10 [] (.op 12 [] (.op 13 [] .done)))))))))))))))) (.seq (.seq .leaf (.cond (.seq .leaf .leaf) .leaf)) .leaf)))) .leaf)))))) (.seq (.seq .leaf (.cond (.seq .leaf .leaf) .leaf)) (.seq .leaf .leaf))))))))) Tryz.func83 hT
def zjw (f:Option Addr) (path:ByteArray) (R:Ending->World->Prop) (w:World):Prop:=
  zam (zc P zi) zi w fun b4 w_1=>
  qc P zgj #[(Value.string path)] [.slc] false w_1 fun (t13:(Option Addr×Nat×Nat)) w_2=>
  zc1 Int (fun s w_3 k=>
  qx (decide (s < (t13.2.1:Int))) (
  joinP Unit (fun k_1=>
  joinP Unit (fun k_2=>
  zbz w_3 fun w_4=>
  zq f fun p=>
  ld .map p w_4 fun (t23:(Option Nat))=>
  jv P (Instr.sliceAt zu (Value.slice t13.1 t13.2.1 t13.2.2) none (some (Value.int .i64 s)) none) .slc w_4 fun (t26:(Option Addr×Nat×Nat))=>
  ((qc P jr #[(Value.slice t26.1 t26.2.1 t26.2.2)] [.str] false w_4 fun (t27:ByteArray) w_5=>
  ((ld .map p w_5 fun (t23_1:(Option Nat))=>
  (Value.map t23_1)=(Value.map t23)) /\
  zlt P (Instr.lookup zo (Value.map t23) (Value.string t27) true) [.any,.bool] w_5 fun (t28:(Value×Bool))=>
  zam (zc P zi) zi w_5 fun b8 w_6=>
  ((zlt P (Instr.lookup zo (Value.map t23) (Value.string t27) true) [.any,.bool] w_6 fun (t28_1:(Value×Bool))=>
  (Value.tuple #[t28_1.1,(Value.bool t28_1.2)])=(Value.tuple #[t28.1,(Value.bool t28.2)])) /\
  ((jv P (Instr.sliceAt zu (Value.slice t13.1 t13.2.1 t13.2.2) none (some (Value.int .i64 s)) none) .slc w_6 fun (t26_1:(Option Addr×Nat×Nat))=>
  (Value.slice t26_1.1 t26_1.2.1 t26_1.2.2)=(Value.slice t26.1 t26.2.1 t26.2.2)) /\
  ((ld .map p w_6 fun (t23_2:(Option Nat))=>
  (Value.map t23_2)=(Value.map t23)) /\
  jy P (storeVar zi (⟨b8,0,none⟩:Addr) t28.1) w_6 fun w_7=>
  joinP Unit (fun k_3=>
  qx t28.2 (
  ld .bool (⟨b8,0,none⟩:Addr) w_7 fun (t34:Bool)=>
  qx (!t34) (
  jv P (Instr.build zi #[]) .any w_7 fun (t37:Value)=>
  jy P (storeVar zi (⟨b4,0,none⟩:Addr) t37) w_7 fun w_8=>
  ldA P 2 (⟨b4,0,none⟩:Addr) w_8 fun t4=>
  R (.returned (Value.tuple #[(Value.agg t4),(Value.int .i64 70)])) w_8) (
  k_3 () w_7)) (
  k_3 () w_7)) (fun _ w_9=>
  zbz w_9 fun w_10=>
  zq f fun p_1=>
  zfl .i64 s 1 fun t45=>
  ld .map p_1 w_10 fun (t42:(Option Nat))=>
  jv P (Instr.sliceAt zu (Value.slice t13.1 t13.2.1 t13.2.2) none (some (Value.int .i64 t45)) none) .slc w_10 fun (t46:(Option Addr×Nat×Nat))=>
  ((qc P jr #[(Value.slice t46.1 t46.2.1 t46.2.2)] [.str] false w_10 fun (t47:ByteArray) w_11=>
  ((ld .map p_1 w_11 fun (t42_1:(Option Nat))=>
  (Value.map t42_1)=(Value.map t42)) /\
  zlt P (Instr.lookup zo (Value.map t42) (Value.string t47) true) [.any,.bool] w_11 fun (t48:(Value×Bool))=>
  zam (zc P zi) zi w_11 fun b10 w_12=>
  ((zlt P (Instr.lookup zo (Value.map t42) (Value.string t47) true) [.any,.bool] w_12 fun (t48_1:(Value×Bool))=>
  (Value.tuple #[t48_1.1,(Value.bool t48_1.2)])=(Value.tuple #[t48.1,(Value.bool t48.2)])) /\
  ((jv P (Instr.sliceAt zu (Value.slice t13.1 t13.2.1 t13.2.2) none (some (Value.int .i64 t45)) none) .slc w_12 fun (t46_1:(Option Addr×Nat×Nat))=>
  (Value.slice t46_1.1 t46_1.2.1 t46_1.2.2)=(Value.slice t46.1 t46.2.1 t46.2.2)) /\
  ((ld .map p_1 w_12 fun (t42_2:(Option Nat))=>
  (Value.map t42_2)=(Value.map t42)) /\
  jy P (storeVar zi (⟨b10,0,none⟩:Addr) t48.1) w_12 fun w_13=>
  qx (!t48.2) (
  jv P (Instr.build zi #[]) .any w_13 fun (t53:Value)=>
  jy P (storeVar zi (⟨b4,0,none⟩:Addr) t53) w_13 fun w_14=>
  ldA P 2 (⟨b4,0,none⟩:Addr) w_14 fun t4_1=>
  R (.returned (Value.tuple #[(Value.agg t4_1),(Value.int .i64 4)])) w_14) (
  k_2 () w_13)))))) /\
  (zam (zc P zi) zi w_10 fun b10_1 w_15=>
  ((jv P (Instr.sliceAt zu (Value.slice t13.1 t13.2.1 t13.2.2) none (some (Value.int .i64 t45)) none) .slc w_15 fun (t46_2:(Option Addr×Nat×Nat))=>
  (Value.slice t46_2.1 t46_2.2.1 t46_2.2.2)=(Value.slice t46.1 t46.2.1 t46.2.2)) /\
  ((ld .map p_1 w_15 fun (t42_3:(Option Nat))=>
  (Value.map t42_3)=(Value.map t42)) /\
  qc P jr #[(Value.slice t46.1 t46.2.1 t46.2.2)] [.str] false w_15 fun (t47_1:ByteArray) w_16=>
  ((ld .map p_1 w_16 fun (t42_4:(Option Nat))=>
  (Value.map t42_4)=(Value.map t42)) /\
  zlt P (Instr.lookup zo (Value.map t42) (Value.string t47_1) true) [.any,.bool] w_16 fun (t48_2:(Value×Bool))=>
  jy P (storeVar zi (⟨b10_1,0,none⟩:Addr) t48_2.1) w_16 fun w_17=>
  qx (!t48_2.2) (
  jv P (Instr.build zi #[]) .any w_17 fun (t53_1:Value)=>
  jy P (storeVar zi (⟨b4,0,none⟩:Addr) t53_1) w_17 fun w_18=>
  ldA P 2 (⟨b4,0,none⟩:Addr) w_18 fun t4_2=>
  R (.returned (Value.tuple #[(Value.agg t4_2),(Value.int .i64 4)])) w_18) (
  k_2 () w_17)))))))))))) /\
  (zam (zc P zi) zi w_4 fun b8_1 w_19=>
  ((jv P (Instr.sliceAt zu (Value.slice t13.1 t13.2.1 t13.2.2) none (some (Value.int .i64 s)) none) .slc w_19 fun (t26_2:(Option Addr×Nat×Nat))=>
  (Value.slice t26_2.1 t26_2.2.1 t26_2.2.2)=(Value.slice t26.1 t26.2.1 t26.2.2)) /\
  ((ld .map p w_19 fun (t23_3:(Option Nat))=>
  (Value.map t23_3)=(Value.map t23)) /\
  qc P jr #[(Value.slice t26.1 t26.2.1 t26.2.2)] [.str] false w_19 fun (t27_1:ByteArray) w_20=>
  ((ld .map p w_20 fun (t23_4:(Option Nat))=>
  (Value.map t23_4)=(Value.map t23)) /\
  zlt P (Instr.lookup zo (Value.map t23) (Value.string t27_1) true) [.any,.bool] w_20 fun (t28_2:(Value×Bool))=>
  jy P (storeVar zi (⟨b8_1,0,none⟩:Addr) t28_2.1) w_20 fun w_21=>
  joinP Unit (fun k_4=>
  qx t28_2.2 (
  ld .bool (⟨b8_1,0,none⟩:Addr) w_21 fun (t34_1:Bool)=>
  qx (!t34_1) (
  jv P (Instr.build zi #[]) .any w_21 fun (t37_1:Value)=>
  jy P (storeVar zi (⟨b4,0,none⟩:Addr) t37_1) w_21 fun w_22=>
  ldA P 2 (⟨b4,0,none⟩:Addr) w_22 fun t4_3=>
  R (.returned (Value.tuple #[(Value.agg t4_3),(Value.int .i64 70)])) w_22) (
  k_4 () w_21)) (
  k_4 () w_21)) (fun _ w_23=>
  zbz w_23 fun w_24=>
  zq f fun p_2=>
  zfl .i64 s 1 fun t45_1=>
  ld .map p_2 w_24 fun (t42_5:(Option Nat))=>
  jv P (Instr.sliceAt zu (Value.slice t13.1 t13.2.1 t13.2.2) none (some (Value.int .i64 t45_1)) none) .slc w_24 fun (t46_3:(Option Addr×Nat×Nat))=>
  ((qc P jr #[(Value.slice t46_3.1 t46_3.2.1 t46_3.2.2)] [.str] false w_24 fun (t47_2:ByteArray) w_25=>
  ((ld .map p_2 w_25 fun (t42_6:(Option Nat))=>
  (Value.map t42_6)=(Value.map t42_5)) /\
  zlt P (Instr.lookup zo (Value.map t42_5) (Value.string t47_2) true) [.any,.bool] w_25 fun (t48_3:(Value×Bool))=>
  zam (zc P zi) zi w_25 fun b10_2 w_26=>
  ((zlt P (Instr.lookup zo (Value.map t42_5) (Value.string t47_2) true) [.any,.bool] w_26 fun (t48_4:(Value×Bool))=>
  (Value.tuple #[t48_4.1,(Value.bool t48_4.2)])=(Value.tuple #[t48_3.1,(Value.bool t48_3.2)])) /\
  ((jv P (Instr.sliceAt zu (Value.slice t13.1 t13.2.1 t13.2.2) none (some (Value.int .i64 t45_1)) none) .slc w_26 fun (t46_4:(Option Addr×Nat×Nat))=>
  (Value.slice t46_4.1 t46_4.2.1 t46_4.2.2)=(Value.slice t46_3.1 t46_3.2.1 t46_3.2.2)) /\
  ((ld .map p_2 w_26 fun (t42_7:(Option Nat))=>
  (Value.map t42_7)=(Value.map t42_5)) /\
  jy P (storeVar zi (⟨b10_2,0,none⟩:Addr) t48_3.1) w_26 fun w_27=>
  qx (!t48_3.2) (
  jv P (Instr.build zi #[]) .any w_27 fun (t53_2:Value)=>
  jy P (storeVar zi (⟨b4,0,none⟩:Addr) t53_2) w_27 fun w_28=>
  ldA P 2 (⟨b4,0,none⟩:Addr) w_28 fun t4_4=>
  R (.returned (Value.tuple #[(Value.agg t4_4),(Value.int .i64 4)])) w_28) (
  k_2 () w_27)))))) /\
  (zam (zc P zi) zi w_24 fun b10_3 w_29=>
  ((jv P (Instr.sliceAt zu (Value.slice t13.1 t13.2.1 t13.2.2) none (some (Value.int .i64 t45_1)) none) .slc w_29 fun (t46_5:(Option Addr×Nat×Nat))=>
  (Value.slice t46_5.1 t46_5.2.1 t46_5.2.2)=(Value.slice t46_3.1 t46_3.2.1 t46_3.2.2)) /\
  ((ld .map p_2 w_29 fun (t42_8:(Option Nat))=>
  (Value.map t42_8)=(Value.map t42_5)) /\
  qc P jr #[(Value.slice t46_3.1 t46_3.2.1 t46_3.2.2)] [.str] false w_29 fun (t47_3:ByteArray) w_30=>
  ((ld .map p_2 w_30 fun (t42_9:(Option Nat))=>
  (Value.map t42_9)=(Value.map t42_5)) /\
  zlt P (Instr.lookup zo (Value.map t42_5) (Value.string t47_3) true) [.any,.bool] w_30 fun (t48_5:(Value×Bool))=>
  jy P (storeVar zi (⟨b10_3,0,none⟩:Addr) t48_5.1) w_30 fun w_31=>
  qx (!t48_5.2) (
  jv P (Instr.build zi #[]) .any w_31 fun (t53_3:Value)=>
  jy P (storeVar zi (⟨b4,0,none⟩:Addr) t53_3) w_31 fun w_32=>
  ldA P 2 (⟨b4,0,none⟩:Addr) w_32 fun t4_5=>
  R (.returned (Value.tuple #[(Value.agg t4_5),(Value.int .i64 4)])) w_32) (
  k_2 () w_31))))))))))))) (fun _ w_33=>
  k_1 () w_33)) (fun _ w_34=>
  zfl .i64 s 1 fun t54=>
  k t54 w_34)) (
  zq f fun p_3=>
  ld .map p_3 w_3 fun (t58:(Option Nat))=>
  jv P (Instr.lookup zo (Value.map t58) (Value.string path) false) .any w_3 fun (t60:Value)=>
  jy P (storeVar zi (⟨b4,0,none⟩:Addr) t60) w_3 fun w_35=>
  ldA P 2 (⟨b4,0,none⟩:Addr) w_35 fun t4_6=>
  R (.returned (Value.tuple #[(Value.agg t4_6),(Value.int .i64 0)])) w_35)) 0 w_2
theorem zof {f:Option Addr}{path:ByteArray}{R:Ending->World->Prop}{w:World}(hT:zjw f path R w):zx P zgt #[(Value.pointer f),(Value.string path)] w R:=
 fnT (.seq .leaf (.seq .leaf (.seq (.seq .leaf (.blk (.loop [(16,.int .i64)] (.seq .leaf (.seq (.cond .leaf .leaf) (.join [] (.jblk [] (.seq .leaf (.seq (.tree (.op 0 [] (.op 1 [] (.op 2 [] (.op 4 [] (.op 5 [] (.op 3 [] (.op 6 [] (.or (.op 7 [3] (.op 8 [] (.op 9 [] (.op 10 [] (.op 11 [] (.op 12 [3,6,8] (.op 13 [] (.op 14 [] .done)))))))) (.op 12 [3,6] (.op 7 [3] (.op 8 [] (.op 9 [] (.op 10 [] (.op 11 [] (.op 13 [] (.op 14 [] .done))))))))))))))))) (.join [] (.seq .leaf (.cond (.seq .leaf .leaf) .leaf)) (.seq (.tree (.op 0 [] (.op 1 [] (.op 2 [] (.op 4 [] (.op 5 [] (.op 6 [] (.op 3 [] (.op 7 [] (.or (.op 8 [3] (.op 9 [] (.op 10 [] (.op 11 [] (.op 12 [] (.op 13 [3,7,9] (.op 14 [] (.op 15 [] .done)))))))) (.op 13 [3,7] (.op 8 [3] (.op 9 [] (.op 10 [] (.op 11 [] (.op 12 [] (.op 14 [] (.op 15 [] .done)))))))))))))))))) (.seq .leaf (.cond (.seq .leaf .leaf) .leaf))))))) .leaf)))))) (.seq .leaf .leaf)))) Tryz.func200 hT
def ziw (f:Option Addr) (path:ByteArray) (R:Ending->World->Prop) (w:World):Prop:=
  qc P ze9 #[(Value.string path)] [.str] false w fun (t10:ByteArray) w_1=>
  qc P zgt #[(Value.pointer f),(Value.string t10)] [.any,.int .i64] true w_1 fun (t11:(Value×Int)) w_2=>
  zam (zc P zi) zi w_2 fun b5 w_3=>
  jy P (storeVar zi (⟨b5,0,none⟩:Addr) t11.1) w_3 fun w_4=>
  joinP Unit (fun k=>
  qx (t11.2==0) (
  ld .bool (⟨b5,0,none⟩:Addr) w_4 fun (t18:Bool)=>
  qx (!t18) (
  R (.returned (Value.int .i64 70)) w_4) (
  k () w_4)) (
  k () w_4)) (fun _ w_5=>
  R (.returned (Value.int .i64 t11.2)) w_5)
theorem znf {f:Option Addr}{path:ByteArray}{R:Ending->World->Prop}{w:World}(hT:ziw f path R w):zx P zf3 #[(Value.pointer f),(Value.string path)] w R:=
 fnT (.seq .leaf (.seq .leaf (.join [] (.seq .leaf (.cond (.seq .leaf .leaf) .leaf)) (.seq .leaf .leaf)))) Tryz.func202 hT
def zj3 (f:Option Addr) (o:Value) (R:Ending->World->Prop) (w:World):Prop:=
  zam (Value.cells o) xg w fun b3 w_1=>
  zam (zc P zf) zf w_1 fun b4 w_2=>
  ld .str (⟨b3,1,none⟩:Addr) w_2 fun (t9:ByteArray)=>
  qx (t9.toList==(ByteArray.mk #[47]).toList) (
  qc P zce #[(Value.int .i64 5)] [.any] false w_2 fun (t11:Value) w_3=>
  jy P (storeVar zf (⟨b4,0,none⟩:Addr) t11) w_3 fun w_4=>
  ldA P 5 (⟨b4,0,none⟩:Addr) w_4 fun t4=>
  R (.returned (Value.agg t4)) w_4) (
  ld .str (⟨b3,1,none⟩:Addr) w_2 fun (t14:ByteArray)=>
  qc P zf3 #[(Value.pointer f),(Value.string t14)] [.int .i64] false w_2 fun (t15:Int) w_5=>
  qx (t15 != 0) (
  qc P zce #[(Value.int .i64 t15)] [.any] false w_5 fun (t19:Value) w_6=>
  jy P (storeVar zf (⟨b4,0,none⟩:Addr) t19) w_6 fun w_7=>
  ldA P 5 (⟨b4,0,none⟩:Addr) w_7 fun t4_1=>
  R (.returned (Value.agg t4_1)) w_7) (
  zbz w_5 fun w_8=>
  zq f fun p=>
  ld .map p w_8 fun (t24:(Option Nat))=>
  ld .str (⟨b3,1,none⟩:Addr) w_8 fun (t26:ByteArray)=>
  zlt P (Instr.lookup zo (Value.map t24) (Value.string t26) true) [.any,.bool] w_8 fun (t27:(Value×Bool))=>
  zam (zc P zi) zi w_8 fun b6 w_9=>
  ((zlt P (Instr.lookup zo (Value.map t24) (Value.string t26) true) [.any,.bool] w_9 fun (t27_1:(Value×Bool))=>
  (Value.tuple #[t27_1.1,(Value.bool t27_1.2)])=(Value.tuple #[t27.1,(Value.bool t27.2)])) /\
  ((ld .str (⟨b3,1,none⟩:Addr) w_9 fun (t26_1:ByteArray)=>
  (Value.string t26_1)=(Value.string t26)) /\
  ((ld .map p w_9 fun (t24_1:(Option Nat))=>
  (Value.map t24_1)=(Value.map t24)) /\
  jy P (storeVar zi (⟨b6,0,none⟩:Addr) t27.1) w_9 fun w_10=>
  qx t27.2 (
  qc P zce #[(Value.int .i64 5)] [.any] false w_10 fun (t31:Value) w_11=>
  jy P (storeVar zf (⟨b4,0,none⟩:Addr) t31) w_11 fun w_12=>
  ldA P 5 (⟨b4,0,none⟩:Addr) w_12 fun t4_2=>
  R (.returned (Value.agg t4_2)) w_12) (
  zbz w_10 fun w_13=>
  zq f fun p_1=>
  ld .map p_1 w_13 fun (t35:(Option Nat))=>
  ld .str (⟨b3,1,none⟩:Addr) w_13 fun (t37:ByteArray)=>
  ld (.int .i64) (⟨b3,0,none⟩:Addr) w_13 fun (t39:Int)=>
  jv P (Instr.build zi #[(0,(Value.bool (t39==1)))]) .any w_13 fun (t41:Value)=>
  jy P (Instr.mapUpdate zo (Value.map t35) (Value.string t37) t41) w_13 fun w_14=>
  jv P (Instr.build zf #[]) .any w_14 fun (t42:Value)=>
  jy P (storeVar zf (⟨b4,0,none⟩:Addr) t42) w_14 fun w_15=>
  ldA P 5 (⟨b4,0,none⟩:Addr) w_15 fun t4_3=>
  R (.returned (Value.agg t4_3)) w_15))))))
theorem zod {f:Option Addr}{o:Value}{R:Ending->World->Prop}{w:World}(hT:zj3 f o R w):zx P zdo #[(Value.pointer f),o] w R:=
 fnT (.seq .leaf (.seq (.seq .leaf (.cond (.seq .leaf .leaf) .leaf)) (.seq (.seq .leaf (.seq .leaf (.cond (.seq .leaf .leaf) .leaf))) (.seq (.seq (.tree (.op 0 [] (.op 1 [] (.op 2 [] (.op 4 [] (.op 3 [] (.op 5 [] (.op 6 [] (.op 7 [] (.op 8 [] (.op 9 [] (.op 10 [3,5,6] (.op 11 [] (.op 12 [] .done)))))))))))))) (.seq .leaf (.cond (.seq .leaf .leaf) .leaf))) (.seq (.tree (.op 0 [] (.op 1 [] (.op 2 [] (.op 4 [] (.op 6 [] (.op 3 [] (.op 5 [] (.op 7 [] (.op 8 [] (.op 9 [] (.op 10 [] .done)))))))))))) (.seq .leaf .leaf)))))) Tryz.func149 hT
def zn6 (e:Int) (R:Ending->World->Prop) (w:World):Prop:=
  zam (zc P zf) zf w fun b2 w_1=>
  jv P (Instr.build zf #[(0,(Value.int .i64 e))]) .any w_1 fun (t4:Value)=>
  jy P (storeVar zf (⟨b2,0,none⟩:Addr) t4) w_1 fun w_2=>
  ldA P 5 (⟨b2,0,none⟩:Addr) w_2 fun t2=>
  R (.returned (Value.agg t2)) w_2
theorem zsq {e:Int}{R:Ending->World->Prop}{w:World}(hT:zn6 e R w):zx P zce #[(Value.int .i64 e)] w R:=
 fnT (.seq .leaf (.seq .leaf .leaf)) Tryz.func147 hT
def zmo (f:Option Addr) (o:Value) (R:Ending->World->Prop) (w:World):Prop:=
  zam (Value.cells o) xg w fun b3 w_1=>
  zam (zc P zf) zf w_1 fun b4 w_2=>
  qx (Option.isNone f) (
  qc P zce #[(Value.int .i64 7)] [.any] false w_2 fun (t9:Value) w_3=>
  jy P (storeVar zf (⟨b4,0,none⟩:Addr) t9) w_3 fun w_4=>
  ldA P 5 (⟨b4,0,none⟩:Addr) w_4 fun t4=>
  R (.returned (Value.agg t4)) w_4) (
  ldA P 6 (⟨b3,0,none⟩:Addr) w_2 fun t10=>
  qc P zkb #[(Value.agg t10)] [.int .i64] false w_2 fun (t11:Int) w_5=>
  qx (t11 != 0) (
  qc P zce #[(Value.int .i64 t11)] [.any] false w_5 fun (t15:Value) w_6=>
  jy P (storeVar zf (⟨b4,0,none⟩:Addr) t15) w_6 fun w_7=>
  ldA P 5 (⟨b4,0,none⟩:Addr) w_7 fun t4_1=>
  R (.returned (Value.agg t4_1)) w_7) (
  jv P (Instr.makeFunc (Go.Fn.func zqn) #[(Value.pointer f)] #[]) .any w_5 fun (t17:Value)=>
  ld (.int .i64) (⟨b3,0,none⟩:Addr) w_5 fun (t19:Int)=>
  joinP Value (fun k=>
  qx (t19==11) (
  jv P (Instr.build zf #[]) .any w_5 fun (t22:Value)=>
  jy P (storeVar zf (⟨b4,0,none⟩:Addr) t22) w_5 fun w_8=>
  ldA P 5 (⟨b4,0,none⟩:Addr) w_8 fun t4_2=>
  R (.returned (Value.agg t4_2)) w_8) (
  joinP Bool (fun k_1=>
  qx (t19==1) (
  k_1 (t19==1) w_5) (
  k_1 (t19==2) w_5)) (fun s w_9=>
  qx s (
  jv P (Instr.makeFunc (Go.Fn.func zdo) #[(Value.pointer f)] #[]) .any w_9 fun (t27:Value)=>
  k t27 w_9) (
  joinP Bool (fun k_2=>
  qx (t19==3) (
  k_2 (t19==3) w_9) (
  k_2 (t19==4) w_9)) (fun s_1 w_10=>
  qx s_1 (
  jv P (Instr.makeFunc (Go.Fn.func zqg) #[(Value.pointer f)] #[]) .any w_10 fun (t32:Value)=>
  k t32 w_10) (
  joinP Bool (fun k_3=>
  qx (t19==5) (
  k_3 (t19==5) w_10) (
  k_3 (t19==6) w_10)) (fun s_2 w_11=>
  qx s_2 (
  jv P (Instr.makeFunc (Go.Fn.func zns) #[(Value.pointer f)] #[]) .any w_11 fun (t37:Value)=>
  k t37 w_11) (
  qx (t19==7) (
  jv P (Instr.makeFunc (Go.Fn.func znm) #[(Value.pointer f)] #[]) .any w_11 fun (t41:Value)=>
  k t41 w_11) (
  k t17 w_11))))))))) (fun s_3 w_12=>
  ld .str (⟨b3,1,none⟩:Addr) w_12 fun (t44:ByteArray)=>
  qc P ze6 #[(Value.string t44)] [.str,.int .i64] true w_12 fun (t45:(ByteArray×Int)) w_13=>
  stC (⟨b3,1,none⟩:Addr) (Value.string t45.1) w_13 fun w_14=>
  joinP Unit (fun k_4=>
  ld (.int .i64) (⟨b3,0,none⟩:Addr) w_14 fun (t50:Int)=>
  qx (t50==7) (
  ld .str (⟨b3,2,none⟩:Addr) w_14 fun (t54:ByteArray)=>
  qc P ze6 #[(Value.string t54)] [.str,.int .i64] true w_14 fun (t55:(ByteArray×Int)) w_15=>
  stC (⟨b3,2,none⟩:Addr) (Value.string t55.1) w_15 fun w_16=>
  k_4 () w_16) (
  k_4 () w_14)) (fun _ w_17=>
  ldA P 6 (⟨b3,0,none⟩:Addr) w_17 fun t60=>
  zpi P s_3 #[(Value.agg t60)] [.any] false w_17 fun (t61:Value) w_18=>
  jy P (storeVar zf (⟨b4,0,none⟩:Addr) t61) w_18 fun w_19=>
  ldA P 5 (⟨b4,0,none⟩:Addr) w_19 fun t4_3=>
  R (.returned (Value.agg t4_3)) w_19))))
theorem zqc {f:Option Addr}{o:Value}{R:Ending->World->Prop}{w:World}(hT:zmo f o R w):zx P zgm #[(Value.pointer f),o] w R:=
 fnT (.seq .leaf (.seq (.seq .leaf (.cond (.seq .leaf .leaf) .leaf)) (.seq (.seq .leaf (.seq .leaf (.cond (.seq .leaf .leaf) .leaf))) (.seq .leaf (.seq (.seq .leaf (.jblk [(6,.any)] (.seq .leaf (.cond (.seq .leaf .leaf) (.join [(23,.bool)] (.seq .leaf (.cond .leaf .leaf)) (.cond .leaf (.join [(28,.bool)] (.seq .leaf (.cond .leaf .leaf)) (.cond .leaf (.join [(33,.bool)] (.seq .leaf (.cond .leaf .leaf)) (.cond .leaf (.seq .leaf (.cond .leaf .leaf)))))))))))) (.seq .leaf (.join [] (.seq .leaf (.cond .leaf .leaf)) (.seq .leaf .leaf)))))))) Tryz.func84 hT
def zia (s:Option Addr) (lowers:Option Addr) (lowers_l lowers_c:Nat) (u:Option Addr) (R:Ending->World->Prop) (w:World):Prop:=
  joinP Bool (fun k=>
  qx (Option.isNone s) (
  k true w) (
  k (Option.isNone u) w)) (fun s_1 w_1=>
  qx s_1 (
  R (.returned (Value.tuple #[(Value.pointer none),(Value.int .i64 7)])) w_1) (
  qx (decide ((lowers_l:Int) > 4)) (
  R (.returned (Value.tuple #[(Value.pointer none),(Value.int .i64 8)])) w_1) (
  qc P zcp #[(Value.pointer u)] [.ptr] false w_1 fun (t28:(Option Addr)) w_2=>
  jv P (Instr.build zdu #[(1,(Value.pointer t28))]) .any w_2 fun (t29:Value)=>
  zam (Value.cells t29) zdu w_2 fun b30 w_3=>
  zc1 Int (fun s_2 w_4 k_1=>
  qx (decide (s_2 < (lowers_l:Int))) (
  ixS lowers lowers_l 32 s_2 fun t35=>
  ldA P 32 t35 w_4 fun t36=>
  zam (zc P xq) xq w_4 fun b10 w_5=>
  jy P (storeVar xq (⟨b10,0,none⟩:Addr) (Value.agg t36)) w_5 fun w_6=>
  ldA P 32 (⟨b10,0,none⟩:Addr) w_6 fun t39=>
  qc P zly #[(Value.pointer s),(Value.agg t39)] [.slc,.int .i64] true w_6 fun (t40:((Option Addr×Nat×Nat)×Int)) w_7=>
  qx (t40.2 != 0) (
  R (.returned (Value.tuple #[(Value.pointer none),(Value.int .i64 t40.2)])) w_7) (
  zde P (Instr.makeMap zdx none) .map w_7 fun (t46:(Option Nat)) w_8=>
  zc1 Int (fun s_3 w_9 k_2=>
  qx (decide (s_3 < (t40.1.2.1:Int))) (
  ixS t40.1.1 t40.1.2.1 3 s_3 fun t51=>
  ldA P 3 t51 w_9 fun t52=>
  zam (zc P qj) qj w_9 fun b15 w_10=>
  jy P (storeVar qj (⟨b15,0,none⟩:Addr) (Value.agg t52)) w_10 fun w_11=>
  ld .str (⟨b15,0,none⟩:Addr) w_11 fun (t55:ByteArray)=>
  ldA P 3 (⟨b15,0,none⟩:Addr) w_11 fun t56=>
  jy P (Instr.mapUpdate zdx (Value.map t46) (Value.string t55) (Value.agg t56)) w_11 fun w_12=>
  zfl .i64 s_3 1 fun t57=>
  k_2 t57 w_12) (
  ld .slc (⟨b30,0,none⟩:Addr) w_9 fun (t62:(Option Addr×Nat×Nat))=>
  zde P (Instr.buildSlice zfc 1 #[(0,(Value.map t46))]) .slc w_9 fun (t64:(Option Addr×Nat×Nat)) w_13=>
  zde P (Builtin.append_ #[zfc,zfc] zfc #[(Value.slice t62.1 t62.2.1 t62.2.2),(Value.slice t64.1 t64.2.1 t64.2.2)]) .slc w_13 fun (t65:(Option Addr×Nat×Nat)) w_14=>
  stC (⟨b30,0,none⟩:Addr) (Value.slice t65.1 t65.2.1 t65.2.2) w_14 fun w_15=>
  zfl .i64 s_2 1 fun t68=>
  k_1 t68 w_15)) 0 w_8)) (
  R (.returned (Value.tuple #[(Value.pointer (some (⟨b30,0,none⟩:Addr))),(Value.int .i64 0)])) w_4)) 0 w_3)))
theorem zje {s:Option Addr}{lowers:Option Addr}{lowers_l lowers_c:Nat}{u:Option Addr}{R:Ending->World->Prop}{w:World}(hT:zia s lowers lowers_l lowers_c u R w):zx P zfp #[(Value.pointer s),(Value.slice lowers lowers_l lowers_c),(Value.pointer u)] w R:=
 fnT (.seq .leaf (.seq (.blk (.join [(16,.bool)] .leaf (.cond (.seq .leaf .leaf) (.seq .leaf (.cond (.seq .leaf .leaf) .leaf))))) (.seq .leaf (.seq (.seq .leaf (.blk (.loop [(33,.int .i64)] (.seq .leaf (.seq (.cond .leaf .leaf) (.seq (.blk (.seq .leaf (.seq .leaf (.seq (.seq .leaf (.cond (.seq .leaf .leaf) .leaf)) (.seq .leaf (.seq (.seq .leaf (.blk (.loop [(49,.int .i64)] (.seq .leaf (.seq (.cond .leaf .leaf) (.seq (.blk (.seq .leaf .leaf)) .leaf)))))) .leaf)))))) .leaf)))))) (.seq .leaf .leaf))))) Tryz.func9 hT
def zgp (u:Option Addr) (layers:Option Addr) (layers_l layers_c:Nat) (path:ByteArray) (R:Ending->World->Prop) (w:World):Prop:=
  zam (zc P zh) zh w fun b6 w_1=>
  zam (zc P zh) zh w_1 fun b8 w_2=>
  joinP Unit (fun k=>
  joinP Unit (fun k_1=>
  zc1 Int (fun s w_3 k_2=>
  qx (decide (s < (layers_l:Int))) (
  joinP Unit (fun k_3=>
  joinP Unit (fun k_4=>
  ixS layers layers_l 1 s fun t17=>
  ld (.int .i64) t17 w_3 fun (t18:Int)=>
  zq u fun p=>
  ld .slc p w_3 fun (t23:(Option Addr×Nat×Nat))=>
  ixS t23.1 t23.2.1 1 t18 fun t25=>
  ld .map t25 w_3 fun (t26:(Option Nat))=>
  zlt P (Instr.lookup zdx (Value.map t26) (Value.string path) true) [.any,.bool] w_3 fun (t28:(Value×Bool))=>
  zam (zc P qj) qj w_3 fun b11 w_4=>
  jy P (storeVar qj (⟨b11,0,none⟩:Addr) t28.1) w_4 fun w_5=>
  qx (!t28.2) (
  k_4 () w_5) (
  ld .bool (⟨b11,1,none⟩:Addr) w_5 fun (t34:Bool)=>
  qx (!t34) (
  joinP Unit (fun k_5=>
  ld .slc (⟨b8,3,none⟩:Addr) w_5 fun (t37:(Option Addr×Nat×Nat))=>
  qx ((t37.2.1:Int)==0) (
  ldA P 3 (⟨b11,0,none⟩:Addr) w_5 fun t40=>
  jy P (storeVar qj (⟨b8,0,none⟩:Addr) (Value.agg t40)) w_5 fun w_6=>
  k_5 () w_6) (
  k_5 () w_5)) (fun _ w_7=>
  k_1 () w_7)) (
  zbz w_5 fun w_8=>
  ldA P 3 (⟨b11,0,none⟩:Addr) w_8 fun t42=>
  ld .slc (⟨b8,3,none⟩:Addr) w_8 fun (t44:(Option Addr×Nat×Nat))=>
  zde P (Instr.buildSlice zik 1 #[(0,(Value.int .i64 t18))]) .slc w_8 fun (t46:(Option Addr×Nat×Nat)) w_9=>
  ((ld .slc (⟨b8,3,none⟩:Addr) w_9 fun (t44_1:(Option Addr×Nat×Nat))=>
  (Value.slice t44_1.1 t44_1.2.1 t44_1.2.2)=(Value.slice t44.1 t44.2.1 t44.2.2)) /\
  ((ldA P 3 (⟨b11,0,none⟩:Addr) w_9 fun t42_1=>
  (Value.agg t42_1)=(Value.agg t42)) /\
  zde P (Builtin.append_ #[zik,zik] zik #[(Value.slice t44.1 t44.2.1 t44.2.2),(Value.slice t46.1 t46.2.1 t46.2.2)]) .slc w_9 fun (t47:(Option Addr×Nat×Nat)) w_10=>
  ((ldA P 3 (⟨b11,0,none⟩:Addr) w_10 fun t42_2=>
  (Value.agg t42_2)=(Value.agg t42)) /\
  jy P (storeVar qj (⟨b8,0,none⟩:Addr) (Value.agg t42)) w_10 fun w_11=>
  stC (⟨b8,3,none⟩:Addr) (Value.slice t47.1 t47.2.1 t47.2.2) w_11 fun w_12=>
  k_4 () w_12)))))) (fun _ w_13=>
  k_3 () w_13)) (fun _ w_14=>
  zfl .i64 s 1 fun t50=>
  k_2 t50 w_14)) (
  k_1 () w_3)) 0 w_2) (fun _ w_15=>
  k () w_15)) (fun _ w_16=>
  zbz w_16 fun w_17=>
  ldA P 5 (⟨b8,0,none⟩:Addr) w_17 fun t51=>
  ld .str (⟨b8,0,none⟩:Addr) w_17 fun (t54:ByteArray)=>
  jy P (storeVar zh (⟨b6,0,none⟩:Addr) (Value.agg t51)) w_17 fun w_18=>
  ((ld .str (⟨b8,0,none⟩:Addr) w_18 fun (t54_1:ByteArray)=>
  (Value.string t54_1)=(Value.string t54)) /\
  ldA P 5 (⟨b6,0,none⟩:Addr) w_18 fun t6=>
  R (.returned (Value.tuple #[(Value.agg t6),(Value.bool (!(t54.toList==(ByteArray.mk #[]).toList)))])) w_18))
theorem zkp {u:Option Addr}{layers:Option Addr}{layers_l layers_c:Nat}{path:ByteArray}{R:Ending->World->Prop}{w:World}(hT:zgp u layers layers_l layers_c path R w):zx P zcq #[(Value.pointer u),(Value.slice layers layers_l layers_c),(Value.string path)] w R:=
 fnT (.seq .leaf (.seq .leaf (.join [] (.seq .leaf (.jblk [] (.loop [(15,.int .i64)] (.seq .leaf (.seq (.cond .leaf .leaf) (.join [] (.jblk [] (.seq .leaf (.seq .leaf (.seq (.seq .leaf (.cond .leaf .leaf)) (.seq (.seq .leaf (.cond (.join [] (.seq .leaf (.cond .leaf .leaf)) .leaf) .leaf)) (.tree (.op 1 [] (.op 3 [] (.op 0 [] (.op 2 [] (.op 6 [] (.op 4 [0,2] (.op 5 [0] (.op 7 [] (.op 8 [] (.op 9 [] .done)))))))))))))))) .leaf)))))) (.seq (.tree (.op 1 [] (.op 2 [] (.op 0 [] (.op 3 [] (.op 4 [] (.op 5 [3] (.op 6 [] .done)))))))) .leaf)))) Tryz.func46 hT
def zhc (u:Option Addr) (dir:Value) (names:Option Addr) (names_l jf:Nat) (R:Ending->World->Prop) (w:World):Prop:=
  zam (Value.cells dir) zh w fun b4 w_1=>
  zam (zc P zh) zh w_1 fun b6 w_2=>
  qc P jr #[(Value.slice names names_l jf)] [.str] false w_2 fun (t14:ByteArray) w_3=>
  ld .slc (⟨b4,3,none⟩:Addr) w_3 fun (t18:(Option Addr×Nat×Nat))=>
  qc P zcq #[(Value.pointer u),(Value.slice t18.1 t18.2.1 t18.2.2),(Value.string t14)] [.any,.bool] true w_3 fun (t20:(Value×Bool)) w_4=>
  zam (zc P zh) zh w_4 fun b9 w_5=>
  jy P (storeVar zh (⟨b9,0,none⟩:Addr) t20.1) w_5 fun w_6=>
  ld .bool (⟨b4,4,none⟩:Addr) w_6 fun (t24:Bool)=>
  qx (!t24) (
  ldA P 5 (⟨b9,0,none⟩:Addr) w_6 fun t26=>
  jy P (storeVar zh (⟨b6,0,none⟩:Addr) (Value.agg t26)) w_6 fun w_7=>
  ldA P 5 (⟨b6,0,none⟩:Addr) w_7 fun t6=>
  R (.returned (Value.tuple #[(Value.agg t6),(Value.bool t20.2)])) w_7) (
  zq u fun p=>
  ld .ptr (Addr.add p 1) w_6 fun (t32:(Option Addr))=>
  qc P zcd #[(Value.pointer t32),(Value.slice names names_l jf)] [.any,.bool] true w_6 fun (t34:(Value×Bool)) w_8=>
  zam (zc P zk) zk w_8 fun b11 w_9=>
  jy P (storeVar zk (⟨b11,0,none⟩:Addr) t34.1) w_9 fun w_10=>
  joinP Unit (fun k=>
  joinP Unit (fun k_1=>
  qx (!t34.2) (
  ldA P 5 (⟨b9,0,none⟩:Addr) w_10 fun t40=>
  jy P (storeVar zh (⟨b6,0,none⟩:Addr) (Value.agg t40)) w_10 fun w_11=>
  ldA P 5 (⟨b6,0,none⟩:Addr) w_11 fun t6_1=>
  R (.returned (Value.tuple #[(Value.agg t6_1),(Value.bool t20.2)])) w_11) (
  ld (.int .i64) (⟨b11,1,none⟩:Addr) w_10 fun (t44:Int)=>
  qx (t44==3) (
  jv P (Instr.build zh #[]) .any w_10 fun (t46:Value)=>
  jy P (storeVar zh (⟨b6,0,none⟩:Addr) t46) w_10 fun w_12=>
  ldA P 5 (⟨b6,0,none⟩:Addr) w_12 fun t6_2=>
  R (.returned (Value.tuple #[(Value.agg t6_2),(Value.bool false)])) w_12) (
  ld (.int .i64) (⟨b11,1,none⟩:Addr) w_10 fun (t49:Int)=>
  qx (t49==1) (
  ld .str (⟨b11,3,none⟩:Addr) w_10 fun (t53:ByteArray)=>
  jv P (Instr.build qj #[(0,(Value.string t14)),(2,(Value.string t53))]) .any w_10 fun (t54:Value)=>
  jv P (Instr.build zh #[(0,t54)]) .any w_10 fun (t55:Value)=>
  jy P (storeVar zh (⟨b6,0,none⟩:Addr) t55) w_10 fun w_13=>
  ldA P 5 (⟨b6,0,none⟩:Addr) w_13 fun t6_3=>
  R (.returned (Value.tuple #[(Value.agg t6_3),(Value.bool true)])) w_13) (
  ld .bool (⟨b11,2,none⟩:Addr) w_10 fun (t58:Bool)=>
  qx t58 (
  stC (⟨b9,3,none⟩:Addr) (Value.slice none 0 0) w_10 fun w_14=>
  k_1 () w_14) (
  ld .bool (⟨b9,1,none⟩:Addr) w_10 fun (t62:Bool)=>
  qx (!t62) (
  stC (⟨b9,3,none⟩:Addr) (Value.slice none 0 0) w_10 fun w_15=>
  k_1 () w_15) (
  k_1 () w_10)))))) (fun _ w_16=>
  k () w_16)) (fun _ w_17=>
  jv P (Instr.build qj #[(0,(Value.string t14)),(1,(Value.bool true))]) .any w_17 fun (t67:Value)=>
  ld .slc (⟨b9,3,none⟩:Addr) w_17 fun (t69:(Option Addr×Nat×Nat))=>
  jv P (Instr.build zh #[(0,t67),(1,(Value.slice t69.1 t69.2.1 t69.2.2)),(2,(Value.bool true))]) .any w_17 fun (t70:Value)=>
  jy P (storeVar zh (⟨b6,0,none⟩:Addr) t70) w_17 fun w_18=>
  ldA P 5 (⟨b6,0,none⟩:Addr) w_18 fun t6_4=>
  R (.returned (Value.tuple #[(Value.agg t6_4),(Value.bool true)])) w_18))
theorem zli {u:Option Addr}{dir:Value}{names:Option Addr}{names_l jf:Nat}{R:Ending->World->Prop}{w:World}(hT:zhc u dir names names_l jf R w):zx P zb1 #[(Value.pointer u),dir,(Value.slice names names_l jf)] w R:=
 fnT (.seq .leaf (.seq .leaf (.seq .leaf (.seq (.seq .leaf (.cond (.seq .leaf .leaf) .leaf)) (.seq .leaf (.join [] (.jblk [] (.seq .leaf (.cond (.seq .leaf .leaf) (.seq .leaf (.cond (.seq .leaf .leaf) (.seq .leaf (.cond (.seq .leaf .leaf) (.seq .leaf (.cond .leaf .leaf))))))))) (.seq .leaf .leaf))))))) Tryz.func94 hT
def zg9 (u:Option Addr) (R:Ending->World->Prop) (w:World):Prop:=
  zam (zc P zh) zh w fun b2 w_1=>
  jv P (Instr.build qj #[(0,(Value.string (ByteArray.mk #[47]))),(1,(Value.bool true))]) .any w_1 fun (t5:Value)=>
  jv P (Instr.build zh #[(0,t5),(2,(Value.bool true))]) .any w_1 fun (t6:Value)=>
  zam (zc P zh) zh w_1 fun b3 w_2=>
  jy P (storeVar zh (⟨b3,0,none⟩:Addr) t6) w_2 fun w_3=>
  zq u fun p=>
  ld .slc p w_3 fun (t10:(Option Addr×Nat×Nat))=>
  zc1 Int (fun s w_4 k=>
  qx (decide (s < (t10.2.1:Int))) (
  ld .slc (⟨b3,3,none⟩:Addr) w_4 fun (t16:(Option Addr×Nat×Nat))=>
  zde P (Instr.buildSlice zik 1 #[(0,(Value.int .i64 s))]) .slc w_4 fun (t18:(Option Addr×Nat×Nat)) w_5=>
  zde P (Builtin.append_ #[zik,zik] zik #[(Value.slice t16.1 t16.2.1 t16.2.2),(Value.slice t18.1 t18.2.1 t18.2.2)]) .slc w_5 fun (t19:(Option Addr×Nat×Nat)) w_6=>
  stC (⟨b3,3,none⟩:Addr) (Value.slice t19.1 t19.2.1 t19.2.2) w_6 fun w_7=>
  zfl .i64 s 1 fun t21=>
  k t21 w_7) (
  ldA P 5 (⟨b3,0,none⟩:Addr) w_4 fun t22=>
  jy P (storeVar zh (⟨b2,0,none⟩:Addr) (Value.agg t22)) w_4 fun w_8=>
  ldA P 5 (⟨b2,0,none⟩:Addr) w_8 fun t2=>
  R (.returned (Value.agg t2)) w_8)) 0 w_3
theorem zlo {u:Option Addr}{R:Ending->World->Prop}{w:World}(hT:zg9 u R w):zx P zdb #[(Value.pointer u)] w R:=
 fnT (.seq .leaf (.seq .leaf (.seq (.seq .leaf (.blk (.loop [(12,.int .i64)] (.seq .leaf (.seq (.cond .leaf .leaf) (.seq (.blk (.seq .leaf .leaf)) .leaf)))))) (.seq .leaf .leaf)))) Tryz.func43 hT
def zhf (u:Option Addr) (names:Option Addr) (names_l jf:Nat) (R:Ending->World->Prop) (w:World):Prop:=
  zam (zc P zh) zh w fun b4 w_1=>
  qc P zdb #[(Value.pointer u)] [.any] false w_1 fun (t11:Value) w_2=>
  zam (zc P zh) zh w_2 fun b6 w_3=>
  jy P (storeVar zh (⟨b6,0,none⟩:Addr) t11) w_3 fun w_4=>
  zc1 Int (fun s w_5 k=>
  qx (decide (s < (names_l:Int))) (
  joinP Unit (fun k_1=>
  joinP Unit (fun k_2=>
  zbz w_5 fun w_6=>
  zfl .i64 s 1 fun t22=>
  ldA P 5 (⟨b6,0,none⟩:Addr) w_6 fun t19=>
  jv P (Instr.sliceAt zu (Value.slice names names_l jf) none (some (Value.int .i64 t22)) none) .slc w_6 fun (t23:(Option Addr×Nat×Nat))=>
  ((qc P zb1 #[(Value.pointer u),(Value.agg t19),(Value.slice t23.1 t23.2.1 t23.2.2)] [.any,.bool] true w_6 fun (t24:(Value×Bool)) w_7=>
  zam (zc P zh) zh w_7 fun b8 w_8=>
  ((jv P (Instr.sliceAt zu (Value.slice names names_l jf) none (some (Value.int .i64 t22)) none) .slc w_8 fun (t23_1:(Option Addr×Nat×Nat))=>
  (Value.slice t23_1.1 t23_1.2.1 t23_1.2.2)=(Value.slice t23.1 t23.2.1 t23.2.2)) /\
  ((ldA P 5 (⟨b6,0,none⟩:Addr) w_8 fun t19_1=>
  (Value.agg t19_1)=(Value.agg t19)) /\
  jy P (storeVar zh (⟨b8,0,none⟩:Addr) t24.1) w_8 fun w_9=>
  joinP Unit (fun k_3=>
  qx (!t24.2) (
  jv P (Instr.build zh #[]) .any w_9 fun (t35:Value)=>
  jy P (storeVar zh (⟨b4,0,none⟩:Addr) t35) w_9 fun w_10=>
  ldA P 5 (⟨b4,0,none⟩:Addr) w_10 fun t4=>
  R (.returned (Value.tuple #[(Value.agg t4),(Value.bool false)])) w_10) (
  ld .bool (⟨b6,1,none⟩:Addr) w_9 fun (t32:Bool)=>
  qx (!t32) (
  jv P (Instr.build zh #[]) .any w_9 fun (t35_1:Value)=>
  jy P (storeVar zh (⟨b4,0,none⟩:Addr) t35_1) w_9 fun w_11=>
  ldA P 5 (⟨b4,0,none⟩:Addr) w_11 fun t4_1=>
  R (.returned (Value.tuple #[(Value.agg t4_1),(Value.bool false)])) w_11) (
  k_3 () w_9))) (fun _ w_12=>
  ldA P 5 (⟨b8,0,none⟩:Addr) w_12 fun t36=>
  jy P (storeVar zh (⟨b6,0,none⟩:Addr) (Value.agg t36)) w_12 fun w_13=>
  k_2 () w_13)))) /\
  (zam (zc P zh) zh w_6 fun b8_1 w_14=>
  ((jv P (Instr.sliceAt zu (Value.slice names names_l jf) none (some (Value.int .i64 t22)) none) .slc w_14 fun (t23_2:(Option Addr×Nat×Nat))=>
  (Value.slice t23_2.1 t23_2.2.1 t23_2.2.2)=(Value.slice t23.1 t23.2.1 t23.2.2)) /\
  ((ldA P 5 (⟨b6,0,none⟩:Addr) w_14 fun t19_2=>
  (Value.agg t19_2)=(Value.agg t19)) /\
  qc P zb1 #[(Value.pointer u),(Value.agg t19),(Value.slice t23.1 t23.2.1 t23.2.2)] [.any,.bool] true w_14 fun (t24_1:(Value×Bool)) w_15=>
  jy P (storeVar zh (⟨b8_1,0,none⟩:Addr) t24_1.1) w_15 fun w_16=>
  joinP Unit (fun k_4=>
  qx (!t24_1.2) (
  jv P (Instr.build zh #[]) .any w_16 fun (t35_2:Value)=>
  jy P (storeVar zh (⟨b4,0,none⟩:Addr) t35_2) w_16 fun w_17=>
  ldA P 5 (⟨b4,0,none⟩:Addr) w_17 fun t4_2=>
  R (.returned (Value.tuple #[(Value.agg t4_2),(Value.bool false)])) w_17) (
  ld .bool (⟨b6,1,none⟩:Addr) w_16 fun (t32_1:Bool)=>
  qx (!t32_1) (
  jv P (Instr.build zh #[]) .any w_16 fun (t35_3:Value)=>
  jy P (storeVar zh (⟨b4,0,none⟩:Addr) t35_3) w_16 fun w_18=>
  ldA P 5 (⟨b4,0,none⟩:Addr) w_18 fun t4_3=>
  R (.returned (Value.tuple #[(Value.agg t4_3),(Value.bool false)])) w_18) (
  k_4 () w_16))) (fun _ w_19=>
  ldA P 5 (⟨b8_1,0,none⟩:Addr) w_19 fun t36_1=>
  jy P (storeVar zh (⟨b6,0,none⟩:Addr) (Value.agg t36_1)) w_19 fun w_20=>
  k_2 () w_20)))))) (fun _ w_21=>
  k_1 () w_21)) (fun _ w_22=>
  zfl .i64 s 1 fun t37=>
  k t37 w_22)) (
  ldA P 5 (⟨b6,0,none⟩:Addr) w_5 fun t38=>
  jy P (storeVar zh (⟨b4,0,none⟩:Addr) (Value.agg t38)) w_5 fun w_23=>
  ldA P 5 (⟨b4,0,none⟩:Addr) w_23 fun t4_4=>
  R (.returned (Value.tuple #[(Value.agg t4_4),(Value.bool true)])) w_23)) 0 w_4
theorem zlp {u:Option Addr}{names:Option Addr}{names_l jf:Nat}{R:Ending->World->Prop}{w:World}(hT:zhf u names names_l jf R w):zx P zev #[(Value.pointer u),(Value.slice names names_l jf)] w R:=
 fnT (.seq .leaf (.seq .leaf (.seq (.seq .leaf (.blk (.loop [(14,.int .i64)] (.seq .leaf (.seq (.cond .leaf .leaf) (.join [] (.jblk [] (.seq .leaf (.seq (.tree (.op 0 [] (.op 2 [] (.op 3 [] (.op 4 [] (.op 1 [] (.op 5 [] (.or (.op 6 [] (.op 7 [] (.op 8 [] (.op 9 [] (.op 10 [1,5] (.op 11 [] (.op 12 [] .done))))))) (.op 10 [1,5] (.op 6 [] (.op 7 [] (.op 8 [] (.op 9 [] (.op 11 [] (.op 12 [] .done))))))))))))))) (.join [] (.seq .leaf (.cond (.seq .leaf .leaf) .leaf)) .leaf)))) .leaf)))))) (.seq .leaf .leaf)))) Tryz.func45 hT
def zgv (u:Option Addr) (names:Option Addr) (names_l jf:Nat) (R:Ending->World->Prop) (w:World):Prop:=
  joinP Unit (fun k=>
  qx (Option.isNone u) (
  R (.returned (Value.bool false)) w) (
  qx ((names_l:Int)==0) (
  R (.returned (Value.bool false)) w) (
  qc P zgn #[(Value.slice names names_l jf)] [.int .i64] false w fun (t16:Int) w_1=>
  qx (t16 != 0) (
  R (.returned (Value.bool false)) w_1) (
  k () w_1)))) (fun _ w_2=>
  zul .i64 (names_l:Int) 1 fun t24=>
  jv P (Instr.sliceAt zu (Value.slice names names_l jf) none (some (Value.int .i64 t24)) none) .slc w_2 fun (t25:(Option Addr×Nat×Nat))=>
  qc P zev #[(Value.pointer u),(Value.slice t25.1 t25.2.1 t25.2.2)] [.any,.bool] true w_2 fun (t26:(Value×Bool)) w_3=>
  zam (zc P zh) zh w_3 fun b5 w_4=>
  jy P (storeVar zh (⟨b5,0,none⟩:Addr) t26.1) w_4 fun w_5=>
  qx (!t26.2) (
  R (.returned (Value.bool false)) w_5) (
  zbz w_5 fun w_6=>
  ld .slc (⟨b5,3,none⟩:Addr) w_6 fun (t34:(Option Addr×Nat×Nat))=>
  qc P jr #[(Value.slice names names_l jf)] [.str] false w_6 fun (t36:ByteArray) w_7=>
  ((ld .slc (⟨b5,3,none⟩:Addr) w_7 fun (t34_1:(Option Addr×Nat×Nat))=>
  (Value.slice t34_1.1 t34_1.2.1 t34_1.2.2)=(Value.slice t34.1 t34.2.1 t34.2.2)) /\
  qc P zcq #[(Value.pointer u),(Value.slice t34.1 t34.2.1 t34.2.2),(Value.string t36)] [.any,.bool] true w_7 fun (t37:(Value×Bool)) w_8=>
  R (.returned (Value.bool t37.2)) w_8)))
theorem zkq {u:Option Addr}{names:Option Addr}{names_l jf:Nat}{R:Ending->World->Prop}{w:World}(hT:zgv u names names_l jf R w):zx P zbp #[(Value.pointer u),(Value.slice names names_l jf)] w R:=
 fnT (.seq .leaf (.join [] (.seq .leaf (.cond (.seq .leaf .leaf) .leaf)) (.seq .leaf (.seq (.seq .leaf (.cond (.seq .leaf .leaf) .leaf)) (.seq (.tree (.op 0 [] (.op 1 [] (.op 3 [] (.op 2 [] (.op 4 [2] (.op 5 [] (.op 6 [] (.op 7 [] (.op 8 [] (.op 9 [] .done))))))))))) (.seq .leaf .leaf)))))) Tryz.func13 hT
def zg7 (u:Option Addr) (s:Value) (names:Option Addr) (names_l jf:Nat) (R:Ending->World->Prop) (w:World):Prop:=
  zam (Value.cells s) zh w fun b4 w_1=>
  zam #[(Value.slice names names_l jf)] zu w_1 fun b5 w_2=>
  zam (zc P zu) zu w_2 fun b7 w_3=>
  jv P (Instr.makeFunc (Go.Fn.func zae) #[] #[(Value.pointer (some (⟨b5,0,none⟩:Addr))),(Value.pointer (some (⟨b7,0,none⟩:Addr)))]) .any w_3 fun (t14:Value)=>
  ld .slc (⟨b4,3,none⟩:Addr) w_3 fun (t16:(Option Addr×Nat×Nat))=>
  zc1 Int (fun s_1 w_4 k=>
  qx (decide (s_1 < (t16.2.1:Int))) (
  ixS t16.1 t16.2.1 1 s_1 fun t20=>
  ld (.int .i64) t20 w_4 fun (t21:Int)=>
  zq u fun p=>
  ld .slc p w_4 fun (t25:(Option Addr×Nat×Nat))=>
  ixS t25.1 t25.2.1 1 t21 fun t27=>
  ld .map t27 w_4 fun (t28:(Option Nat))=>
  zde P (Instr.range zdx (Value.map t28)) .ptr w_4 fun (t29:(Option Addr)) w_5=>
  zc1 Unit (fun _ w_6 k_1=>
  zde P (Instr.next (Value.pointer t29) false zft) .any w_6 fun (t30:Value) w_7=>
  exV t30 0 .bool fun (t31:Bool)=>
  qx t31 (
  jv P (Instr.entry (Value.pointer t29)) .any w_7 fun (t32:Value)=>
  exV t32 0 .str fun (t33:ByteArray)=>
  zpi P t14 #[(Value.string t33)] [] true w_7 fun (_:Unit) w_8=>
  k_1 () w_8) (
  zfl .i64 s_1 1 fun t37=>
  k t37 w_7)) () w_5) (
  zbz w_4 fun w_9=>
  zq u fun p_1=>
  ld .ptr (Addr.add p_1 1) w_9 fun (t41:(Option Addr))=>
  ld .slc (⟨b5,0,none⟩:Addr) w_9 fun (t42:(Option Addr×Nat×Nat))=>
  qc P zcr #[(Value.pointer t41),(Value.slice t42.1 t42.2.1 t42.2.2)] [.slc] false w_9 fun (t43:(Option Addr×Nat×Nat)) w_10=>
  zc1 Int (fun s_3 w_11 k_2=>
  qx (decide (s_3 < (t43.2.1:Int))) (
  ixS t43.1 t43.2.1 4 s_3 fun t47=>
  ldA P 4 t47 w_11 fun t48=>
  zam (zc P zk) zk w_11 fun b13 w_12=>
  jy P (storeVar zk (⟨b13,0,none⟩:Addr) (Value.agg t48)) w_12 fun w_13=>
  ld .str (⟨b13,0,none⟩:Addr) w_13 fun (t51:ByteArray)=>
  zpi P t14 #[(Value.string t51)] [] true w_13 fun (_:Unit) w_14=>
  zfl .i64 s_3 1 fun t53=>
  k_2 t53 w_14) (
  ld .slc (⟨b7,0,none⟩:Addr) w_11 fun (t54:(Option Addr×Nat×Nat))=>
  qc P zc3 #[(Value.slice t54.1 t54.2.1 t54.2.2)] [] true w_11 fun (_:Unit) w_15=>
  ld .slc (⟨b7,0,none⟩:Addr) w_15 fun (t56:(Option Addr×Nat×Nat))=>
  R (.returned (Value.slice t56.1 t56.2.1 t56.2.2)) w_15)) 0 w_10)) 0 w_3
theorem zln {u:Option Addr}{s:Value}{names:Option Addr}{names_l jf:Nat}{R:Ending->World->Prop}{w:World}(hT:zg7 u s names names_l jf R w):zx P zfb #[(Value.pointer u),s,(Value.slice names names_l jf)] w R:=
 fnT (.seq .leaf (.seq .leaf (.seq .leaf (.seq (.seq .leaf (.blk (.loop [(18,.int .i64)] (.seq .leaf (.seq (.cond .leaf .leaf) (.seq (.blk (.seq .leaf (.seq .leaf (.blk (.loop [] (.seq .leaf (.seq (.cond .leaf .leaf) (.blk (.seq .leaf .leaf))))))))) .leaf)))))) (.seq (.seq (.tree (.op 0 [] (.op 1 [] (.op 2 [] (.op 7 [] (.op 3 [] (.op 4 [] (.op 5 [] (.op 6 [] .done))))))))) (.blk (.loop [(45,.int .i64)] (.seq .leaf (.seq (.cond .leaf .leaf) (.seq (.blk (.seq .leaf .leaf)) .leaf)))))) (.seq .leaf (.seq .leaf .leaf))))))) Tryz.func92 hT
def zgg (path:ByteArray) (c0:Option Addr) (c1:Option Addr) (R:Ending->World->Prop) (w:World):Prop:=
  qc P zau #[(Value.string path)] [.slc,.int .i64] true w fun (t8:((Option Addr×Nat×Nat)×Int)) w_1=>
  zbz w_1 fun w_2=>
  zq c0 fun p=>
  ld .slc p w_2 fun (t13:(Option Addr×Nat×Nat))=>
  zfl .i64 (t13.2.1:Int) 1 fun t15=>
  qx ((t8.1.2.1:Int)==t15) (
  zq c0 fun p_1=>
  ld .slc p_1 w_2 fun (t19:(Option Addr×Nat×Nat))=>
  qc P zfr #[(Value.slice t8.1.1 t8.1.2.1 t8.1.2.2),(Value.slice t19.1 t19.2.1 t19.2.2)] [.bool] false w_2 fun (t20:Bool) w_3=>
  qx t20 (
  zq c1 fun p_2=>
  ld .slc p_2 w_3 fun (t23:(Option Addr×Nat×Nat))=>
  zq c0 fun p_3=>
  ld .slc p_3 w_3 fun (t25:(Option Addr×Nat×Nat))=>
  ixS t8.1.1 t8.1.2.1 1 (t25.2.1:Int) fun t27=>
  ld .str t27 w_3 fun (t28:ByteArray)=>
  qc P zav #[(Value.slice t23.1 t23.2.1 t23.2.2),(Value.string t28)] [.bool] false w_3 fun (t29:Bool) w_4=>
  qx (!t29) (
  zbz w_4 fun w_5=>
  zq c1 fun p_4=>
  ld .slc p_4 w_5 fun (t32:(Option Addr×Nat×Nat))=>
  zq c0 fun p_5=>
  ld .slc p_5 w_5 fun (t34:(Option Addr×Nat×Nat))=>
  ixS t8.1.1 t8.1.2.1 1 (t34.2.1:Int) fun t36=>
  ld .str t36 w_5 fun (t37:ByteArray)=>
  zde P (Instr.buildSlice zu 1 #[(0,(Value.string t37))]) .slc w_5 fun (t38:(Option Addr×Nat×Nat)) w_6=>
  ((zq c1 fun p_6=>
  ld .slc p_6 w_6 fun (t32_1:(Option Addr×Nat×Nat))=>
  (Value.slice t32_1.1 t32_1.2.1 t32_1.2.2)=(Value.slice t32.1 t32.2.1 t32.2.2)) /\
  zde P (Builtin.append_ #[zu,zu] zu #[(Value.slice t32.1 t32.2.1 t32.2.2),(Value.slice t38.1 t38.2.1 t38.2.2)]) .slc w_6 fun (t39:(Option Addr×Nat×Nat)) w_7=>
  zq c1 fun p_7=>
  stC p_7 (Value.slice t39.1 t39.2.1 t39.2.2) w_7 fun w_8=>
  R (.returned (Value.tuple #[])) w_8)) (
  R (.returned (Value.tuple #[])) w_4)) (
  R (.returned (Value.tuple #[])) w_3)) (
  R (.returned (Value.tuple #[])) w_2)
theorem zjy {path:ByteArray}{c0:Option Addr}{c1:Option Addr}{R:Ending->World->Prop}{w:World}(hT:zgg path c0 c1 R w):zx P zae #[(Value.string path),(Value.pointer c0),(Value.pointer c1)] w R:=
 fnT (.seq .leaf (.seq (.tree (.op 0 [] (.op 1 [] (.op 2 [] (.op 3 [] (.op 4 [] (.op 5 [] (.op 6 [] (.op 7 [] (.op 8 [] (.op 9 [] (.op 10 [] (.op 11 [] (.op 13 [] (.op 12 [] (.op 14 [] (.op 15 [] (.op 16 [] (.op 17 [] (.op 18 [] (.op 19 [] (.op 20 [] .done)))))))))))))))))))))) (.cond (.tree (.op 1 [] (.op 0 [] (.op 2 [] (.op 3 [] (.op 4 [] (.op 5 [] (.op 6 [0] (.op 7 [] (.op 8 [] .done)))))))))) .leaf))) Tryz.func160 hT
def zhe (u:Option Addr) (s:Value) (names:Option Addr) (names_l jf:Nat) (out:Option Addr) (out_l out_c:Nat) (R:Ending->World->Prop) (w:World):Prop:=
  zam (Value.cells s) zh w fun b5 w_1=>
  ldA P 5 (⟨b5,0,none⟩:Addr) w_1 fun t15=>
  qc P zfb #[(Value.pointer u),(Value.agg t15),(Value.slice names names_l jf)] [.slc] false w_1 fun (t17:(Option Addr×Nat×Nat)) w_2=>
  zc1 ((Option Addr×Nat×Nat)×Int) (fun s_1 w_3 k=>
  qx (decide (s_1.2 < (t17.2.1:Int))) (
  joinP (Option Addr×Nat×Nat) (fun k_1=>
  ixS t17.1 t17.2.1 1 s_1.2 fun t21=>
  ld .str t21 w_3 fun (t22:ByteArray)=>
  qc P zba #[(Value.slice names names_l jf)] [.slc] false w_3 fun (t24:(Option Addr×Nat×Nat)) w_4=>
  zde P (Instr.buildSlice zu 1 #[(0,(Value.string t22))]) .slc w_4 fun (t26:(Option Addr×Nat×Nat)) w_5=>
  zde P (Builtin.append_ #[zu,zu] zu #[(Value.slice t24.1 t24.2.1 t24.2.2),(Value.slice t26.1 t26.2.1 t26.2.2)]) .slc w_5 fun (t27:(Option Addr×Nat×Nat)) w_6=>
  ldA P 5 (⟨b5,0,none⟩:Addr) w_6 fun t30=>
  qc P zb1 #[(Value.pointer u),(Value.agg t30),(Value.slice t27.1 t27.2.1 t27.2.2)] [.any,.bool] true w_6 fun (t32:(Value×Bool)) w_7=>
  zam (zc P zh) zh w_7 fun b12 w_8=>
  jy P (storeVar zh (⟨b12,0,none⟩:Addr) t32.1) w_8 fun w_9=>
  qx (!t32.2) (
  k_1 (s_1.1.1,s_1.1.2.1,s_1.1.2.2) w_9) (
  ldA P 3 (⟨b12,0,none⟩:Addr) w_9 fun t39=>
  zde P (Instr.buildSlice vw 1 #[(0,(Value.agg t39))]) .slc w_9 fun (t40:(Option Addr×Nat×Nat)) w_10=>
  zde P (Builtin.append_ #[vw,vw] vw #[(Value.slice s_1.1.1 s_1.1.2.1 s_1.1.2.2),(Value.slice t40.1 t40.2.1 t40.2.2)]) .slc w_10 fun (t41:(Option Addr×Nat×Nat)) w_11=>
  ld .bool (⟨b12,1,none⟩:Addr) w_11 fun (t44:Bool)=>
  qx t44 (
  ldA P 5 (⟨b12,0,none⟩:Addr) w_11 fun t46=>
  qc P zdc #[(Value.pointer u),(Value.agg t46),(Value.slice t27.1 t27.2.1 t27.2.2),(Value.slice t41.1 t41.2.1 t41.2.2)] [.slc] false w_11 fun (t49:(Option Addr×Nat×Nat)) w_12=>
  k_1 (t49.1,t49.2.1,t49.2.2) w_12) (
  k_1 (t41.1,t41.2.1,t41.2.2) w_11))) (fun s_2 w_13=>
  zfl .i64 s_1.2 1 fun t50=>
  k ((s_2.1,s_2.2.1,s_2.2.2),t50) w_13)) (
  R (.returned (Value.slice s_1.1.1 s_1.1.2.1 s_1.1.2.2)) w_3)) ((out,out_l,out_c),0) w_2
theorem zlg {u:Option Addr}{s:Value}{names:Option Addr}{names_l jf:Nat}{out:Option Addr}{out_l out_c:Nat}{R:Ending->World->Prop}{w:World}(hT:zhe u s names names_l jf out out_l out_c R w):zx P zdc #[(Value.pointer u),s,(Value.slice names names_l jf),(Value.slice out out_l out_c)] w R:=
 fnT (.seq .leaf (.seq (.seq .leaf (.blk (.loop [(3,.slc),(19,.int .i64)] (.seq .leaf (.seq (.cond .leaf .leaf) (.seq (.jblk [(3,.slc)] (.seq .leaf (.seq .leaf (.seq .leaf (.seq (.seq .leaf (.cond .leaf .leaf)) (.seq .leaf (.seq .leaf (.cond .leaf .leaf)))))))) .leaf)))))) (.seq .leaf .leaf))) Tryz.func42 hT
def zhb (u:Option Addr) (R:Ending->World->Prop) (w:World):Prop:=
  qx (Option.isNone u) (
  R (.returned (Value.slice none 0 0)) w) (
  qc P zdb #[(Value.pointer u)] [.any] false w fun (t7:Value) w_1=>
  qc P zdc #[(Value.pointer u),t7,(Value.slice none 0 0),(Value.slice none 0 0)] [.slc] false w_1 fun (t8:(Option Addr×Nat×Nat)) w_2=>
  R (.returned (Value.slice t8.1 t8.2.1 t8.2.2)) w_2)
theorem zll {u:Option Addr}{R:Ending->World->Prop}{w:World}(hT:zhb u R w):zx P zdg #[(Value.pointer u)] w R:=
 fnT (.seq .leaf (.seq (.seq .leaf (.cond (.seq .leaf .leaf) .leaf)) (.seq .leaf .leaf))) Tryz.func12 hT
def zn8 (wv:Option Addr) (names:Option Addr) (names_l jf:Nat) (R:Ending->World->Prop) (w:World):Prop:=
  zc1 Int (fun s w_1 k=>
  qx (decide (s < (names_l:Int))) (
  joinP Unit (fun k_1=>
  joinP Unit (fun k_2=>
  jv P (Instr.sliceAt zu (Value.slice names names_l jf) none (some (Value.int .i64 s)) none) .slc w_1 fun (t17:(Option Addr×Nat×Nat))=>
  qc P zcd #[(Value.pointer wv),(Value.slice t17.1 t17.2.1 t17.2.2)] [.any,.bool] true w_1 fun (t18:(Value×Bool)) w_2=>
  zam (zc P zk) zk w_2 fun b5 w_3=>
  jy P (storeVar zk (⟨b5,0,none⟩:Addr) t18.1) w_3 fun w_4=>
  qx (!t18.2) (
  jv P (Instr.sliceAt zu (Value.slice names names_l jf) none (some (Value.int .i64 s)) none) .slc w_4 fun (t26:(Option Addr×Nat×Nat))=>
  qc P jr #[(Value.slice t26.1 t26.2.1 t26.2.2)] [.str] false w_4 fun (t27:ByteArray) w_5=>
  jv P (Instr.build zk #[(0,(Value.string t27)),(1,(Value.int .i64 2))]) .any w_5 fun (t28:Value)=>
  qc P zbo #[(Value.pointer wv),t28] [.int .i64] false w_5 fun (_:Int) w_6=>
  k_2 () w_6) (
  k_2 () w_4)) (fun _ w_7=>
  k_1 () w_7)) (fun _ w_8=>
  zfl .i64 s 1 fun t12=>
  k t12 w_8)) (
  R (.returned (Value.tuple #[])) w_1)) 1 w
theorem zsh {wv:Option Addr}{names:Option Addr}{names_l jf:Nat}{R:Ending->World->Prop}{w:World}(hT:zn8 wv names names_l jf R w):zx P zjb #[(Value.pointer wv),(Value.slice names names_l jf)] w R:=
 fnT (.seq .leaf (.blk (.loop [(4,.int .i64)] (.seq (.seq .leaf (.cond .leaf .leaf)) (.join [] (.jblk [] (.seq .leaf (.seq .leaf (.cond .leaf .leaf)))) .leaf))))) Tryz.func210 hT
def zh1 (u:Option Addr) (wv:Option Addr) (names:Option Addr) (names_l jf:Nat) (f:Value) (R:Ending->World->Prop) (w:World):Prop:=
  zam (Value.cells f) qj w fun b7 w_1=>
  qc P zjb #[(Value.pointer wv),(Value.slice names names_l jf)] [] true w_1 fun (_:Unit) w_2=>
  zbz w_2 fun w_3=>
  ld .str (⟨b7,2,none⟩:Addr) w_3 fun (t15:ByteArray)=>
  ((qc P jr #[(Value.slice names names_l jf)] [.str] false w_3 fun (t13:ByteArray) w_4=>
  ((ld .str (⟨b7,2,none⟩:Addr) w_4 fun (t15_1:ByteArray)=>
  (Value.string t15_1)=(Value.string t15)) /\
  jv P (Instr.build zk #[(0,(Value.string t13)),(1,(Value.int .i64 1)),(3,(Value.string t15))]) .any w_4 fun (t16:Value)=>
  zam (zc P zk) zk w_4 fun b8 w_5=>
  ((jv P (Instr.build zk #[(0,(Value.string t13)),(1,(Value.int .i64 1)),(3,(Value.string t15))]) .any w_5 fun (t16_1:Value)=>
  t16_1=t16) /\
  ((ld .str (⟨b7,2,none⟩:Addr) w_5 fun (t15_2:ByteArray)=>
  (Value.string t15_2)=(Value.string t15)) /\
  jy P (storeVar zk (⟨b8,0,none⟩:Addr) t16) w_5 fun w_6=>
  joinP Unit (fun k=>
  ld .bool (⟨b7,1,none⟩:Addr) w_6 fun (t18:Bool)=>
  qx t18 (
  qc P zbp #[(Value.pointer u),(Value.slice names names_l jf)] [.bool] false w_6 fun (t21:Bool) w_7=>
  stC (⟨b8,1,none⟩:Addr) (Value.int .i64 2) w_7 fun w_8=>
  stC (⟨b8,2,none⟩:Addr) (Value.bool t21) w_8 fun w_9=>
  k () w_9) (
  k () w_6)) (fun _ w_10=>
  ldA P 4 (⟨b8,0,none⟩:Addr) w_10 fun t25=>
  qc P zbo #[(Value.pointer wv),(Value.agg t25)] [.int .i64] false w_10 fun (_:Int) w_11=>
  R (.returned (Value.tuple #[])) w_11))))) /\
  (zam (zc P zk) zk w_3 fun b8_1 w_12=>
  ((ld .str (⟨b7,2,none⟩:Addr) w_12 fun (t15_3:ByteArray)=>
  (Value.string t15_3)=(Value.string t15)) /\
  qc P jr #[(Value.slice names names_l jf)] [.str] false w_12 fun (t13_1:ByteArray) w_13=>
  ((ld .str (⟨b7,2,none⟩:Addr) w_13 fun (t15_4:ByteArray)=>
  (Value.string t15_4)=(Value.string t15)) /\
  jv P (Instr.build zk #[(0,(Value.string t13_1)),(1,(Value.int .i64 1)),(3,(Value.string t15))]) .any w_13 fun (t16_2:Value)=>
  jy P (storeVar zk (⟨b8_1,0,none⟩:Addr) t16_2) w_13 fun w_14=>
  joinP Unit (fun k_1=>
  ld .bool (⟨b7,1,none⟩:Addr) w_14 fun (t18_1:Bool)=>
  qx t18_1 (
  qc P zbp #[(Value.pointer u),(Value.slice names names_l jf)] [.bool] false w_14 fun (t21_1:Bool) w_15=>
  stC (⟨b8_1,1,none⟩:Addr) (Value.int .i64 2) w_15 fun w_16=>
  stC (⟨b8_1,2,none⟩:Addr) (Value.bool t21_1) w_16 fun w_17=>
  k_1 () w_17) (
  k_1 () w_14)) (fun _ w_18=>
  ldA P 4 (⟨b8_1,0,none⟩:Addr) w_18 fun t25_1=>
  qc P zbo #[(Value.pointer wv),(Value.agg t25_1)] [.int .i64] false w_18 fun (_:Int) w_19=>
  R (.returned (Value.tuple #[])) w_19)))))
theorem zmy {u:Option Addr}{wv:Option Addr}{names:Option Addr}{names_l jf:Nat}{f:Value}{R:Ending->World->Prop}{w:World}(hT:zh1 u wv names names_l jf f R w):zx P zd0 #[(Value.pointer u),(Value.pointer wv),(Value.slice names names_l jf),f] w R:=
 fnT (.seq .leaf (.seq .leaf (.seq (.tree (.op 0 [] (.op 2 [] (.op 3 [] (.or (.op 1 [3] (.op 4 [] (.op 5 [3,4] (.op 6 [] .done)))) (.op 5 [3] (.op 1 [3] (.op 4 [] (.op 6 [] .done))))))))) (.join [] (.seq .leaf (.cond .leaf .leaf)) .leaf)))) Tryz.func154 hT
def zgc (u:Option Addr) (wv:Option Addr) (o:Value) (f:Option Addr) (R:Ending->World->Prop) (w:World):Prop:=
  zam (Value.cells o) xg w fun b6 w_1=>
  ld .str (⟨b6,1,none⟩:Addr) w_1 fun (t14:ByteArray)=>
  qc P zau #[(Value.string t14)] [.slc,.int .i64] true w_1 fun (t15:((Option Addr×Nat×Nat)×Int)) w_2=>
  ld .str (⟨b6,2,none⟩:Addr) w_2 fun (t20:ByteArray)=>
  qc P zau #[(Value.string t20)] [.slc,.int .i64] true w_2 fun (t21:((Option Addr×Nat×Nat)×Int)) w_3=>
  ld (.int .i64) (⟨b6,0,none⟩:Addr) w_3 fun (t25:Int)=>
  joinP Unit (fun k=>
  joinP Bool (fun k_1=>
  qx (t25==1) (
  k_1 (t25==1) w_3) (
  k_1 (t25==2) w_3)) (fun s w_4=>
  qx s (
  ld (.int .i64) (⟨b6,0,none⟩:Addr) w_4 fun (t33:Int)=>
  jv P (Instr.build qj #[(1,(Value.bool (t33==1)))]) .any w_4 fun (t35:Value)=>
  qc P zd0 #[(Value.pointer u),(Value.pointer wv),(Value.slice t15.1.1 t15.1.2.1 t15.1.2.2),t35] [] true w_4 fun (_:Unit) w_5=>
  k () w_5) (
  joinP Bool (fun k_2=>
  qx (t25==3) (
  k_2 (t25==3) w_4) (
  k_2 (t25==4) w_4)) (fun s_1 w_6=>
  qx s_1 (
  ld .str (⟨b6,1,none⟩:Addr) w_6 fun (t45:ByteArray)=>
  jv P (Instr.build xg #[(0,(Value.int .i64 8)),(1,(Value.string t45)),(5,(Value.int .i64 1024))]) .any w_6 fun (t46:Value)=>
  qc P zgm #[(Value.pointer f),t46] [.any] false w_6 fun (t47:Value) w_7=>
  jv P (Instr.field zf t47 3) .str w_7 fun (t48:ByteArray)=>
  jv P (Instr.build qj #[(2,(Value.string t48))]) .any w_7 fun (t49:Value)=>
  qc P zd0 #[(Value.pointer u),(Value.pointer wv),(Value.slice t15.1.1 t15.1.2.1 t15.1.2.2),t49] [] true w_7 fun (_:Unit) w_8=>
  k () w_8) (
  joinP Bool (fun k_3=>
  qx (t25==5) (
  k_3 (t25==5) w_6) (
  k_3 (t25==6) w_6)) (fun s_2 w_9=>
  qx s_2 (
  qc P znn #[(Value.pointer u),(Value.pointer wv),(Value.slice t15.1.1 t15.1.2.1 t15.1.2.2)] [] true w_9 fun (_:Unit) w_10=>
  k () w_10) (
  qx (t25==7) (
  qc P zet #[(Value.slice t15.1.1 t15.1.2.1 t15.1.2.2),(Value.slice t21.1.1 t21.1.2.1 t21.1.2.2)] [.int .i64] false w_9 fun (t62:Int) w_11=>
  qx (t62 != 0) (
  qc P zmz #[(Value.pointer u),(Value.pointer wv),(Value.slice t15.1.1 t15.1.2.1 t15.1.2.2),(Value.slice t21.1.1 t21.1.2.1 t21.1.2.2)] [] true w_11 fun (_:Unit) w_12=>
  k () w_12) (
  k () w_11)) (
  k () w_9)))))))) (fun _ w_13=>
  R (.returned (Value.tuple #[])) w_13)
theorem zjs {u:Option Addr}{wv:Option Addr}{o:Value}{f:Option Addr}{R:Ending->World->Prop}{w:World}(hT:zgc u wv o f R w):zx P zd4 #[(Value.pointer u),(Value.pointer wv),o,(Value.pointer f)] w R:=
 fnT (.seq .leaf (.seq .leaf (.seq .leaf (.seq .leaf (.jblk [] (.join [(26,.bool)] (.seq .leaf (.cond .leaf .leaf)) (.cond .leaf (.join [(37,.bool)] (.seq .leaf (.cond .leaf .leaf)) (.cond .leaf (.join [(51,.bool)] (.seq .leaf (.cond .leaf .leaf)) (.cond .leaf (.seq .leaf (.cond (.seq .leaf (.cond .leaf .leaf)) .leaf))))))))))))) Tryz.func86 hT
def ziu (u:Option Addr) (o:Value) (R:Ending->World->Prop) (w:World):Prop:=
  zam (Value.cells o) xg w fun b3 w_1=>
  zam (zc P zf) zf w_1 fun b4 w_2=>
  qx (Option.isNone u) (
  jv P (Instr.build zf #[(0,(Value.int .i64 7))]) .any w_2 fun (t11:Value)=>
  jy P (storeVar zf (⟨b4,0,none⟩:Addr) t11) w_2 fun w_3=>
  ldA P 5 (⟨b4,0,none⟩:Addr) w_3 fun t4=>
  R (.returned (Value.agg t4)) w_3) (
  qc P zdg #[(Value.pointer u)] [.slc] false w_2 fun (t14:(Option Addr×Nat×Nat)) w_4=>
  qc P zlx #[(Value.slice t14.1 t14.2.1 t14.2.2)] [.ptr,.int .i64] true w_4 fun (t15:((Option Addr)×Int)) w_5=>
  ldA P 6 (⟨b3,0,none⟩:Addr) w_5 fun t19=>
  qc P zgm #[(Value.pointer t15.1),(Value.agg t19)] [.any] false w_5 fun (t20:Value) w_6=>
  zam (zc P zf) zf w_6 fun b7 w_7=>
  jy P (storeVar zf (⟨b7,0,none⟩:Addr) t20) w_7 fun w_8=>
  joinP Unit (fun k=>
  ld (.int .i64) (⟨b7,0,none⟩:Addr) w_8 fun (t22:Int)=>
  qx (t22 != 0) (
  ldA P 5 (⟨b7,0,none⟩:Addr) w_8 fun t34=>
  jy P (storeVar zf (⟨b4,0,none⟩:Addr) (Value.agg t34)) w_8 fun w_9=>
  ldA P 5 (⟨b4,0,none⟩:Addr) w_9 fun t4_1=>
  R (.returned (Value.agg t4_1)) w_9) (
  ld (.int .i64) (⟨b3,0,none⟩:Addr) w_8 fun (t26:Int)=>
  qc P znq #[(Value.int .i64 t26)] [.bool] false w_8 fun (t27:Bool) w_10=>
  qx t27 (
  ldA P 5 (⟨b7,0,none⟩:Addr) w_10 fun t34_1=>
  jy P (storeVar zf (⟨b4,0,none⟩:Addr) (Value.agg t34_1)) w_10 fun w_11=>
  ldA P 5 (⟨b4,0,none⟩:Addr) w_11 fun t4_2=>
  R (.returned (Value.agg t4_2)) w_11) (
  ld (.int .i64) (⟨b3,0,none⟩:Addr) w_10 fun (t31:Int)=>
  qx (t31==11) (
  ldA P 5 (⟨b7,0,none⟩:Addr) w_10 fun t34_2=>
  jy P (storeVar zf (⟨b4,0,none⟩:Addr) (Value.agg t34_2)) w_10 fun w_12=>
  ldA P 5 (⟨b4,0,none⟩:Addr) w_12 fun t4_3=>
  R (.returned (Value.agg t4_3)) w_12) (
  k () w_10)))) (fun _ w_13=>
  zq u fun p=>
  ld .ptr (Addr.add p 1) w_13 fun (t38:(Option Addr))=>
  qc P zcp #[(Value.pointer t38)] [.ptr] false w_13 fun (t39:(Option Addr)) w_14=>
  ldA P 6 (⟨b3,0,none⟩:Addr) w_14 fun t42=>
  qc P zd4 #[(Value.pointer u),(Value.pointer t39),(Value.agg t42),(Value.pointer t15.1)] [] true w_14 fun (_:Unit) w_15=>
  qc P zew #[(Value.pointer t39)] [.bool] false w_15 fun (t46:Bool) w_16=>
  qx t46 (
  jv P (Instr.build zf #[(0,(Value.int .i64 3))]) .any w_16 fun (t47:Value)=>
  jy P (storeVar zf (⟨b4,0,none⟩:Addr) t47) w_16 fun w_17=>
  ldA P 5 (⟨b4,0,none⟩:Addr) w_17 fun t4_4=>
  R (.returned (Value.agg t4_4)) w_17) (
  zq u fun p_1=>
  stC (Addr.add p_1 1) (Value.pointer t39) w_16 fun w_18=>
  ldA P 5 (⟨b7,0,none⟩:Addr) w_18 fun t52=>
  jy P (storeVar zf (⟨b4,0,none⟩:Addr) (Value.agg t52)) w_18 fun w_19=>
  ldA P 5 (⟨b4,0,none⟩:Addr) w_19 fun t4_5=>
  R (.returned (Value.agg t4_5)) w_19)))
theorem zm9 {u:Option Addr}{o:Value}{R:Ending->World->Prop}{w:World}(hT:ziu u o R w):zx P zf6 #[(Value.pointer u),o] w R:=
 fnT (.seq .leaf (.seq (.seq .leaf (.cond (.seq .leaf .leaf) .leaf)) (.seq .leaf (.seq .leaf (.join [] (.seq .leaf (.cond (.seq .leaf .leaf) .leaf)) (.seq .leaf (.seq .leaf (.seq (.seq .leaf (.cond (.seq .leaf .leaf) .leaf)) (.seq .leaf (.seq .leaf .leaf)))))))))) Tryz.func38 hT
def zi0 (u:Option Addr) (o:Value) (R:Ending->World->Prop) (w:World):Prop:=
  zam (Value.cells o) xg w fun b3 w_1=>
  zam (zc P zf) zf w_1 fun b4 w_2=>
  ldA P 6 (⟨b3,0,none⟩:Addr) w_2 fun t8=>
  qc P zf6 #[(Value.pointer u),(Value.agg t8)] [.any] false w_2 fun (t9:Value) w_3=>
  zam (zc P zf) zf w_3 fun b6 w_4=>
  jy P (storeVar zf (⟨b6,0,none⟩:Addr) t9) w_4 fun w_5=>
  zbz w_5 fun w_6=>
  ldA P 5 (⟨b6,0,none⟩:Addr) w_6 fun t10=>
  ld (.int .i64) (⟨b3,0,none⟩:Addr) w_6 fun (t12:Int)=>
  ld .str (⟨b3,1,none⟩:Addr) w_6 fun (t15:ByteArray)=>
  ld (.int .i64) (⟨b6,0,none⟩:Addr) w_6 fun (t17:Int)=>
  qc P zp4 #[(Value.int .i64 t12)] [.str] false w_6 fun (t13:ByteArray) w_7=>
  ((ld (.int .i64) (⟨b6,0,none⟩:Addr) w_7 fun (t17_1:Int)=>
  (Value.int .i64 t17_1)=(Value.int .i64 t17)) /\
  ((ld .str (⟨b3,1,none⟩:Addr) w_7 fun (t15_1:ByteArray)=>
  (Value.string t15_1)=(Value.string t15)) /\
  ((ldA P 5 (⟨b6,0,none⟩:Addr) w_7 fun t10_1=>
  (Value.agg t10_1)=(Value.agg t10)) /\
  qc P zlc #[(Value.string t13),(Value.string t15),(Value.int .i64 t17)] [.any] false w_7 fun (t18:Value) w_8=>
  ((ldA P 5 (⟨b6,0,none⟩:Addr) w_8 fun t10_2=>
  (Value.agg t10_2)=(Value.agg t10)) /\
  jy P (storeVar zf (⟨b4,0,none⟩:Addr) (Value.agg t10)) w_8 fun w_9=>
  ldA P 5 (⟨b4,0,none⟩:Addr) w_9 fun t4=>
  R (.returned (Value.tuple #[(Value.agg t4),t18])) w_9))))
theorem znp {u:Option Addr}{o:Value}{R:Ending->World->Prop}{w:World}(hT:zi0 u o R w):zx P zd8 #[(Value.pointer u),o] w R:=
 fnT (.seq .leaf (.seq .leaf (.seq (.tree (.op 1 [] (.op 4 [] (.op 6 [] (.op 0 [] (.op 2 [] (.op 5 [] (.op 7 [] (.op 3 [0,5,7] (.op 8 [0] (.op 9 [] (.op 10 [] .done)))))))))))) .leaf))) Tryz.func10 hT
def zrx (quota:Int) (R:Ending->World->Prop) (w:World):Prop:=
  jv P (Builtin.max_ #[zai,zai] zai #[(Value.int .i64 quota),(Value.int .i64 0)]) (.int .i64) w fun (t4:Int)=>
  zde P (Instr.makeMap zc5 none) .map w fun (t5:(Option Nat)) w_1=>
  jv P (Instr.build zhh #[(0,(Value.int .i64 t4)),(2,(Value.map t5))]) .any w_1 fun (t6:Value)=>
  zam (Value.cells t6) zhh w_1 fun b7 w_2=>
  R (.returned (Value.pointer (some (⟨b7,0,none⟩:Addr)))) w_2
theorem zvo {quota:Int}{R:Ending->World->Prop}{w:World}(hT:zrx quota R w):zx P zkl #[(Value.int .i64 quota)] w R:=
 fnT (.seq .leaf (.seq .leaf .leaf)) Tryz.func6 hT
def zou (s:Option Addr) (root:Value) (R:Ending->World->Prop) (w:World):Prop:=
  zam (Value.cells root) xq w fun b3 w_1=>
  qx (Option.isNone s) (
  R (.returned (Value.tuple #[(Value.slice none 0 0),(Value.int .i64 7)])) w_1) (
  ldA P 32 (⟨b3,0,none⟩:Addr) w_1 fun t12=>
  qc P znk #[(Value.pointer s),(Value.agg t12),(Value.int .i64 3)] [.any,.int .i64] true w_1 fun (t13:(Value×Int)) w_2=>
  zam (zc P vg) vg w_2 fun b6 w_3=>
  jy P (storeVar vg (⟨b6,0,none⟩:Addr) t13.1) w_3 fun w_4=>
  qx (t13.2 != 0) (
  R (.returned (Value.tuple #[(Value.slice none 0 0),(Value.int .i64 t13.2)])) w_4) (
  ldA P 5 (⟨b6,0,none⟩:Addr) w_4 fun t20=>
  qc P zu0 #[(Value.pointer s),(Value.agg t20),(Value.slice none 0 0),(Value.slice none 0 0)] [.slc,.int .i64] true w_4 fun (t21:((Option Addr×Nat×Nat)×Int)) w_5=>
  R (.returned (Value.tuple #[(Value.slice t21.1.1 t21.1.2.1 t21.1.2.2),(Value.int .i64 t21.2)])) w_5))
theorem zug {s:Option Addr}{root:Value}{R:Ending->World->Prop}{w:World}(hT:zou s root R w):zx P zly #[(Value.pointer s),root] w R:=
 fnT (.seq .leaf (.seq (.seq .leaf (.cond (.seq .leaf .leaf) .leaf)) (.seq .leaf (.seq (.seq .leaf (.cond (.seq .leaf .leaf) .leaf)) (.seq .leaf .leaf))))) Tryz.func37 hT
def zrf (s:Option Addr) (d:Value) (kind:Int) (R:Ending->World->Prop) (w:World):Prop:=
  zam (Value.cells d) xq w fun b4 w_1=>
  zam (zc P vg) vg w_1 fun b6 w_2=>
  ldA P 32 (⟨b4,0,none⟩:Addr) w_2 fun t13=>
  qc P zga #[(Value.pointer s),(Value.agg t13)] [.slc,.int .i64] true w_2 fun (t14:((Option Addr×Nat×Nat)×Int)) w_3=>
  qx (t14.2 != 0) (
  jv P (Instr.build vg #[]) .any w_3 fun (t19:Value)=>
  jy P (storeVar vg (⟨b6,0,none⟩:Addr) t19) w_3 fun w_4=>
  ldA P 5 (⟨b6,0,none⟩:Addr) w_4 fun t6=>
  R (.returned (Value.tuple #[(Value.agg t6),(Value.int .i64 t14.2)])) w_4) (
  qc P zsf #[(Value.slice t14.1.1 t14.1.2.1 t14.1.2.2)] [.any,.int .i64] true w_3 fun (t23:(Value×Int)) w_5=>
  zam (zc P vg) vg w_5 fun b10 w_6=>
  jy P (storeVar vg (⟨b10,0,none⟩:Addr) t23.1) w_6 fun w_7=>
  joinP Unit (fun k=>
  qx (t23.2 != 0) (
  jv P (Instr.build vg #[]) .any w_7 fun (t34:Value)=>
  jy P (storeVar vg (⟨b6,0,none⟩:Addr) t34) w_7 fun w_8=>
  ldA P 5 (⟨b6,0,none⟩:Addr) w_8 fun t6_1=>
  R (.returned (Value.tuple #[(Value.agg t6_1),(Value.int .i64 21)])) w_8) (
  ld (.int .i64) (⟨b10,0,none⟩:Addr) w_7 fun (t30:Int)=>
  qx (t30 != kind) (
  jv P (Instr.build vg #[]) .any w_7 fun (t34_1:Value)=>
  jy P (storeVar vg (⟨b6,0,none⟩:Addr) t34_1) w_7 fun w_9=>
  ldA P 5 (⟨b6,0,none⟩:Addr) w_9 fun t6_2=>
  R (.returned (Value.tuple #[(Value.agg t6_2),(Value.int .i64 21)])) w_9) (
  k () w_7))) (fun _ w_10=>
  ldA P 5 (⟨b10,0,none⟩:Addr) w_10 fun t35=>
  jy P (storeVar vg (⟨b6,0,none⟩:Addr) (Value.agg t35)) w_10 fun w_11=>
  ldA P 5 (⟨b6,0,none⟩:Addr) w_11 fun t6_3=>
  R (.returned (Value.tuple #[(Value.agg t6_3),(Value.int .i64 0)])) w_11))
theorem zvg {s:Option Addr}{d:Value}{kind:Int}{R:Ending->World->Prop}{w:World}(hT:zrf s d kind R w):zx P znk #[(Value.pointer s),d,(Value.int .i64 kind)] w R:=
 fnT (.seq .leaf (.seq .leaf (.seq (.seq .leaf (.cond (.seq .leaf .leaf) .leaf)) (.seq .leaf (.join [] (.seq .leaf (.cond (.seq .leaf .leaf) .leaf)) (.seq .leaf .leaf)))))) Tryz.func81 hT
def ziv (s:Option Addr) (d:Value) (R:Ending->World->Prop) (w:World):Prop:=
  zam (Value.cells d) xq w fun b3 w_1=>
  qx (Option.isNone s) (
  R (.returned (Value.tuple #[(Value.slice none 0 0),(Value.int .i64 7)])) w_1) (
  zbz w_1 fun w_2=>
  zq s fun p=>
  ld .map (Addr.add p 2) w_2 fun (t14:(Option Nat))=>
  ldA P 32 (⟨b3,0,none⟩:Addr) w_2 fun t15=>
  zlt P (Instr.lookup zc5 (Value.map t14) (Value.agg t15) true) [.slc,.bool] w_2 fun (t16:((Option Addr×Nat×Nat)×Bool))=>
  qx (!t16.2) (
  R (.returned (Value.tuple #[(Value.slice none 0 0),(Value.int .i64 50)])) w_2) (
  zbz w_2 fun w_3=>
  ldA P 32 (⟨b3,0,none⟩:Addr) w_3 fun t23=>
  qc P zs9 #[(Value.slice t16.1.1 t16.1.2.1 t16.1.2.2)] [.any] false w_3 fun (t22:Value) w_4=>
  ((ldA P 32 (⟨b3,0,none⟩:Addr) w_4 fun t23_1=>
  (Value.agg t23_1)=(Value.agg t23)) /\
  jv P (eqM .neq xq (.tmp 22) (.tmp 23) t22 (Value.agg t23)) .bool w_4 fun (t24:Bool)=>
  qx t24 (
  R (.returned (Value.tuple #[(Value.slice none 0 0),(Value.int .i64 51)])) w_4) (
  qc P zg3 #[(Value.slice t16.1.1 t16.1.2.1 t16.1.2.2)] [.slc] false w_4 fun (t26:(Option Addr×Nat×Nat)) w_5=>
  R (.returned (Value.tuple #[(Value.slice t26.1 t26.2.1 t26.2.2),(Value.int .i64 0)])) w_5))))
theorem znl {s:Option Addr}{d:Value}{R:Ending->World->Prop}{w:World}(hT:ziv s d R w):zx P zga #[(Value.pointer s),d] w R:=
 fnT (.seq .leaf (.seq (.seq .leaf (.cond (.seq .leaf .leaf) .leaf)) (.seq (.tree (.op 0 [] (.op 1 [] (.op 2 [] (.op 3 [] (.op 4 [] (.op 5 [] (.op 6 [] (.op 7 [] (.op 8 [] (.op 9 [] (.op 10 [] .done)))))))))))) (.seq (.seq .leaf (.cond (.seq .leaf .leaf) .leaf)) (.seq (.seq (.tree (.op 0 [] (.op 2 [] (.op 1 [2] (.op 3 [] .done))))) (.cond (.seq .leaf .leaf) .leaf)) (.seq .leaf .leaf)))))) Tryz.func142 hT
def zgd (f:Option Addr) (R:Ending->World->Prop) (w:World):Prop:=
  zq f fun p=>
  ld .any (Addr.add p 2) w fun (t6:Value)=>
  R (.returned t6) w
theorem zjx {f:Option Addr}{R:Ending->World->Prop}{w:World}(hT:zgd f R w):zx P zb9 #[(Value.pointer f)] w R:=
 fnT (.seq .leaf (.seq .leaf .leaf)) Tryz.func283 hT
end Go.Proofs.YthaaekcaaecdeaaGreatDoor
namespace Go.Fw
open Go
abbrev Heap:=Array Obj
@[simp] theorem qo {a:Addr}{K:Addr->Prop}:zq (some a) K=K a:=rfl
theorem jc {b:Bool}{A B:Prop}(h:b=true) (hA:A):qx b A B:=⟨fun _=>hA,fun h'=>(by rw [h] at h';cases h')⟩
theorem qg {b:Bool}{A B:Prop}(h:b=false) (hB:B):qx b A B:=⟨fun h'=>(by rw [h] at h';cases h'),fun _=>hB⟩
theorem qm {p:Prop} [Decidable p] {A B:Prop}(hA:p->A) (hB:¬p->B):qx (decide p) A B:=⟨fun h=>hA (of_decide_eq_true h),fun h=>hB (of_decide_eq_false h)⟩
theorem za8 {p:Prop}{b:Bool}{A B:Prop}(h:b=true ↔ p) (hA:p->A) (hB:¬p->B):qx b A B:=
 ⟨fun h'=>hA (h.1 h'),fun h'=>hB fun hp=>by rw [h.2 hp] at h';cases h'⟩
theorem zc9 {a b:Int}{A B:Prop}(hA:a=b->A) (hB:a≠b->B):qx (a==b) A B:=za8 (by simp) hA hB
theorem zdk {a b:Int}{A B:Prop}(hA:a≠b->A) (hB:a=b->B):qx (a != b) A B:=za8 (p:=a≠b) (by simp) hA fun h=>hB (by omega)
theorem wrap_i64 {n:Int}(h1:-9223372036854775808<=n) (h2:n<=9223372036854775807):IntKind.i64.wrap n=n:=by
 simp only [IntKind.wrap,IntKind.bits,IntKind.signed]
 have e:(2:Int) ^ 64=18446744073709551616:=by decide
 have e':(2:Int) ^ (64-1)=9223372036854775808:=by decide
 simp only [e,e',Bool.true_and]
 split
 ·rename_i h;simp at h;omega
 ·rename_i h;simp at h;omega
theorem wrap_u64 {n:Int}(h1:0<=n) (h2:n < 18446744073709551616):IntKind.u64.wrap n=n:=by
 simp only [IntKind.wrap,IntKind.bits,IntKind.signed]
 have e:(2:Int) ^ 64=18446744073709551616:=by decide
 simp only [e,Bool.false_and,Bool.false_eq_true,if_false]
 omega
theorem zy9 {a b:Int}{K:Int->Prop}(h1:-9223372036854775808<=a+b) (h2:a+b<=9223372036854775807) (hK:K (a+b)):zfl .i64 a b K:=⟨_,(wrap_i64 h1 h2).symm,hK⟩
theorem zuy {a b:Int}{K:Int->Prop}(h1:-9223372036854775808<=a-b) (h2:a-b<=9223372036854775807) (hK:K (a-b)):zul .i64 a b K:=⟨_,(wrap_i64 h1 h2).symm,hK⟩
theorem z2k {a b:Int}{K:Int->Prop}(h1:-9223372036854775808<=a * b) (h2:a * b<=9223372036854775807) (hK:K (a * b)):z4i .i64 a b K:=⟨_,(wrap_i64 h1 h2).symm,hK⟩
theorem zas {a b:Int}{K:Int->Prop}(c:Int) (hc:a+b=c) (h1:-9223372036854775808<=c) (h2:c<=9223372036854775807) (hK:K c):zfl .i64 a b K:=by subst hc;exact zy9 h1 h2 hK
theorem zh8 {a b:Int}{K:Int->Prop}(c:Int) (hc:a-b=c) (h1:-9223372036854775808<=c) (h2:c<=9223372036854775807) (hK:K c):zul .i64 a b K:=by subst hc;exact zuy h1 h2 hK
theorem zuq {a b:Int}{K:Int->Prop}(c:Int) (hc:a * b=c) (h1:-9223372036854775808<=c) (h2:c<=9223372036854775807) (hK:K c):z4i .i64 a b K:=by subst hc;exact z2k h1 h2 hK
theorem znv {a:Int}{K:Int->Prop}(h1:0<=a) (h2:a < 18446744073709551616) (hK:K a):cvI .u64 a K:=⟨_,(wrap_u64 h1 h2).symm,hK⟩
theorem zvc {a:Int}{K:Int->Prop}(h1:-9223372036854775808<=a) (h2:a<=9223372036854775807) (hK:K a):cvI .i64 a K:=⟨_,(wrap_i64 h1 h2).symm,hK⟩
theorem zxa (m:Nat):IntKind.u64.wrap (m:Int)=((m % 18446744073709551616:Nat):Int):=by
 simp only [IntKind.wrap,IntKind.bits,IntKind.signed]
 have e:(2:Int) ^ 64=18446744073709551616:=by decide
 simp only [e,Bool.false_and,Bool.false_eq_true,if_false]
 omega
theorem zmw (m:Nat):IntKind.u8.wrap (m:Int)=((m % 256:Nat):Int):=by
 simp only [IntKind.wrap,IntKind.bits,IntKind.signed]
 have e:(2:Int) ^ 8=256:=by decide
 simp only [e,Bool.false_and,Bool.false_eq_true,if_false]
 omega
section w32
variable {K:Int->Prop}(x y:BitVec 32)
end w32
def Bytes (c:Array Value) (o:Nat) (f:Nat->UInt8) (n:Nat):Prop:=∀ i,i < n->c[o+i]?=some (.int .u8 ((f i).toNat:Int))
def Ext (M:List Nat) (H H':Heap):Prop:=H.size<=H'.size/\∀ b,b < H.size->b∉M->H'[b]?=H[b]?
theorem Ext.refl (M:List Nat) (H:Heap):Ext M H H:=⟨Nat.le_refl _,fun _ _ _=>rfl⟩
theorem Ext.trans {M:List Nat}{H H' H'':Heap}(h:Ext M H H') (h':Ext M H' H''):Ext M H H'':=
 ⟨Nat.le_trans h.1 h'.1,fun b hb hn=>(h'.2 b (Nat.lt_of_lt_of_le hb h.1) hn).trans (h.2 b hb hn)⟩
theorem Ext.mono {M M':List Nat}{H H':Heap}(hm:∀ b,b∈M->b∈M') (h:Ext M H H'):Ext M' H H':=⟨h.1,fun b hb hn=>h.2 b hb fun hm'=>hn (hm b hm')⟩
theorem Ext.own {M M':List Nat}{H H' H'':Heap}(h:Ext M H H') (h':Ext M' H' H'') (hm:∀ b,b∈M'->b < H.size->b∈M):Ext M H H'':=
 ⟨Nat.le_trans h.1 h'.1,fun b hb hn=>(h'.2 b (Nat.lt_of_lt_of_le hb h.1) fun hm'=>hn (hm b hm' hb)).trans (h.2 b hb hn)⟩
theorem Ext.push {M:List Nat}{H:Heap}(o:Obj):Ext M H (H.push o):=⟨by simp,fun b hb _=>by rw [Array.getElem?_push_lt hb,Array.getElem?_eq_getElem hb]⟩
theorem Ext.get {M:List Nat}{H H':Heap}{b:Nat}{o:Obj}(h:Ext M H H') (hb:H[b]?=some o) (hn:b∉M):H'[b]?=some o:=by
 rw [h.2 b (Array.getElem?_eq_some_iff.1 hb).1 hn,hb]
theorem lt_of_get {H:Heap}{b:Nat}{o:Obj}(hb:H[b]?=some o):b < H.size:=(Array.getElem?_eq_some_iff.1 hb).1
theorem zn {H:Heap}{o:Obj}:(H.push o)[H.size]?=some o:=by simp
theorem zac {H:Heap}{o x:Obj}{b:Nat}(h:H[b]?=some x):(H.push o)[b]?=some x:=by
 rw [Array.getElem?_push_lt (lt_of_get h),<-h,Array.getElem?_eq_getElem (lt_of_get h)]
theorem xk {H:Heap}{o x:Obj}{b:Nat}(h:H[b]?=some x):(H.setIfInBounds b o)[b]?=some o:=by
 simp [lt_of_get h]
theorem zeh {H:Heap}{o x:Obj}{b c:Nat}(h:H[c]?=some x) (hne:c≠b):(H.setIfInBounds b o)[c]?=some x:=by
 rw [Array.getElem?_setIfInBounds_ne (Ne.symm hne),h]
theorem Ext.set {M:List Nat}{H:Heap}{b:Nat}(o:Obj) (hb:b∈M):Ext M H (H.setIfInBounds b o):=
 ⟨by simp,fun c _ hn=>by rw [Array.getElem?_setIfInBounds_ne];intro e;subst e;exact hn hb⟩
theorem Ext.set_own {M:List Nat}{H H':Heap}{b:Nat}{o:Obj}(h:Ext M H H') (hb:H.size<=b\/b∈M):Ext M H (H'.setIfInBounds b o):=by
 refine⟨by simp;exact h.1,fun c hc hn=>?_⟩
 rw [Array.getElem?_setIfInBounds_ne]
 ·exact h.2 c hc hn
 ·intro e
  subst e
  rcases hb with hb | hb
  ·omega
  ·exact hn hb
theorem Ext.push_own {M:List Nat}{H H':Heap}{o:Obj}(h:Ext M H H'):Ext M H (H'.push o):=h.trans (.push o)
section heap
variable {w:World}{H:Heap}
theorem zpu (hw:w.heap=H){b o:Nat}{c:Array Value}{T:TypeId}{fr:Nat×Nat}(hb:H[b]?=some (.cells c T fr)):w.cell? ⟨b,o,none⟩=c[o]?:=by
 unfold World.cell?
 rw [hw]
 simp only [hb]
 simp
theorem jh {s:Sh}{b o:Nat}{c:Array Value}{T:TypeId}{fr:Nat×Nat}{K:s.T->Prop}{t:s.T}(hw:w.heap=H) (hb:H[b]?=some (.cells c T fr)) (hc:c[o]?=some (s.val t)) (hK:K t) :
  ld s ⟨b,o,none⟩ w K:=⟨t,by rw [zpu hw hb,hc],hK⟩
theorem zaj {K:World->Prop}(hw:w.heap=H) (hK:∀ w',w'.heap=H->K w'):zbz w K:=by
 rintro w' rfl
 exact hK _ hw
theorem jg {c:Array Value}{T:TypeId}{K:Nat->World->Prop}(hw:w.heap=H) (hK:∀ w',w'.heap=H.push (.cells c T)->K H.size w'):zam c T w K:=by
 rintro b w' ⟨rfl,rfl⟩
 rw [hw]
 exact hK _ (by simp)
theorem zsy {b o:Nat}{c:Array Value}{T:TypeId}{fr:Nat×Nat}{v:Value}(hw:w.heap=H) (hb:H[b]?=some (.cells c T fr)) :
  (w.setCell ⟨b,o,none⟩ v).heap=H.setIfInBounds b (.cells (c.setIfInBounds o v) T fr):=by
 unfold World.setCell
 simp only [hw]
 apply Array.ext_getElem?
 intro i
 rw [Array.getElem?_modify]
 by_cases h:b=i
 ·subst h
  rw [if_pos rfl,hb,xk hb]
  simp
 ·rw [if_neg h,Array.getElem?_setIfInBounds_ne h]
theorem zop {b o:Nat}{c:Array Value}{T:TypeId}(hw:w.heap=H) (hb:H[b]?=some (.cells c T (0,0))):w.frozen? ⟨b,o,none⟩=false:=by
 unfold World.frozen?
 rw [hw]
 simp only [hb]
 simp
theorem zdj {b o:Nat}{c:Array Value}{T:TypeId}{v:Value}{K:World->Prop}(hw:w.heap=H) (hb:H[b]?=some (.cells c T (0,0))) (ho:o < c.size)
  (hK:∀ w',w'.heap=H.setIfInBounds b (.cells (c.setIfInBounds o v) T (0,0))->K w'):stC ⟨b,o,none⟩ v w K:=by
 refine⟨⟨c[o],by rw [zpu hw hb];simp [ho]⟩,zop hw hb,?_⟩
 rintro w' rfl
 exact hK _ (zsy hw hb)
theorem zan {b o n:Nat}:Addr.add ⟨b,o,none⟩ n=⟨b,o+n,none⟩:=by
 unfold Addr.add
 split
 ·rename_i h;subst h;rfl
 ·rfl
theorem z7m {b o len size:Nat}{i:Int}{K:Addr->Prop}(k:Nat) (hi:i=(k:Int)) (hk:k < len) (hK:K ⟨b,o+k * size,none⟩):ixR ⟨b,o,none⟩ len size i K:=by
 subst hi
 refine⟨by omega,by omega,?_⟩
 rw [zan]
 exact hK
theorem z0f {b o len size:Nat}{i:Int}{K:Addr->Prop}(k:Nat) (hi:i=(k:Int)) (hk:k < len) (hK:K ⟨b,o+k * size,none⟩):ixS (some ⟨b,o,none⟩) len size i K:=by
 subst hi
 refine⟨_,rfl,by omega,by omega,?_⟩
 rw [zan]
 exact hK
theorem zx0 {b o len:Nat}{i:Int}{K:Addr->Prop}(k:Nat) (hi:i=(k:Int)) (hk:k < len) (hK:K ⟨b,o+k,none⟩):ixS (some ⟨b,o,none⟩) len 1 i K:=z0f k hi hk (by simpa using hK)
end heap
theorem zl1 {P:Program}{w:World}{H:Heap}{b o n:Nat}{c:Array Value}{T:TypeId}{fr:Nat×Nat}(hw:w.heap=H) (hb:H[b]?=some (.cells c T fr)) (hn:o+n<=c.size) :
  (loadCells ⟨b,o,none⟩ n).run P w=.ok (c.extract o (o+n)) w:=by
 have key:∀ (m i:Nat) (acc:Array Value),o+i+m<=c.size->(loadCellsFrom ⟨b,o,none⟩ i m acc).run P w=.ok (acc++c.extract (o+i) (o+i+m)) w:=by
  intro m
  induction m with
  | zero=>intro i acc _;simp [loadCellsFrom];omega
  | succ m ih=>
   intro i acc h
   have hc:w.cell? (Addr.add ⟨b,o,none⟩ i)=some c[o+i]:=by
    rw [zan,zpu hw hb,Array.getElem?_eq_getElem (by omega)]
   simp only [loadCellsFrom,Sem.run_bind,run_load,hc,Result.andThen_ok]
   rw [ih (i+1) _ (by omega)]
   congr 1
   apply Array.ext'
   simp only [Array.toList_append,Array.toList_push,Array.toList_extract,List.extract_eq_take_drop,List.append_assoc]
   congr 1
   have e1:o+i+(m+1)-(o+i)=m+1:=by omega
   have e2:o+(i+1)+m-(o+(i+1))=m:=by omega
   rw [e1,e2]
   have hlt:o+i < c.toList.length:=by simp;omega
   rw [List.drop_eq_getElem_cons hlt]
   simp [List.take_succ_cons,Nat.add_assoc]
 have:=key n 0 #[] (by omega)
 simpa [loadCells] using this
theorem ztj {P:Program}{w:World}{H:Heap}{b o n:Nat}{c:Array Value}{T:TypeId}{fr:Nat×Nat}{K:Array Value->Prop}(hw:w.heap=H) (hb:H[b]?=some (.cells c T fr)) (hn:o+n<=c.size)
  (hK:K (c.extract o (o+n))):ldA P n ⟨b,o,none⟩ w K:=⟨_,zl1 hw hb hn,hK⟩
theorem xw {P:Program}{w:World}{H:Heap}{b n:Nat}{c:Array Value}{T:TypeId}{fr:Nat×Nat}{K:Array Value->Prop}(hw:w.heap=H) (hb:H[b]?=some (.cells c T fr)) (hn:c.size=n)
  (hK:K c):ldA P n ⟨b,0,none⟩ w K:=ztj hw hb (by omega) (by subst hn;simpa using hK)
def zbf (vs:List Value):Prop:=∀ v∈vs,v.oneCell'=true
def setCells (c:Array Value) (o:Nat):List Value->Array Value
 | []=>c
 | v :: r=>setCells (c.setIfInBounds o v) (o+1) r
@[simp] theorem size_setCells {vs:List Value}:∀ {c:Array Value}{o:Nat},(setCells c o vs).size=c.size:=by
 induction vs with
 | nil=>intro c o;rfl
 | cons v r ih=>intro c o;simp [setCells,ih]
theorem zjl {vs:List Value}:∀ {c:Array Value}{o i:Nat},o+vs.length<=c.size->(setCells c o vs)[i]?=if o<=i/\i < o+vs.length then vs[i-o]? else c[i]?:=by
 induction vs with
 | nil=>
  intro c o i h
  simp only [setCells,List.length_nil,Nat.add_zero]
  rw [if_neg (by omega)]
 | cons v r ih=>
  intro c o i h
  simp only [List.length_cons] at h
  simp only [setCells,List.length_cons]
  rw [ih (by simp;omega)]
  by_cases h1:i=o
  ·subst h1
   rw [if_neg (by omega),if_pos (by omega)]
   have:i < c.size:=by omega
   simp [this]
  ·by_cases h2:o+1<=i/\i < o+1+r.length
   ·rw [if_pos h2,if_pos (by omega)]
    have:i-o=(i-(o+1))+1:=by omega
    rw [this]
    simp
   ·rw [if_neg h2,if_neg (by omega),Array.getElem?_setIfInBounds_ne (by omega)]
theorem zb3 {vs:List Value}{c:Array Value}(h:vs.length=c.size):setCells c 0 vs=vs.toArray:=by
 apply Array.ext_getElem?
 intro i
 rw [zjl (by omega)]
 by_cases hi:i < vs.length
 ·rw [if_pos (by omega)];simp
 ·rw [if_neg (by omega)]
  rw [Array.getElem?_eq_none (by omega),Array.getElem?_eq_none (by simp;omega)]
theorem set_set {H:Heap}{b:Nat}{x y:Obj}:(H.setIfInBounds b x).setIfInBounds b y=H.setIfInBounds b y:=by
 apply Array.ext_getElem?
 intro i
 by_cases h:b=i
 ·subst h
  by_cases hb:b < H.size
  ·simp [hb]
  ·rw [Array.getElem?_eq_none (by simp;omega),Array.getElem?_eq_none (by simp;omega)]
 ·rw [Array.getElem?_setIfInBounds_ne h,Array.getElem?_setIfInBounds_ne h,Array.getElem?_setIfInBounds_ne h]
theorem zja {P:Program}{b:Nat}{T:TypeId}:∀ (vs:List Value) (w:World) (H:Heap) (c:Array Value) (o i:Nat),zbf vs->w.heap=H->H[b]?=some (.cells c T (0,0))->o+i+vs.length<=c.size ->
  ∃ w',(storeCells ⟨b,o,none⟩ vs i).run P w=.ok () w'/\Calm w w'/\w'.heap=H.setIfInBounds b (.cells (setCells c (o+i) vs) T (0,0)):=by
 intro vs
 induction vs with
 | nil=>
  intro w H c o i _ hw hb _
  refine⟨w,by simp [storeCells],.refl w,?_⟩
  simp only [setCells]
  rw [hw]
  apply Array.ext_getElem?
  intro j
  by_cases hj:b=j
  ·subst hj;rw [xk hb,hb]
  ·rw [Array.getElem?_setIfInBounds_ne hj]
 | cons v r ih=>
  intro w H c o i h1 hw hb hn
  simp only [List.length_cons] at hn
  have hv:=h1 v (by simp)
  have hc:w.cell? (Addr.add ⟨b,o,none⟩ i)=some c[o+i]:=by
   rw [zan,zpu hw hb,Array.getElem?_eq_getElem (by omega)]
  have hf:w.frozen? (Addr.add ⟨b,o,none⟩ i)=false:=by rw [zan];exact zop hw hb
  obtain⟨w',h2,h4,h3⟩:=ih (w.setCell (Addr.add ⟨b,o,none⟩ i) v) _ (c.setIfInBounds (o+i) v) o (i+1) (fun x hx=>h1 x (by simp [hx])) (by rw [zan];exact zsy hw hb) (xk hb) (by simp;omega)
  refine⟨w',?_,h4,?_⟩
  ·simp only [storeCells,Sem.run_bind,run_store P w _ v .plain hv,hc,hf,Bool.false_eq_true,if_false,Result.andThen_ok,h2]
  ·rw [h3,set_set]
   simp [setCells,Nat.add_assoc]
theorem zb0 {P:Program}{w:World}{H:Heap}{b o:Nat}{T t:TypeId}{c:Array Value}{v:Value}{K:World->Prop}(hs:P.cellsOf t=v.cells.size) (hs0:v.cells.size≠0) (h1:zbf v.cells.toList) (hw:w.heap=H)
  (hb:H[b]?=some (.cells c T (0,0))) (hn:o+v.cells.size<=c.size) (hK:∀ w',w'.heap=H.setIfInBounds b (.cells (setCells c o v.cells.toList) T (0,0))->K w'):jy P (storeVar t ⟨b,o,none⟩ v) w K:=by
 obtain⟨w',h2,h4,h3⟩:=zja (P:=P) v.cells.toList w H c o 0 h1 hw hb (by simpa using hn)
 refine⟨w',?_,h4,hK w' (by simpa using h3)⟩
 have h0:(sizeOf t).run P w=.ok v.cells.size w:=by rw [zea (by omega),hs]
 simp only [storeVar,Sem.run_bind,h0,Result.andThen_ok,ne_eq,not_true_eq_false,if_false,h2]
def W32 (s:Nat->BitVec 32) (n:Nat):Array Value:=((List.range n).map fun i=>Value.int .u32 ((s i).toNat:Int)).toArray
def B8 (f:Nat->UInt8) (n:Nat):Array Value:=((List.range n).map fun i=>Value.int .u8 ((f i).toNat:Int)).toArray
@[simp] theorem z6p {s:Nat->BitVec 32}{n:Nat}:(W32 s n).size=n:=by simp [W32]
@[simp] theorem z7e {f:Nat->UInt8}{n:Nat}:(B8 f n).size=n:=by simp [B8]
theorem ku {σ:Type}{m:(σ->World->Prop)->Prop}{k:σ->World->Prop}(J:σ->World->Prop) (h:m J) (hk:∀ s w,J s w->k s w):joinP σ m k:=⟨J,h,hk⟩
theorem x9 {σ:Type}{m:(σ->World->Prop)->Prop}{k:σ->World->Prop}(h:m k):joinP σ m k:=⟨k,h,fun _ _ h=>h⟩
theorem zds {σ:Type}{m:σ->World->(σ->World->Prop)->Prop}{s:σ}{w:World}(I:σ->World->Prop) (μ:σ->World->Nat) (h0:I s w) (hr:∀ s w,I s w->m s w fun s' w'=>I s' w'/\μ s' w' < μ s w) :
  zc1 σ m s w:=⟨I,μ,h0,hr⟩
theorem least {p:Nat->Prop}(h:∃ n,p n):∃ n,p n/\∀ m,p m->n<=m:=by
 obtain⟨n,hn⟩:=h
 induction n using Nat.strongRecOn with
 | _ n ih=>
  by_cases hm:∃ m,m < n/\p m
  ·obtain⟨m,h1,h2⟩:=hm;exact ih m h1 h2
  ·exact⟨n,hn,fun m h=>Nat.le_of_not_lt fun h'=>hm ⟨m,h',h⟩⟩
theorem za3 {σ:Type}{m:σ->World->(σ->World->Prop)->Prop}{s:σ}{w:World}(I:Nat->σ->World->Prop) (n:Nat) (h0:I n s w)
  (hr:∀ n s w,I n s w->∀ K:σ->World->Prop,(∀ n' s' w',n' < n->I n' s' w'->K s' w')->m s w K):zc1 σ m s w:=by
 classical
 refine⟨fun s w=>∃ n,I n s w,fun s w=>if h:∃ n,I n s w then Classical.choose (least h) else 0,⟨n,h0⟩,fun s w h=>?_⟩
 refine hr _ s w (Classical.choose_spec (least h)).1 _ fun n' s' w' hn' hI=>⟨⟨n',hI⟩,?_⟩
 have h':∃ n,I n s' w':=⟨n',hI⟩
 have h:∃ n,I n s w:=h
 simp only [dif_pos h,dif_pos h']
 exact Nat.lt_of_le_of_lt ((Classical.choose_spec (least h')).2 n' hI) hn'
theorem zx.mono {P:Program}{f:FuncId}{args:Array Value}{w:World}{R R':Ending->World->Prop}(h:zx P f args w R) (hr:∀ e w',R e w'->R' e w'):zx P f args w R':=⟨h.1,h.2.mono fun e w' h=>⟨hr e w' h.1,h.2⟩⟩
theorem zkf {P:Program}{f:FuncId}{args:Array Value}{l:List Sh}{tup:Bool}{w:World}{K:Tup l->Prop}(t:Tup l) (h:zx P f args w (fun e w'=>e=.returned (zjo l tup t).2/\w'=w)) (hK:K t) :
  ztr P f args l tup w K:=⟨t,h,hK⟩
theorem zl {P:Program}{f:FuncId}{args:Array Value}{l:List Sh}{tup:Bool}{w:World}{K:Tup l->World->Prop}{R:Ending->World->Prop}(h:zx P f args w R)
  (hK:∀ e w',R e w'->∃ t,e=.returned (zjo l tup t).2/\K t w'):qc P f args l tup w K:=.go (h.mono hK)
theorem zp3 {P:Program}{f:FuncId}{args:Array Value}{l:List Sh}{tup:Bool}{w:World}{K:Tup l->World->Prop}(t:Tup l) (h:(callFunc f args).run P w=.ok (.value (zjo l tup t).2) w) (hK:K t w):qc P f args l tup w K:=.own _ _ h (.refl w) ⟨t,rfl,hK⟩
theorem zq5 {P:Program}{f:FuncId}{args:Array Value}{l:List Sh}{tup:Bool}{w:World}{K:Tup l->World->Prop}(t:Tup l) (w':World) (h:(callFunc f args).run P w=.ok (.value (zjo l tup t).2) w') (hc:Calm w w') (hK:K t w'):qc P f args l tup w K:=.own _ _ h hc ⟨t,rfl,hK⟩
theorem qw {P:Program}{m:Sem Value}{s:Sh}{w:World}{K:s.T->Prop}(t:s.T) (h:m.run P w=.ok (s.val t) w) (hK:K t):jv P m s w K:=⟨t,h,hK⟩
theorem zbg {P:Program}{m:Sem Value}{s:Sh}{w:World}{K:s.T->World->Prop}(t:s.T) (w':World) (h:m.run P w=.ok (s.val t) w') (hK:K t w') (hc:Calm w w':=by first | exact⟨rfl,rfl,rfl,Nat.le_refl _⟩ | exact⟨rfl,rfl,rfl,Nat.le_succ _⟩):zde P m s w K:=⟨t,w',h,hc,hK⟩
theorem z5f {a b:Int}{K:Int->Prop}(m n:Nat) (ha:a=(m:Int)) (hb:b=(n:Int)) (hn:n≠0) (hm:m < 9223372036854775808) (hK:K ((m / n:Nat):Int)):z7v .i64 a b K:=by
 subst ha hb
 have hd:m / n<=m:=Nat.div_le_self _ _
 refine⟨by omega,_,?_,hK⟩
 have he:Int.tdiv (m:Int) (n:Int)=((m / n:Nat):Int):=by rw [Int.tdiv_eq_ediv_of_nonneg (by omega)];rfl
 rw [he]
 generalize m / n=d at *
 rw [wrap_i64 (by omega) (by omega)]
def IxO (v:Option Value) (d n:Nat):Prop:=(v=none/\n=d)\/∃ k,v=some (.int k (n:Int))
theorem IxO.no {d:Nat}:IxO none d d:=.inl ⟨rfl,rfl⟩
theorem IxO.yes {d n:Nat}{k:IntKind}{i:Int}(h:i=(n:Int)):IxO (some (.int k i)) d n:=.inr ⟨k,by rw [h]⟩
section
variable {P:Program}{w:World}
theorem zre {isS:Bool}{len cap l h:Nat}{lo hi:Option Value}(hlo:IxO lo 0 l) (hhi:IxO hi len h) (h1:l<=h) (h2:h<=cap) :
  (Instr.sliceBounds isS len cap lo hi none).run P w=.ok (l,h,cap) w:=by
 have eh:∀ k code,(Instr.sliceBound (.int k (h:Int)) cap code).run P w=.ok h w:=by
  intro k code
  simp [Instr.sliceBound,asIntOf,h2]
 have el:∀ k code,(Instr.sliceBound (.int k (l:Int)) h code).run P w=.ok l w:=by
  intro k code
  simp [Instr.sliceBound,asIntOf,h1]
 rcases hlo with⟨rfl,rfl⟩ | ⟨k,rfl⟩ <;> rcases hhi with⟨rfl,rfl⟩ | ⟨k',rfl⟩ <;> simp [Instr.sliceBounds,eh,el]
theorem zbi {t e:TypeId}{sz:Nat}{a:Option Addr}{len cap l h:Nat}{lo hi:Option Value}(hu:P.underlying t=some (.slice e)) (hs:(P.info? e).map (·.size)=some sz) (hlo:IxO lo 0 l) (hhi:IxO hi len h) (h1:l<=h) (h2:h<=cap) :
  (Instr.sliceAt t (.slice a len cap) lo hi none).run P w=.ok (.slice (if cap=l then a else a.map (·.add (l * sz))) (h-l) (cap-l)) w:=by
 simp [Instr.sliceAt,Instr.slice,zy hu,zre hlo hhi h1 h2,zbr hs]
theorem zso {t:TypeId}{s:ByteArray}{l h:Nat}{lo hi:Option Value}(hu:P.underlying t=some .string) (hlo:IxO lo 0 l) (hhi:IxO hi s.size h) (h1:l<=h) (h2:h<=s.size) :
  (Instr.sliceAt t (.string s) lo hi none).run P w=.ok (.string (s.extract l h)) w:=by
 simp [Instr.sliceAt,Instr.slice,zy hu,zre hlo hhi h1 h2]
def Cells (H:Heap) (a:Option Addr) (vs:List Value):Prop:=
 vs=[]\/∃ b o c T fr,a=some ⟨b,o,none⟩/\H[b]?=some (.cells c T fr)/\o+vs.length<=c.size/\(c.extract o (o+vs.length)).toList=vs
theorem Cells.ext {M:List Nat}{H H':Heap}{a:Option Addr}{vs:List Value}(h:Cells H a vs) (hx:Ext M H H') (hM:∀ x,a=some x->vs≠[]->x.block∉M):Cells H' a vs:=by
 by_cases hv:vs=[]
 ·exact .inl hv
 rcases h with h | ⟨b,o,c,T,fr,rfl,hb,hn,he⟩
 ·exact .inl h
 ·exact .inr ⟨b,o,c,T,fr,rfl,hx.get hb (hM _ rfl hv),hn,he⟩
theorem Cells.lt {H:Heap}{a:Option Addr}{vs:List Value}(h:Cells H a vs) (hne:vs≠[]):∃ x,a=some x/\x.block < H.size:=by
 rcases h with h | ⟨b,o,c,T,fr,rfl,hb,hn,he⟩
 ·exact absurd h hne
 ·exact⟨_,rfl,lt_of_get hb⟩
theorem zp8 {a:Addr}:(loadCells a 0).run P w=.ok #[] w:=rfl
theorem zo9 {H:Heap}{a:Option Addr}{l c sz n:Nat}{vs:List Value}(hw:w.heap=H) (h:Cells H a vs) (hn:n * sz=vs.length):(Builtin.firstCells sz n (.slice a l c)).run P w=.ok vs.toArray w:=by
 rcases h with rfl | ⟨b,o,c',T,fr,rfl,hb,hle,he⟩
 ·simp only [List.length_nil] at hn
  cases a with
  | none=>rfl
  | some a=>simp only [Builtin.firstCells,hn,zp8]
 ·simp only [Builtin.firstCells,hn]
  rw [zl1 hw hb hle]
  congr 1
  apply Array.ext'
  simpa using he
theorem Cells.part {H:Heap}{a:Option Addr}{vs:List Value}(h:Cells H a vs) (k m:Nat) (hk:k+m<=vs.length):Cells H (a.map (·.add k)) ((vs.drop k).take m):=by
 rcases h with rfl | ⟨b,o,c,T,fr,rfl,hb,hle,he⟩
 ·left;simp
 ·right
  refine⟨b,o+k,c,T,fr,by simp [zan],hb,by simp;omega,?_⟩
  have hl:((vs.drop k).take m).length=m:=by simp;omega
  rw [hl]
  conv=>rhs;rw [<-he]
  simp only [Array.toList_extract,List.extract_eq_take_drop,List.drop_take,List.take_take,List.drop_drop]
  congr 1
  omega
theorem Cells.take {H:Heap}{a:Option Addr}{vs:List Value}(h:Cells H a vs) (m:Nat):Cells H a (vs.take m):=by
 by_cases hm:m<=vs.length
 ·have:=h.part 0 m (by omega)
  cases a with
  | none=>
   rcases h with rfl | ⟨b,o,c,T,fr,h,_⟩
   ·left;simp
   ·cases h
  | some a=>simpa [Addr.add] using this
 ·rw [List.take_of_length_le (by omega)];exact h
theorem Cells.drop {H:Heap}{a:Option Addr}{vs:List Value}(h:Cells H a vs) (k cap:Nat) (hcap:vs.length<=cap):Cells H (if cap=k then a else a.map (·.add k)) (vs.drop k):=by
 by_cases hk:k < vs.length
 ·rw [if_neg (by omega)]
  have:=h.part k (vs.length-k) (by omega)
  rwa [List.take_of_length_le (by simp)] at this
 ·left;exact List.drop_eq_nil_of_le (by omega)
def byteCells (L:List UInt8):List Value:=L.map fun b=>.int .u8 (b.toNat:Int)
@[simp] theorem zf8 {L:List UInt8}:(byteCells L).length=L.length:=by simp [byteCells]
theorem zcs {L:List UInt8}:zbf (byteCells L):=by
 intro v hv
 simp only [byteCells,List.mem_map] at hv
 obtain⟨b,_,rfl⟩:=hv
 rfl
theorem zp7 {L:List UInt8}{n:Nat}:(byteCells L).take n=byteCells (L.take n):=by simp [byteCells]
theorem zqv {L:List UInt8}{n:Nat}:(byteCells L).drop n=byteCells (L.drop n):=by simp [byteCells]
theorem byteCells_append {L M:List UInt8}:byteCells L++byteCells M=byteCells (L++M):=by simp [byteCells]
theorem zr4 {L:List UInt8}{i:Nat}(h:i < L.length):(byteCells L)[i]?=some (.int .u8 ((L.getD i 0).toNat:Int)):=by
 simp [byteCells,List.getD_eq_getElem?_getD,List.getElem?_eq_getElem h]
theorem Cells.bytes {H:Heap}{a:Option Addr}{L:List UInt8}(h:Cells H a (byteCells L)) (hne:L≠[]):∃ b o c T fr,a=some ⟨b,o,none⟩/\H[b]?=some (.cells c T fr)/\o+L.length<=c.size/\Bytes c o (fun i=>L.getD i 0) L.length:=by
 rcases h with h | ⟨b,o,c,T,fr,rfl,hb,hn,he⟩
 ·exact absurd (by simpa [byteCells] using h) hne
 ·refine⟨b,o,c,T,fr,rfl,hb,by simpa using hn,fun i hi=>?_⟩
  have h1:=zr4 hi
  rw [<-he,Array.getElem?_toList,Array.getElem?_extract] at h1
  simp only [zf8] at h1 hn
  rw [if_pos (by omega)] at h1
  exact h1
theorem z6j {H:Heap}{st xt e ty:TypeId}{sz bd od dl dc sl sc:Nat}{sa:Option Addr}{cd:Array Value}{Td:TypeId}{vs:List Value}(hu:P.underlying st=some (.slice e)) (hs:(P.info? e).map (·.size)=some sz)
  (hw:w.heap=H) (hsrc:Cells H sa vs) (hn:min sl dl * sz=vs.length) (h1:zbf vs) (hd:H[bd]?=some (.cells cd Td (0,0))) (hdn:od+vs.length<=cd.size) :
  ∃ w',(Builtin.copy_ #[st,xt] ty #[.slice (some ⟨bd,od,none⟩) dl dc,.slice sa sl sc]).run P w=.ok (.int .i64 ((min sl dl:Nat):Int)) w'/\Calm w w'/\w'.heap=H.setIfInBounds bd (.cells (setCells cd od vs) Td (0,0)):=by
 obtain⟨w',h2,h4,h3⟩:=zja (P:=P) vs w H cd od 0 h1 hw hd (by simpa using hdn)
 refine⟨w',?_,h4,by simpa using h3⟩
 have hf:=zo9 (P:=P) (l:=sl) (c:=sc) (sz:=sz) (n:=min sl dl) hw hsrc hn
 have hmin:Nat.min sl dl=min sl dl:=rfl
 simp only [Builtin.copy_,List.getElem?_toArray,List.getElem?_cons_zero,List.getElem?_cons_succ,Sem.run_bind,zy hu,Result.andThen_ok,Builtin.lenOf,Sem.run_pure,zbr hs,hmin,hf,h2,goInt]
def Mine (H:Heap) (B:Nat) (T:TypeId) (sz:Nat) (x:Option Addr×Nat×Nat) (vs:List Value):Prop:=
 (x=(none,0,0)/\vs=[])\/∃ b c,x.1=some ⟨b,0,none⟩/\B<=b/\H[b]?=some (.cells c T (0,0))/\c.size=x.2.2 * sz/\vs.length=x.2.1 * sz/\x.2.1<=x.2.2/\(c.extract 0 vs.length).toList=vs
theorem Mine.cells {H:Heap}{B:Nat}{T:TypeId}{sz:Nat}{x:Option Addr×Nat×Nat}{vs:List Value}(h:Mine H B T sz x vs):Cells H x.1 vs:=by
 rcases h with⟨_,rfl⟩ | ⟨b,c,hx,_,hb,hc,hl,hle,he⟩
 ·exact .inl rfl
 ·refine .inr ⟨b,0,c,T,(0,0),hx,hb,?_,by simpa using he⟩
  rw [hl,hc];simpa using Nat.mul_le_mul_right sz hle
theorem Mine.len {H:Heap}{B:Nat}{T:TypeId}{sz:Nat}{x:Option Addr×Nat×Nat}{vs:List Value}(h:Mine H B T sz x vs):vs.length=x.2.1 * sz:=by
 rcases h with⟨rfl,rfl⟩ | ⟨b,c,hx,_,hb,hc,hl,hle,he⟩
 ·simp
 ·exact hl
def zbu (x:Option Addr×Nat×Nat):List Nat:=match x.1 with | some a=>[a.block] | none=>[]
theorem Mine.ext {M:List Nat}{H H':Heap}{B:Nat}{T:TypeId}{sz:Nat}{x:Option Addr×Nat×Nat}{vs:List Value}(h:Mine H B T sz x vs) (hx:Ext M H H') (hM:∀ b,b∈zbu x->b∉M):Mine H' B T sz x vs:=by
 rcases h with h | ⟨b,c,hx1,hB,hb,hc,hl,hle,he⟩
 ·exact .inl h
 ·exact .inr ⟨b,c,hx1,hB,hx.get hb (hM b (by simp [zbu,hx1])),hc,hl,hle,he⟩
theorem Mine.mono {H:Heap}{B B':Nat}{T:TypeId}{sz:Nat}{x:Option Addr×Nat×Nat}{vs:List Value}(h:Mine H B T sz x vs) (hB:B'<=B):Mine H B' T sz x vs:=by
 rcases h with h | ⟨b,c,hx1,hB1,hb⟩
 ·exact .inl h
 ·exact .inr ⟨b,c,hx1,Nat.le_trans hB hB1,hb⟩
theorem zak {H:Heap}{B:Nat}{T:TypeId}{sz:Nat}{x:Option Addr×Nat×Nat}{vs:List Value}(h:Mine H B T sz x vs):∀ b,b∈zbu x->B<=b:=by
 rcases h with⟨rfl,_⟩ | ⟨b,c,hx1,hB,_⟩
 ·simp [zbu]
 ·simp [zbu,hx1,hB]
theorem zy8 (newLen:Nat):∀ (r c:Nat),c<=2 * newLen->Builtin.growBy newLen r c<=2 * newLen+192:=by
 intro r
 induction r with
 | zero=>intro c h;simp only [Builtin.growBy];omega
 | succ r ih=>
  intro c h
  simp only [Builtin.growBy]
  split
  ·omega
  ·rename_i hlt
   by_cases hb:c+(c+768) / 4<=2 * newLen
   ·exact ih _ hb
   ·cases r with
    | zero=>simp only [Builtin.growBy];omega
    | succ r=>
     simp only [Builtin.growBy]
     rw [if_pos (by omega)]
     omega
theorem zwx {newLen oldCap:Nat}(h:oldCap < newLen):Builtin.nextslicecap newLen oldCap<=2 * newLen+192:=by
 unfold Builtin.nextslicecap
 split
 ·omega
 ·split
  ·omega
  ·exact zy8 _ _ _ (by omega)
def Src (P:Program) (w:World) (v:Value) (sz n:Nat) (vs:List Value):Prop:=(Builtin.lenOf v).run P w=.ok n w/\vs.length=n * sz/\∀ w',w'.heap=w.heap->(Builtin.firstCells sz n v).run P w'=.ok vs.toArray w'
theorem Src.slc {H:Heap}{a:Option Addr}{l c sz:Nat}{vs:List Value}(hw:w.heap=H) (h:Cells H a vs) (hl:vs.length=l * sz):Src P w (.slice a l c) sz l vs:=
 ⟨rfl,hl,fun w' hw'=>zo9 (hw'.trans hw) h hl.symm⟩
def strCells (s:ByteArray):List Value:=s.data.toList.map fun b=>.int .u8 b.toNat
theorem Src.str {s:ByteArray}:Src P w (.string s) 1 s.size (strCells s):=by
 refine⟨rfl,by simp [strCells],fun _ _=>?_⟩
 have:s.extract 0 s.size=s:=by
  ext1
  simp
 simp only [Builtin.firstCells,this,strCells,Sem.run_pure]
 congr 1
 apply Array.ext'
 simp
theorem z05 {H:Heap}{st xt e ty:TypeId}{info:TypeInfo}{z:Value}{sz B:Nat}{x:Option Addr×Nat×Nat}{y:Value}{n:Nat}{vs us:List Value}(hu:P.underlying st=some (.slice e)) (hx:∃ d,P.underlying xt=some d/\∀ k,d≠.int k)
  (hi:P.info? e=some info) (hsz:info.size=sz) (hz:info.zero=some z) (hzs:z.cells.size=sz) (hb0:info.bytes≠0) (hw:w.heap=H) (hown:Mine H B e sz x vs) (hB:B<=H.size) (hsrc:Src P w y sz n us) (h1:zbf us)
  (hroom:(2 * (x.2.1+n)+192) * info.bytes<=281474976710656) :
  ∃ x' w',(Builtin.append_ #[st,xt] ty #[.slice x.1 x.2.1 x.2.2,y]).run P w=.ok (.slice x'.1 x'.2.1 x'.2.2) w'/\Calm w w'/\Mine w'.heap B e sz x' (vs++us)/\x'.2.1=x.2.1+n/\Ext (zbu x) H w'.heap/\(∀ b,b∈zbu x'->b∈zbu x\/H.size<=b):=by
 obtain⟨hlen,hul,hfirst⟩:=hsrc
 obtain⟨d,hxd,hxk⟩:=hx
 have hnoint:(d matches .int _)=false:=by
  cases d <;> first | rfl | (exact absurd rfl (hxk _))
 have hse:(P.info? e).map (·.size)=some sz:=by rw [hi];simp [hsz]
 have hti:(typeInfo e).run P w=.ok info w:=by simp [typeInfo,hi]
 by_cases hfit:x.2.1+n<=x.2.2
 ·-- there is room
  rcases hown with⟨rfl,rfl⟩ | ⟨b,c,hx1,hBb,hb,hc,hl,hle,he⟩
  ·simp only [Nat.zero_add,Nat.le_zero] at hfit
   subst hfit
   simp only [Nat.zero_mul] at hul
   obtain rfl:us=[]:=List.length_eq_zero_iff.1 hul
   refine⟨(none,0,0),w,?_,.refl w,.inl ⟨rfl,rfl⟩,rfl,by rw [hw];exact .refl _ _,fun b hb=>.inl hb⟩
   simp only [Builtin.append_,List.getElem?_toArray,List.getElem?_cons_zero,List.getElem?_cons_succ,Sem.run_bind,zy hu,zy hxd,Result.andThen_ok,Sem.run_pure,hnoint,Bool.false_eq_true,if_false,zbr hse,hlen,
    Nat.add_zero,Nat.le_refl,if_true,Bool.not_false,hfirst w rfl]
  ·have hcs:vs.length+us.length<=c.size:=by
    rw [hl,hul,hc,<-Nat.add_mul]
    exact Nat.mul_le_mul_right sz hfit
   obtain⟨w',h2,h4,h3⟩:=zja (P:=P) us w H c (x.2.1 * sz) 0 h1 hw hb (by rw [<-hl];simpa using hcs)
   refine⟨(x.1,x.2.1+n,x.2.2),w',?_,h4,?_,rfl,?_,fun b hb=>.inl hb⟩
   ·rw [hx1]
    simp only [Builtin.append_,List.getElem?_toArray,List.getElem?_cons_zero,List.getElem?_cons_succ,Sem.run_bind,zy hu,zy hxd,Result.andThen_ok,Sem.run_pure,hnoint,Bool.false_eq_true,if_false,zbr hse,hlen,
     if_pos hfit,Bool.not_false,if_true,hfirst w rfl,zan,Nat.zero_add,h2]
   ·rw [h3]
    refine .inr ⟨b,_,hx1,hBb,xk hb,by simp [hc],?_,hfit,?_⟩
    ·rw [List.length_append,hl,hul,<-Nat.add_mul]
    ·apply List.ext_getElem?
     intro i
     rw [Array.toList_extract,List.extract_eq_take_drop]
     simp only [List.drop_zero,Nat.sub_zero]
     rw [List.getElem?_take]
     by_cases hilt:i < (vs++us).length
     ·rw [if_pos hilt]
      rw [Array.getElem?_toList,zjl (by rw [Nat.add_zero,<-hl];exact hcs)]
      simp only [Nat.add_zero]
      by_cases hiv:i < vs.length
      ·rw [if_neg (by omega),List.getElem?_append_left hiv]
       have:((c.extract 0 vs.length).toList)[i]?=vs[i]?:=by rw [he]
       rw [Array.getElem?_toList,Array.getElem?_extract,if_pos (by omega)] at this
       simpa using this
      ·rw [List.length_append] at hilt
       rw [if_pos (by omega),List.getElem?_append_right (by omega),hl]
     ·rw [if_neg hilt,List.getElem?_eq_none (by omega)]
   ·rw [h3]
    exact Ext.set _ (by simp [zbu,hx1])
 ·-- it grows
  subst hw
  have hcl:=hown.cells
  have hll:=hown.len
  have hgrow:Builtin.nextslicecap (x.2.1+n) x.2.2 * info.bytes<=281474976710656:=
   Nat.le_trans (Nat.mul_le_mul_right _ (zwx (by omega))) hroom
  have hcap:x.2.1+n<=281474976710656:=by
   have:(x.2.1+n) * 1<=(2 * (x.2.1+n)+192) * info.bytes:=Nat.mul_le_mul (by omega) (by omega)
   omega
  have hold:∀ w',w'.heap=w.heap->(Builtin.firstCells sz x.2.1 (.slice x.1 x.2.1 x.2.2)).run P w'=.ok vs.toArray w':=fun w' hw'=>zo9 hw' hcl hll.symm
  have hch:∀ w:World,(choose (.appendCap (x.2.1+n) x.2.2 e)).run P w=.ok (x.2.1+n+w.tape w.drawn (.appendCap (x.2.1+n) x.2.2 e) % (2 ^ 63-(x.2.1+n))) { w with drawn:=w.drawn+1 }:=
   fun w=>by simp [Question.forced,Question.cut]
  generalize hq:x.2.1+n+w.tape w.drawn (.appendCap (x.2.1+n) x.2.2 e) % (2 ^ 63-(x.2.1+n))=q at *
  have hqn:x.2.1+n<=q:=by omega
  have hzv:∀ w',(zeroValue e).run P w'=.ok z w':=fun w'=>by simp [zeroValue,typeInfo,hi,hz]
  refine⟨(some ⟨w.heap.size,0,none⟩,x.2.1+n,q),{ w with drawn:=w.drawn+1,heap:=w.heap.push (.cells (vs.toArray++us.toArray++Builtin.zeroCells z.cells (q-(x.2.1+n))) e) },?_,⟨rfl,rfl,rfl,Nat.le_succ _⟩,?_,rfl,?_,?_⟩
  ·have hn1:¬((x.2.1+n:Nat):Int) > IntKind.i64.max:=by
    have:IntKind.i64.max=9223372036854775807:=by decide
    rw [this];omega
   have hn2:¬Builtin.nextslicecap (x.2.1+n) x.2.2 * info.bytes > 2 ^ 48:=by
    have:(2:Nat) ^ 48=281474976710656:=by decide
    rw [this];omega
   have hti':∀ w',(typeInfo e).run P w'=.ok info w':=fun w'=>by simp [typeInfo,hi]
   simp only [Builtin.append_,List.getElem?_toArray,List.getElem?_cons_zero,List.getElem?_cons_succ,Sem.run_bind,zy hu,zy hxd,Result.andThen_ok,Sem.run_pure,hnoint,Bool.false_eq_true,if_false,zbr hse,hlen,
    if_neg hfit,Bool.not_false,if_true,hti',hn1,false_and,hn2,hch,hq,run_askRoom,hold { w with drawn:=w.drawn+1 } rfl,hfirst { w with drawn:=w.drawn+1 } rfl,hzv,newRow,run_newObj]
  ·refine .inr ⟨w.heap.size,vs.toArray++us.toArray++Builtin.zeroCells z.cells (q-(x.2.1+n)),rfl,hB,?_,?_,?_,hqn,?_⟩
   ·simp
   ·simp only [Array.size_append,List.size_toArray,Builtin.zeroCells,Array.size_map,Array.size_range,hll,hul,hzs]
    rw [<-Nat.add_mul,<-Nat.add_mul]
    congr 1
    omega
   ·rw [List.length_append,hll,hul,<-Nat.add_mul]
   ·rw [Array.toList_extract,List.extract_eq_take_drop]
    simp only [List.drop_zero,Nat.sub_zero,Array.toList_append,List.length_append]
    rw [<-List.length_append,List.take_left]
  ·exact .push _
  ·intro b hb
   simp only [zbu,List.mem_singleton] at hb
   exact .inr (by omega)
end
def arr (L:List UInt8):Value:=.agg (byteCells L).toArray
section
variable {P:Program}
theorem byte_at (L:List UInt8) (i:Nat):(byteCells L).toArray[i]?=(L[i]?).map fun b=>Value.int .u8 (b.toNat:Int):=by
 simp [byteCells]
theorem zo7 {e:TypeId}{info:TypeInfo}{w:World}(he:P.underlying e=some (.int .u8)) (L:List UInt8){i:Nat}(hi:i < L.length):(part e (byteCells L).toArray i).run P w=.ok (.int .u8 ((L[i]).toNat:Int)) w:=
 run_part_plain w (by simp [Program.plainKey,he]) (by rw [byte_at];simp [hi])
theorem zmj {e:TypeId}{d:Nat}{w:World}(he:P.underlying e=some (.int .u8)) (hc:P.cellsOf e=1) (A B:List UInt8):∀ is:List Nat,(∀ i∈is,i < A.length/\i < B.length) ->
  (Op.eqItems (d+1) e (P.cellsOf e) (byteCells A).toArray (byteCells B).toArray is).run P w=.ok (decide (∀ i∈is,A[i]?=B[i]?)) w
 | [],_=>by simp [Op.eqItems]
 | i :: is,h=>by
  have h1:=h i (by simp)
  have ih:=zmj (d:=d) (w:=w) he hc A B is fun j hj=>h j (by simp [hj])
  simp only [Op.eqItems,Sem.run_bind,hc,Nat.mul_one]
  rw [zo7 (info:=default) he A h1.1]
  simp only [Result.andThen_ok]
  rw [zo7 (info:=default) he B h1.2]
  simp only [Result.andThen_ok]
  rw [run_equalIn_int w d e .u8 .u8 _ _ he]
  simp only [Result.andThen_ok]
  rw [hc] at ih
  by_cases hb:A[i]=B[i]
  ·have:(((A[i]).toNat:Int)==((B[i]).toNat:Int))=true:=by rw [hb];simp
   simp only [this,Bool.not_true,Bool.false_eq_true,if_false,ih]
   congr 1
   simp [List.getElem?_eq_getElem h1.1,List.getElem?_eq_getElem h1.2,hb]
  ·have:(((A[i]).toNat:Int)==((B[i]).toNat:Int))=false:=by
    simp only [beq_eq_false_iff_ne,ne_eq]
    intro hh
    apply hb
    apply UInt8.toNat_inj.1
    omega
   simp only [this,Bool.not_false,if_true,Sem.run_pure]
   congr 1
   simp [List.getElem?_eq_getElem h1.1,List.getElem?_eq_getElem h1.2,hb]
theorem zt1 {t e:TypeId}{n:Nat}{w:World}(hu:P.underlying t=some (.array n e)) (he:P.underlying e=some (.int .u8)) (hc:P.cellsOf e=1){A B:List UInt8}(hA:A.length=n) (hB:B.length=n) :
  (Op.equal t (arr A) (arr B)).run P w=.ok (decide (A=B)) w:=by
 have hi:∃ i,P.info? e=some i:=info_of_underlying he
 obtain⟨i,hi⟩:=hi
 unfold Op.equal Op.maxDepth arr
 rw [run_equalIn_array w 9999 _ _ hu hi,zmj (d:=9998) he hc A B (List.range n) (by intro j hj;simp at hj;omega)]
 congr 1
 simp only [List.mem_range,decide_eq_decide]
 constructor
 ·intro h
  apply List.ext_getElem?
  intro j
  by_cases hj:j < n
  ·exact h j hj
  ·rw [List.getElem?_eq_none (by omega),List.getElem?_eq_none (by omega)]
 ·rintro rfl _ _;rfl
theorem zy4 {t e:TypeId}{n:Nat}{w:World}(hu:P.underlying t=some (.array n e)) (he:P.underlying e=some (.int .u8)) (hc:P.cellsOf e=1){A:List UInt8}(hA:A.length=n) (em:Bool) :
  (Instr.checkKey em 10000 t (arr A)).run P w=.ok () w:=by
 have hi:∃ i,P.info? e=some i:=info_of_underlying he
 obtain⟨i,hi⟩:=hi
 unfold arr
 rw [show (10000:Nat)=9998+1+1 from rfl,Instr.checkKey]
 simp only [Sem.run_bind,zy hu,Result.andThen_ok]
 simp only [Std.Legacy.Range.forIn_eq_forIn_range',Std.Legacy.Range.size,Nat.sub_zero,Nat.add_one_sub_one,Nat.div_one]
 have each:∀ j∈List.range' 0 n,j < A.length:=by intro j hj;simp [List.mem_range'] at hj;omega
 generalize List.range' 0 n=is at each
 induction is with
 | nil=>simp
 | cons j is ih=>
  have p1:(part e (byteCells A).toArray j).run P w=_:=zo7 (info:=default) he A (each j (by simp))
  have p2:(Instr.checkKey em (9998+1) e (.int .u8 ((A[j]'(each j (by simp))).toNat:Int))).run P w=.ok () w:=by
   rw [Instr.checkKey]
   simp only [Sem.run_bind,zy he,Result.andThen_ok,Sem.run_pure]
  simp only [List.forIn_cons,Sem.run_bind,run_sizeOf w hi,Result.andThen_ok,hc,Nat.mul_one,p1,p2,Sem.run_pure]
  exact ih fun y hy=>each y (by simp [hy])
end
structure KeyOk (P:Program) (kt:TypeId) (κ:Type) [DecidableEq κ] (ok:κ->Prop) (enc:κ->Value):Prop where
 find:∀ (w:World) (k:κ) (es:List MapEntry) (l:List (κ×Value×Nat)),ok k->(∀ x∈l,ok x.1)->es=l.map (fun x=>⟨enc x.1,x.2.1,x.2.2⟩) ->
  (Instr.findKey kt (enc k) es).run P w=.ok ((l.findIdx? (fun x=>x.1==k)).bind fun i=>(l[i]?).map fun x=>(i,x.2.1)) w
 chk:∀ (w:World) (k:κ) (e:Bool),ok k->(Instr.checkKey e 10000 kt (enc k)).run P w=.ok () w
 same:∀ k:κ,ok k->Instr.sameBits 10000 (enc k) (enc k)=true
section
variable {P:Program}{κ:Type} [DecidableEq κ] {ok:κ->Prop}{enc:κ->Value}
theorem zkz {kt:TypeId}{w:World}(heq:∀ (w:World) (a b:κ),ok a->ok b->(Op.equal kt (enc a) (enc b)).run P w=.ok (decide (a=b)) w){k:κ}(hk:ok k):∀ (l:List (κ×Value×Nat)) (i:Nat),(∀ x∈l,ok x.1) ->
  (Instr.findAsking kt (enc k) (l.map fun x=>⟨enc x.1,x.2.1,x.2.2⟩) i).run P w=.ok ((l.findIdx? (fun x=>x.1==k)).bind fun j=>(l[j]?).map fun x=>(i+j,x.2.1)) w
 | [],i,_=>by simp [Instr.findAsking]
 | x :: l,i,h=>by
  have ih:=zkz (w:=w) heq hk l (i+1) fun y hy=>h y (by simp [hy])
  simp only [List.map_cons,Instr.findAsking,Sem.run_bind,heq w k x.1 hk (h x (by simp)),Result.andThen_ok]
  by_cases e:x.1=k
  ·subst e
   simp [List.findIdx?_cons]
  ·have e':¬k=x.1:=fun h=>e h.symm
   simp only [e',decide_false,Bool.false_eq_true,if_false,ih]
   congr 1
   rw [List.findIdx?_cons]
   simp only [beq_eq_false_iff_ne.2 e]
   cases hf:List.findIdx? (fun x=>x.1==k) l with
   | none=>simp
   | some j=>simp [Nat.add_assoc,Nat.add_comm 1 j]
theorem KeyOk.wide {kt:TypeId}(heq:∀ (w:World) (a b:κ),ok a->ok b->(Op.equal kt (enc a) (enc b)).run P w=.ok (decide (a=b)) w)
  (hw:(match P.underlying kt with | some (.array _ _) | some (.struct _)=>true | _=>false)=true) (hc:∀ (w:World) (k:κ) (e:Bool),ok k->(Instr.checkKey e 10000 kt (enc k)).run P w=.ok () w)
  (hs:∀ k:κ,ok k->Instr.sameBits 10000 (enc k) (enc k)=true):KeyOk P kt κ ok enc where
 find w k es l hk hl he:=by
  subst he
  rw [run_findKey_eq w hw,zkz heq hk l 0 hl]
  simp
 chk:=hc
 same:=hs
end
theorem zsv (L:List UInt8):Instr.sameBits 10000 (arr L) (arr L)=true:=by
 unfold arr
 rw [show (10000:Nat)=9999+1 from rfl,Instr.sameBits]
 simp only [beq_self_eq_true,Bool.true_and,List.all_eq_true]
 intro x hx
 simp only [byteCells] at hx
 have:∀ (l:List UInt8),x∈(l.map fun b=>Value.int .u8 (b.toNat:Int)).zip (l.map fun b=>Value.int .u8 (b.toNat:Int))->∃ b:UInt8,x=(Value.int .u8 (b.toNat:Int),Value.int .u8 (b.toNat:Int)):=by
  intro l
  induction l with
  | nil=>intro h;cases h
  | cons b l ih=>
   intro h
   simp only [List.map_cons,List.zip_cons_cons,List.mem_cons] at h
   rcases h with rfl | h
   ·exact⟨b,rfl⟩
   ·exact ih h
 obtain⟨b,rfl⟩:=this L hx
 simp [Instr.sameBits]
theorem KeyOk.arr {P:Program}{t e:TypeId}{n:Nat}(hu:P.underlying t=some (.array n e)) (he:P.underlying e=some (.int .u8)) (hc:P.cellsOf e=1):KeyOk P t (List UInt8) (fun L=>L.length=n) arr:=
 .wide (fun w a b ha hb=>zt1 hu he hc ha hb) (by rw [hu]) (fun w k e hk=>zy4 hu he hc hk e) fun k _=>zsv k
def ents {κ:Type}(enc:κ->Value) (l:List (κ×Value×Nat)):Array MapEntry:=(l.map fun x=>⟨enc x.1,x.2.1,x.2.2⟩).toArray
set_option linter.unusedSectionVars false
section
variable {κ ν:Type} [DecidableEq κ]
abbrev ML (κ ν:Type):=List (κ×ν×Nat)
def zi9 (l:ML κ ν) (k:κ):Option ν:=(l.find? fun x=>x.1==k).map (·.2.1)
def zxm (l:ML κ ν) (k:κ) (v:ν) (c:Nat):ML κ ν:=if (zi9 l k).isSome then l.map (fun x=>if x.1=k then (x.1,v,x.2.2) else x) else l++[(k,v,c)]
def zxv (l:ML κ ν) (k:κ) (c:Nat):Nat:=if (zi9 l k).isSome then c else c+1
structure MOk (ok:κ->Prop) (l:ML κ ν) (c:Nat):Prop where
 keys:(l.map (·.1)).Nodup
 born:(l.map (·.2.2)).Nodup
 old:∀ x∈l,x.2.2 < c
 fine:∀ x∈l,ok x.1
theorem zm5 {l:ML κ ν}{k:κ}{v:ν}(h:zi9 l k=some v):∃ c,(k,v,c)∈l:=by
 simp only [zi9,Option.map_eq_some_iff] at h
 obtain⟨x,hx,rfl⟩:=h
 have h1:=List.find?_some hx
 have h2:=List.mem_of_find?_eq_some hx
 simp at h1
 subst h1
 exact⟨x.2.2,h2⟩
theorem zvh {l:ML κ ν}(hn:(l.map (·.1)).Nodup){k:κ}{v:ν}{c:Nat}(h:(k,v,c)∈l):zi9 l k=some v:=by
 induction l with
 | nil=>cases h
 | cons x l ih=>
  simp only [List.map_cons,List.nodup_cons] at hn
  simp only [zi9,List.find?_cons]
  rcases List.mem_cons.1 h with h | h
  ·subst h;simp
  ·have hne:x.1≠k:=fun e=>hn.1 (by rw [e];exact List.mem_map.2 ⟨_,h,rfl⟩)
   simp only [beq_eq_false_iff_ne.2 hne]
   exact ih hn.2 h
theorem zmd {l:ML κ ν}{k:κ}(h:zi9 l k=none):∀ x∈l,x.1≠k:=by
 simp only [zi9,Option.map_eq_none_iff,List.find?_eq_none] at h
 intro x hx e
 exact absurd (h x hx) (by simp [e])
theorem zn2 {l:ML κ ν}{k:κ}(h:∀ x∈l,x.1≠k):zi9 l k=none:=by
 simp only [zi9,Option.map_eq_none_iff,List.find?_eq_none]
 intro x hx
 simp [h x hx]
theorem zmn {l:ML κ ν}{k:κ}{v:ν}{c:Nat}(h:(zi9 l k).isSome=true):zxm l k v c=l.map (fun x=>if x.1=k then (x.1,v,x.2.2) else x):=by simp [zxm,h]
theorem zjg {l:ML κ ν}{k:κ}{v:ν}{c:Nat}(h:zi9 l k=none):zxm l k v c=l++[(k,v,c)]:=by simp [zxm,h]
theorem z3q {l:ML κ ν}{k:κ}{v:ν}{c:Nat}{x:κ×ν×Nat}(h:x∈zxm l k v c):(x.1=k/\x.2.1=v)\/(x.1≠k/\x∈l):=by
 cases hg:zi9 l k with
 | none=>
  rw [zjg hg] at h
  rcases List.mem_append.1 h with h | h
  ·exact .inr ⟨zmd hg x h,h⟩
  ·simp at h;subst h;exact .inl ⟨rfl,rfl⟩
 | some v'=>
  rw [zmn (by rw [hg];rfl)] at h
  obtain⟨y,hy,rfl⟩:=List.mem_map.1 h
  by_cases e:y.1=k
  ·rw [if_pos e];exact .inl ⟨e,rfl⟩
  ·rw [if_neg e];exact .inr ⟨e,hy⟩
theorem key_inj {ok:κ->Prop}{l:ML κ ν}{c:Nat}(h:MOk ok l c){x y:κ×ν×Nat}(hx:x∈l) (hy:y∈l) (e:x.1=y.1):x=y:=by
 have h1:=h.keys
 clear h
 induction l with
 | nil=>cases hx
 | cons z l ih=>
  simp only [List.map_cons,List.nodup_cons] at h1
  rcases List.mem_cons.1 hx with e1 | hx1 <;> rcases List.mem_cons.1 hy with e2 | hy1
  ·rw [e1,e2]
  ·exact absurd (List.mem_map.2 ⟨y,hy1,by rw [<-e,e1]⟩) h1.1
  ·exact absurd (List.mem_map.2 ⟨x,hx1,by rw [e,e2]⟩) h1.1
  ·exact ih hx1 hy1 h1.2
theorem ztx {l:ML κ ν}{k:κ}{v:ν}:(l.map (fun x=>if x.1=k then (x.1,v,x.2.2) else x)).map (·.1)=l.map (·.1):=by
 rw [List.map_map];congr 1;funext x;simp only [Function.comp];split <;> rfl
theorem zsu {l:ML κ ν}{k:κ}{v:ν}:(l.map (fun x=>if x.1=k then (x.1,v,x.2.2) else x)).map (·.2.2)=l.map (·.2.2):=by
 rw [List.map_map];congr 1;funext x;simp only [Function.comp];split <;> rfl
theorem MOk.upd {ok:κ->Prop}{l:ML κ ν}{c:Nat}(h:MOk ok l c){k:κ}(hk:ok k) (v:ν):MOk ok (zxm l k v c) (zxv l k c):=by
 cases hg:zi9 l k with
 | some v'=>
  rw [zmn (by rw [hg];rfl),show zxv l k c=c from by simp [zxv,hg]]
  refine⟨by rw [ztx];exact h.keys,by rw [zsu];exact h.born,?_,?_⟩
  ·intro x hx
   obtain⟨y,hy,rfl⟩:=List.mem_map.1 hx
   split <;> exact h.old y hy
  ·intro x hx
   obtain⟨y,hy,rfl⟩:=List.mem_map.1 hx
   split <;> exact h.fine y hy
 | none=>
  rw [zjg hg,show zxv l k c=c+1 from by simp [zxv,hg]]
  have hn:=zmd hg
  refine⟨?_,?_,?_,?_⟩
  ·rw [List.map_append,List.nodup_append]
   refine⟨h.keys,by simp,?_⟩
   intro a ha b hb
   simp at hb;subst hb
   obtain⟨y,hy,rfl⟩:=List.mem_map.1 ha
   exact hn y hy
  ·rw [List.map_append,List.nodup_append]
   refine⟨h.born,by simp,?_⟩
   intro a ha b hb
   simp at hb;subst hb
   obtain⟨y,hy,rfl⟩:=List.mem_map.1 ha
   have:=h.old y hy;omega
  ·intro x hx
   rcases List.mem_append.1 hx with hx | hx
   ·have:=h.old x hx;omega
   ·simp at hx;subst hx;simp
  ·intro x hx
   rcases List.mem_append.1 hx with hx | hx
   ·exact h.fine x hx
   ·simp at hx;subst hx;exact hk
theorem MOk.nil {ok:κ->Prop}:MOk (κ:=κ) (ν:=ν) ok [] 0:=⟨by simp,by simp,by simp,by simp⟩
end
section heap
variable {P:Program}{w:World}{H:Heap}{κ:Type} [DecidableEq κ] {ok:κ->Prop}{enc:κ->Value}{mt kt et:TypeId}{m:Nat}{l:ML κ Value}{c:Nat}
theorem zwv {o:Obj}{r:Nat}(hw:w.heap=H) (h:H[r]?=some o) (hno:∀ c e f,o≠.cells c e f):(getObj r).run P w=.ok o w:=by
 subst hw
 cases o <;> first | (exact absurd rfl (hno _ _ _)) | simp [getObj,Sem.run,h]
theorem zwa {o o':Obj}{r:Nat}(hw:w.heap=H) (h:H[r]?=some o) (hno:∀ c e f,o≠.cells c e f):(setObj r o').run P w=.ok () { w with heap:=H.setIfInBounds r o' }:=by
 subst hw
 cases o <;> first | (exact absurd rfl (hno _ _ _)) | simp [setObj,Sem.run,h]
theorem zow {l:ML κ Value}{k:κ}:((l.findIdx? (fun x=>x.1==k)).bind fun i=>(l[i]?).map fun x=>(i,x.2.1)).map (·.2)=zi9 l k:=by
 induction l with
 | nil=>rfl
 | cons x l ih=>
  simp only [List.findIdx?_cons,zi9,List.find?_cons]
  by_cases e:x.1=k
  ·simp [e]
  ·simp only [beq_eq_false_iff_ne.2 e]
   refine Eq.trans ?_ ih
   cases List.findIdx? (fun x=>x.1==k) l with
   | none=>simp
   | some i=>
    simp only [Bool.false_eq_true,if_false,Option.map_some,Option.bind_some,List.getElem?_cons_succ]
    cases l[i]? <;> rfl
theorem zv2 (K:KeyOk P kt κ ok enc) (hu:P.underlying mt=some (.map kt et)){z:Value}(hz:∀ w,(zeroValue et).run P w=.ok z w) (hw:w.heap=H) (hm:H[m]?=some (.map (ents enc l) c)) (hl:MOk ok l c){k:κ}(hk:ok k) :
  (Instr.lookup mt (.map (some m)) (enc k) true).run P w=.ok (.tuple #[(zi9 l k).getD z,.bool (zi9 l k).isSome]) w:=by
 have hf:=K.find w k (ents enc l).toList l hk hl.fine (by simp [ents])
 have hg:=zow (l:=l) (k:=k)
 generalize ((l.findIdx? (fun x=>x.1==k)).bind fun i=>(l[i]?).map fun x=>(i,x.2.1))=r at hf hg
 simp only [Instr.lookup,Sem.run_bind,zy hu,Result.andThen_ok,zwv hw hm (by intros;simp),Sem.run_pure,K.chk w k _ hk,hf]
 rw [<-hg]
 cases r with
 | none=>simp [hz]
 | some x=>simp
theorem zxf (hn:(l.map (·.1)).Nodup){k:κ}{v:Value}{i:Nat}{x:κ×Value×Nat}(hi:l.findIdx? (fun x=>x.1==k)=some i) (hx:l[i]?=some x) :
  (ents enc l).modify i (fun e=>{ e with key:=enc k,val:=v })=ents enc (l.map (fun x=>if x.1=k then (x.1,v,x.2.2) else x)):=by
 rw [List.findIdx?_eq_some_iff_getElem] at hi
 obtain⟨hlt,hk,_⟩:=hi
 simp only [beq_iff_eq] at hk
 apply Array.ext_getElem?
 intro j
 rw [Array.getElem?_modify]
 simp only [ents,List.getElem?_toArray,List.getElem?_map,List.map_map]
 by_cases hj:i=j
 ·subst hj
  simp only [if_true]
  rw [List.getElem?_eq_getElem hlt]
  simp [hk]
 ·simp only [hj,if_false]
  by_cases hjl:j < l.length
  ·rw [List.getElem?_eq_getElem hjl]
   simp only [Option.map_some,Function.comp]
   have hne:l[j].1≠k:=by
    intro e
    have:=List.pairwise_iff_getElem.1 hn
    rcases Nat.lt_or_gt_of_ne hj with h | h
    ·exact this i j (by simpa using hlt) (by simpa using hjl) h (by simp [hk,e])
    ·exact this j i (by simpa using hjl) (by simpa using hlt) h (by simp [hk,e])
   simp [hne]
  ·rw [List.getElem?_eq_none (by omega)];rfl
theorem ztw {k:κ}(h:zi9 l k=none):l.findIdx? (fun x=>x.1==k)=none:=by
 rw [List.findIdx?_eq_none_iff]
 intro x hx
 simp [zmd h x hx]
theorem zs5 {k:κ}{v:Value}(h:zi9 l k=some v):∃ i x,l.findIdx? (fun x=>x.1==k)=some i/\l[i]?=some x/\x.1=k:=by
 cases hf:l.findIdx? (fun x=>x.1==k) with
 | none=>
  rw [List.findIdx?_eq_none_iff] at hf
  obtain⟨c,hm⟩:=zm5 h
  have:=hf _ hm
  simp at this
 | some i=>
  have h2:=List.findIdx?_eq_some_iff_getElem.1 hf
  obtain⟨hlt,hk,_⟩:=h2
  simp only [beq_iff_eq] at hk
  exact⟨i,l[i],rfl,List.getElem?_eq_getElem hlt,hk⟩
theorem z0d (K:KeyOk P kt κ ok enc) (hu:P.underlying mt=some (.map kt et)) (hw:w.heap=H) (hm:H[m]?=some (.map (ents enc l) c)) (hl:MOk ok l c){k:κ}(hk:ok k) (v:Value) :
  (Instr.mapUpdate mt (.map (some m)) (enc k) v).run P w=.ok () { w with heap:=H.setIfInBounds m (.map (ents enc (zxm l k v c)) (zxv l k c)) }:=by
 have hf:=K.find w k (ents enc l).toList l hk hl.fine (by simp [ents])
 simp only [Instr.mapUpdate,Sem.run_bind,zy hu,Result.andThen_ok,zwv hw hm (by intros;simp),K.chk w k _ hk,hf]
 cases hg:zi9 l k with
 | none=>
  simp only [ztw hg,Option.bind_none]
  rw [zwa hw hm (by intros;simp)]
  congr 4
  rw [zjg hg]
  ·simp [ents]
  ·simp [zxv,hg]
 | some v'=>
  obtain⟨i,x,hi,hx,hxk⟩:=zs5 hg
  simp only [hi,Option.bind_some,hx,Option.map_some]
  have hkey:((ents enc l)[i]?.map (·.key)).getD (enc k)=enc k:=by
   simp [ents,hx,hxk]
  simp only [Sem.run_bind,hkey,Instr.keyThatStays,K.same k hk,if_true,Sem.run_pure,Result.andThen_ok]
  rw [zwa hw hm (by intros;simp)]
  congr 4
  ·rw [zxf hl.keys hi hx,zmn (by rw [hg];rfl)]
  ·simp [zxv,hg]
theorem zpa (hw:w.heap=H):(Instr.makeMap mt none).run P w=.ok (.map (some H.size)) { w with heap:=H.push (.map #[] 0) }:=by
 subst hw;simp [Instr.makeMap]
theorem zzq {ty:TypeId}(hu:P.underlying mt=some (.map kt et)) (hw:w.heap=H) (hm:H[m]?=some (.map (ents enc l) c)):(Builtin.len_ #[mt] ty #[.map (some m)]).run P w=.ok (.int .i64 (l.length:Int)) w:=by
 simp only [Builtin.len_,List.getElem?_toArray,List.getElem?_cons_zero,Sem.run_bind,zy hu,zwv hw hm (by intros;simp),Result.andThen_ok,Sem.run_pure]
 simp [ents]
 rfl
theorem zye (hu:P.underlying mt=some (.map kt et)) (hw:w.heap=H) (hm:H[m]?=some (.map (ents enc l) c)) :
  (Instr.range mt (.map (some m))).run P w=.ok (.pointer (some ⟨H.size,0,none⟩)) { w with heap:=H.push (.mapIter (some m) c #[] c) }:=by
 subst hw
 simp only [Instr.range,Sem.run_bind,zy hu,zwv rfl hm (by intros;simp),Result.andThen_ok,Sem.run_pure,run_newObj]
theorem z4m {ty:TypeId}{r since last:Nat}{seen:Array Nat}(hw:w.heap=H) (hm:H[m]?=some (.map (ents enc l) c)) (hr:H[r]?=some (.mapIter (some m) since seen last)) (hold:∀ x∈l,x.2.2 < since) (hsl:since<=last) :
  ((∀ x∈l,x.2.2∈seen)/\∃ w',(Instr.next (.pointer (some ⟨r,0,none⟩)) false ty).run P w=.ok (.tuple #[.bool false]) w'/\Calm w w'/\w'.heap=H) \/
  ∃ x∈l,x.2.2∉seen/\∃ w',(Instr.next (.pointer (some ⟨r,0,none⟩)) false ty).run P w=.ok (.tuple #[.bool true,enc x.1,x.2.1]) w'/\Calm w w'/\w'.heap=H.setIfInBounds r (.mapIter (some m) since (seen.push x.2.2) c):=by
 subst hw
 rcases run_next_at (P:=P) w ty r m since last seen (ents enc l) c hr hm (by intro x hx;simp only [ents] at hx;obtain⟨y,hy,rfl⟩:=List.mem_map.1 hx;exact hold y hy) hsl with⟨h0,h1⟩ | ⟨e,he,w1,hw1,h1⟩
 ·left
  refine⟨fun x hx=>?_,w,h1,.refl w,rfl⟩
  have h2:leftOf (ents enc l) seen=#[]:=Array.eq_empty_of_size_eq_zero h0
  unfold leftOf at h2
  rw [Array.filter_eq_empty_iff] at h2
  have:=h2 ⟨enc x.1,x.2.1,x.2.2⟩ (by simp [ents];exact⟨_,_,_,hx,rfl,rfl,rfl⟩)
  simpa using this
 ·right
  simp only [leftOf,ents,Array.toList_filter,List.mem_filter] at he
  obtain⟨h2,h3⟩:=he
  obtain⟨x,hx,rfl⟩:=List.mem_map.1 h2
  refine⟨x,hx,by simpa using h3,_,h1,?_,?_⟩
  ·rcases hw1 with rfl | rfl <;> first | exact⟨rfl,rfl,rfl,Nat.le_refl _⟩ | exact⟨rfl,rfl,rfl,Nat.le_succ _⟩
  ·rcases hw1 with rfl | rfl <;> rfl
theorem z2v {r since last:Nat}{seen:Array Nat}(hw:w.heap=H) (hm:H[m]?=some (.map (ents enc l) c)){x:κ×Value×Nat}(hr:H[r]?=some (.mapIter (some m) since (seen.push x.2.2) c)) (hx:x∈l) (hl:MOk ok l c) :
  (Instr.entry (.pointer (some ⟨r,0,none⟩))).run P w=.ok (.tuple #[enc x.1,x.2.1]) w:=by
 subst hw
 refine run_entry_at w r m since seen (ents enc l) c ⟨enc x.1,x.2.1,x.2.2⟩ hr hm (by simp only [ents];exact List.mem_map.2 ⟨x,hx,rfl⟩) ?_
 have:=hl.born
 simp only [ents,List.map_map]
 exact this
end heap
def vl {κ ν:Type}(ev:ν->Value) (l:ML κ ν):ML κ Value:=l.map fun x=>(x.1,ev x.2.1,x.2.2)
section views
variable {P:Program}{w:World}{H:Heap}{κ ν:Type} [DecidableEq κ] {ok:κ->Prop}{enc:κ->Value}{ev:ν->Value}{mt kt et:TypeId}{m:Nat}{l:ML κ ν}{c:Nat}
theorem zss {k:κ}:zi9 (vl ev l) k=(zi9 l k).map ev:=by
 induction l with
 | nil=>rfl
 | cons x l ih=>
  simp only [vl,zi9,List.map_cons,List.find?_cons] at ih |-
  by_cases e:x.1=k
  ·simp [e]
  ·simp only [beq_eq_false_iff_ne.2 e];exact ih
theorem z2p {k:κ}{v:ν}:zxm (vl ev l) k (ev v) c=vl ev (zxm l k v c):=by
 unfold zxm
 rw [zss]
 cases zi9 l k with
 | none=>simp [vl]
 | some v'=>
  simp only [Option.map_some,Option.isSome_some,if_true]
  simp only [vl,List.map_map]
  congr 1
  funext x
  simp only [Function.comp]
  split <;> rfl
theorem z3a {k:κ}:zxv (vl ev l) k c=zxv l k c:=by
 unfold zxv;rw [zss];cases zi9 l k <;> rfl
theorem MOk.vl (h:MOk ok l c):MOk ok (vl ev l) c:=by
 refine⟨?_,?_,?_,?_⟩
 ·have:=h.keys;simp only [Fw.vl,List.map_map];exact this
 ·have:=h.born;simp only [Fw.vl,List.map_map];exact this
 ·intro x hx;obtain⟨y,hy,rfl⟩:=List.mem_map.1 hx;exact h.old y hy
 ·intro x hx;obtain⟨y,hy,rfl⟩:=List.mem_map.1 hx;exact h.fine y hy
theorem zom (K:KeyOk P kt κ ok enc) (hu:P.underlying mt=some (.map kt et)){z:Value}(hz:∀ w,(zeroValue et).run P w=.ok z w) (hw:w.heap=H) (hm:H[m]?=some (.map (ents enc (vl ev l)) c)) (hl:MOk ok l c){k:κ}(hk:ok k) :
  (Instr.lookup mt (.map (some m)) (enc k) true).run P w=.ok (.tuple #[((zi9 l k).map ev).getD z,.bool (zi9 l k).isSome]) w:=by
 rw [zv2 K hu hz hw hm hl.vl hk,zss]
 cases zi9 l k <;> rfl
theorem zwf (K:KeyOk P kt κ ok enc) (hu:P.underlying mt=some (.map kt et)) (hw:w.heap=H) (hm:H[m]?=some (.map (ents enc (vl ev l)) c)) (hl:MOk ok l c){k:κ}(hk:ok k) (v:ν){y:Value}(hy:y=ev v) :
  (Instr.mapUpdate mt (.map (some m)) (enc k) y).run P w=.ok () { w with heap:=H.setIfInBounds m (.map (ents enc (vl ev (zxm l k v c))) (zxv l k c)) }:=by
 subst hy
 rw [z0d K hu hw hm hl.vl hk,z2p,z3a]
theorem ztv {ty:TypeId}(hu:P.underlying mt=some (.map kt et)) (hw:w.heap=H) (hm:H[m]?=some (.map (ents enc (vl ev l)) c)):(Builtin.len_ #[mt] ty #[.map (some m)]).run P w=.ok (.int .i64 (l.length:Int)) w:=by
 rw [zzq hu hw hm];simp [vl]
theorem z1o {ty:TypeId}{r since last:Nat}{seen:Array Nat}(hw:w.heap=H) (hm:H[m]?=some (.map (ents enc (vl ev l)) c)) (hr:H[r]?=some (.mapIter (some m) since seen last)) (hold:∀ x∈l,x.2.2 < since) (hsl:since<=last) :
  ((∀ x∈l,x.2.2∈seen)/\∃ w',(Instr.next (.pointer (some ⟨r,0,none⟩)) false ty).run P w=.ok (.tuple #[.bool false]) w'/\Calm w w'/\w'.heap=H) \/
  ∃ x∈l,x.2.2∉seen/\∃ w',(Instr.next (.pointer (some ⟨r,0,none⟩)) false ty).run P w=.ok (.tuple #[.bool true,enc x.1,ev x.2.1]) w'/\Calm w w'/\w'.heap=H.setIfInBounds r (.mapIter (some m) since (seen.push x.2.2) c):=by
 rcases z4m (P:=P) (ty:=ty) hw hm hr (by intro x hx;obtain⟨y,hy,rfl⟩:=List.mem_map.1 hx;exact hold y hy) hsl with⟨h1,h2⟩ | ⟨x,hx,h1,h2⟩
 ·exact .inl ⟨fun x hx=>h1 (x.1,ev x.2.1,x.2.2) (List.mem_map.2 ⟨x,hx,rfl⟩),h2⟩
 ·obtain⟨y,hy,rfl⟩:=List.mem_map.1 hx
  exact .inr ⟨y,hy,h1,h2⟩
theorem zy3 {r since last:Nat}{seen:Array Nat}(hw:w.heap=H) (hm:H[m]?=some (.map (ents enc (vl ev l)) c)){x:κ×ν×Nat}(hr:H[r]?=some (.mapIter (some m) since (seen.push x.2.2) c)) (hx:x∈l) (hl:MOk ok l c) :
  (Instr.entry (.pointer (some ⟨r,0,none⟩))).run P w=.ok (.tuple #[enc x.1,ev x.2.1]) w:=
 z2v (x:=(x.1,ev x.2.1,x.2.2)) (last:=last) hw hm hr (List.mem_map.2 ⟨x,hx,rfl⟩) hl.vl
theorem zz0 {seen:Array Nat}{x:κ×ν×Nat}(hx:x∈l) (hn:x.2.2∉seen) :
  (l.filter fun y=>!(seen.push x.2.2).contains y.2.2).length < (l.filter fun y=>!seen.contains y.2.2).length:=by
 have hsub:∀ y:κ×ν×Nat,(!(seen.push x.2.2).contains y.2.2)=true->(!seen.contains y.2.2)=true:=by
  intro y hy
  simp only [Bool.not_eq_true',Array.contains_eq_mem,Array.mem_push,decide_eq_false_iff_not,not_or] at hy |-
  exact hy.1
 induction l with
 | nil=>cases hx
 | cons y l ih=>
  have hle:∀ l:ML κ ν,(l.filter fun y=>!(seen.push x.2.2).contains y.2.2).length<=(l.filter fun y=>!seen.contains y.2.2).length:=by
   intro l
   rw [<-List.countP_eq_length_filter,<-List.countP_eq_length_filter]
   exact List.countP_mono_left fun z _=>hsub z
  rcases List.mem_cons.1 hx with rfl | hx
  ·have h1:(!(seen.push x.2.2).contains x.2.2)=false:=by simp
   have h2:(!seen.contains x.2.2)=true:=by simp [hn]
   simp only [List.filter_cons,h1,h2,Bool.false_eq_true,if_false,if_true,List.length_cons]
   have:=hle l;omega
  ·have:=ih hx
   simp only [List.filter_cons]
   by_cases h:(!(seen.push x.2.2).contains y.2.2)=true
   ·simp only [h,hsub y h,if_true,List.length_cons];omega
   ·rw [if_neg h]
    by_cases h2:(!seen.contains y.2.2)=true
    ·rw [if_pos h2,List.length_cons];omega
    ·rw [if_neg h2];exact this
theorem zis {seen:Array Nat}{a b:Nat}(h:b≠a):(seen.push a).contains b=seen.contains b:=by
 simp only [Array.contains_eq_mem,Array.mem_push,h,or_false]
theorem zs7 {seen:Array Nat}{x:κ×ν×Nat}(hb:(l.map (·.2.2)).Nodup) (hx:x∈l) (hn:x.2.2∉seen) :
  (l.filter fun y=>(seen.push x.2.2).contains y.2.2).Perm ((l.filter fun y=>seen.contains y.2.2)++[x]):=by
 induction l with
 | nil=>cases hx
 | cons y l ih=>
  simp only [List.map_cons,List.nodup_cons] at hb
  by_cases hxy:x=y
  ·subst hxy
   have h1:(l.filter fun y=>(seen.push x.2.2).contains y.2.2)=l.filter fun y=>seen.contains y.2.2:=by
    apply List.filter_congr
    intro z hz
    exact zis fun h=>hb.1 (h▸List.mem_map_of_mem hz)
   have h2:(seen.push x.2.2).contains x.2.2=true:=by simp
   have h3:seen.contains x.2.2=false:=by simpa using hn
   simp only [List.filter_cons,h2,h3,if_true,h1,Bool.false_eq_true,if_false]
   exact (List.perm_append_singleton _ _).symm
  ·have hxl:x∈l:=by
    rcases List.mem_cons.1 hx with h | h
    ·exact absurd h hxy
    ·exact h
   have hne:y.2.2≠x.2.2:=fun h=>hb.1 (h▸List.mem_map_of_mem hxl)
   simp only [List.filter_cons,zis hne]
   split
   ·exact (ih hb.2 hxl).cons _
   ·exact ih hb.2 hxl
end views
def zhq (x:Option Addr×Nat×Nat):Value:=.slice x.1 x.2.1 x.2.2
theorem zb4 {P:Program}{m:Sem Value}{l:List Sh}{w:World}{K:Tup l->Prop}(t:Tup l) (h:m.run P w=.ok (.tuple (Tup.vals l t).toArray) w) (hK:K t):zlt P m l w K:=⟨t,h,hK⟩
theorem zpz {v:Value}{i:Nat}{s:Sh}{K:s.T->Prop}{vs:Array Value}(t:s.T) (hv:v=.tuple vs) (h:vs[i]?=some (s.val t)) (hK:K t):exV v i s K:=⟨vs,t,hv,h,hK⟩
theorem zzg {P:Program}{m:Sem Unit}{w:World}{K:World->Prop}(w':World) (h:m.run P w=.ok () w') (hK:K w') (hc:Calm w w':=by first | exact⟨rfl,rfl,rfl,Nat.le_refl _⟩ | exact⟨rfl,rfl,rfl,Nat.le_succ _⟩):jy P m w K:=⟨w',h,hc,hK⟩
section
variable {P:Program}{w:World}
theorem z2s {t e:TypeId}{n:Nat}{x y:Operand}(hu:P.underlying t=some (.array n e)) (he:P.underlying e=some (.int .u8)) (hc:P.cellsOf e=1) (hg:P.eqGuardType P.depth t=false){A B:List UInt8}(hA:A.length=n) (hB:B.length=n) :
  (eqM .eql t x y (arr A) (arr B)).run P w=.ok (.bool (decide (A=B))) w:=by
 have h:=zt1 (w:=w) hu he hc hA hB
 unfold arr at h |-
 simp [eqM,eqGuard,binOp,hg,h]
end
def strOf (L:List UInt8):ByteArray:=⟨L.toArray⟩
theorem fold_push (L:List UInt8):∀ (s:ByteArray),(L.map fun b=>(b.toNat:Int)).foldl (fun r n=>r.push (UInt8.ofNat n.toNat)) s=⟨s.data++L.toArray⟩:=by
 induction L with
 | nil=>intro s;cases s;simp
 | cons b l ih=>
  intro s
  simp only [List.map_cons,List.foldl_cons]
  rw [ih]
  cases s
  simp [ByteArray.push]
section
variable {P:Program}{w:World}{H:Heap}
theorem zuz {st sd e:TypeId}{a:Option Addr}{l c:Nat}{L:List UInt8}(hs:P.underlying st=some (.slice e)) (he:P.underlying e=some (.int .u8)) (hd:P.underlying sd=some .string) (hw:w.heap=H) (hL:Cells H a (byteCells L)) (hl:l=L.length) :
  (convert st sd (.slice a l c)).run P w=.ok (.string (strOf L)) w:=by
 subst hl
 rw [run_convert_bytes_string w st sd e a _ c hs he hd]
 cases a with
 | none=>
  have:L=[]:=by
   rcases hL with h | ⟨b,o,c,T,fr,h,_⟩
   ·simpa [byteCells] using h
   ·cases h
  subst this
  rfl
 | some a=>
  have hcs:(loadCells a L.length).run P w=.ok ((L.map fun b=>(b.toNat:Int)).map (Value.int .u8)).toArray w:=by
   rw [List.map_map]
   rcases hL with h | ⟨b,o,c,T,fr,h,hb,hn,hc⟩
   ·have:L=[]:=by simpa [byteCells] using h
    subst this
    rfl
   ·cases h
    rw [zf8] at hn
    rw [zl1 hw hb hn]
    congr 1
    rw [zf8] at hc
    apply Array.ext'
    rw [hc]
    rfl
  rw [run_bytesToString w a L.length c _ hcs,fold_push]
  simp [strOf]
theorem zwq {a:Addr}{vs:List Value}(hw:w.heap=H) (h:Cells H (some a) vs){i:Nat}{v:Value}(hi:vs[i]?=some v):w.cell? (a.add i)=some v:=by
 have hlt:=(List.getElem?_eq_some_iff.1 hi).1
 rcases h with h | ⟨b,o,c,T,fr,h,hb,hn,hc⟩
 ·subst h;simp at hlt
 ·cases h
  rw [zan,zpu hw hb]
  rw [<-hc,Array.getElem?_toList,Array.getElem?_extract] at hi
  split at hi
  ·exact hi
  ·cases hi
end
open Go.Proofs Go.Shelf Go.RowKit Go.Lib Go.Sort
theorem getElem_flatMap {α:Type}{k:Nat}(enc:α->List Value) (hk:∀ x,(enc x).length=k) (h0:0 < k):∀ (xs:List α) (t:Nat),(xs.flatMap enc)[t]?=(xs[t / k]?).bind fun x=>(enc x)[t % k]?
 | [],t=>by simp
 | x :: xs,t=>by
  rw [List.flatMap_cons]
  by_cases ht:t < k
  ·rw [List.getElem?_append_left (by rw [hk];exact ht),Nat.div_eq_of_lt ht,Nat.mod_eq_of_lt ht]
   simp
  ·rw [List.getElem?_append_right (by rw [hk];omega),hk,getElem_flatMap enc hk h0 xs (t-k)]
   have h1:t / k=(t-k) / k+1:=by
    rw [Nat.div_eq_sub_div h0 (by omega)]
   have h2:t % k=(t-k) % k:=by rw [Nat.mod_eq_sub_mod (by omega)]
   rw [h1,h2]
   simp
theorem ji {α:Type}{k:Nat}(enc:α->List Value) (hk:∀ x,(enc x).length=k) (xs:List α):(xs.flatMap enc).length=xs.length * k:=by
 induction xs with
 | nil=>simp
 | cons x r ih=>rw [List.flatMap_cons,List.length_append,hk,ih,List.length_cons,Nat.add_mul];omega
theorem zto {α:Type} [Inhabited α] {k:Nat}(enc:α->List Value) (hk:∀ x,(enc x).length=k) (h0:0 < k) (d:Array α) (t:Nat) (h:t < d.size * k):(d.toList.flatMap enc)[t]?=some (flatK enc k d)[t]!:=by
 rw [getElem_flatMap enc hk h0,get_flatK enc k d t h]
 have h1:t / k < d.size:=(Nat.div_lt_iff_lt_mul h0).2 h
 have h2:t % k < k:=Nat.mod_lt _ h0
 simp only [Array.getElem?_toList]
 rw [Array.getElem?_eq_getElem h1,Option.bind_some,List.getElem?_eq_getElem (by rw [hk];exact h2),getElem!_pos d _ h1,getElem!_pos _ _ (by rw [hk];exact h2)]
theorem grown_of {W W':World}(hx:Ext [] W.heap W'.heap) (hc:Calm W W'):∃ q os',W'=grow (W.drewN q) os':=by
 refine⟨W'.drawn-W.drawn,W'.heap.extract W.heap.size W'.heap.size,?_⟩
 obtain⟨h1,h2⟩:=hx
 have hh:W'.heap=W.heap++W'.heap.extract W.heap.size W'.heap.size:=by
  apply Array.ext_getElem?
  intro i
  by_cases hi:i < W.heap.size
  ·rw [Array.getElem?_append_left hi];exact h2 i hi (by simp)
  ·rw [Array.getElem?_append_right (by omega),Array.getElem?_extract]
   by_cases hi':i < W'.heap.size
   ·rw [if_pos (by omega)];congr 1;omega
   ·rw [if_neg (by omega),Array.getElem?_eq_none (by omega)]
 obtain⟨c1,c2,c3,c4⟩:=hc
 cases W' with
 | mk h t d o u=>
  simp only at hh c1 c2 c3 c4
  subst c1 c2 c3
  unfold grow World.drewN
  simp only [World.mk.injEq,and_self,and_true]
  exact⟨hh,trivial,(Nat.add_sub_cancel' c4).symm⟩
variable {P:Program}{ρ:Ren}{α:Type} [Inhabited α]
theorem z4w (L:SlLaysF0.n6 P ρ){k:Nat}(aE:∀ w,(isAgg (ρ.t 24)).run P w=.ok true w) (zE:∀ w,(Go.sizeOf (ρ.t 24)).run P w=.ok k w) (enc:α->List Value) (hk:∀ x,(enc x).length=k) (h0:0 < k)
  (h1:∀ x,∀ v∈enc x,v.oneCell'=true) (cf:α->α->Int) (hO:SWO (ltOf cf)){g:Nat}(eg:∀ args w,(callFunc g args).run P w=.ok (.enter g args) w) (e6:∀ args w,(callFunc (ρ.f 6) args).run P w=.ok (.enter (ρ.f 6) args) w)
  (hcmp:∀ W x y,zx P g #[.agg (enc x).toArray,.agg (enc y).toArray] W fun e W'=>e=.returned (.int .i64 (cf x y))/\Ext [] W.heap W'.heap)
  {w:World}{H:Heap}(hw:w.heap=H){B:Nat}{T:TypeId}{x:Option Addr×Nat×Nat}{xs:List α}(hM:Mine H B T k x (xs.flatMap enc)) (hlen:xs.length < 4611686018427387904) :
  zx P (ρ.f 6) #[.slice x.1 x.2.1 x.2.2,.func (.func g) #[] #[]] w fun e w'=>e=.returned (.tuple #[])/\∃ ys:List α,ys.Perm xs/\ys.Pairwise (fun a b=>¬cf b a < 0)/\Mine w'.heap B T k x (ys.flatMap enc)/\Ext (zbu x) H w'.heap:=by
 subst hw
 have hl:=hM.len
 rw [ji enc hk] at hl
 have hxl:x.2.1=xs.length:=(Nat.eq_of_mul_eq_mul_right h0 hl).symm
 refine⟨e6 _ _,?_⟩
 rcases hM with⟨rfl,hnil⟩ | ⟨b,c,hx1,hB,hb,hc,hl2,hle,he⟩
 ·clear hxl hl
  have hx0:xs=[]:=by
   have:=congrArg List.length hnil
   rw [ji enc hk,List.length_nil] at this
   rcases Nat.mul_eq_zero.1 this with h | h
   ·exact List.eq_nil_of_length_eq_zero h
   ·omega
  refine (AnyF.slices_SortFunc_none L none 0 _ w).mono ?_
  rintro e w' ⟨he,hw'⟩
  subst hw'
  exact⟨⟨he,[],by rw [hx0],.nil,.inl ⟨rfl,rfl⟩,.refl _ _⟩,.refl _⟩
 ·obtain⟨xa,xl,xc⟩:=x
  simp only at hx1 hxl hc hl2 hle
  subst hx1 hxl
  have hlt:b < w.heap.size:=lt_of_get hb
  have hcl:xs.length * k<=c.size:=by rw [hc];exact Nat.mul_le_mul_right k hle
  have hget:∀ t,t < xs.length * k->c[t]?=(xs.flatMap enc)[t]?:=by
   intro t ht
   rw [<-he,Array.getElem?_toList,Array.getElem?_extract]
   rw [if_pos (by rw [ji enc hk];omega)]
   simp
  have hH:HoldsK enc k w b 0 xs.toArray:=by
   intro j hj
   simp only [size_flatK,List.size_toArray] at hj
   have h2:=zto enc hk h0 xs.toArray j (by simpa using hj)
   refine⟨?_,?_⟩
   ·rw [Nat.zero_add,zpu rfl hb,hget j hj]
    simpa using h2
   ·exact zop rfl hb
  have hcon:=AnyQ.slices_SortFunc L k aE zE enc hk h1 cf hO g #[] b 0 xc xs.toArray w eg (fun m os dk _ x y=>?_) hH hlt (by simpa using hlen)
  ·simp only [List.size_toArray] at hcon
   refine hcon.mono ?_
   rintro e w' ⟨rfl,d',n,os,hp,hs,rfl⟩
   obtain⟨hps,_,hpp⟩:=hp
   have hps':d'.size=xs.length:=by simpa using hps
   have hperm:d'.toList.Perm xs:=by
    have h3:(d'.extract 0 xs.length).toList=d'.toList:=by
     simp only [Array.toList_extract,List.extract_eq_take_drop,List.drop_zero,Nat.sub_zero]
     exact List.take_of_length_le (by simp [hps'])
    have h4:((xs.toArray).extract 0 xs.length).toList=xs:=by simp
    rw [h3,h4] at hpp
    exact hpp
   have hsort:d'.toList.Pairwise (fun a b=>¬cf b a < 0):=by
    rw [List.pairwise_iff_getElem]
    intro i j hi hj hij
    have:=hs i j (Nat.zero_le _) hij (by simpa [hps'] using hj)
    simp only [ltOf,decide_eq_false_iff_not] at this
    rw [getElem!_pos d' j (by simpa using hj),getElem!_pos d' i (by simpa using hi)] at this
    simpa using this
   have hheap:(sortWorldK enc k w b 0 n d' os).heap=(w.heap.setIfInBounds b (.cells (putCells id 0 (flatK enc k d') c) T (0,0)))++os:=by
    unfold sortWorldK grow putRowK putRow mapBlock
    simp only [Sort.ahead]
    congr 1
    apply Array.ext_getElem?
    intro i
    rw [Array.getElem?_modify]
    by_cases hib:b=i
    ·subst hib
     simp only [if_pos,Array.getElem?_setIfInBounds_self_of_lt hlt,hb,Option.map_some]
     rfl
    ·rw [if_neg hib,Array.getElem?_setIfInBounds_ne hib]
   have hsz:(putCells id 0 (flatK enc k d') c).size=c.size:=by simp [putCells]
   have hext:Ext (zbu (some ⟨b,0,none⟩,xs.length,xc)) w.heap (sortWorldK enc k w b 0 n d' os).heap:=by
    rw [hheap]
    refine⟨by simp,fun i hi hn=>?_⟩
    rw [Array.getElem?_append_left (by simpa using hi)]
    exact Array.getElem?_setIfInBounds_ne (by rintro rfl;exact hn (by simp [zbu]))
   refine⟨⟨rfl,d'.toList,hperm,hsort,.inr ⟨b,_,rfl,hB,?_,hsz.trans hc,?_,hle,?_⟩,hext⟩,?_⟩
   ·rw [hheap,Array.getElem?_append_left (by simpa using hlt),Array.getElem?_setIfInBounds_self_of_lt hlt]
   ·rw [ji enc hk];simp [hps']
   ·apply List.ext_getElem?
    intro t
    rw [Array.getElem?_toList,Array.getElem?_extract,ji enc hk]
    simp only [Array.length_toList,hps']
    by_cases ht:t < xs.length * k
    ·rw [if_pos (by omega)]
     have h5:=zto enc hk h0 d' t (by rw [hps'];exact ht)
     rw [h5]
     have h6:t < c.size:=by omega
     simp only [putCells,Nat.zero_add,Array.getElem?_mapIdx,Array.getElem?_eq_getElem h6,Option.map_some]
     rw [if_pos ⟨Nat.zero_le _,by simp [hps',ht]⟩]
     rfl
    ·rw [if_neg (by omega),List.getElem?_eq_none (by rw [ji enc hk];simp [hps'];omega)]
   ·unfold sortWorldK grow putRowK putRow mapBlock
    exact⟨rfl,rfl,rfl,by simp [Sort.ahead]⟩
  ·have h:=(hcmp (sortWorldK enc k w b 0 m dk os) x y).2
   exact h.mono fun e W' ⟨⟨he,hx⟩,hc⟩=>⟨he,grown_of hx hc⟩
def Beside (B:Nat) (W W':World):Prop:=∃ r,B<=r/\(∀ o,W.heap[r]?=some o->zii o)/\Ext [r] W.heap W'.heap
theorem Beside.new {B:Nat}{W W':World}(hB:B<=W.heap.size) (hx:Ext [] W.heap W'.heap):Beside B W W':=
 ⟨W.heap.size,hB,fun o h=>by have:=(Array.getElem?_eq_some_iff.1 h).1;omega,hx.mono (by simp)⟩
theorem Beside.size {B:Nat}{W W':World}(h:Beside B W W'):W.heap.size<=W'.heap.size:=by
 obtain⟨r,_,_,h⟩:=h;exact h.1
theorem Beside.cells {B:Nat}{W W':World}(h:Beside B W W'){b:Nat}{c:Array Value}{T:TypeId}{fr:Nat×Nat}(hb:W.heap[b]?=some (.cells c T fr)):W'.heap[b]?=some (.cells c T fr):=by
 obtain⟨r,_,hn,hx⟩:=h
 refine hx.get hb fun hm=>?_
 simp only [List.mem_singleton] at hm
 subst hm
 exact hn _ hb c T fr rfl
theorem Beside.old {B:Nat}{W W':World}(h:Beside B W W'){b:Nat}(hb:b < B) (hlt:b < W.heap.size):W'.heap[b]?=W.heap[b]?:=by
 obtain⟨r,hB,_,hx⟩:=h
 exact hx.2 b hlt (by simp;omega)
theorem Beside.ext {B:Nat}{W W':World}(h:Beside B W W'){M:List Nat}{H:Heap}(hH:H.size<=B) (hx:Ext M H W.heap):Ext M H W'.heap:=
 ⟨Nat.le_trans hx.1 h.size,fun b hb hn=>(h.old (Nat.lt_of_lt_of_le hb hH) (Nat.lt_of_lt_of_le hb hx.1)).trans (hx.2 b hb hn)⟩
theorem Beside.mine {B B':Nat}{W W':World}(h:Beside B' W W'){T:TypeId}{sz:Nat}{x:Option Addr×Nat×Nat}{vs:List Value}(hM:Mine W.heap B T sz x vs):Mine W'.heap B T sz x vs:=by
 rcases hM with h0 | ⟨b,c,h1,h2,h3,h4⟩
 ·exact .inl h0
 ·exact .inr ⟨b,c,h1,h2,h.cells h3,h4⟩
theorem Beside.mono {B B':Nat}{W W':World}(h:Beside B W W') (hB:B'<=B):Beside B' W W':=by
 obtain⟨r,h2,h3⟩:=h;exact⟨r,Nat.le_trans hB h2,h3⟩
theorem zcx {W:World}{l:Nat}{o:Obj}:(W.putObj l o).heap=W.heap.setIfInBounds l o:=by
 apply Array.ext_getElem?
 intro i
 by_cases h:l=i
 ·subst h
  by_cases hl:l < W.heap.size
  ·rw [World.putObj_heap_same hl,Array.getElem?_setIfInBounds_self_of_lt hl]
  ·rw [Array.getElem?_eq_none (by simp;omega),Array.getElem?_eq_none (by simpa [World.putObj] using hl)]
 ·rw [World.putObj_heap_other (by omega),Array.getElem?_setIfInBounds_ne h]
theorem Beside.put {B:Nat}{W:World}{l:Nat}{o o':Obj}(hB:B<=l) (hl:W.heap[l]?=some o) (ho:zii o):Beside B W (W.putObj l o'):=by
 refine⟨l,hB,fun x hx=>?_,?_⟩
 ·rw [hl] at hx;cases hx;exact ho
 ·rw [zcx]
  exact⟨by simp,fun b _ hn=>Array.getElem?_setIfInBounds_ne (by rintro rfl;exact hn (by simp))⟩
def Keep (M:List Nat) (B:Nat) (H H':Heap):Prop:=H.size<=H'.size/\(∀ b,b < B->b < H.size->b∉M->H'[b]?=H[b]?)/\∀ b o,B<=b->H[b]?=some o->zii o->H'[b]?=some o
theorem Keep.of {M M':List Nat}{B:Nat}{H H':Heap}(h:Ext M' H H') (hM:∀ b∈M',b∈M\/(B<=b/\∃ c T fr,H[b]?=some (.cells c T fr))) (hlt:∀ b∈M,b < B):Keep M B H H':=by
 refine⟨h.1,fun b hb hl hn=>h.2 b hl fun hm=>?_,fun b o hb ho hn=>?_⟩
 ·rcases hM b hm with h1 | ⟨h1,_⟩
  ·exact hn h1
  ·omega
 ·refine h.get ho fun hm=>?_
  rcases hM b hm with h1 | ⟨_,c,T,fr,h1⟩
  ·have:=hlt b h1;omega
  ·rw [ho] at h1;cases h1;exact hn c T fr rfl
theorem Keep.get {M:List Nat}{B:Nat}{H H':Heap}(h:Keep M B H H'){b:Nat}{o:Obj}(hb:H[b]?=some o) (hB:b < B) (hM:b∉M):H'[b]?=some o:=(h.2.1 b hB (lt_of_get hb) hM).trans hb
theorem Keep.ext {M M0:List Nat}{B:Nat}{H0 H H':Heap}(h:Keep M B H H') (h0:Ext M0 H0 H) (hB:H0.size<=B) (hM:∀ b,b < H0.size->b∈M->b∈M0):Ext M0 H0 H':=
 ⟨Nat.le_trans h0.1 h.1,fun b hb hn=>(h.2.1 b (Nat.lt_of_lt_of_le hb hB) (Nat.lt_of_lt_of_le hb h0.1) fun hm=>hn (hM b hb hm)).trans (h0.2 b hb hn)⟩
def qap (P:Program){α:Type}(gv:Value) (S:List α->Prop) (nx:List α->α->Prop) (enc:α->Array Value) (fp:List Nat) (w:World):Prop:=
 ∃ gf lb,gv=.func (.func gf) #[] lb/\∀ (l:Nat) (I:List α->World->Prop) (J:World->Prop) (w1:World) (M:List Nat),
  Ext [] w.heap w1.heap->(∀ b∈M,b < w1.heap.size/\b∉fp)->(∀ pre W W',I pre W->Beside w1.heap.size W W'->I pre W')->I [] w1 ->
  (∀ pre x W,nx pre x->I pre W->zn4 P l (enc x) W fun e W'=>Keep M w1.heap.size W.heap W'.heap/\((e=.returned (.bool true)/\I (pre++[x]) W')\/(e=.returned (.bool false)/\J W'))) ->
  zx P gf (#[.func (.yield l) #[] #[]]++lb) w1 fun e W=>(∃ v,e=.returned v)/\((∃ xs,S xs/\I xs W)\/J W)
theorem zn4.mono {P:Program}{l:Nat}{args:Array Value}{w:World}{R R':Ending->World->Prop}(h:zn4 P l args w R) (hr:∀ e w',R e w'->R' e w'):zn4 P l args w R':=by
 obtain⟨fn,tm,as1,bd,h1,h2⟩:=h
 exact⟨fn,tm,as1,bd,h1,h2.mono fun e w' ⟨h,hc⟩=>⟨hr e w' h,hc⟩⟩
theorem zuv {P:Program}{l:Nat}{args:Array Value}{shs:List Sh}{tup:Bool}{w:World}{K:Tup shs->World->Prop}(h:zn4 P l args w fun e w'=>∃ t,e=.returned (zjo shs tup t).2/\K t w') :
  zpi P (.func (.yield l) #[] #[]) args shs tup w K:=.yield l rfl h
theorem zxp {P:Program}{f:Nat}{args cap:Array Value}{shs:List Sh}{tup:Bool}{w:World}{K:Tup shs->World->Prop}(h:zx P f (args++cap) w fun e w'=>∃ t,e=.returned (zjo shs tup t).2/\K t w') :
  zpi P (.func (.func f) #[] cap) args shs tup w K:=.func f #[] cap rfl (by simpa using h)
theorem zqr {P:Program}{w:World}{H:Heap}{y:TypeId}{v:Value}(hs:P.cellsOf y=v.cells.size) (hz:(zc P y).size=v.cells.size) (h0:v.cells.size≠0) (h1:zbf v.cells.toList) (hw:w.heap=H){K:Nat->World->Prop}
  (hK:∀ w',w'.heap=H.push (.cells v.cells y (0,0))->K H.size w'):zam (zc P y) y w fun b w1=>jy P (storeVar y (⟨b,0,none⟩:Addr) v) w1 fun w2=>K b w2:=by
 refine jg hw fun w1 hw1=>?_
 refine zb0 hs h0 h1 hw1 zn (by omega) fun w2 hw2=>hK w2 ?_
 rw [hw2,zb3 (by simpa using hz.symm)]
 apply Array.ext_getElem?
 intro i
 by_cases h:H.size=i
 ·subst h
  simp
 ·rw [Array.getElem?_setIfInBounds_ne h]
  by_cases hi:i < H.size
  ·rw [zac (Array.getElem?_eq_getElem hi),zac (Array.getElem?_eq_getElem hi)]
  ·rw [Array.getElem?_eq_none (by simp;omega),Array.getElem?_eq_none (by simp;omega)]
def Elem (P:Program) (e:TypeId) (sz bts:Nat):Prop:=∃ info z,P.info? e=some info/\info.size=sz/\info.zero=some z/\z.cells.size=sz/\info.bytes=bts
theorem znw {P:Program}{e:TypeId}{sz bts:Nat}{z:Value}(h:(P.info? e).map (fun i=>(i.size,i.bytes,i.zero))=some (sz,bts,some z)) (hz:z.cells.size=sz):Elem P e sz bts:=by
 obtain⟨i,hi,h⟩:=Option.map_eq_some_iff.1 h
 simp only [Prod.mk.injEq] at h
 exact⟨i,z,hi,h.1,h.2.2,hz,h.2.1⟩
theorem zdr {P:Program}{w:World}{H:Heap}{st xt e ty:TypeId}{sz bts B:Nat}{x:Option Addr×Nat×Nat}{y:Value}{n:Nat}{vs us:List Value}(E:Elem P e sz bts) (hb:bts≠0) (hu:P.underlying st=some (.slice e)) (hx:∃ d,P.underlying xt=some d/\∀ k,d≠.int k)
  (hw:w.heap=H) (hown:Mine H B e sz x vs) (hB:B<=H.size) (hsrc:Src P w y sz n us) (h1:zbf us) (hroom:(2 * (x.2.1+n)+192) * bts<=281474976710656){K:(Option Addr×Nat×Nat)->World->Prop}
  (hK:∀ x' w',Mine w'.heap B e sz x' (vs++us)->x'.2.1=x.2.1+n->Ext (zbu x) H w'.heap->(∀ b,b∈zbu x'->b∈zbu x\/H.size<=b)->K x' w') :
  zde P (Builtin.append_ #[st,xt] ty #[.slice x.1 x.2.1 x.2.2,y]) .slc w K:=by
 obtain⟨i,z,hi,hs,hz,hzs,hbb⟩:=E
 obtain⟨x',w',h2,hc,h3,h4,h5,h6⟩:=z05 (ty:=ty) hu hx hi hs hz hzs (by omega) hw hown hB hsrc h1 (by rw [hbb];exact hroom)
 exact zbg x' w' h2 (hK x' w' h3 h4 h5 h6) hc
theorem zbs {P:Program}{st e:TypeId}(hu:P.underlying st=some (.slice e)):∃ d,P.underlying st=some d/\∀ k,d≠.int k:=⟨_,hu,by intro k h;cases h⟩
theorem zur {P:Program}{w:World}{H:Heap}{a:Option Addr}{len sz:Nat}{α:Type}{enc:α->List Value}(hk:∀ x,(enc x).length=sz) (h0:0 < sz){xs:List α}{v:α}{i:Nat}{n:Int}(hw:w.heap=H) (hL:Cells H a (xs.flatMap enc))
  (hlen:len=xs.length) (hi:xs[i]?=some v) (hn:n=(i:Int)){K:Array Value->Prop}(hK:K (enc v).toArray):ixS a len sz n fun p=>ldA P sz p w K:=by
 have hlt:=(List.getElem?_eq_some_iff.1 hi).1
 rcases hL with h | ⟨b,o,c,T,fr,rfl,hb,hsz,hc⟩
 ·have:=congrArg List.length h
  rw [ji enc hk] at this
  have:=Nat.mul_pos (show 0 < xs.length by omega) h0
  simp_all
 ·refine z0f i hn (by omega) ?_
  have hm:i * sz+sz<=xs.length * sz:=by
   have:=Nat.mul_le_mul_right sz (show i+1<=xs.length by omega)
   rw [Nat.add_mul] at this;omega
  rw [ji enc hk] at hsz
  refine ztj hw hb (by omega) ?_
  have:c.extract (o+i * sz) (o+i * sz+sz)=(enc v).toArray:=by
   apply Array.ext_getElem?
   intro j
   rw [Array.getElem?_extract]
   by_cases hj:j < sz
   ·rw [if_pos (by omega)]
    have h2:(xs.flatMap enc)[i * sz+j]?=(enc v)[j]?:=by
     rw [getElem_flatMap enc hk h0]
     have h3:(i * sz+j) / sz=i:=by
      rw [Nat.mul_comm,Nat.mul_add_div h0,Nat.div_eq_of_lt hj];rfl
     have h4:(i * sz+j) % sz=j:=by
      rw [Nat.mul_comm,Nat.mul_add_mod,Nat.mod_eq_of_lt hj]
     rw [h3,h4,hi];rfl
    rw [<-hc,Array.getElem?_toList,Array.getElem?_extract,ji enc hk,if_pos (by omega)] at h2
    rw [show o+i * sz+j=o+(i * sz+j) by omega,h2]
    simp
   ·rw [if_neg (by omega)]
    rw [Array.getElem?_eq_none (by simp [hk];omega)]
  rw [this];exact hK
theorem zmr (off:Nat):∀ (vs:List Value) (k:Nat) (cs:Array Value),(vs.zipIdx k).foldl (fun cs x=>cs.setIfInBounds (off+x.2) x.1) cs=setCells cs (off+k) vs
 | [],_,_=>rfl
 | v :: r,k,cs=>by
  simp only [List.zipIdx_cons,List.foldl_cons,setCells]
  rw [zmr off r (k+1)]
  rfl
theorem z1h {v:Value}{size:Nat}{cs:Array Value}(hs:v.cells.size=size) (hc:cs.size=size):Instr.fill (fun i=>some (i * size,size)) cs [(0,v)]=some v.cells:=by
 simp only [Instr.fill,Nat.zero_mul,Nat.zero_add,hs,hc,ne_eq,not_true_eq_false,decide_false,Bool.false_or,Nat.lt_irrefl,decide_eq_true_eq,if_false,Bool.or_self,Bool.false_eq_true,gt_iff_lt]
 congr 1
 have h:=zmr 0 v.cells.toList 0 cs
 simp only [Nat.zero_add] at h
 rw [<-Array.foldl_toList,Array.toList_zipIdx,h,zb3 (by simpa [hc] using hs)]
theorem zke {P:Program}{w:World}{st e:TypeId}{sz bts:Nat}{v:Value}(E:Elem P e sz bts) (hu:P.underlying st=some (.slice e)) (hv:v.cells.size=sz) (h0:0 < sz) (h1:sz<=16777216) :
  (Instr.buildSlice st 1 #[(0,v)]).run P w=.ok (.slice (some ⟨w.heap.size,0,none⟩) 1 1) { w with heap:=w.heap.push (.cells v.cells e) }:=by
 obtain⟨i,z,hi,hs,hz,hzs,_⟩:=E
 have hn1:¬(1 * i.size > 2 ^ 24):=by
  have:(2:Nat) ^ 24=16777216:=by decide
  rw [this];omega
 have hn2:¬(1 * i.size=0):=by omega
 have hf:Instr.fill (fun k=>some (k * i.size,i.size)) ((Array.range (1 * i.size)).map (z.cells[· % z.cells.size]!)) [(0,v)]=some v.cells:=z1h (by omega) (by simp)
 exact run_buildSlice w st e 1 #[(0,v)] v.cells i z hu hi hz hn1 hn2 hf
theorem zne:∀ {a b:List UInt8},Lib.compareBytes a b < 0 ↔ a < b
 | [],[]=>by simp [Lib.compareBytes]
 | [],b :: y=>by simp [Lib.compareBytes]
 | a :: x,[]=>by simp [Lib.compareBytes]
 | a :: x,b :: y=>by
  have ih:=zne (a:=x) (b:=y)
  rw [List.cons_lt_cons_iff]
  simp only [Lib.compareBytes]
  by_cases h1:a < b
  ·simp [h1]
  ·rw [if_neg h1]
   by_cases h2:b < a
   ·rw [if_pos h2]
    have:a≠b:=by rintro rfl;exact h1 h2
    simp [h1,this]
   ·rw [if_neg h2]
    have:a=b:=UInt8.le_antisymm (UInt8.not_lt.1 h2) (UInt8.not_lt.1 h1)
    subst this
    simp [h1,ih]
theorem zih:∀ {a b:List UInt8},Lib.compareBytes a b=0 ↔ a=b
 | [],[]=>by simp [Lib.compareBytes]
 | [],b :: y=>by simp [Lib.compareBytes]
 | a :: x,[]=>by simp [Lib.compareBytes]
 | a :: x,b :: y=>by
  have ih:=zih (a:=x) (b:=y)
  simp only [Lib.compareBytes,List.cons.injEq]
  by_cases h1:a < b
  ·have:a≠b:=by rintro rfl;exact UInt8.lt_irrefl _ h1
   simp [h1,this]
  ·rw [if_neg h1]
   by_cases h2:b < a
   ·have:a≠b:=by rintro rfl;exact h1 h2
    simp [h2,this]
   ·rw [if_neg h2]
    have:a=b:=UInt8.le_antisymm (UInt8.not_lt.1 h2) (UInt8.not_lt.1 h1)
    simp [this,ih]
theorem zvy:∀ {a b:List UInt8},Lib.compareBytes a b=- Lib.compareBytes b a
 | [],[]=>by simp [Lib.compareBytes]
 | [],b :: y=>by simp [Lib.compareBytes]
 | a :: x,[]=>by simp [Lib.compareBytes]
 | a :: x,b :: y=>by
  have ih:=zvy (a:=x) (b:=y)
  simp only [Lib.compareBytes]
  by_cases h1:a < b
  ·have:¬b < a:=fun h=>UInt8.lt_irrefl _ (UInt8.lt_trans h1 h)
   simp [h1,this]
  ·by_cases h2:b < a
   ·simp [h1,h2]
   ·simp [h1,h2];exact ih
theorem znu:∀ {a b:List UInt8},Lib.compareBytes a b=-1\/Lib.compareBytes a b=0\/Lib.compareBytes a b=1
 | [],[]=>by simp [Lib.compareBytes]
 | [],b :: y=>by simp [Lib.compareBytes]
 | a :: x,[]=>by simp [Lib.compareBytes]
 | a :: x,b :: y=>by
  simp only [Lib.compareBytes]
  split
  ·simp
  ·split
   ·simp
   ·exact znu
@[simp] theorem zdl {L:List UInt8}:(strOf L).toList=L:=by rw [ByteArray.toList_eq];rfl
@[simp] theorem zad {L:List UInt8}:(strOf L).size=L.length:=rfl
theorem zxy {s:ByteArray}:strOf s.data.toList=s:=rfl
theorem zr1 {L:List UInt8}{l h:Nat}:(strOf L).extract l h=strOf ((L.take h).drop l):=by
 apply ByteArray.ext
 simp only [ByteArray.data_extract,strOf]
 apply Array.ext'
 simp [List.extract_eq_take_drop,List.drop_take]
theorem zt6 {A B:List UInt8}:strOf A++strOf B=strOf (A++B):=by
 apply ByteArray.ext
 simp [strOf,ByteArray.data_append]
theorem zr7 {L:List UInt8}{i:Int}{K:Int->Prop}(k:Nat) (hi:i=(k:Int)) (hk:k < L.length) (hK:K ((L[k]).toNat:Int)):zqe (strOf L) i K:=by
 subst hi
 refine⟨by omega,L[k],?_,hK⟩
 show (strOf L)[((k:Int)).toNat]?=some L[k]
 rw [Int.toNat_natCast]
 have h:k < (strOf L).size:=hk
 rw [getElem?_pos (strOf L) k h]
 rfl
theorem z5b {A B:List UInt8}{K:ByteArray->Prop}(h:A.length+B.length<=9223372036854775807) (hK:K (strOf (A++B))):z6z (strOf A) (strOf B) K:=⟨by simp only [zad];exact h,by rw [zt6];exact hK⟩
theorem zt2 (A:Array UInt8):(ByteArray.mk A).toList=A.toList:=ByteArray.toList_eq _
theorem zj1 {L:List UInt8}{A:Array UInt8}:((strOf L).toList==(ByteArray.mk A).toList)=true ↔ L=A.toList:=by rw [zdl,zt2,beq_iff_eq]
theorem zyz {L M:List UInt8}:((strOf L).toList==(strOf M).toList)=true ↔ L=M:=by rw [zdl,zdl,beq_iff_eq]
section
variable {P:Program}{w:World}
theorem zuw {t:TypeId}{L:List UInt8}{l h:Nat}{lo hi:Option Value}(hu:P.underlying t=some .string) (hlo:IxO lo 0 l) (hhi:IxO hi L.length h) (h1:l<=h) (h2:h<=L.length) :
  (Instr.sliceAt t (.string (strOf L)) lo hi none).run P w=.ok (.string (strOf ((L.take h).drop l))) w:=by
 rw [zso (s:=strOf L) hu hlo hhi h1 h2,zr1]
end
theorem ztk {a b:List UInt8}:(strOf a==strOf b)=decide (a=b):=by
 show ((strOf a).data==(strOf b).data)=_
 rw [Bool.eq_iff_iff,beq_iff_eq,decide_eq_true_iff]
 simp [strOf]
theorem zts {κ:Type} [DecidableEq κ] {enc:κ->ByteArray}(heq:∀ a b,(enc a==enc b)=decide (a=b)){k:κ}:∀ (l:List (κ×Value×Nat)) (i:Nat),
  Instr.findNow .string (.string (enc k)) (l.map fun x=>⟨.string (enc x.1),x.2.1,x.2.2⟩) i=some ((l.findIdx? (fun x=>x.1==k)).bind fun j=>(l[j]?).map fun x=>(i+j,x.2.1))
 | [],i=>by simp [Instr.findNow]
 | x :: l,i=>by
  have ih:=zts heq (k:=k) l (i+1)
  simp only [List.map_cons,Instr.findNow,Instr.sameNow,heq]
  by_cases e:x.1=k
  ·subst e
   simp [List.findIdx?_cons]
  ·have e2:¬k=x.1:=fun h=>e h.symm
   simp only [e2,decide_false,ih]
   congr 1
   rw [List.findIdx?_cons]
   simp only [beq_eq_false_iff_ne.2 e]
   cases hf:List.findIdx? (fun x=>x.1==k) l with
   | none=>simp
   | some j=>simp [Nat.add_assoc,Nat.add_comm 1 j]
theorem KeyOk.str {P:Program}{t:TypeId}(hu:P.underlying t=some .string):KeyOk P t (List UInt8) (fun _=>True) (fun L=>.string (strOf L)) where
 find w k es l _ _ he:=by
  subst he
  have h:=zts (enc:=strOf) (fun a b=>ztk) (k:=k) l 0
  simp only [Nat.zero_add] at h
  simp only [Instr.findKey,Sem.run_bind,zy hu,Result.andThen_ok,h,Sem.run_pure]
 chk w k e _:=by
  rw [show (10000:Nat)=9999+1 from rfl,Instr.checkKey]
  simp only [Sem.run_bind,zy hu,Result.andThen_ok,Sem.run_pure]
 same k _:=by simp [Instr.sameBits,ztk]
def strRow (xs:List (List UInt8)):List Value:=xs.map fun L=>.string (strOf L)
@[simp] theorem jl {xs:List (List UInt8)}:(strRow xs).length=xs.length:=by simp [strRow]
theorem zq2 {xs:List (List UInt8)}:zbf (strRow xs):=by
 intro v hv
 obtain⟨L,_,rfl⟩:=List.mem_map.1 hv
 rfl
theorem zcn {xs:List (List UInt8)}{n:Nat}:(strRow xs).take n=strRow (xs.take n):=by simp [strRow]
theorem zoy {xs:List (List UInt8)}{n:Nat}:(strRow xs).drop n=strRow (xs.drop n):=by simp [strRow]
theorem zh7 {xs ys:List (List UInt8)}:strRow xs++strRow ys=strRow (xs++ys):=by simp [strRow]
theorem zps {w:World}{H:Heap}{a:Option Addr}{len i:Nat}{n:Int}{xs:List (List UInt8)}(hw:w.heap=H) (hL:Cells H a (strRow xs)) (hlen:len=xs.length) (hi:i < xs.length) (hn:n=(i:Int)){K:ByteArray->Prop}(hK:K (strOf xs[i])) :
  ixS a len 1 n fun p=>ld .str p w K:=by
 rcases hL with h | ⟨b,o,c,T,fr,rfl,hb,hsz,hc⟩
 ·have:=congrArg List.length h
  rw [jl] at this;simp at this;subst this;simp at hi
 ·refine zx0 i hn (by omega) ?_
  refine jh (s:=.str) hw hb ?_ hK
  have h2:(strRow xs)[i]?=some (.string (strOf xs[i])):=by simp [strRow,hi]
  rw [<-hc,Array.getElem?_toList,Array.getElem?_extract,jl] at h2
  split at h2
  ·exact h2
  ·cases h2
theorem z6g {w:World}{H:Heap}{a a':Option Addr}{len len' i j:Nat}{n n':Int}{xs ys:List (List UInt8)}(hw:w.heap=H) (hL:Cells H a (strRow xs)) (hlen:len=xs.length) (hi:i < xs.length) (hn:n=(i:Int))
  (hL':Cells H a' (strRow ys)) (hlen':len'=ys.length) (hj:j < ys.length) (hn':n'=(j:Int)){K:ByteArray->ByteArray->Prop}(hK:K (strOf xs[i]) (strOf ys[j])) :
  ixS a len 1 n fun p=>ixS a' len' 1 n' fun p'=>ld .str p w fun t=>ld .str p' w fun t'=>K t t':=by
 rcases hL with h | ⟨b,o,c,T,fr,rfl,hb,hsz,hc⟩
 ·have:=congrArg List.length h
  rw [jl] at this;simp at this;subst this;simp at hi
 rcases hL' with h | ⟨b',o',c',T',fr',rfl,hb',hsz',hc'⟩
 ·have:=congrArg List.length h
  rw [jl] at this;simp at this;subst this;simp at hj
 refine zx0 i hn (by omega) ?_
 refine zx0 j hn' (by omega) ?_
 have h2:(strRow xs)[i]?=some (.string (strOf xs[i])):=by simp [strRow,hi]
 rw [<-hc,Array.getElem?_toList,Array.getElem?_extract,jl] at h2
 have h3:(strRow ys)[j]?=some (.string (strOf ys[j])):=by simp [strRow,hj]
 rw [<-hc',Array.getElem?_toList,Array.getElem?_extract,jl] at h3
 refine jh (s:=.str) hw hb (by split at h2;exact h2;cases h2) ?_
 refine jh (s:=.str) hw hb' (by split at h3;exact h3;cases h3) ?_
 exact hK
end Go.Fw
namespace Go.Proofs.YthaaekcaaecdeaaGreatDoor
open Go Go.Fw Go.Proofs
def zn5 (c:Int):Bool:=decide (c=46\/c=95\/c=45\/(48<=c/\c<=57)\/(97<=c/\c<=122)\/(65<=c/\c<=90))
def ze0 (b:UInt8):Bool:=zn5 (b.toNat:Int)
def zd6 (L:List UInt8):Bool:=decide (L≠[]/\L.length<=16/\L≠[46]/\L≠[46,46])&&L.all ze0
abbrev Path:=List (List UInt8)
def zpq (p:Path):Int:=if p.all zd6 then (if 8 < p.length then 42 else 0) else 41
def zer:Path->Path->Int
 | [],[]=>0
 | [],_ :: _=>-1
 | _ :: _,[]=>1
 | x :: a,y :: b=>if Lib.compareBytes x y≠0 then Lib.compareBytes x y else zer a b
theorem zxz {c:Int}{w:World}(h:c=46\/c=95\/c=45\/(48<=c/\c<=57)\/(97<=c/\c<=122)\/(65<=c/\c<=90)):(Ending.returned (Value.bool true)=.returned (.bool (zn5 c)))/\w=w:=⟨by simp only [zn5,decide_eq_true h],rfl⟩
theorem zvf {c:Int}{w:World}(h:¬(c=46\/c=95\/c=45\/(48<=c/\c<=57)\/(97<=c/\c<=122)\/(65<=c/\c<=90))):(Ending.returned (Value.bool false)=.returned (.bool (zn5 c)))/\w=w:=⟨by simp only [zn5,decide_eq_false h],rfl⟩
theorem zyv {c:Int}{w:World}{b:Bool}(h:b=zn5 c):(Ending.returned (Value.bool b)=.returned (.bool (zn5 c)))/\w=w:=⟨by rw [h],rfl⟩
theorem zzo {w:World}(c:Int):zx P zgl #[.int .u8 c] w fun e w'=>e=.returned (.bool (zn5 c))/\w'=w:=by
 refine zqf ?_
 unfold zm4
 repeat' first
  | refine x9 ?_
  | refine zc9 (fun h=>?_) (fun h=>?_)
  | refine qm (fun h=>?_) (fun h=>?_)
  | exact zxz (by omega)
  | exact zvf (by omega)
  | exact zyv (decide_eq_decide.2 (by omega))
theorem z01 {L:List UInt8}{i:Nat}(hi:i < L.length) (h:∀ b∈L.take i,ze0 b=true) (hb:ze0 L[i]=true):∀ b∈L.take (i+1),ze0 b=true:=by
 intro b hm
 rw [List.take_add_one,List.getElem?_eq_getElem hi] at hm
 rcases List.mem_append.1 hm with hm | hm
 ·exact h b hm
 ·simp only [Option.toList_some,List.mem_singleton] at hm;subst hm;exact hb
theorem zt3 {L:List UInt8}{i:Nat}(hi:i < L.length) (hb:ze0 L[i]=false):L.all ze0=false:=by
 rw [List.all_eq_false]
 exact⟨L[i],List.getElem_mem hi,by simp [hb]⟩
theorem z4y {w:World}(L:List UInt8) (hL:L.length<=9223372036854775807):zx P zjh #[.string (strOf L)] w fun e w'=>e=.returned (.bool (zd6 L))/\w'=w:=by
 refine zr3 ?_
 unfold zob
 have no:∀ {w:World},¬(L≠[]/\L.length<=16/\L≠[46]/\L≠[46,46])->(Ending.returned (Value.bool false)=.returned (.bool (zd6 L)))/\w=w:=fun h=>⟨by simp only [zd6,decide_eq_false h,Bool.false_and],rfl⟩
 refine x9 ?_
 refine za8 (p:=L=[]) zj1 (fun h=>no fun h2=>h2.1 h) (fun h1=>?_)
 refine qm (fun h=>no fun h2=>by have:=h2.2.1;simp only [zad] at h;omega) (fun h2=>?_)
 refine za8 (p:=L=[46]) zj1 (fun h=>no fun h2=>h2.2.2.1 h) (fun h3=>?_)
 refine za8 (p:=L=[46,46]) zj1 (fun h=>no fun h2=>h2.2.2.2 h) (fun h4=>?_)
 have hc:(L≠[]/\L.length<=16/\L≠[46]/\L≠[46,46]):=⟨h1,by simp only [zad] at h2;omega,h3,h4⟩
 have hno:zd6 L=L.all ze0:=by simp only [zd6,decide_eq_true hc,Bool.true_and]
 rw [hno]
 refine zds (fun (s:Int) W=>∃ i:Nat,s=(i:Int)/\i<=L.length/\W=w/\∀ b∈L.take i,ze0 b=true) (fun s _=>(L.length-s).toNat) ⟨0,rfl,Nat.zero_le _,rfl,by simp⟩ ?_
 rintro _ w ⟨i,rfl,hi,rfl,hp⟩
 refine qm (fun hlt=>?_) (fun hge=>?_)
 ·have hil:i < L.length:=by simp only [zad] at hlt;omega
  refine zr7 i rfl hil ?_
  refine zkf (ze0 L[i]) (zzo _) ?_
  cases hb:ze0 L[i] with
  | false=>exact jc rfl ⟨by rw [zt3 hil hb],rfl⟩
  | true=>
   refine qg rfl ?_
   refine zas ((i+1:Nat):Int) (by omega) (by omega) (by omega) ?_
   exact⟨⟨i+1,rfl,by omega,rfl,z01 hil hp hb⟩,by omega⟩
 ·have:i=L.length:=by simp only [zad] at hge;omega
  subst this
  rw [List.take_length] at hp
  exact⟨by rw [List.all_eq_true.2 hp],rfl⟩
theorem zi4:P.underlying zu=some (.slice qy):=by kernel_rfl
theorem zql:(P.info? qy).map (·.size)=some 1:=by kernel_rfl
def Fit (p:Path):Prop:=∀ L∈p,L.length<=9223372036854775807
theorem zuo {p:Path}{i:Nat}(hi:i < p.length) (hb:zd6 p[i]=false):p.all zd6=false:=by
 rw [List.all_eq_false]
 exact⟨p[i],List.getElem_mem hi,by simp [hb]⟩
theorem zsk {p:Path}{i:Nat}(hi:i < p.length) (h:∀ b∈p.take i,zd6 b=true) (hb:zd6 p[i]=true):∀ b∈p.take (i+1),zd6 b=true:=by
 intro b hm
 rw [List.take_add_one,List.getElem?_eq_getElem hi] at hm
 rcases List.mem_append.1 hm with hm | hm
 ·exact h b hm
 ·simp only [Option.toList_some,List.mem_singleton] at hm;subst hm;exact hb
theorem zyn {w:World}{H:Heap}{a:Option Addr}{n nc:Nat}{p:Path}(hw:w.heap=H) (hL:Cells H a (strRow p)) (hn:n=p.length) (hf:Fit p) (hp:p.length<=9223372036854775807):zx P zgn #[.slice a n nc] w fun e w'=>e=.returned (.int .i64 (zpq p))/\w'=w:=by
 subst hn
 refine zqx ?_
 unfold zml
 refine zds (fun (s:Int) W=>∃ i:Nat,s=(i:Int)/\i<=p.length/\W=w/\∀ b∈p.take i,zd6 b=true) (fun s _=>(p.length-s).toNat) ⟨0,rfl,Nat.zero_le _,rfl,by simp⟩ ?_
 rintro _ w ⟨i,rfl,hi,rfl,hok⟩
 refine qm (fun hlt=>?_) (fun hge=>?_)
 ·have hil:i < p.length:=by omega
  refine zps hw hL rfl hil rfl ?_
  refine zl (z4y _ (hf _ (List.getElem_mem hil))) ?_
  rintro e w' ⟨rfl,rfl⟩
  refine⟨_,rfl,?_⟩
  cases hb:zd6 p[i] with
  | false=>exact jc rfl ⟨by simp [zpq,zuo hil hb],rfl⟩
  | true=>
   refine qg rfl ?_
   refine zas ((i+1:Nat):Int) (by omega) (by omega) (by omega) ?_
   exact⟨⟨i+1,rfl,by omega,rfl,zsk hil hok hb⟩,by omega⟩
 ·have:i=p.length:=by omega
  subst this
  rw [List.take_length] at hok
  have hall:p.all zd6=true:=List.all_eq_true.2 hok
  refine qm (fun h=>⟨by simp only [zpq,hall,if_true];rw [if_pos (by omega)],rfl⟩) (fun h=>⟨by simp only [zpq,hall,if_true];rw [if_neg (by omega)],rfl⟩)
def zjn (p q:Path):Bool:=q.isPrefixOf p
theorem within_iff {p q:Path}:zjn p q=true ↔ q.length<=p.length/\p.take q.length=q:=by
 unfold zjn
 rw [List.isPrefixOf_iff_prefix]
 constructor
 ·rintro ⟨t,rfl⟩
  exact⟨by simp,by simp⟩
 ·rintro ⟨h1,h2⟩
  exact⟨p.drop q.length,(congrArg (·++p.drop q.length) h2.symm).trans (List.take_append_drop _ _)⟩
theorem zui {p q:Path}{i:Nat}(hip:i < p.length) (hiq:i < q.length) (h:p.take i=q.take i) (e:p[i]=q[i]):p.take (i+1)=q.take (i+1):=by
 rw [List.take_add_one,List.take_add_one,List.getElem?_eq_getElem hip,List.getElem?_eq_getElem hiq,h,e]
theorem z09 {p q:Path}{i:Nat}(hip:i < p.length) (hiq:i < q.length) (e:p[i]≠q[i]):p≠q:=by rintro rfl;exact e rfl
theorem z0x {w:World}(x y:List UInt8):zx P zca #[.string (strOf x),.string (strOf y)] w fun e w'=>e=.returned (.int .i64 (Lib.compareBytes x y))/\w'=w:=by
 have nan:∀ (w:World) (x:List UInt8),zx P zdh #[.string (strOf x)] w fun e w'=>e=.returned (.bool false)/\w'=w:=by
  intro w x
  refine zlr ?_
  unfold zg6
  exact⟨by simp,rfl⟩
 refine zjm ?_
 unfold zge
 refine zkf false (nan w x) ?_
 refine zkf false (nan w y) ?_
 refine qg rfl ?_
 refine qg rfl ?_
 rw [bytesLess_eq,zdl,zdl]
 have hr:=znu (a:=x) (b:=y)
 refine qm (fun h=>?_) (fun h=>?_)
 ·have:=zne.2 h
  exact⟨by congr 2;omega,rfl⟩
 ·have h1:¬Lib.compareBytes x y < 0:=fun h2=>h (zne.1 h2)
  by_cases e:x=y
  ·refine qg (by simp [e]) ?_
   have:=zih.2 e
   exact⟨by rw [this],rfl⟩
  ·refine jc (by simp [e];exact fun h2=>absurd h2 h) ?_
   have h2:Lib.compareBytes x y≠0:=fun h2=>e (zih.1 h2)
   exact⟨by congr 2;omega,rfl⟩
theorem u8:P.underlying za7=some (.int .u8):=by kernel_rfl
theorem uS8:P.underlying je=some (.slice za7):=by kernel_rfl
theorem sz8:(P.info? za7).map (·.size)=some 1:=by kernel_rfl
theorem zv4:P.underlying qy=some .string:=by kernel_rfl
theorem E8:Elem P za7 1 1:=znw (z:=.int .u8 0) (by kernel_rfl) rfl
theorem uB:P.underlying zcy=some (.pointer jk):=by kernel_rfl
theorem uUP:P.underlying zf2=some .unsafePointer:=by kernel_rfl
theorem iB:(P.info? jk).map (·.size)=some 2:=by kernel_rfl
theorem zcB:zc P jk=#[.pointer none,.slice none 0 0]:=by kernel_rfl
theorem up8:P.underlying zmt=some (.pointer za7):=by kernel_rfl
theorem qai:liesAt P P.depth jk (2 / P.cellsOf jk) 0 jk 1=true:=by kernel_rfl
theorem c8:P.cellsOf za7=1:=by kernel_rfl
theorem z3l {t:TypeId}{n:Nat}(h:(P.info? t).map (·.size)=some n):∃ j,P.info? t=some j/\j.size=n:=by
 obtain⟨j,h1,h2⟩:=Option.map_eq_some_iff.1 h
 exact⟨j,h1,h2⟩
theorem zyt {w:World}{H:Heap}{b:Nat}{c:Array Value}{T:TypeId}{fr:Nat×Nat}(hw:w.heap=H) (hb:H[b]?=some (.cells c T fr)):w.shape? b=some (T,c.size):=by
 subst hw;simp [World.shape?,hb]
def Bd (H:Heap) (lo b:Nat) (L:List UInt8):Prop:=∃ x p,H[b]?=some (.cells #[.pointer p,zhq x] jk (0,0))/\(p=none\/p=some ⟨b,0,none⟩)/\b < lo/\Mine H lo za7 1 x (byteCells L)
theorem zp2 {w:World}{H:Heap}{b:Nat}{x:Option Addr×Nat×Nat}{p:Option Addr}(hw:w.heap=H) (hb:H[b]?=some (.cells #[.pointer p,zhq x] jk (0,0))) (hp:p=none\/p=some ⟨b,0,none⟩) :
  zx P zaw #[.pointer (some ⟨b,0,none⟩)] w fun e w'=>e=.returned (.tuple #[])/\w'.heap[b]?=some (.cells #[.pointer (some ⟨b,0,none⟩),zhq x] jk (0,0))/\Ext [b] H w'.heap:=by
 refine zgo ?_
 unfold zdp
 obtain⟨j,hj,hjs⟩:=z3l iB
 simp only [qo]
 refine jh (s:=.ptr) (t:=p) hw hb rfl ?_
 rcases hp with rfl | rfl
 ·refine jc rfl ?_
  have hsh:=zyt hw hb
  refine zbg (s:=.any) _ w (Lib.run_to_unsafe w ⟨b,0,none⟩ uB uUP hj (by omega) hsh (by simp)) ?_
  refine zp3 (l:=[.any]) (.pointer (some ⟨b,0,none⟩)) (by rw [zij (e:=Extern.AbiNoEscape.same) (by kernel_rfl)];rfl) ?_
  refine zbg (s:=.ptr) (some ⟨b,0,none⟩) w (Lib.run_from_unsafe w ⟨b,0,none⟩ uUP uB hj hsh qai) ?_
  refine zdj hw hb (by simp) fun w1 hw1=>?_
  exact⟨by trivial,by rw [hw1];exact xk hb,by rw [hw1];exact Ext.set _ (by simp)⟩
 ·refine qg rfl ?_
  refine jh (s:=.ptr) (t:=some ⟨b,0,none⟩) hw hb rfl ?_
  refine qw (s:=.bool) false ?_ ?_
  ·have h:=Lib.run_neq_ptr_same (P:=P) w ⟨b,0,none⟩ uB hj
   simp [eqM,eqGuard,h]
   rfl
  ·refine qg rfl ?_
   exact⟨by trivial,by rw [hw];exact hb,by rw [hw];exact .refl _ _⟩
theorem z6b {w:World}{H:Heap}{b:Nat}{n:Nat}(hw:w.heap=H) (hb:H[b]?=some (.cells #[.pointer none,.slice none 0 0] jk (0,0))) (hn0:0 < n) (hn:n<=140737488351232) :
  zx P zda #[.pointer (some ⟨b,0,none⟩),.int .i64 (n:Int)] w fun e w'=>e=.returned (.tuple #[])/\Bd w'.heap H.size b []/\Ext [b] H w'.heap:=by
 refine zie ?_
 unfold zfh
 refine zl (l:=[]) (zp2 (x:=(none,0,0)) hw hb (.inl rfl)) ?_
 rintro e w1 ⟨rfl,hb1,hx1⟩
 refine⟨(),rfl,?_⟩
 refine x9 ?_
 refine qm (fun h=>absurd h (by omega)) (fun _=>?_)
 refine zaj rfl fun w2 hw2=>?_
 have hb2:w2.heap[b]?=some (.cells #[.pointer (some ⟨b,0,none⟩),.slice none 0 0] jk (0,0)):=by rw [hw2];exact hb1
 have hx2:Ext [b] H w2.heap:=by rw [hw2];exact hx1
 simp only [qo,zan,Nat.zero_add]
 refine jh (s:=.slc) (t:=(none,0,0)) rfl hb2 rfl ?_
 refine qw (s:=.int .i64) 0 (by kernel_rfl) ?_
 refine jh (s:=.slc) (t:=(none,0,0)) rfl hb2 rfl ?_
 refine zh8 0 rfl (by omega) (by omega) ?_
 refine qm (fun _=>?_) (fun h=>absurd h (by omega))
 have hgrow:zx P zc7 #[.pointer (some ⟨b,0,none⟩),.int .i64 (n:Int)] w2 fun e w'=>e=.returned (.tuple #[])/\Bd w'.heap H.size b []/\Ext [b] H w'.heap:=by
  refine zic ?_
  unfold zfi
  refine zaj rfl fun w3 hw3=>?_
  have hb3:w3.heap[b]?=some (.cells #[.pointer (some ⟨b,0,none⟩),.slice none 0 0] jk (0,0)):=by rw [hw3];exact hb2
  have hx3:Ext [b] H w3.heap:=by rw [hw3];exact hx2
  simp only [qo,zan,Nat.zero_add]
  refine jh (s:=.slc) (t:=(none,0,0)) rfl hb3 rfl ?_
  refine qw (s:=.int .i64) 0 (by kernel_rfl) ?_
  refine zuq 0 rfl (by omega) (by omega) ?_
  refine zas (n:Int) (by omega) (by omega) (by omega) ?_
  refine jh (s:=.slc) (t:=(none,0,0)) rfl hb3 rfl ?_
  obtain⟨cs,hrun,hcs,hcs2⟩:=Lib.run_makeNoZero (P:=P) (w:=w3) #[zai] je za7 uS8 n (by omega)
  refine zq5 (l:=[.slc]) (some ⟨w3.heap.size,0,none⟩,n,cs.size) (w3.drew.drew.alloc (.cells cs za7)) (by rw [zf5 (e:=Extern.BytealgMakeNoZero.makeNoZero #[zai] #[je]) (by kernel_rfl),hrun];rfl) ⟨rfl,rfl,rfl,by show w3.drawn<=w3.drawn+1+1;omega⟩ ?_
  have hh4:(w3.drew.drew.alloc (.cells cs za7)).heap=w3.heap.push (.cells cs za7):=rfl
  generalize w3.drew.drew.alloc (.cells cs za7)=w4 at *
  have hx34:Ext [] w3.heap w4.heap:=by rw [hh4];exact .push _
  have hb4:=hx34.get hb3 (by simp)
  refine⟨jh (s:=.slc) (t:=(none,0,0)) rfl hb4 rfl rfl,?_⟩
  have hne:cs.size≠0:=by omega
  refine qw (s:=.slc) (some ⟨w3.heap.size,0,none⟩,0,cs.size) ((zbi (l:=0) (h:=0) uS8 sz8 .no (.yes rfl) (Nat.le_refl _) (Nat.zero_le _)).trans (by rw [if_neg hne];simp [zan,Sh.val])) ?_
  refine jh (s:=.slc) (t:=(none,0,0)) rfl hb4 rfl ?_
  have hg4:w4.heap[w3.heap.size]?=some (.cells cs za7 (0,0)):=by rw [hh4];exact zn
  obtain⟨w5,h5,hc5,hh5⟩:=z6j (P:=P) (w:=w4) (ty:=zai) (xt:=je) (sa:=none) (sl:=0) (sc:=0) (dl:=0) (dc:=cs.size) (od:=0) (vs:=[]) uS8 sz8 rfl (.inl rfl) (by simp) (by intro v hv;cases hv) hg4 (by simp)
  refine zbg (s:=.int .i64) ((min 0 0:Nat):Int) w5 h5 ?_ hc5
  have hh5':w5.heap=w4.heap:=by
   rw [hh5]
   apply Array.ext_getElem?
   intro i
   rw [Array.getElem?_setIfInBounds]
   by_cases e:w3.heap.size=i
   ·subst e;rw [if_pos rfl,hg4];simp [lt_of_get hg4,setCells]
   ·rw [if_neg e]
  refine zdj hh5' hb4 (by simp) fun w6 hw6=>?_
  have hx46:Ext [b] w4.heap w6.heap:=by rw [hw6];exact Ext.set _ (by simp)
  have hbl:=lt_of_get hb
  have h3:=hx3.1
  refine⟨by trivial,⟨(some ⟨w3.heap.size,0,none⟩,0,cs.size),some ⟨b,0,none⟩,by rw [hw6];exact xk hb4,.inr rfl,hbl,.inr ⟨w3.heap.size,cs,rfl,by omega,hx46.get hg4 (by simp only [List.mem_singleton];omega),by simp,rfl,Nat.zero_le _,by simp [byteCells]⟩⟩,(hx3.trans (hx34.mono (by simp))).trans hx46⟩
 refine zl (l:=[]) hgrow ?_
 rintro e w7 ⟨rfl,h⟩
 exact⟨(),rfl,by trivial,h⟩
theorem zh9 {w:World}{H:Heap}{lo b:Nat}{L M:List UInt8}(hw:w.heap=H) (hB:Bd H lo b L) (hlo:lo<=H.size) (hlen:L.length+M.length<=140737488351232) :
  zx P zab #[.pointer (some ⟨b,0,none⟩),.string (strOf M)] w fun e w'=>e=.returned (.tuple #[.int .i64 (M.length:Int),.nilIface])/\Bd w'.heap lo b (L++M)/\∃ F,Ext F H w'.heap/\∀ c∈F,c=b\/lo<=c:=by
 obtain⟨x,p,hb,hp,hbl,hm⟩:=hB
 refine zfy ?_
 unfold zc2
 refine zl (l:=[]) (zp2 hw hb hp) ?_
 rintro e w1 ⟨rfl,hb1,hx1⟩
 refine⟨(),rfl,?_⟩
 have hm1:Mine w1.heap lo za7 1 x (byteCells L):=hm.ext hx1 (fun c hc=>by have:=zak hm c hc;simp only [List.mem_singleton];omega)
 have hxl:x.2.1=L.length:=by have:=hm.len;simp at this;omega
 simp only [qo,zan,Nat.zero_add]
 refine jh (s:=.slc) (t:=x) rfl hb1 rfl ?_
 refine zdr E8 (by omega) uS8 ⟨_,zv4,by intro k h;cases h⟩ rfl hm1 (by have:=hx1.1;omega) (n:=M.length) (us:=byteCells M) Src.str zcs (by omega) ?_
 intro x' w2 hm2 hl2 hx2 hs2
 have hb2:=hx2.get hb1 (fun h=>by have:=zak hm1 _ h;omega)
 refine zdj rfl hb2 (by simp) fun w3 hw3=>?_
 have hx3:Ext [b] w2.heap w3.heap:=by rw [hw3];exact Ext.set _ (by simp)
 refine⟨rfl,⟨x',some ⟨b,0,none⟩,by rw [hw3];exact xk hb2,.inr rfl,hbl,?_⟩,[b]++zbu x,((hx1.mono (by simp)).trans (hx2.mono fun c hc=>List.mem_append_right _ hc)).trans (hx3.mono (by simp)),fun c hc=>?_⟩
 ·rw [<-byteCells_append]
  exact hm2.ext hx3 (fun c hc=>by have:=zak hm2 c hc;simp only [List.mem_singleton];omega)
 ·rcases List.mem_append.1 hc with hc | hc
  ·simp only [List.mem_singleton] at hc;exact .inl hc
  ·exact .inr (zak hm1 c hc)
theorem zxj {w:World}{a:Addr}{n:Nat}:Ext [a.block] w.heap (w.freeze a n).heap:=by
 unfold World.freeze
 split
 ·exact .refl _ _
 ·refine⟨by simp,fun b _ hn=>?_⟩
  simp only
  rw [Array.getElem?_modify,if_neg (fun e=>hn (by simp [e]))]
theorem string_c {w:World}{H:Heap}{lo b:Nat}{L:List UInt8}(hw:w.heap=H) (hB:Bd H lo b L) (hL:L≠[]) (hlen:L.length<=140737488351232) :
  zx P zcb #[.pointer (some ⟨b,0,none⟩)] w fun e w'=>e=.returned (.string (strOf L))/\∃ F,Ext F H w'.heap/\∀ c∈F,lo<=c:=by
 obtain⟨x,p,hb,hp,hbl,hm⟩:=hB
 refine zho ?_
 unfold zem
 refine zaj hw fun w1 hw1=>?_
 simp only [qo,zan,Nat.zero_add]
 refine jh (s:=.slc) (t:=x) hw1 hb rfl ?_
 refine jh (s:=.slc) (t:=x) hw1 hb rfl ?_
 have hxl:x.2.1=L.length:=by have:=hm.len;simp at this;omega
 have hpos:0 < L.length:=by cases L with | nil=>exact absurd rfl hL | cons a l=>simp
 have hcs:=hm.cells
 rcases hm with⟨rfl,h⟩ | ⟨g,c,hxa,hge,hg,hcz,hvl,hle,he⟩
 ·simp at hxl;omega
 obtain⟨xa,xl,xc⟩:=x
 simp only at hxl hxa hle hcz
 subst hxa hxl
 have hxc:xc≠0:=by omega
 refine zbg (s:=.ptr) (some ⟨g,0,none⟩) w1 (Lib.run_unsafeSliceData_row w1 _ _ _ _ _ hxc) ?_
 refine⟨jh (s:=.slc) (t:=(some ⟨g,0,none⟩,L.length,xc)) hw1 hb rfl rfl,?_⟩
 refine zbg (s:=.str) (strOf L) (w1.freeze ⟨g,0,none⟩ L.length) (Lib.run_unsafeString_row w1 zmt zai qy za7 up8 c8 g c.size (zyt hw1 hg) L hL (by omega) (by omega) fun j y hj=>?_) ?_ ?_
 ·have:=zwq (a:=⟨g,0,none⟩) hw1 hcs (i:=j) (v:=.int .u8 (y.toNat:Int)) (by simp [byteCells,hj])
  exact this
 ·refine⟨rfl,[g],by rw [<-hw1];exact zxj,fun c hc=>by simp only [List.mem_singleton] at hc;omega⟩
 ·unfold World.freeze;split <;> exact⟨rfl,rfl,rfl,Nat.le_refl _⟩
end Go.Proofs.YthaaekcaaecdeaaGreatDoor
