/- Part 3 of the texts below the card, joined. -/
import Derived.Test.YthaaekcaaecdeaaGreatDoorTUnb
namespace Go.Proofs.YthaaekcaaecdeaaGreatDoor
open Go Go.Fw Go.Proofs
set_option maxRecDepth 100000
def zro (path:ByteArray) (R:Ending->World->Prop) (w:World):Prop:=
  ql P zbw #[(Value.string path)] [.slc,.int .i64] true w fun (t7:((Option Addr×Nat×Nat)×Int)) w_1=>
  R (.returned (Value.slice t7.1.1 t7.1.2.1 t7.1.2.2)) w_1
theorem zxq {path:ByteArray}{R:Ending->World->Prop}{w:World}(hT:zro path R w):qj P zjq #[(Value.string path)] w R:=
 fnT (.seq .leaf (.seq .leaf (.seq .leaf .leaf))) Tryz.func199 hT
def zrk (path:ByteArray) (R:Ending->World->Prop) (w:World):Prop:=
  ql P zjq #[(Value.string path)] [.slc] false w fun (t5:(Option Addr×Nat×Nat)) w_1=>
  zo5 .i64 (t5.2.1:Int) 1 fun t9=>
  zad P (Builtin.max_ #[zav,zav] zav #[(Value.int .i64 t9),(Value.int .i64 0)]) (.int .i64) w_1 fun (t10:Int)=>
  zad P (Instr.sliceAt zx (Value.slice t5.1 t5.2.1 t5.2.2) none (some (Value.int .i64 t10)) none) .slc w_1 fun (t11:(Option Addr×Nat×Nat))=>
  ql P vk #[(Value.slice t11.1 t11.2.1 t11.2.2)] [.str] false w_1 fun (t12:ByteArray) w_2=>
  R (.returned (Value.string t12)) w_2
theorem zx1 {path:ByteArray}{R:Ending->World->Prop}{w:World}(hT:zrk path R w):qj P zjk #[(Value.string path)] w R:=
 fnT (.seq .leaf (.seq .leaf (.seq .leaf .leaf))) Tryz.func146 hT
def zq7 (list:Option Addr) (list_l zbp:Nat) (R:Ending->World->Prop) (w:World):Prop:=
  ql P zb7 #[(Value.slice list list_l zbp)] [.slc] false w fun (t10:(Option Addr×Nat×Nat)) w_1=>
  za4 (Bool×Bool×Int) (fun s w_2 k=>
  qw (decide (s.2.2 < (t10.2.1:Int))) (
  joinP (Bool×Bool) (fun k_1=>
  ixS t10.1 t10.2.1 3 s.2.2 fun t19=>
  ld .str t19 w_2 fun (t21:ByteArray)=>
  ql P zhw #[(Value.string t21)] [.str,.int .i64] true w_2 fun (t22:(ByteArray×Int)) w_3=>
  qw (t22.2 != 0) (
  R (.returned (Value.tuple #[(Value.slice none 0 0),(Value.int .i64 t22.2)])) w_3) (
  ixS t10.1 t10.2.1 3 s.2.2 fun t31=>
  stC t31 (Value.string t22.1) w_3 fun w_4=>
  joinP Bool (fun k_2=>
  qw s.1 (
  k_2 true w_4) (
  ixS t10.1 t10.2.1 3 s.2.2 fun t37=>
  ld .bool (Addr.add t37 1) w_4 fun (t39:Bool)=>
  qw t39 (
  ixS t10.1 t10.2.1 3 s.2.2 fun t43=>
  ld .str (Addr.add t43 2) w_4 fun (t45:ByteArray)=>
  k_2 (!(t45.toList==(ByteArray.mk #[]).toList)) w_4) (
  k_2 false w_4))) (fun s_1 w_5=>
  qw s.2.1 (
  k_1 (s_1,true) w_5) (
  ixS t10.1 t10.2.1 3 s.2.2 fun t53=>
  ld .str (Addr.add t53 2) w_5 fun (t55:ByteArray)=>
  k_1 (s_1,(decide ((t55.size:Int) > 1024))) w_5)))) (fun s_2 w_6=>
  zbz .i64 s.2.2 1 fun t59=>
  k (s_2.1,s_2.2,t59) w_6)) (
  qw s.1 (
  R (.returned (Value.tuple #[(Value.slice none 0 0),(Value.int .i64 1)])) w_2) (
  qw s.2.1 (
  R (.returned (Value.tuple #[(Value.slice none 0 0),(Value.int .i64 134)])) w_2) (
  R (.returned (Value.tuple #[(Value.slice t10.1 t10.2.1 t10.2.2),(Value.int .i64 0)])) w_2)))) (false,false,0) w_1
theorem zxf {list:Option Addr}{list_l zbp:Nat}{R:Ending->World->Prop}{w:World}(hT:zq7 list list_l zbp R w):qj P zmf #[(Value.slice list list_l zbp)] w R:=
 fnT (.seq .leaf (.seq .leaf (.seq .leaf (.seq (.seq .leaf (.blk (.loop [(4,.bool),(5,.bool),(13,.int .i64)] (.seq .leaf (.seq (.cond .leaf .leaf) (.seq (.jblk [(4,.bool),(5,.bool)] (.seq .leaf (.seq .leaf (.seq (.seq .leaf (.cond (.seq .leaf .leaf) .leaf)) (.seq .leaf (.join [(4,.bool)] .leaf .leaf)))))) .leaf)))))) (.seq (.blk (.seq .leaf (.cond (.seq .leaf .leaf) (.seq .leaf (.cond (.seq .leaf .leaf) .leaf))))) (.seq .leaf .leaf)))))) Tryz.func145 hT
def zw3 (list:Option Addr) (list_l zbp:Nat) (R:Ending->World->Prop) (w:World):Prop:=
  ql P zmf #[(Value.slice list list_l zbp)] [.slc,.int .i64] true w fun (t17:((Option Addr×Nat×Nat)×Int)) w_1=>
  qw (t17.2 != 0) (
  R (.returned (Value.tuple #[(Value.pointer none),(Value.int .i64 t17.2)])) w_1) (
  za2 P (Instr.makeMap qo none) .map w_1 fun (t23:(Option Nat)) w_2=>
  zad P (Instr.build zo #[(0,(Value.bool true))]) .any w_2 fun (t24:Value)=>
  zah P (Instr.mapUpdate qo (Value.map t23) (Value.string (ByteArray.mk #[47])) t24) w_2 fun w_3=>
  zad P (Instr.build zoq #[(0,(Value.map t23))]) .any w_3 fun (t26:Value)=>
  zat (Value.cells t26) zoq w_3 fun b27 w_4=>
  za4 Int (fun s w_5 k=>
  qw (decide (s < (t17.1.2.1:Int))) (
  ixS t17.1.1 t17.1.2.1 3 s fun t32=>
  ldA P 3 t32 w_5 fun t33=>
  zat (zc P zn) zn w_5 fun b7 w_6=>
  zah P (storeVar zn (⟨b7,0,none⟩:Addr) (Value.agg t33)) w_6 fun w_7=>
  za5 w_7 fun w_8=>
  ld .map (⟨b27,0,none⟩:Addr) w_8 fun (t38:(Option Nat))=>
  ld .str (⟨b7,0,none⟩:Addr) w_8 fun (t40:ByteArray)=>
  zoy P (Instr.lookup qo (Value.map t38) (Value.string t40) true) [.any,.bool] w_8 fun (t41:(Value×Bool))=>
  zat (zc P zo) zo w_8 fun b8 w_9=>
  ((zoy P (Instr.lookup qo (Value.map t38) (Value.string t40) true) [.any,.bool] w_9 fun (t41_1:(Value×Bool))=>
  (Value.tuple #[t41_1.1,(Value.bool t41_1.2)])=(Value.tuple #[t41.1,(Value.bool t41.2)])) /\
  ((ld .str (⟨b7,0,none⟩:Addr) w_9 fun (t40_1:ByteArray)=>
  (Value.string t40_1)=(Value.string t40)) /\
  ((ld .map (⟨b27,0,none⟩:Addr) w_9 fun (t38_1:(Option Nat))=>
  (Value.map t38_1)=(Value.map t38)) /\
  zah P (storeVar zo (⟨b8,0,none⟩:Addr) t41.1) w_9 fun w_10=>
  qw t41.2 (
  R (.returned (Value.tuple #[(Value.pointer none),(Value.int .i64 5)])) w_10) (
  za5 w_10 fun w_11=>
  ld .map (⟨b27,0,none⟩:Addr) w_11 fun (t48:(Option Nat))=>
  ld .str (⟨b7,0,none⟩:Addr) w_11 fun (t50:ByteArray)=>
  ld .bool (⟨b7,1,none⟩:Addr) w_11 fun (t52:Bool)=>
  ld .str (⟨b7,2,none⟩:Addr) w_11 fun (t54:ByteArray)=>
  zad P (Instr.build zo #[(0,(Value.bool t52)),(1,(Value.string t54))]) .any w_11 fun (t55:Value)=>
  zah P (Instr.mapUpdate qo (Value.map t48) (Value.string t50) t55) w_11 fun w_12=>
  zbz .i64 s 1 fun t56=>
  k t56 w_12))))) (
  za4 (Bool×Int) (fun s_1 w_13 k_1=>
  qw (decide (s_1.2 < (t17.1.2.1:Int))) (
  joinP Bool (fun k_2=>
  ixS t17.1.1 t17.1.2.1 3 s_1.2 fun t61=>
  ldA P 3 t61 w_13 fun t62=>
  zat (zc P zn) zn w_13 fun b12 w_14=>
  zah P (storeVar zn (⟨b12,0,none⟩:Addr) (Value.agg t62)) w_14 fun w_15=>
  za5 w_15 fun w_16=>
  ld .map (⟨b27,0,none⟩:Addr) w_16 fun (t67:(Option Nat))=>
  ld .str (⟨b12,0,none⟩:Addr) w_16 fun (t69:ByteArray)=>
  ((ql P zjk #[(Value.string t69)] [.str] false w_16 fun (t70:ByteArray) w_17=>
  ((ld .map (⟨b27,0,none⟩:Addr) w_17 fun (t67_1:(Option Nat))=>
  (Value.map t67_1)=(Value.map t67)) /\
  zoy P (Instr.lookup qo (Value.map t67) (Value.string t70) true) [.any,.bool] w_17 fun (t71:(Value×Bool))=>
  zat (zc P zo) zo w_17 fun b13 w_18=>
  ((zoy P (Instr.lookup qo (Value.map t67) (Value.string t70) true) [.any,.bool] w_18 fun (t71_1:(Value×Bool))=>
  (Value.tuple #[t71_1.1,(Value.bool t71_1.2)])=(Value.tuple #[t71.1,(Value.bool t71.2)])) /\
  ((ld .str (⟨b12,0,none⟩:Addr) w_18 fun (t69_1:ByteArray)=>
  (Value.string t69_1)=(Value.string t69)) /\
  ((ld .map (⟨b27,0,none⟩:Addr) w_18 fun (t67_2:(Option Nat))=>
  (Value.map t67_2)=(Value.map t67)) /\
  zah P (storeVar zo (⟨b13,0,none⟩:Addr) t71.1) w_18 fun w_19=>
  qw (!t71.2) (
  R (.returned (Value.tuple #[(Value.pointer none),(Value.int .i64 4)])) w_19) (
  qw s_1.1 (
  k_2 true w_19) (
  ld .bool (⟨b13,0,none⟩:Addr) w_19 fun (t79:Bool)=>
  k_2 (!t79) w_19))))))) /\
  (zat (zc P zo) zo w_16 fun b13_1 w_20=>
  ((ld .str (⟨b12,0,none⟩:Addr) w_20 fun (t69_2:ByteArray)=>
  (Value.string t69_2)=(Value.string t69)) /\
  ((ld .map (⟨b27,0,none⟩:Addr) w_20 fun (t67_3:(Option Nat))=>
  (Value.map t67_3)=(Value.map t67)) /\
  ql P zjk #[(Value.string t69)] [.str] false w_20 fun (t70_1:ByteArray) w_21=>
  ((ld .map (⟨b27,0,none⟩:Addr) w_21 fun (t67_4:(Option Nat))=>
  (Value.map t67_4)=(Value.map t67)) /\
  zoy P (Instr.lookup qo (Value.map t67) (Value.string t70_1) true) [.any,.bool] w_21 fun (t71_2:(Value×Bool))=>
  zah P (storeVar zo (⟨b13_1,0,none⟩:Addr) t71_2.1) w_21 fun w_22=>
  qw (!t71_2.2) (
  R (.returned (Value.tuple #[(Value.pointer none),(Value.int .i64 4)])) w_22) (
  qw s_1.1 (
  k_2 true w_22) (
  ld .bool (⟨b13_1,0,none⟩:Addr) w_22 fun (t79_1:Bool)=>
  k_2 (!t79_1) w_22)))))))) (fun s_2 w_23=>
  zbz .i64 s_1.2 1 fun t82=>
  k_1 (s_2,t82) w_23)) (
  qw s_1.1 (
  R (.returned (Value.tuple #[(Value.pointer none),(Value.int .i64 70)])) w_13) (
  R (.returned (Value.tuple #[(Value.pointer (some (⟨b27,0,none⟩:Addr))),(Value.int .i64 0)])) w_13))) (false,0) w_5)) 0 w_4)
theorem z1q {list:Option Addr}{list_l zbp:Nat}{R:Ending->World->Prop}{w:World}(hT:zw3 list list_l zbp R w):qj P zqf #[(Value.slice list list_l zbp)] w R:=
 fnT (.seq .leaf (.seq .leaf (.seq (.seq .leaf (.cond (.seq .leaf .leaf) .leaf)) (.seq .leaf (.seq (.seq .leaf (.blk (.loop [(30,.int .i64)] (.seq .leaf (.seq (.cond .leaf .leaf) (.seq (.blk (.seq .leaf (.seq (.seq (.tree (.op 0 [] (.op 1 [] (.op 2 [] (.op 4 [] (.op 3 [] (.op 5 [] (.op 6 [] (.op 7 [] (.op 8 [] (.op 9 [] (.op 10 [3,5,6] (.op 11 [] (.op 12 [] .done)))))))))))))) (.seq .leaf (.cond (.seq .leaf .leaf) .leaf))) (.tree (.op 0 [] (.op 1 [] (.op 2 [] (.op 4 [] (.op 6 [] (.op 8 [] (.op 3 [] (.op 5 [] (.op 7 [] (.op 9 [] (.op 10 [] (.op 11 [] .done)))))))))))))))) .leaf)))))) (.seq .leaf (.seq (.seq .leaf (.blk (.loop [(10,.bool),(59,.int .i64)] (.seq .leaf (.seq (.cond .leaf .leaf) (.seq (.jblk [(10,.bool)] (.seq .leaf (.seq (.tree (.op 0 [] (.op 1 [] (.op 2 [] (.op 4 [] (.op 3 [] (.op 5 [] (.or (.op 6 [3] (.op 7 [] (.op 8 [] (.op 9 [] (.op 10 [] (.op 11 [3,5,7] (.op 12 [] (.op 13 [] .done)))))))) (.op 11 [3,5] (.op 6 [3] (.op 7 [] (.op 8 [] (.op 9 [] (.op 10 [] (.op 12 [] (.op 13 [] .done)))))))))))))))) (.seq (.seq .leaf (.cond (.seq .leaf .leaf) .leaf)) .leaf)))) .leaf)))))) (.seq (.seq .leaf (.cond (.seq .leaf .leaf) .leaf)) (.seq .leaf .leaf))))))))) Tryz.func83 hT
def zog (f:Option Addr) (path:ByteArray) (R:Ending->World->Prop) (w:World):Prop:=
  zat (zc P zo) zo w fun b4 w_1=>
  ql P zjq #[(Value.string path)] [.slc] false w_1 fun (t13:(Option Addr×Nat×Nat)) w_2=>
  za4 Int (fun s w_3 k=>
  qw (decide (s < (t13.2.1:Int))) (
  joinP Unit (fun k_1=>
  joinP Unit (fun k_2=>
  za5 w_3 fun w_4=>
  qg f fun p=>
  ld .map p w_4 fun (t23:(Option Nat))=>
  zad P (Instr.sliceAt zx (Value.slice t13.1 t13.2.1 t13.2.2) none (some (Value.int .i64 s)) none) .slc w_4 fun (t26:(Option Addr×Nat×Nat))=>
  ((ql P vk #[(Value.slice t26.1 t26.2.1 t26.2.2)] [.str] false w_4 fun (t27:ByteArray) w_5=>
  ((ld .map p w_5 fun (t23_1:(Option Nat))=>
  (Value.map t23_1)=(Value.map t23)) /\
  zoy P (Instr.lookup qo (Value.map t23) (Value.string t27) true) [.any,.bool] w_5 fun (t28:(Value×Bool))=>
  zat (zc P zo) zo w_5 fun b8 w_6=>
  ((zoy P (Instr.lookup qo (Value.map t23) (Value.string t27) true) [.any,.bool] w_6 fun (t28_1:(Value×Bool))=>
  (Value.tuple #[t28_1.1,(Value.bool t28_1.2)])=(Value.tuple #[t28.1,(Value.bool t28.2)])) /\
  ((zad P (Instr.sliceAt zx (Value.slice t13.1 t13.2.1 t13.2.2) none (some (Value.int .i64 s)) none) .slc w_6 fun (t26_1:(Option Addr×Nat×Nat))=>
  (Value.slice t26_1.1 t26_1.2.1 t26_1.2.2)=(Value.slice t26.1 t26.2.1 t26.2.2)) /\
  ((ld .map p w_6 fun (t23_2:(Option Nat))=>
  (Value.map t23_2)=(Value.map t23)) /\
  zah P (storeVar zo (⟨b8,0,none⟩:Addr) t28.1) w_6 fun w_7=>
  joinP Unit (fun k_3=>
  qw t28.2 (
  ld .bool (⟨b8,0,none⟩:Addr) w_7 fun (t34:Bool)=>
  qw (!t34) (
  zad P (Instr.build zo #[]) .any w_7 fun (t37:Value)=>
  zah P (storeVar zo (⟨b4,0,none⟩:Addr) t37) w_7 fun w_8=>
  ldA P 2 (⟨b4,0,none⟩:Addr) w_8 fun t4=>
  R (.returned (Value.tuple #[(Value.agg t4),(Value.int .i64 70)])) w_8) (
  k_3 () w_7)) (
  k_3 () w_7)) (fun _ w_9=>
  za5 w_9 fun w_10=>
  qg f fun p_1=>
  zbz .i64 s 1 fun t45=>
  ld .map p_1 w_10 fun (t42:(Option Nat))=>
  zad P (Instr.sliceAt zx (Value.slice t13.1 t13.2.1 t13.2.2) none (some (Value.int .i64 t45)) none) .slc w_10 fun (t46:(Option Addr×Nat×Nat))=>
  ((ql P vk #[(Value.slice t46.1 t46.2.1 t46.2.2)] [.str] false w_10 fun (t47:ByteArray) w_11=>
  ((ld .map p_1 w_11 fun (t42_1:(Option Nat))=>
  (Value.map t42_1)=(Value.map t42)) /\
  zoy P (Instr.lookup qo (Value.map t42) (Value.string t47) true) [.any,.bool] w_11 fun (t48:(Value×Bool))=>
  zat (zc P zo) zo w_11 fun b10 w_12=>
  ((zoy P (Instr.lookup qo (Value.map t42) (Value.string t47) true) [.any,.bool] w_12 fun (t48_1:(Value×Bool))=>
  (Value.tuple #[t48_1.1,(Value.bool t48_1.2)])=(Value.tuple #[t48.1,(Value.bool t48.2)])) /\
  ((zad P (Instr.sliceAt zx (Value.slice t13.1 t13.2.1 t13.2.2) none (some (Value.int .i64 t45)) none) .slc w_12 fun (t46_1:(Option Addr×Nat×Nat))=>
  (Value.slice t46_1.1 t46_1.2.1 t46_1.2.2)=(Value.slice t46.1 t46.2.1 t46.2.2)) /\
  ((ld .map p_1 w_12 fun (t42_2:(Option Nat))=>
  (Value.map t42_2)=(Value.map t42)) /\
  zah P (storeVar zo (⟨b10,0,none⟩:Addr) t48.1) w_12 fun w_13=>
  qw (!t48.2) (
  zad P (Instr.build zo #[]) .any w_13 fun (t53:Value)=>
  zah P (storeVar zo (⟨b4,0,none⟩:Addr) t53) w_13 fun w_14=>
  ldA P 2 (⟨b4,0,none⟩:Addr) w_14 fun t4_1=>
  R (.returned (Value.tuple #[(Value.agg t4_1),(Value.int .i64 4)])) w_14) (
  k_2 () w_13)))))) /\
  (zat (zc P zo) zo w_10 fun b10_1 w_15=>
  ((zad P (Instr.sliceAt zx (Value.slice t13.1 t13.2.1 t13.2.2) none (some (Value.int .i64 t45)) none) .slc w_15 fun (t46_2:(Option Addr×Nat×Nat))=>
  (Value.slice t46_2.1 t46_2.2.1 t46_2.2.2)=(Value.slice t46.1 t46.2.1 t46.2.2)) /\
  ((ld .map p_1 w_15 fun (t42_3:(Option Nat))=>
  (Value.map t42_3)=(Value.map t42)) /\
  ql P vk #[(Value.slice t46.1 t46.2.1 t46.2.2)] [.str] false w_15 fun (t47_1:ByteArray) w_16=>
  ((ld .map p_1 w_16 fun (t42_4:(Option Nat))=>
  (Value.map t42_4)=(Value.map t42)) /\
  zoy P (Instr.lookup qo (Value.map t42) (Value.string t47_1) true) [.any,.bool] w_16 fun (t48_2:(Value×Bool))=>
  zah P (storeVar zo (⟨b10_1,0,none⟩:Addr) t48_2.1) w_16 fun w_17=>
  qw (!t48_2.2) (
  zad P (Instr.build zo #[]) .any w_17 fun (t53_1:Value)=>
  zah P (storeVar zo (⟨b4,0,none⟩:Addr) t53_1) w_17 fun w_18=>
  ldA P 2 (⟨b4,0,none⟩:Addr) w_18 fun t4_2=>
  R (.returned (Value.tuple #[(Value.agg t4_2),(Value.int .i64 4)])) w_18) (
  k_2 () w_17)))))))))))) /\
  (zat (zc P zo) zo w_4 fun b8_1 w_19=>
  ((zad P (Instr.sliceAt zx (Value.slice t13.1 t13.2.1 t13.2.2) none (some (Value.int .i64 s)) none) .slc w_19 fun (t26_2:(Option Addr×Nat×Nat))=>
  (Value.slice t26_2.1 t26_2.2.1 t26_2.2.2)=(Value.slice t26.1 t26.2.1 t26.2.2)) /\
  ((ld .map p w_19 fun (t23_3:(Option Nat))=>
  (Value.map t23_3)=(Value.map t23)) /\
  ql P vk #[(Value.slice t26.1 t26.2.1 t26.2.2)] [.str] false w_19 fun (t27_1:ByteArray) w_20=>
  ((ld .map p w_20 fun (t23_4:(Option Nat))=>
  (Value.map t23_4)=(Value.map t23)) /\
  zoy P (Instr.lookup qo (Value.map t23) (Value.string t27_1) true) [.any,.bool] w_20 fun (t28_2:(Value×Bool))=>
  zah P (storeVar zo (⟨b8_1,0,none⟩:Addr) t28_2.1) w_20 fun w_21=>
  joinP Unit (fun k_4=>
  qw t28_2.2 (
  ld .bool (⟨b8_1,0,none⟩:Addr) w_21 fun (t34_1:Bool)=>
  qw (!t34_1) (
  zad P (Instr.build zo #[]) .any w_21 fun (t37_1:Value)=>
  zah P (storeVar zo (⟨b4,0,none⟩:Addr) t37_1) w_21 fun w_22=>
  ldA P 2 (⟨b4,0,none⟩:Addr) w_22 fun t4_3=>
  R (.returned (Value.tuple #[(Value.agg t4_3),(Value.int .i64 70)])) w_22) (
  k_4 () w_21)) (
  k_4 () w_21)) (fun _ w_23=>
  za5 w_23 fun w_24=>
  qg f fun p_2=>
  zbz .i64 s 1 fun t45_1=>
  ld .map p_2 w_24 fun (t42_5:(Option Nat))=>
  zad P (Instr.sliceAt zx (Value.slice t13.1 t13.2.1 t13.2.2) none (some (Value.int .i64 t45_1)) none) .slc w_24 fun (t46_3:(Option Addr×Nat×Nat))=>
  ((ql P vk #[(Value.slice t46_3.1 t46_3.2.1 t46_3.2.2)] [.str] false w_24 fun (t47_2:ByteArray) w_25=>
  ((ld .map p_2 w_25 fun (t42_6:(Option Nat))=>
  (Value.map t42_6)=(Value.map t42_5)) /\
  zoy P (Instr.lookup qo (Value.map t42_5) (Value.string t47_2) true) [.any,.bool] w_25 fun (t48_3:(Value×Bool))=>
  zat (zc P zo) zo w_25 fun b10_2 w_26=>
  ((zoy P (Instr.lookup qo (Value.map t42_5) (Value.string t47_2) true) [.any,.bool] w_26 fun (t48_4:(Value×Bool))=>
  (Value.tuple #[t48_4.1,(Value.bool t48_4.2)])=(Value.tuple #[t48_3.1,(Value.bool t48_3.2)])) /\
  ((zad P (Instr.sliceAt zx (Value.slice t13.1 t13.2.1 t13.2.2) none (some (Value.int .i64 t45_1)) none) .slc w_26 fun (t46_4:(Option Addr×Nat×Nat))=>
  (Value.slice t46_4.1 t46_4.2.1 t46_4.2.2)=(Value.slice t46_3.1 t46_3.2.1 t46_3.2.2)) /\
  ((ld .map p_2 w_26 fun (t42_7:(Option Nat))=>
  (Value.map t42_7)=(Value.map t42_5)) /\
  zah P (storeVar zo (⟨b10_2,0,none⟩:Addr) t48_3.1) w_26 fun w_27=>
  qw (!t48_3.2) (
  zad P (Instr.build zo #[]) .any w_27 fun (t53_2:Value)=>
  zah P (storeVar zo (⟨b4,0,none⟩:Addr) t53_2) w_27 fun w_28=>
  ldA P 2 (⟨b4,0,none⟩:Addr) w_28 fun t4_4=>
  R (.returned (Value.tuple #[(Value.agg t4_4),(Value.int .i64 4)])) w_28) (
  k_2 () w_27)))))) /\
  (zat (zc P zo) zo w_24 fun b10_3 w_29=>
  ((zad P (Instr.sliceAt zx (Value.slice t13.1 t13.2.1 t13.2.2) none (some (Value.int .i64 t45_1)) none) .slc w_29 fun (t46_5:(Option Addr×Nat×Nat))=>
  (Value.slice t46_5.1 t46_5.2.1 t46_5.2.2)=(Value.slice t46_3.1 t46_3.2.1 t46_3.2.2)) /\
  ((ld .map p_2 w_29 fun (t42_8:(Option Nat))=>
  (Value.map t42_8)=(Value.map t42_5)) /\
  ql P vk #[(Value.slice t46_3.1 t46_3.2.1 t46_3.2.2)] [.str] false w_29 fun (t47_3:ByteArray) w_30=>
  ((ld .map p_2 w_30 fun (t42_9:(Option Nat))=>
  (Value.map t42_9)=(Value.map t42_5)) /\
  zoy P (Instr.lookup qo (Value.map t42_5) (Value.string t47_3) true) [.any,.bool] w_30 fun (t48_5:(Value×Bool))=>
  zah P (storeVar zo (⟨b10_3,0,none⟩:Addr) t48_5.1) w_30 fun w_31=>
  qw (!t48_5.2) (
  zad P (Instr.build zo #[]) .any w_31 fun (t53_3:Value)=>
  zah P (storeVar zo (⟨b4,0,none⟩:Addr) t53_3) w_31 fun w_32=>
  ldA P 2 (⟨b4,0,none⟩:Addr) w_32 fun t4_5=>
  R (.returned (Value.tuple #[(Value.agg t4_5),(Value.int .i64 4)])) w_32) (
  k_2 () w_31))))))))))))) (fun _ w_33=>
  k_1 () w_33)) (fun _ w_34=>
  zbz .i64 s 1 fun t54=>
  k t54 w_34)) (
  qg f fun p_3=>
  ld .map p_3 w_3 fun (t58:(Option Nat))=>
  zad P (Instr.lookup qo (Value.map t58) (Value.string path) false) .any w_3 fun (t60:Value)=>
  zah P (storeVar zo (⟨b4,0,none⟩:Addr) t60) w_3 fun w_35=>
  ldA P 2 (⟨b4,0,none⟩:Addr) w_35 fun t4_6=>
  R (.returned (Value.tuple #[(Value.agg t4_6),(Value.int .i64 0)])) w_35)) 0 w_2
theorem zug {f:Option Addr}{path:ByteArray}{R:Ending->World->Prop}{w:World}(hT:zog f path R w):qj P zfp #[(Value.pointer f),(Value.string path)] w R:=
 fnT (.seq .leaf (.seq .leaf (.seq (.seq .leaf (.blk (.loop [(16,.int .i64)] (.seq .leaf (.seq (.cond .leaf .leaf) (.join [] (.jblk [] (.seq .leaf (.seq (.tree (.op 0 [] (.op 1 [] (.op 2 [] (.op 4 [] (.op 5 [] (.op 3 [] (.op 6 [] (.or (.op 7 [3] (.op 8 [] (.op 9 [] (.op 10 [] (.op 11 [] (.op 12 [3,6,8] (.op 13 [] (.op 14 [] .done)))))))) (.op 12 [3,6] (.op 7 [3] (.op 8 [] (.op 9 [] (.op 10 [] (.op 11 [] (.op 13 [] (.op 14 [] .done))))))))))))))))) (.join [] (.seq .leaf (.cond (.seq .leaf .leaf) .leaf)) (.seq (.tree (.op 0 [] (.op 1 [] (.op 2 [] (.op 4 [] (.op 5 [] (.op 6 [] (.op 3 [] (.op 7 [] (.or (.op 8 [3] (.op 9 [] (.op 10 [] (.op 11 [] (.op 12 [] (.op 13 [3,7,9] (.op 14 [] (.op 15 [] .done)))))))) (.op 13 [3,7] (.op 8 [3] (.op 9 [] (.op 10 [] (.op 11 [] (.op 12 [] (.op 14 [] (.op 15 [] .done)))))))))))))))))) (.seq .leaf (.cond (.seq .leaf .leaf) .leaf))))))) .leaf)))))) (.seq .leaf .leaf)))) Tryz.func200 hT
def ztq (e:Int) (R:Ending->World->Prop) (w:World):Prop:=
  zat (zc P zq) zq w fun b2 w_1=>
  zad P (Instr.build zq #[(0,(Value.int .i64 e))]) .any w_1 fun (t4:Value)=>
  zah P (storeVar zq (⟨b2,0,none⟩:Addr) t4) w_1 fun w_2=>
  ldA P 5 (⟨b2,0,none⟩:Addr) w_2 fun t2=>
  R (.returned (Value.agg t2)) w_2
theorem zzl {e:Int}{R:Ending->World->Prop}{w:World}(hT:ztq e R w):qj P zbb #[(Value.int .i64 e)] w R:=
 fnT (.seq .leaf (.seq .leaf .leaf)) Tryz.func147 hT
def zqr (f:Option Addr) (o:Value) (R:Ending->World->Prop) (w:World):Prop:=
  zat (Value.cells o) jk w fun b3 w_1=>
  zat (zc P zq) zq w_1 fun b4 w_2=>
  qw (Option.isNone f) (
  ql P zbb #[(Value.int .i64 7)] [.any] false w_2 fun (t9:Value) w_3=>
  zah P (storeVar zq (⟨b4,0,none⟩:Addr) t9) w_3 fun w_4=>
  ldA P 5 (⟨b4,0,none⟩:Addr) w_4 fun t4=>
  R (.returned (Value.agg t4)) w_4) (
  ldA P 6 (⟨b3,0,none⟩:Addr) w_2 fun t10=>
  ql P zsj #[(Value.agg t10)] [.int .i64] false w_2 fun (t11:Int) w_5=>
  qw (t11 != 0) (
  ql P zbb #[(Value.int .i64 t11)] [.any] false w_5 fun (t15:Value) w_6=>
  zah P (storeVar zq (⟨b4,0,none⟩:Addr) t15) w_6 fun w_7=>
  ldA P 5 (⟨b4,0,none⟩:Addr) w_7 fun t4_1=>
  R (.returned (Value.agg t4_1)) w_7) (
  zad P (Instr.makeFunc (Go.Fn.func zgd) #[(Value.pointer f)] #[]) .any w_5 fun (t17:Value)=>
  ld (.int .i64) (⟨b3,0,none⟩:Addr) w_5 fun (t19:Int)=>
  joinP Value (fun k=>
  qw (t19==11) (
  zad P (Instr.build zq #[]) .any w_5 fun (t22:Value)=>
  zah P (storeVar zq (⟨b4,0,none⟩:Addr) t22) w_5 fun w_8=>
  ldA P 5 (⟨b4,0,none⟩:Addr) w_8 fun t4_2=>
  R (.returned (Value.agg t4_2)) w_8) (
  joinP Bool (fun k_1=>
  qw (t19==1) (
  k_1 (t19==1) w_5) (
  k_1 (t19==2) w_5)) (fun s w_9=>
  qw s (
  zad P (Instr.makeFunc (Go.Fn.func zu7) #[(Value.pointer f)] #[]) .any w_9 fun (t27:Value)=>
  k t27 w_9) (
  joinP Bool (fun k_2=>
  qw (t19==3) (
  k_2 (t19==3) w_9) (
  k_2 (t19==4) w_9)) (fun s_1 w_10=>
  qw s_1 (
  zad P (Instr.makeFunc (Go.Fn.func zil) #[(Value.pointer f)] #[]) .any w_10 fun (t32:Value)=>
  k t32 w_10) (
  joinP Bool (fun k_3=>
  qw (t19==5) (
  k_3 (t19==5) w_10) (
  k_3 (t19==6) w_10)) (fun s_2 w_11=>
  qw s_2 (
  zad P (Instr.makeFunc (Go.Fn.func zfw) #[(Value.pointer f)] #[]) .any w_11 fun (t37:Value)=>
  k t37 w_11) (
  qw (t19==7) (
  zad P (Instr.makeFunc (Go.Fn.func zsx) #[(Value.pointer f)] #[]) .any w_11 fun (t41:Value)=>
  k t41 w_11) (
  k t17 w_11))))))))) (fun s_3 w_12=>
  ld .str (⟨b3,1,none⟩:Addr) w_12 fun (t44:ByteArray)=>
  ql P zhw #[(Value.string t44)] [.str,.int .i64] true w_12 fun (t45:(ByteArray×Int)) w_13=>
  stC (⟨b3,1,none⟩:Addr) (Value.string t45.1) w_13 fun w_14=>
  joinP Unit (fun k_4=>
  ld (.int .i64) (⟨b3,0,none⟩:Addr) w_14 fun (t50:Int)=>
  qw (t50==7) (
  ld .str (⟨b3,2,none⟩:Addr) w_14 fun (t54:ByteArray)=>
  ql P zhw #[(Value.string t54)] [.str,.int .i64] true w_14 fun (t55:(ByteArray×Int)) w_15=>
  stC (⟨b3,2,none⟩:Addr) (Value.string t55.1) w_15 fun w_16=>
  k_4 () w_16) (
  k_4 () w_14)) (fun _ w_17=>
  ldA P 6 (⟨b3,0,none⟩:Addr) w_17 fun t60=>
  zp1 P s_3 #[(Value.agg t60)] [.any] false w_17 fun (t61:Value) w_18=>
  zah P (storeVar zq (⟨b4,0,none⟩:Addr) t61) w_18 fun w_19=>
  ldA P 5 (⟨b4,0,none⟩:Addr) w_19 fun t4_3=>
  R (.returned (Value.agg t4_3)) w_19))))
theorem zxs {f:Option Addr}{o:Value}{R:Ending->World->Prop}{w:World}(hT:zqr f o R w):qj P zhx #[(Value.pointer f),o] w R:=
 fnT (.seq .leaf (.seq (.seq .leaf (.cond (.seq .leaf .leaf) .leaf)) (.seq (.seq .leaf (.seq .leaf (.cond (.seq .leaf .leaf) .leaf))) (.seq .leaf (.seq (.seq .leaf (.jblk [(6,.any)] (.seq .leaf (.cond (.seq .leaf .leaf) (.join [(23,.bool)] (.seq .leaf (.cond .leaf .leaf)) (.cond .leaf (.join [(28,.bool)] (.seq .leaf (.cond .leaf .leaf)) (.cond .leaf (.join [(33,.bool)] (.seq .leaf (.cond .leaf .leaf)) (.cond .leaf (.seq .leaf (.cond .leaf .leaf)))))))))))) (.seq .leaf (.join [] (.seq .leaf (.cond .leaf .leaf)) (.seq .leaf .leaf)))))))) Tryz.func84 hT
def zmo (s:Option Addr) (lowers:Option Addr) (lowers_l lowers_c:Nat) (u:Option Addr) (R:Ending->World->Prop) (w:World):Prop:=
  joinP Bool (fun k=>
  qw (Option.isNone s) (
  k true w) (
  k (Option.isNone u) w)) (fun s_1 w_1=>
  qw s_1 (
  R (.returned (Value.tuple #[(Value.pointer none),(Value.int .i64 7)])) w_1) (
  qw (decide ((lowers_l:Int) > 4)) (
  R (.returned (Value.tuple #[(Value.pointer none),(Value.int .i64 8)])) w_1) (
  ql P zcs #[(Value.pointer u)] [.ptr] false w_1 fun (t28:(Option Addr)) w_2=>
  zad P (Instr.build zcw #[(1,(Value.pointer t28))]) .any w_2 fun (t29:Value)=>
  zat (Value.cells t29) zcw w_2 fun b30 w_3=>
  za4 Int (fun s_2 w_4 k_1=>
  qw (decide (s_2 < (lowers_l:Int))) (
  ixS lowers lowers_l 32 s_2 fun t35=>
  ldA P 32 t35 w_4 fun t36=>
  zat (zc P zf) zf w_4 fun b10 w_5=>
  zah P (storeVar zf (⟨b10,0,none⟩:Addr) (Value.agg t36)) w_5 fun w_6=>
  ldA P 32 (⟨b10,0,none⟩:Addr) w_6 fun t39=>
  ql P zqh #[(Value.pointer s),(Value.agg t39)] [.slc,.int .i64] true w_6 fun (t40:((Option Addr×Nat×Nat)×Int)) w_7=>
  qw (t40.2 != 0) (
  R (.returned (Value.tuple #[(Value.pointer none),(Value.int .i64 t40.2)])) w_7) (
  za2 P (Instr.makeMap zca none) .map w_7 fun (t46:(Option Nat)) w_8=>
  za4 Int (fun s_3 w_9 k_2=>
  qw (decide (s_3 < (t40.1.2.1:Int))) (
  ixS t40.1.1 t40.1.2.1 3 s_3 fun t51=>
  ldA P 3 t51 w_9 fun t52=>
  zat (zc P zn) zn w_9 fun b15 w_10=>
  zah P (storeVar zn (⟨b15,0,none⟩:Addr) (Value.agg t52)) w_10 fun w_11=>
  ld .str (⟨b15,0,none⟩:Addr) w_11 fun (t55:ByteArray)=>
  ldA P 3 (⟨b15,0,none⟩:Addr) w_11 fun t56=>
  zah P (Instr.mapUpdate zca (Value.map t46) (Value.string t55) (Value.agg t56)) w_11 fun w_12=>
  zbz .i64 s_3 1 fun t57=>
  k_2 t57 w_12) (
  ld .slc (⟨b30,0,none⟩:Addr) w_9 fun (t62:(Option Addr×Nat×Nat))=>
  za2 P (Instr.buildSlice zfq 1 #[(0,(Value.map t46))]) .slc w_9 fun (t64:(Option Addr×Nat×Nat)) w_13=>
  za2 P (Builtin.append_ #[zfq,zfq] zfq #[(Value.slice t62.1 t62.2.1 t62.2.2),(Value.slice t64.1 t64.2.1 t64.2.2)]) .slc w_13 fun (t65:(Option Addr×Nat×Nat)) w_14=>
  stC (⟨b30,0,none⟩:Addr) (Value.slice t65.1 t65.2.1 t65.2.2) w_14 fun w_15=>
  zbz .i64 s_2 1 fun t68=>
  k_1 t68 w_15)) 0 w_8)) (
  R (.returned (Value.tuple #[(Value.pointer (some (⟨b30,0,none⟩:Addr))),(Value.int .i64 0)])) w_4)) 0 w_3)))
theorem zn1 {s:Option Addr}{lowers:Option Addr}{lowers_l lowers_c:Nat}{u:Option Addr}{R:Ending->World->Prop}{w:World}(hT:zmo s lowers lowers_l lowers_c u R w):qj P zev #[(Value.pointer s),(Value.slice lowers lowers_l lowers_c),(Value.pointer u)] w R:=
 fnT (.seq .leaf (.seq (.blk (.join [(16,.bool)] .leaf (.cond (.seq .leaf .leaf) (.seq .leaf (.cond (.seq .leaf .leaf) .leaf))))) (.seq .leaf (.seq (.seq .leaf (.blk (.loop [(33,.int .i64)] (.seq .leaf (.seq (.cond .leaf .leaf) (.seq (.blk (.seq .leaf (.seq .leaf (.seq (.seq .leaf (.cond (.seq .leaf .leaf) .leaf)) (.seq .leaf (.seq (.seq .leaf (.blk (.loop [(49,.int .i64)] (.seq .leaf (.seq (.cond .leaf .leaf) (.seq (.blk (.seq .leaf .leaf)) .leaf)))))) .leaf)))))) .leaf)))))) (.seq .leaf .leaf))))) Tryz.func9 hT
def zkb (u:Option Addr) (layers:Option Addr) (layers_l layers_c:Nat) (path:ByteArray) (R:Ending->World->Prop) (w:World):Prop:=
  zat (zc P zi) zi w fun b6 w_1=>
  zat (zc P zi) zi w_1 fun b8 w_2=>
  joinP Unit (fun k=>
  joinP Unit (fun k_1=>
  za4 Int (fun s w_3 k_2=>
  qw (decide (s < (layers_l:Int))) (
  joinP Unit (fun k_3=>
  joinP Unit (fun k_4=>
  ixS layers layers_l 1 s fun t17=>
  ld (.int .i64) t17 w_3 fun (t18:Int)=>
  qg u fun p=>
  ld .slc p w_3 fun (t23:(Option Addr×Nat×Nat))=>
  ixS t23.1 t23.2.1 1 t18 fun t25=>
  ld .map t25 w_3 fun (t26:(Option Nat))=>
  zoy P (Instr.lookup zca (Value.map t26) (Value.string path) true) [.any,.bool] w_3 fun (t28:(Value×Bool))=>
  zat (zc P zn) zn w_3 fun b11 w_4=>
  zah P (storeVar zn (⟨b11,0,none⟩:Addr) t28.1) w_4 fun w_5=>
  qw (!t28.2) (
  k_4 () w_5) (
  ld .bool (⟨b11,1,none⟩:Addr) w_5 fun (t34:Bool)=>
  qw (!t34) (
  joinP Unit (fun k_5=>
  ld .slc (⟨b8,3,none⟩:Addr) w_5 fun (t37:(Option Addr×Nat×Nat))=>
  qw ((t37.2.1:Int)==0) (
  ldA P 3 (⟨b11,0,none⟩:Addr) w_5 fun t40=>
  zah P (storeVar zn (⟨b8,0,none⟩:Addr) (Value.agg t40)) w_5 fun w_6=>
  k_5 () w_6) (
  k_5 () w_5)) (fun _ w_7=>
  k_1 () w_7)) (
  za5 w_5 fun w_8=>
  ldA P 3 (⟨b11,0,none⟩:Addr) w_8 fun t42=>
  ld .slc (⟨b8,3,none⟩:Addr) w_8 fun (t44:(Option Addr×Nat×Nat))=>
  za2 P (Instr.buildSlice zmy 1 #[(0,(Value.int .i64 t18))]) .slc w_8 fun (t46:(Option Addr×Nat×Nat)) w_9=>
  ((ld .slc (⟨b8,3,none⟩:Addr) w_9 fun (t44_1:(Option Addr×Nat×Nat))=>
  (Value.slice t44_1.1 t44_1.2.1 t44_1.2.2)=(Value.slice t44.1 t44.2.1 t44.2.2)) /\
  ((ldA P 3 (⟨b11,0,none⟩:Addr) w_9 fun t42_1=>
  (Value.agg t42_1)=(Value.agg t42)) /\
  za2 P (Builtin.append_ #[zmy,zmy] zmy #[(Value.slice t44.1 t44.2.1 t44.2.2),(Value.slice t46.1 t46.2.1 t46.2.2)]) .slc w_9 fun (t47:(Option Addr×Nat×Nat)) w_10=>
  ((ldA P 3 (⟨b11,0,none⟩:Addr) w_10 fun t42_2=>
  (Value.agg t42_2)=(Value.agg t42)) /\
  zah P (storeVar zn (⟨b8,0,none⟩:Addr) (Value.agg t42)) w_10 fun w_11=>
  stC (⟨b8,3,none⟩:Addr) (Value.slice t47.1 t47.2.1 t47.2.2) w_11 fun w_12=>
  k_4 () w_12)))))) (fun _ w_13=>
  k_3 () w_13)) (fun _ w_14=>
  zbz .i64 s 1 fun t50=>
  k_2 t50 w_14)) (
  k_1 () w_3)) 0 w_2) (fun _ w_15=>
  k () w_15)) (fun _ w_16=>
  za5 w_16 fun w_17=>
  ldA P 5 (⟨b8,0,none⟩:Addr) w_17 fun t51=>
  ld .str (⟨b8,0,none⟩:Addr) w_17 fun (t54:ByteArray)=>
  zah P (storeVar zi (⟨b6,0,none⟩:Addr) (Value.agg t51)) w_17 fun w_18=>
  ((ld .str (⟨b8,0,none⟩:Addr) w_18 fun (t54_1:ByteArray)=>
  (Value.string t54_1)=(Value.string t54)) /\
  ldA P 5 (⟨b6,0,none⟩:Addr) w_18 fun t6=>
  R (.returned (Value.tuple #[(Value.agg t6),(Value.bool (!(t54.toList==(ByteArray.mk #[]).toList)))])) w_18))
theorem zo2 {u:Option Addr}{layers:Option Addr}{layers_l layers_c:Nat}{path:ByteArray}{R:Ending->World->Prop}{w:World}(hT:zkb u layers layers_l layers_c path R w):qj P zey #[(Value.pointer u),(Value.slice layers layers_l layers_c),(Value.string path)] w R:=
 fnT (.seq .leaf (.seq .leaf (.join [] (.seq .leaf (.jblk [] (.loop [(15,.int .i64)] (.seq .leaf (.seq (.cond .leaf .leaf) (.join [] (.jblk [] (.seq .leaf (.seq .leaf (.seq (.seq .leaf (.cond .leaf .leaf)) (.seq (.seq .leaf (.cond (.join [] (.seq .leaf (.cond .leaf .leaf)) .leaf) .leaf)) (.tree (.op 1 [] (.op 3 [] (.op 0 [] (.op 2 [] (.op 6 [] (.op 4 [0,2] (.op 5 [0] (.op 7 [] (.op 8 [] (.op 9 [] .done)))))))))))))))) .leaf)))))) (.seq (.tree (.op 1 [] (.op 2 [] (.op 0 [] (.op 3 [] (.op 4 [] (.op 5 [3] (.op 6 [] .done)))))))) .leaf)))) Tryz.func46 hT
def zks (u:Option Addr) (dir:Value) (names:Option Addr) (names_l jm:Nat) (R:Ending->World->Prop) (w:World):Prop:=
  zat (Value.cells dir) zi w fun b4 w_1=>
  zat (zc P zi) zi w_1 fun b6 w_2=>
  ql P vk #[(Value.slice names names_l jm)] [.str] false w_2 fun (t14:ByteArray) w_3=>
  ld .slc (⟨b4,3,none⟩:Addr) w_3 fun (t18:(Option Addr×Nat×Nat))=>
  ql P zey #[(Value.pointer u),(Value.slice t18.1 t18.2.1 t18.2.2),(Value.string t14)] [.any,.bool] true w_3 fun (t20:(Value×Bool)) w_4=>
  zat (zc P zi) zi w_4 fun b9 w_5=>
  zah P (storeVar zi (⟨b9,0,none⟩:Addr) t20.1) w_5 fun w_6=>
  ld .bool (⟨b4,4,none⟩:Addr) w_6 fun (t24:Bool)=>
  qw (!t24) (
  ldA P 5 (⟨b9,0,none⟩:Addr) w_6 fun t26=>
  zah P (storeVar zi (⟨b6,0,none⟩:Addr) (Value.agg t26)) w_6 fun w_7=>
  ldA P 5 (⟨b6,0,none⟩:Addr) w_7 fun t6=>
  R (.returned (Value.tuple #[(Value.agg t6),(Value.bool t20.2)])) w_7) (
  qg u fun p=>
  ld .ptr (Addr.add p 1) w_6 fun (t32:(Option Addr))=>
  ql P zdh #[(Value.pointer t32),(Value.slice names names_l jm)] [.any,.bool] true w_6 fun (t34:(Value×Bool)) w_8=>
  zat (zc P zl) zl w_8 fun b11 w_9=>
  zah P (storeVar zl (⟨b11,0,none⟩:Addr) t34.1) w_9 fun w_10=>
  joinP Unit (fun k=>
  joinP Unit (fun k_1=>
  qw (!t34.2) (
  ldA P 5 (⟨b9,0,none⟩:Addr) w_10 fun t40=>
  zah P (storeVar zi (⟨b6,0,none⟩:Addr) (Value.agg t40)) w_10 fun w_11=>
  ldA P 5 (⟨b6,0,none⟩:Addr) w_11 fun t6_1=>
  R (.returned (Value.tuple #[(Value.agg t6_1),(Value.bool t20.2)])) w_11) (
  ld (.int .i64) (⟨b11,1,none⟩:Addr) w_10 fun (t44:Int)=>
  qw (t44==3) (
  zad P (Instr.build zi #[]) .any w_10 fun (t46:Value)=>
  zah P (storeVar zi (⟨b6,0,none⟩:Addr) t46) w_10 fun w_12=>
  ldA P 5 (⟨b6,0,none⟩:Addr) w_12 fun t6_2=>
  R (.returned (Value.tuple #[(Value.agg t6_2),(Value.bool false)])) w_12) (
  ld (.int .i64) (⟨b11,1,none⟩:Addr) w_10 fun (t49:Int)=>
  qw (t49==1) (
  ld .str (⟨b11,3,none⟩:Addr) w_10 fun (t53:ByteArray)=>
  zad P (Instr.build zn #[(0,(Value.string t14)),(2,(Value.string t53))]) .any w_10 fun (t54:Value)=>
  zad P (Instr.build zi #[(0,t54)]) .any w_10 fun (t55:Value)=>
  zah P (storeVar zi (⟨b6,0,none⟩:Addr) t55) w_10 fun w_13=>
  ldA P 5 (⟨b6,0,none⟩:Addr) w_13 fun t6_3=>
  R (.returned (Value.tuple #[(Value.agg t6_3),(Value.bool true)])) w_13) (
  ld .bool (⟨b11,2,none⟩:Addr) w_10 fun (t58:Bool)=>
  qw t58 (
  stC (⟨b9,3,none⟩:Addr) (Value.slice none 0 0) w_10 fun w_14=>
  k_1 () w_14) (
  ld .bool (⟨b9,1,none⟩:Addr) w_10 fun (t62:Bool)=>
  qw (!t62) (
  stC (⟨b9,3,none⟩:Addr) (Value.slice none 0 0) w_10 fun w_15=>
  k_1 () w_15) (
  k_1 () w_10)))))) (fun _ w_16=>
  k () w_16)) (fun _ w_17=>
  zad P (Instr.build zn #[(0,(Value.string t14)),(1,(Value.bool true))]) .any w_17 fun (t67:Value)=>
  ld .slc (⟨b9,3,none⟩:Addr) w_17 fun (t69:(Option Addr×Nat×Nat))=>
  zad P (Instr.build zi #[(0,t67),(1,(Value.slice t69.1 t69.2.1 t69.2.2)),(2,(Value.bool true))]) .any w_17 fun (t70:Value)=>
  zah P (storeVar zi (⟨b6,0,none⟩:Addr) t70) w_17 fun w_18=>
  ldA P 5 (⟨b6,0,none⟩:Addr) w_18 fun t6_4=>
  R (.returned (Value.tuple #[(Value.agg t6_4),(Value.bool true)])) w_18))
theorem zp8 {u:Option Addr}{dir:Value}{names:Option Addr}{names_l jm:Nat}{R:Ending->World->Prop}{w:World}(hT:zks u dir names names_l jm R w):qj P zd3 #[(Value.pointer u),dir,(Value.slice names names_l jm)] w R:=
 fnT (.seq .leaf (.seq .leaf (.seq .leaf (.seq (.seq .leaf (.cond (.seq .leaf .leaf) .leaf)) (.seq .leaf (.join [] (.jblk [] (.seq .leaf (.cond (.seq .leaf .leaf) (.seq .leaf (.cond (.seq .leaf .leaf) (.seq .leaf (.cond (.seq .leaf .leaf) (.seq .leaf (.cond .leaf .leaf))))))))) (.seq .leaf .leaf))))))) Tryz.func94 hT
def zkr (u:Option Addr) (R:Ending->World->Prop) (w:World):Prop:=
  zat (zc P zi) zi w fun b2 w_1=>
  zad P (Instr.build zn #[(0,(Value.string (ByteArray.mk #[47]))),(1,(Value.bool true))]) .any w_1 fun (t5:Value)=>
  zad P (Instr.build zi #[(0,t5),(2,(Value.bool true))]) .any w_1 fun (t6:Value)=>
  zat (zc P zi) zi w_1 fun b3 w_2=>
  zah P (storeVar zi (⟨b3,0,none⟩:Addr) t6) w_2 fun w_3=>
  qg u fun p=>
  ld .slc p w_3 fun (t10:(Option Addr×Nat×Nat))=>
  za4 Int (fun s w_4 k=>
  qw (decide (s < (t10.2.1:Int))) (
  ld .slc (⟨b3,3,none⟩:Addr) w_4 fun (t16:(Option Addr×Nat×Nat))=>
  za2 P (Instr.buildSlice zmy 1 #[(0,(Value.int .i64 s))]) .slc w_4 fun (t18:(Option Addr×Nat×Nat)) w_5=>
  za2 P (Builtin.append_ #[zmy,zmy] zmy #[(Value.slice t16.1 t16.2.1 t16.2.2),(Value.slice t18.1 t18.2.1 t18.2.2)]) .slc w_5 fun (t19:(Option Addr×Nat×Nat)) w_6=>
  stC (⟨b3,3,none⟩:Addr) (Value.slice t19.1 t19.2.1 t19.2.2) w_6 fun w_7=>
  zbz .i64 s 1 fun t21=>
  k t21 w_7) (
  ldA P 5 (⟨b3,0,none⟩:Addr) w_4 fun t22=>
  zah P (storeVar zi (⟨b2,0,none⟩:Addr) (Value.agg t22)) w_4 fun w_8=>
  ldA P 5 (⟨b2,0,none⟩:Addr) w_8 fun t2=>
  R (.returned (Value.agg t2)) w_8)) 0 w_3
theorem zqi {u:Option Addr}{R:Ending->World->Prop}{w:World}(hT:zkr u R w):qj P zfg #[(Value.pointer u)] w R:=
 fnT (.seq .leaf (.seq .leaf (.seq (.seq .leaf (.blk (.loop [(12,.int .i64)] (.seq .leaf (.seq (.cond .leaf .leaf) (.seq (.blk (.seq .leaf .leaf)) .leaf)))))) (.seq .leaf .leaf)))) Tryz.func43 hT
def zk2 (u:Option Addr) (names:Option Addr) (names_l jm:Nat) (R:Ending->World->Prop) (w:World):Prop:=
  zat (zc P zi) zi w fun b4 w_1=>
  ql P zfg #[(Value.pointer u)] [.any] false w_1 fun (t11:Value) w_2=>
  zat (zc P zi) zi w_2 fun b6 w_3=>
  zah P (storeVar zi (⟨b6,0,none⟩:Addr) t11) w_3 fun w_4=>
  za4 Int (fun s w_5 k=>
  qw (decide (s < (names_l:Int))) (
  joinP Unit (fun k_1=>
  joinP Unit (fun k_2=>
  za5 w_5 fun w_6=>
  zbz .i64 s 1 fun t22=>
  ldA P 5 (⟨b6,0,none⟩:Addr) w_6 fun t19=>
  zad P (Instr.sliceAt zx (Value.slice names names_l jm) none (some (Value.int .i64 t22)) none) .slc w_6 fun (t23:(Option Addr×Nat×Nat))=>
  ((ql P zd3 #[(Value.pointer u),(Value.agg t19),(Value.slice t23.1 t23.2.1 t23.2.2)] [.any,.bool] true w_6 fun (t24:(Value×Bool)) w_7=>
  zat (zc P zi) zi w_7 fun b8 w_8=>
  ((zad P (Instr.sliceAt zx (Value.slice names names_l jm) none (some (Value.int .i64 t22)) none) .slc w_8 fun (t23_1:(Option Addr×Nat×Nat))=>
  (Value.slice t23_1.1 t23_1.2.1 t23_1.2.2)=(Value.slice t23.1 t23.2.1 t23.2.2)) /\
  ((ldA P 5 (⟨b6,0,none⟩:Addr) w_8 fun t19_1=>
  (Value.agg t19_1)=(Value.agg t19)) /\
  zah P (storeVar zi (⟨b8,0,none⟩:Addr) t24.1) w_8 fun w_9=>
  joinP Unit (fun k_3=>
  qw (!t24.2) (
  zad P (Instr.build zi #[]) .any w_9 fun (t35:Value)=>
  zah P (storeVar zi (⟨b4,0,none⟩:Addr) t35) w_9 fun w_10=>
  ldA P 5 (⟨b4,0,none⟩:Addr) w_10 fun t4=>
  R (.returned (Value.tuple #[(Value.agg t4),(Value.bool false)])) w_10) (
  ld .bool (⟨b6,1,none⟩:Addr) w_9 fun (t32:Bool)=>
  qw (!t32) (
  zad P (Instr.build zi #[]) .any w_9 fun (t35_1:Value)=>
  zah P (storeVar zi (⟨b4,0,none⟩:Addr) t35_1) w_9 fun w_11=>
  ldA P 5 (⟨b4,0,none⟩:Addr) w_11 fun t4_1=>
  R (.returned (Value.tuple #[(Value.agg t4_1),(Value.bool false)])) w_11) (
  k_3 () w_9))) (fun _ w_12=>
  ldA P 5 (⟨b8,0,none⟩:Addr) w_12 fun t36=>
  zah P (storeVar zi (⟨b6,0,none⟩:Addr) (Value.agg t36)) w_12 fun w_13=>
  k_2 () w_13)))) /\
  (zat (zc P zi) zi w_6 fun b8_1 w_14=>
  ((zad P (Instr.sliceAt zx (Value.slice names names_l jm) none (some (Value.int .i64 t22)) none) .slc w_14 fun (t23_2:(Option Addr×Nat×Nat))=>
  (Value.slice t23_2.1 t23_2.2.1 t23_2.2.2)=(Value.slice t23.1 t23.2.1 t23.2.2)) /\
  ((ldA P 5 (⟨b6,0,none⟩:Addr) w_14 fun t19_2=>
  (Value.agg t19_2)=(Value.agg t19)) /\
  ql P zd3 #[(Value.pointer u),(Value.agg t19),(Value.slice t23.1 t23.2.1 t23.2.2)] [.any,.bool] true w_14 fun (t24_1:(Value×Bool)) w_15=>
  zah P (storeVar zi (⟨b8_1,0,none⟩:Addr) t24_1.1) w_15 fun w_16=>
  joinP Unit (fun k_4=>
  qw (!t24_1.2) (
  zad P (Instr.build zi #[]) .any w_16 fun (t35_2:Value)=>
  zah P (storeVar zi (⟨b4,0,none⟩:Addr) t35_2) w_16 fun w_17=>
  ldA P 5 (⟨b4,0,none⟩:Addr) w_17 fun t4_2=>
  R (.returned (Value.tuple #[(Value.agg t4_2),(Value.bool false)])) w_17) (
  ld .bool (⟨b6,1,none⟩:Addr) w_16 fun (t32_1:Bool)=>
  qw (!t32_1) (
  zad P (Instr.build zi #[]) .any w_16 fun (t35_3:Value)=>
  zah P (storeVar zi (⟨b4,0,none⟩:Addr) t35_3) w_16 fun w_18=>
  ldA P 5 (⟨b4,0,none⟩:Addr) w_18 fun t4_3=>
  R (.returned (Value.tuple #[(Value.agg t4_3),(Value.bool false)])) w_18) (
  k_4 () w_16))) (fun _ w_19=>
  ldA P 5 (⟨b8_1,0,none⟩:Addr) w_19 fun t36_1=>
  zah P (storeVar zi (⟨b6,0,none⟩:Addr) (Value.agg t36_1)) w_19 fun w_20=>
  k_2 () w_20)))))) (fun _ w_21=>
  k_1 () w_21)) (fun _ w_22=>
  zbz .i64 s 1 fun t37=>
  k t37 w_22)) (
  ldA P 5 (⟨b6,0,none⟩:Addr) w_5 fun t38=>
  zah P (storeVar zi (⟨b4,0,none⟩:Addr) (Value.agg t38)) w_5 fun w_23=>
  ldA P 5 (⟨b4,0,none⟩:Addr) w_23 fun t4_4=>
  R (.returned (Value.tuple #[(Value.agg t4_4),(Value.bool true)])) w_23)) 0 w_4
theorem zp9 {u:Option Addr}{names:Option Addr}{names_l jm:Nat}{R:Ending->World->Prop}{w:World}(hT:zk2 u names names_l jm R w):qj P zhy #[(Value.pointer u),(Value.slice names names_l jm)] w R:=
 fnT (.seq .leaf (.seq .leaf (.seq (.seq .leaf (.blk (.loop [(14,.int .i64)] (.seq .leaf (.seq (.cond .leaf .leaf) (.join [] (.jblk [] (.seq .leaf (.seq (.tree (.op 0 [] (.op 2 [] (.op 3 [] (.op 4 [] (.op 1 [] (.op 5 [] (.or (.op 6 [] (.op 7 [] (.op 8 [] (.op 9 [] (.op 10 [1,5] (.op 11 [] (.op 12 [] .done))))))) (.op 10 [1,5] (.op 6 [] (.op 7 [] (.op 8 [] (.op 9 [] (.op 11 [] (.op 12 [] .done))))))))))))))) (.join [] (.seq .leaf (.cond (.seq .leaf .leaf) .leaf)) .leaf)))) .leaf)))))) (.seq .leaf .leaf)))) Tryz.func45 hT
def zgy (u:Option Addr) (names:Option Addr) (names_l jm:Nat) (R:Ending->World->Prop) (w:World):Prop:=
  joinP Unit (fun k=>
  qw (Option.isNone u) (
  R (.returned (Value.bool false)) w) (
  qw ((names_l:Int)==0) (
  R (.returned (Value.bool false)) w) (
  ql P zh0 #[(Value.slice names names_l jm)] [.int .i64] false w fun (t16:Int) w_1=>
  qw (t16 != 0) (
  R (.returned (Value.bool false)) w_1) (
  k () w_1)))) (fun _ w_2=>
  zo5 .i64 (names_l:Int) 1 fun t24=>
  zad P (Instr.sliceAt zx (Value.slice names names_l jm) none (some (Value.int .i64 t24)) none) .slc w_2 fun (t25:(Option Addr×Nat×Nat))=>
  ql P zhy #[(Value.pointer u),(Value.slice t25.1 t25.2.1 t25.2.2)] [.any,.bool] true w_2 fun (t26:(Value×Bool)) w_3=>
  zat (zc P zi) zi w_3 fun b5 w_4=>
  zah P (storeVar zi (⟨b5,0,none⟩:Addr) t26.1) w_4 fun w_5=>
  qw (!t26.2) (
  R (.returned (Value.bool false)) w_5) (
  za5 w_5 fun w_6=>
  ld .slc (⟨b5,3,none⟩:Addr) w_6 fun (t34:(Option Addr×Nat×Nat))=>
  ql P vk #[(Value.slice names names_l jm)] [.str] false w_6 fun (t36:ByteArray) w_7=>
  ((ld .slc (⟨b5,3,none⟩:Addr) w_7 fun (t34_1:(Option Addr×Nat×Nat))=>
  (Value.slice t34_1.1 t34_1.2.1 t34_1.2.2)=(Value.slice t34.1 t34.2.1 t34.2.2)) /\
  ql P zey #[(Value.pointer u),(Value.slice t34.1 t34.2.1 t34.2.2),(Value.string t36)] [.any,.bool] true w_7 fun (t37:(Value×Bool)) w_8=>
  R (.returned (Value.bool t37.2)) w_8)))
theorem zjf {u:Option Addr}{names:Option Addr}{names_l jm:Nat}{R:Ending->World->Prop}{w:World}(hT:zgy u names names_l jm R w):qj P zbj #[(Value.pointer u),(Value.slice names names_l jm)] w R:=
 fnT (.seq .leaf (.join [] (.seq .leaf (.cond (.seq .leaf .leaf) .leaf)) (.seq .leaf (.seq (.seq .leaf (.cond (.seq .leaf .leaf) .leaf)) (.seq (.tree (.op 0 [] (.op 1 [] (.op 3 [] (.op 2 [] (.op 4 [2] (.op 5 [] (.op 6 [] (.op 7 [] (.op 8 [] (.op 9 [] .done))))))))))) (.seq .leaf .leaf)))))) Tryz.func13 hT
def zko (u:Option Addr) (s:Value) (names:Option Addr) (names_l jm:Nat) (R:Ending->World->Prop) (w:World):Prop:=
  zat (Value.cells s) zi w fun b4 w_1=>
  zat #[(Value.slice names names_l jm)] zx w_1 fun b5 w_2=>
  zat (zc P zx) zx w_2 fun b7 w_3=>
  zad P (Instr.makeFunc (Go.Fn.func zbc) #[] #[(Value.pointer (some (⟨b5,0,none⟩:Addr))),(Value.pointer (some (⟨b7,0,none⟩:Addr)))]) .any w_3 fun (t14:Value)=>
  ld .slc (⟨b4,3,none⟩:Addr) w_3 fun (t16:(Option Addr×Nat×Nat))=>
  za4 Int (fun s_1 w_4 k=>
  qw (decide (s_1 < (t16.2.1:Int))) (
  ixS t16.1 t16.2.1 1 s_1 fun t20=>
  ld (.int .i64) t20 w_4 fun (t21:Int)=>
  qg u fun p=>
  ld .slc p w_4 fun (t25:(Option Addr×Nat×Nat))=>
  ixS t25.1 t25.2.1 1 t21 fun t27=>
  ld .map t27 w_4 fun (t28:(Option Nat))=>
  za2 P (Instr.range zca (Value.map t28)) .ptr w_4 fun (t29:(Option Addr)) w_5=>
  za4 Unit (fun _ w_6 k_1=>
  za2 P (Instr.next (Value.pointer t29) false zbk) .any w_6 fun (t30:Value) w_7=>
  exV t30 0 .bool fun (t31:Bool)=>
  qw t31 (
  zad P (Instr.entry (Value.pointer t29)) .any w_7 fun (t32:Value)=>
  exV t32 0 .str fun (t33:ByteArray)=>
  zp1 P t14 #[(Value.string t33)] [] true w_7 fun (_:Unit) w_8=>
  k_1 () w_8) (
  zbz .i64 s_1 1 fun t37=>
  k t37 w_7)) () w_5) (
  za5 w_4 fun w_9=>
  qg u fun p_1=>
  ld .ptr (Addr.add p_1 1) w_9 fun (t41:(Option Addr))=>
  ld .slc (⟨b5,0,none⟩:Addr) w_9 fun (t42:(Option Addr×Nat×Nat))=>
  ql P zcr #[(Value.pointer t41),(Value.slice t42.1 t42.2.1 t42.2.2)] [.slc] false w_9 fun (t43:(Option Addr×Nat×Nat)) w_10=>
  za4 Int (fun s_3 w_11 k_2=>
  qw (decide (s_3 < (t43.2.1:Int))) (
  ixS t43.1 t43.2.1 4 s_3 fun t47=>
  ldA P 4 t47 w_11 fun t48=>
  zat (zc P zl) zl w_11 fun b13 w_12=>
  zah P (storeVar zl (⟨b13,0,none⟩:Addr) (Value.agg t48)) w_12 fun w_13=>
  ld .str (⟨b13,0,none⟩:Addr) w_13 fun (t51:ByteArray)=>
  zp1 P t14 #[(Value.string t51)] [] true w_13 fun (_:Unit) w_14=>
  zbz .i64 s_3 1 fun t53=>
  k_2 t53 w_14) (
  ld .slc (⟨b7,0,none⟩:Addr) w_11 fun (t54:(Option Addr×Nat×Nat))=>
  ql P ze5 #[(Value.slice t54.1 t54.2.1 t54.2.2)] [] true w_11 fun (_:Unit) w_15=>
  ld .slc (⟨b7,0,none⟩:Addr) w_15 fun (t56:(Option Addr×Nat×Nat))=>
  R (.returned (Value.slice t56.1 t56.2.1 t56.2.2)) w_15)) 0 w_10)) 0 w_3
theorem zp0 {u:Option Addr}{s:Value}{names:Option Addr}{names_l jm:Nat}{R:Ending->World->Prop}{w:World}(hT:zko u s names names_l jm R w):qj P zhg #[(Value.pointer u),s,(Value.slice names names_l jm)] w R:=
 fnT (.seq .leaf (.seq .leaf (.seq .leaf (.seq (.seq .leaf (.blk (.loop [(18,.int .i64)] (.seq .leaf (.seq (.cond .leaf .leaf) (.seq (.blk (.seq .leaf (.seq .leaf (.blk (.loop [] (.seq .leaf (.seq (.cond .leaf .leaf) (.blk (.seq .leaf .leaf))))))))) .leaf)))))) (.seq (.seq (.tree (.op 0 [] (.op 1 [] (.op 2 [] (.op 7 [] (.op 3 [] (.op 4 [] (.op 5 [] (.op 6 [] .done))))))))) (.blk (.loop [(45,.int .i64)] (.seq .leaf (.seq (.cond .leaf .leaf) (.seq (.blk (.seq .leaf .leaf)) .leaf)))))) (.seq .leaf (.seq .leaf .leaf))))))) Tryz.func92 hT
def zjh (path:ByteArray) (c0:Option Addr) (c1:Option Addr) (R:Ending->World->Prop) (w:World):Prop:=
  ql P zbw #[(Value.string path)] [.slc,.int .i64] true w fun (t8:((Option Addr×Nat×Nat)×Int)) w_1=>
  za5 w_1 fun w_2=>
  qg c0 fun p=>
  ld .slc p w_2 fun (t13:(Option Addr×Nat×Nat))=>
  zbz .i64 (t13.2.1:Int) 1 fun t15=>
  qw ((t8.1.2.1:Int)==t15) (
  qg c0 fun p_1=>
  ld .slc p_1 w_2 fun (t19:(Option Addr×Nat×Nat))=>
  ql P zio #[(Value.slice t8.1.1 t8.1.2.1 t8.1.2.2),(Value.slice t19.1 t19.2.1 t19.2.2)] [.bool] false w_2 fun (t20:Bool) w_3=>
  qw t20 (
  qg c1 fun p_2=>
  ld .slc p_2 w_3 fun (t23:(Option Addr×Nat×Nat))=>
  qg c0 fun p_3=>
  ld .slc p_3 w_3 fun (t25:(Option Addr×Nat×Nat))=>
  ixS t8.1.1 t8.1.2.1 1 (t25.2.1:Int) fun t27=>
  ld .str t27 w_3 fun (t28:ByteArray)=>
  ql P zcf #[(Value.slice t23.1 t23.2.1 t23.2.2),(Value.string t28)] [.bool] false w_3 fun (t29:Bool) w_4=>
  qw (!t29) (
  za5 w_4 fun w_5=>
  qg c1 fun p_4=>
  ld .slc p_4 w_5 fun (t32:(Option Addr×Nat×Nat))=>
  qg c0 fun p_5=>
  ld .slc p_5 w_5 fun (t34:(Option Addr×Nat×Nat))=>
  ixS t8.1.1 t8.1.2.1 1 (t34.2.1:Int) fun t36=>
  ld .str t36 w_5 fun (t37:ByteArray)=>
  za2 P (Instr.buildSlice zx 1 #[(0,(Value.string t37))]) .slc w_5 fun (t38:(Option Addr×Nat×Nat)) w_6=>
  ((qg c1 fun p_6=>
  ld .slc p_6 w_6 fun (t32_1:(Option Addr×Nat×Nat))=>
  (Value.slice t32_1.1 t32_1.2.1 t32_1.2.2)=(Value.slice t32.1 t32.2.1 t32.2.2)) /\
  za2 P (Builtin.append_ #[zx,zx] zx #[(Value.slice t32.1 t32.2.1 t32.2.2),(Value.slice t38.1 t38.2.1 t38.2.2)]) .slc w_6 fun (t39:(Option Addr×Nat×Nat)) w_7=>
  qg c1 fun p_7=>
  stC p_7 (Value.slice t39.1 t39.2.1 t39.2.2) w_7 fun w_8=>
  R (.returned (Value.tuple #[])) w_8)) (
  R (.returned (Value.tuple #[])) w_4)) (
  R (.returned (Value.tuple #[])) w_3)) (
  R (.returned (Value.tuple #[])) w_2)
theorem zoe {path:ByteArray}{c0:Option Addr}{c1:Option Addr}{R:Ending->World->Prop}{w:World}(hT:zjh path c0 c1 R w):qj P zbc #[(Value.string path),(Value.pointer c0),(Value.pointer c1)] w R:=
 fnT (.seq .leaf (.seq (.tree (.op 0 [] (.op 1 [] (.op 2 [] (.op 3 [] (.op 4 [] (.op 5 [] (.op 6 [] (.op 7 [] (.op 8 [] (.op 9 [] (.op 10 [] (.op 11 [] (.op 13 [] (.op 12 [] (.op 14 [] (.op 15 [] (.op 16 [] (.op 17 [] (.op 18 [] (.op 19 [] (.op 20 [] .done)))))))))))))))))))))) (.cond (.tree (.op 1 [] (.op 0 [] (.op 2 [] (.op 3 [] (.op 4 [] (.op 5 [] (.op 6 [0] (.op 7 [] (.op 8 [] .done)))))))))) .leaf))) Tryz.func160 hT
def zkw (u:Option Addr) (s:Value) (names:Option Addr) (names_l jm:Nat) (out:Option Addr) (out_l out_c:Nat) (R:Ending->World->Prop) (w:World):Prop:=
  zat (Value.cells s) zi w fun b5 w_1=>
  ldA P 5 (⟨b5,0,none⟩:Addr) w_1 fun t15=>
  ql P zhg #[(Value.pointer u),(Value.agg t15),(Value.slice names names_l jm)] [.slc] false w_1 fun (t17:(Option Addr×Nat×Nat)) w_2=>
  za4 ((Option Addr×Nat×Nat)×Int) (fun s_1 w_3 k=>
  qw (decide (s_1.2 < (t17.2.1:Int))) (
  joinP (Option Addr×Nat×Nat) (fun k_1=>
  ixS t17.1 t17.2.1 1 s_1.2 fun t21=>
  ld .str t21 w_3 fun (t22:ByteArray)=>
  ql P za8 #[(Value.slice names names_l jm)] [.slc] false w_3 fun (t24:(Option Addr×Nat×Nat)) w_4=>
  za2 P (Instr.buildSlice zx 1 #[(0,(Value.string t22))]) .slc w_4 fun (t26:(Option Addr×Nat×Nat)) w_5=>
  za2 P (Builtin.append_ #[zx,zx] zx #[(Value.slice t24.1 t24.2.1 t24.2.2),(Value.slice t26.1 t26.2.1 t26.2.2)]) .slc w_5 fun (t27:(Option Addr×Nat×Nat)) w_6=>
  ldA P 5 (⟨b5,0,none⟩:Addr) w_6 fun t30=>
  ql P zd3 #[(Value.pointer u),(Value.agg t30),(Value.slice t27.1 t27.2.1 t27.2.2)] [.any,.bool] true w_6 fun (t32:(Value×Bool)) w_7=>
  zat (zc P zi) zi w_7 fun b12 w_8=>
  zah P (storeVar zi (⟨b12,0,none⟩:Addr) t32.1) w_8 fun w_9=>
  qw (!t32.2) (
  k_1 (s_1.1.1,s_1.1.2.1,s_1.1.2.2) w_9) (
  ldA P 3 (⟨b12,0,none⟩:Addr) w_9 fun t39=>
  za2 P (Instr.buildSlice qm 1 #[(0,(Value.agg t39))]) .slc w_9 fun (t40:(Option Addr×Nat×Nat)) w_10=>
  za2 P (Builtin.append_ #[qm,qm] qm #[(Value.slice s_1.1.1 s_1.1.2.1 s_1.1.2.2),(Value.slice t40.1 t40.2.1 t40.2.2)]) .slc w_10 fun (t41:(Option Addr×Nat×Nat)) w_11=>
  ld .bool (⟨b12,1,none⟩:Addr) w_11 fun (t44:Bool)=>
  qw t44 (
  ldA P 5 (⟨b12,0,none⟩:Addr) w_11 fun t46=>
  ql P zfh #[(Value.pointer u),(Value.agg t46),(Value.slice t27.1 t27.2.1 t27.2.2),(Value.slice t41.1 t41.2.1 t41.2.2)] [.slc] false w_11 fun (t49:(Option Addr×Nat×Nat)) w_12=>
  k_1 (t49.1,t49.2.1,t49.2.2) w_12) (
  k_1 (t41.1,t41.2.1,t41.2.2) w_11))) (fun s_2 w_13=>
  zbz .i64 s_1.2 1 fun t50=>
  k ((s_2.1,s_2.2.1,s_2.2.2),t50) w_13)) (
  R (.returned (Value.slice s_1.1.1 s_1.1.2.1 s_1.1.2.2)) w_3)) ((out,out_l,out_c),0) w_2
theorem zpu {u:Option Addr}{s:Value}{names:Option Addr}{names_l jm:Nat}{out:Option Addr}{out_l out_c:Nat}{R:Ending->World->Prop}{w:World}(hT:zkw u s names names_l jm out out_l out_c R w):qj P zfh #[(Value.pointer u),s,(Value.slice names names_l jm),(Value.slice out out_l out_c)] w R:=
 fnT (.seq .leaf (.seq (.seq .leaf (.blk (.loop [(3,.slc),(19,.int .i64)] (.seq .leaf (.seq (.cond .leaf .leaf) (.seq (.jblk [(3,.slc)] (.seq .leaf (.seq .leaf (.seq .leaf (.seq (.seq .leaf (.cond .leaf .leaf)) (.seq .leaf (.seq .leaf (.cond .leaf .leaf)))))))) .leaf)))))) (.seq .leaf .leaf))) Tryz.func42 hT
def zhr (u:Option Addr) (R:Ending->World->Prop) (w:World):Prop:=
  qw (Option.isNone u) (
  R (.returned (Value.slice none 0 0)) w) (
  ql P zfg #[(Value.pointer u)] [.any] false w fun (t7:Value) w_1=>
  ql P zfh #[(Value.pointer u),t7,(Value.slice none 0 0),(Value.slice none 0 0)] [.slc] false w_1 fun (t8:(Option Addr×Nat×Nat)) w_2=>
  R (.returned (Value.slice t8.1 t8.2.1 t8.2.2)) w_2)
theorem zjy {u:Option Addr}{R:Ending->World->Prop}{w:World}(hT:zhr u R w):qj P zd1 #[(Value.pointer u)] w R:=
 fnT (.seq .leaf (.seq (.seq .leaf (.cond (.seq .leaf .leaf) .leaf)) (.seq .leaf .leaf))) Tryz.func12 hT
def zt3 (wv:Option Addr) (names:Option Addr) (names_l jm:Nat) (R:Ending->World->Prop) (w:World):Prop:=
  za4 Int (fun s w_1 k=>
  qw (decide (s < (names_l:Int))) (
  joinP Unit (fun k_1=>
  joinP Unit (fun k_2=>
  zad P (Instr.sliceAt zx (Value.slice names names_l jm) none (some (Value.int .i64 s)) none) .slc w_1 fun (t17:(Option Addr×Nat×Nat))=>
  ql P zdh #[(Value.pointer wv),(Value.slice t17.1 t17.2.1 t17.2.2)] [.any,.bool] true w_1 fun (t18:(Value×Bool)) w_2=>
  zat (zc P zl) zl w_2 fun b5 w_3=>
  zah P (storeVar zl (⟨b5,0,none⟩:Addr) t18.1) w_3 fun w_4=>
  qw (!t18.2) (
  zad P (Instr.sliceAt zx (Value.slice names names_l jm) none (some (Value.int .i64 s)) none) .slc w_4 fun (t26:(Option Addr×Nat×Nat))=>
  ql P vk #[(Value.slice t26.1 t26.2.1 t26.2.2)] [.str] false w_4 fun (t27:ByteArray) w_5=>
  zad P (Instr.build zl #[(0,(Value.string t27)),(1,(Value.int .i64 2))]) .any w_5 fun (t28:Value)=>
  ql P zby #[(Value.pointer wv),t28] [.int .i64] false w_5 fun (_:Int) w_6=>
  k_2 () w_6) (
  k_2 () w_4)) (fun _ w_7=>
  k_1 () w_7)) (fun _ w_8=>
  zbz .i64 s 1 fun t12=>
  k t12 w_8)) (
  R (.returned (Value.tuple #[])) w_1)) 1 w
theorem zz0 {wv:Option Addr}{names:Option Addr}{names_l jm:Nat}{R:Ending->World->Prop}{w:World}(hT:zt3 wv names names_l jm R w):qj P zku #[(Value.pointer wv),(Value.slice names names_l jm)] w R:=
 fnT (.seq .leaf (.blk (.loop [(4,.int .i64)] (.seq (.seq .leaf (.cond .leaf .leaf)) (.join [] (.jblk [] (.seq .leaf (.seq .leaf (.cond .leaf .leaf)))) .leaf))))) Tryz.func210 hT
def zlz (u:Option Addr) (wv:Option Addr) (names:Option Addr) (names_l jm:Nat) (f:Value) (R:Ending->World->Prop) (w:World):Prop:=
  zat (Value.cells f) zn w fun b7 w_1=>
  ql P zku #[(Value.pointer wv),(Value.slice names names_l jm)] [] true w_1 fun (_:Unit) w_2=>
  za5 w_2 fun w_3=>
  ld .str (⟨b7,2,none⟩:Addr) w_3 fun (t15:ByteArray)=>
  ((ql P vk #[(Value.slice names names_l jm)] [.str] false w_3 fun (t13:ByteArray) w_4=>
  ((ld .str (⟨b7,2,none⟩:Addr) w_4 fun (t15_1:ByteArray)=>
  (Value.string t15_1)=(Value.string t15)) /\
  zad P (Instr.build zl #[(0,(Value.string t13)),(1,(Value.int .i64 1)),(3,(Value.string t15))]) .any w_4 fun (t16:Value)=>
  zat (zc P zl) zl w_4 fun b8 w_5=>
  ((zad P (Instr.build zl #[(0,(Value.string t13)),(1,(Value.int .i64 1)),(3,(Value.string t15))]) .any w_5 fun (t16_1:Value)=>
  t16_1=t16) /\
  ((ld .str (⟨b7,2,none⟩:Addr) w_5 fun (t15_2:ByteArray)=>
  (Value.string t15_2)=(Value.string t15)) /\
  zah P (storeVar zl (⟨b8,0,none⟩:Addr) t16) w_5 fun w_6=>
  joinP Unit (fun k=>
  ld .bool (⟨b7,1,none⟩:Addr) w_6 fun (t18:Bool)=>
  qw t18 (
  ql P zbj #[(Value.pointer u),(Value.slice names names_l jm)] [.bool] false w_6 fun (t21:Bool) w_7=>
  stC (⟨b8,1,none⟩:Addr) (Value.int .i64 2) w_7 fun w_8=>
  stC (⟨b8,2,none⟩:Addr) (Value.bool t21) w_8 fun w_9=>
  k () w_9) (
  k () w_6)) (fun _ w_10=>
  ldA P 4 (⟨b8,0,none⟩:Addr) w_10 fun t25=>
  ql P zby #[(Value.pointer wv),(Value.agg t25)] [.int .i64] false w_10 fun (_:Int) w_11=>
  R (.returned (Value.tuple #[])) w_11))))) /\
  (zat (zc P zl) zl w_3 fun b8_1 w_12=>
  ((ld .str (⟨b7,2,none⟩:Addr) w_12 fun (t15_3:ByteArray)=>
  (Value.string t15_3)=(Value.string t15)) /\
  ql P vk #[(Value.slice names names_l jm)] [.str] false w_12 fun (t13_1:ByteArray) w_13=>
  ((ld .str (⟨b7,2,none⟩:Addr) w_13 fun (t15_4:ByteArray)=>
  (Value.string t15_4)=(Value.string t15)) /\
  zad P (Instr.build zl #[(0,(Value.string t13_1)),(1,(Value.int .i64 1)),(3,(Value.string t15))]) .any w_13 fun (t16_2:Value)=>
  zah P (storeVar zl (⟨b8_1,0,none⟩:Addr) t16_2) w_13 fun w_14=>
  joinP Unit (fun k_1=>
  ld .bool (⟨b7,1,none⟩:Addr) w_14 fun (t18_1:Bool)=>
  qw t18_1 (
  ql P zbj #[(Value.pointer u),(Value.slice names names_l jm)] [.bool] false w_14 fun (t21_1:Bool) w_15=>
  stC (⟨b8_1,1,none⟩:Addr) (Value.int .i64 2) w_15 fun w_16=>
  stC (⟨b8_1,2,none⟩:Addr) (Value.bool t21_1) w_16 fun w_17=>
  k_1 () w_17) (
  k_1 () w_14)) (fun _ w_18=>
  ldA P 4 (⟨b8_1,0,none⟩:Addr) w_18 fun t25_1=>
  ql P zby #[(Value.pointer wv),(Value.agg t25_1)] [.int .i64] false w_18 fun (_:Int) w_19=>
  R (.returned (Value.tuple #[])) w_19)))))
theorem zqw {u:Option Addr}{wv:Option Addr}{names:Option Addr}{names_l jm:Nat}{f:Value}{R:Ending->World->Prop}{w:World}(hT:zlz u wv names names_l jm f R w):qj P zfx #[(Value.pointer u),(Value.pointer wv),(Value.slice names names_l jm),f] w R:=
 fnT (.seq .leaf (.seq .leaf (.seq (.tree (.op 0 [] (.op 2 [] (.op 3 [] (.or (.op 1 [3] (.op 4 [] (.op 5 [3,4] (.op 6 [] .done)))) (.op 5 [3] (.op 1 [3] (.op 4 [] (.op 6 [] .done))))))))) (.join [] (.seq .leaf (.cond .leaf .leaf)) .leaf)))) Tryz.func154 hT
def zjd (u:Option Addr) (wv:Option Addr) (o:Value) (f:Option Addr) (R:Ending->World->Prop) (w:World):Prop:=
  zat (Value.cells o) jk w fun b6 w_1=>
  ld .str (⟨b6,1,none⟩:Addr) w_1 fun (t14:ByteArray)=>
  ql P zbw #[(Value.string t14)] [.slc,.int .i64] true w_1 fun (t15:((Option Addr×Nat×Nat)×Int)) w_2=>
  ld .str (⟨b6,2,none⟩:Addr) w_2 fun (t20:ByteArray)=>
  ql P zbw #[(Value.string t20)] [.slc,.int .i64] true w_2 fun (t21:((Option Addr×Nat×Nat)×Int)) w_3=>
  ld (.int .i64) (⟨b6,0,none⟩:Addr) w_3 fun (t25:Int)=>
  joinP Unit (fun k=>
  joinP Bool (fun k_1=>
  qw (t25==1) (
  k_1 (t25==1) w_3) (
  k_1 (t25==2) w_3)) (fun s w_4=>
  qw s (
  ld (.int .i64) (⟨b6,0,none⟩:Addr) w_4 fun (t33:Int)=>
  zad P (Instr.build zn #[(1,(Value.bool (t33==1)))]) .any w_4 fun (t35:Value)=>
  ql P zfx #[(Value.pointer u),(Value.pointer wv),(Value.slice t15.1.1 t15.1.2.1 t15.1.2.2),t35] [] true w_4 fun (_:Unit) w_5=>
  k () w_5) (
  joinP Bool (fun k_2=>
  qw (t25==3) (
  k_2 (t25==3) w_4) (
  k_2 (t25==4) w_4)) (fun s_1 w_6=>
  qw s_1 (
  ld .str (⟨b6,1,none⟩:Addr) w_6 fun (t45:ByteArray)=>
  zad P (Instr.build jk #[(0,(Value.int .i64 8)),(1,(Value.string t45)),(5,(Value.int .i64 1024))]) .any w_6 fun (t46:Value)=>
  ql P zhx #[(Value.pointer f),t46] [.any] false w_6 fun (t47:Value) w_7=>
  zad P (Instr.field zq t47 3) .str w_7 fun (t48:ByteArray)=>
  zad P (Instr.build zn #[(2,(Value.string t48))]) .any w_7 fun (t49:Value)=>
  ql P zfx #[(Value.pointer u),(Value.pointer wv),(Value.slice t15.1.1 t15.1.2.1 t15.1.2.2),t49] [] true w_7 fun (_:Unit) w_8=>
  k () w_8) (
  joinP Bool (fun k_3=>
  qw (t25==5) (
  k_3 (t25==5) w_6) (
  k_3 (t25==6) w_6)) (fun s_2 w_9=>
  qw s_2 (
  ql P zik #[(Value.pointer u),(Value.pointer wv),(Value.slice t15.1.1 t15.1.2.1 t15.1.2.2)] [] true w_9 fun (_:Unit) w_10=>
  k () w_10) (
  qw (t25==7) (
  ql P zft #[(Value.slice t15.1.1 t15.1.2.1 t15.1.2.2),(Value.slice t21.1.1 t21.1.2.1 t21.1.2.2)] [.int .i64] false w_9 fun (t62:Int) w_11=>
  qw (t62 != 0) (
  ql P zrj #[(Value.pointer u),(Value.pointer wv),(Value.slice t15.1.1 t15.1.2.1 t15.1.2.2),(Value.slice t21.1.1 t21.1.2.1 t21.1.2.2)] [] true w_11 fun (_:Unit) w_12=>
  k () w_12) (
  k () w_11)) (
  k () w_9)))))))) (fun _ w_13=>
  R (.returned (Value.tuple #[])) w_13)
theorem zod {u:Option Addr}{wv:Option Addr}{o:Value}{f:Option Addr}{R:Ending->World->Prop}{w:World}(hT:zjd u wv o f R w):qj P zf8 #[(Value.pointer u),(Value.pointer wv),o,(Value.pointer f)] w R:=
 fnT (.seq .leaf (.seq .leaf (.seq .leaf (.seq .leaf (.jblk [] (.join [(26,.bool)] (.seq .leaf (.cond .leaf .leaf)) (.cond .leaf (.join [(37,.bool)] (.seq .leaf (.cond .leaf .leaf)) (.cond .leaf (.join [(51,.bool)] (.seq .leaf (.cond .leaf .leaf)) (.cond .leaf (.seq .leaf (.cond (.seq .leaf (.cond .leaf .leaf)) .leaf))))))))))))) Tryz.func86 hT
def zi5 (u:Option Addr) (o:Value) (R:Ending->World->Prop) (w:World):Prop:=
  zat (Value.cells o) jk w fun b3 w_1=>
  zat (zc P zq) zq w_1 fun b4 w_2=>
  qw (Option.isNone u) (
  zad P (Instr.build zq #[(0,(Value.int .i64 7))]) .any w_2 fun (t11:Value)=>
  zah P (storeVar zq (⟨b4,0,none⟩:Addr) t11) w_2 fun w_3=>
  ldA P 5 (⟨b4,0,none⟩:Addr) w_3 fun t4=>
  R (.returned (Value.agg t4)) w_3) (
  ql P zd1 #[(Value.pointer u)] [.slc] false w_2 fun (t14:(Option Addr×Nat×Nat)) w_4=>
  ql P zqf #[(Value.slice t14.1 t14.2.1 t14.2.2)] [.ptr,.int .i64] true w_4 fun (t15:((Option Addr)×Int)) w_5=>
  ldA P 6 (⟨b3,0,none⟩:Addr) w_5 fun t19=>
  ql P zhx #[(Value.pointer t15.1),(Value.agg t19)] [.any] false w_5 fun (t20:Value) w_6=>
  zat (zc P zq) zq w_6 fun b7 w_7=>
  zah P (storeVar zq (⟨b7,0,none⟩:Addr) t20) w_7 fun w_8=>
  joinP Unit (fun k=>
  ld (.int .i64) (⟨b7,0,none⟩:Addr) w_8 fun (t22:Int)=>
  qw (t22 != 0) (
  ldA P 5 (⟨b7,0,none⟩:Addr) w_8 fun t34=>
  zah P (storeVar zq (⟨b4,0,none⟩:Addr) (Value.agg t34)) w_8 fun w_9=>
  ldA P 5 (⟨b4,0,none⟩:Addr) w_9 fun t4_1=>
  R (.returned (Value.agg t4_1)) w_9) (
  ld (.int .i64) (⟨b3,0,none⟩:Addr) w_8 fun (t26:Int)=>
  ql P zth #[(Value.int .i64 t26)] [.bool] false w_8 fun (t27:Bool) w_10=>
  qw t27 (
  ldA P 5 (⟨b7,0,none⟩:Addr) w_10 fun t34_1=>
  zah P (storeVar zq (⟨b4,0,none⟩:Addr) (Value.agg t34_1)) w_10 fun w_11=>
  ldA P 5 (⟨b4,0,none⟩:Addr) w_11 fun t4_2=>
  R (.returned (Value.agg t4_2)) w_11) (
  ld (.int .i64) (⟨b3,0,none⟩:Addr) w_10 fun (t31:Int)=>
  qw (t31==11) (
  ldA P 5 (⟨b7,0,none⟩:Addr) w_10 fun t34_2=>
  zah P (storeVar zq (⟨b4,0,none⟩:Addr) (Value.agg t34_2)) w_10 fun w_12=>
  ldA P 5 (⟨b4,0,none⟩:Addr) w_12 fun t4_3=>
  R (.returned (Value.agg t4_3)) w_12) (
  k () w_10)))) (fun _ w_13=>
  qg u fun p=>
  ld .ptr (Addr.add p 1) w_13 fun (t38:(Option Addr))=>
  ql P zcs #[(Value.pointer t38)] [.ptr] false w_13 fun (t39:(Option Addr)) w_14=>
  ldA P 6 (⟨b3,0,none⟩:Addr) w_14 fun t42=>
  ql P zf8 #[(Value.pointer u),(Value.pointer t39),(Value.agg t42),(Value.pointer t15.1)] [] true w_14 fun (_:Unit) w_15=>
  ql P zhe #[(Value.pointer t39)] [.bool] false w_15 fun (t46:Bool) w_16=>
  qw t46 (
  zad P (Instr.build zq #[(0,(Value.int .i64 3))]) .any w_16 fun (t47:Value)=>
  zah P (storeVar zq (⟨b4,0,none⟩:Addr) t47) w_16 fun w_17=>
  ldA P 5 (⟨b4,0,none⟩:Addr) w_17 fun t4_4=>
  R (.returned (Value.agg t4_4)) w_17) (
  qg u fun p_1=>
  stC (Addr.add p_1 1) (Value.pointer t39) w_16 fun w_18=>
  ldA P 5 (⟨b7,0,none⟩:Addr) w_18 fun t52=>
  zah P (storeVar zq (⟨b4,0,none⟩:Addr) (Value.agg t52)) w_18 fun w_19=>
  ldA P 5 (⟨b4,0,none⟩:Addr) w_19 fun t4_5=>
  R (.returned (Value.agg t4_5)) w_19)))
theorem zls {u:Option Addr}{o:Value}{R:Ending->World->Prop}{w:World}(hT:zi5 u o R w):qj P zgi #[(Value.pointer u),o] w R:=
 fnT (.seq .leaf (.seq (.seq .leaf (.cond (.seq .leaf .leaf) .leaf)) (.seq .leaf (.seq .leaf (.join [] (.seq .leaf (.cond (.seq .leaf .leaf) .leaf)) (.seq .leaf (.seq .leaf (.seq (.seq .leaf (.cond (.seq .leaf .leaf) .leaf)) (.seq .leaf (.seq .leaf .leaf)))))))))) Tryz.func38 hT
def zi0 (u:Option Addr) (o:Value) (R:Ending->World->Prop) (w:World):Prop:=
  zat (Value.cells o) jk w fun b3 w_1=>
  zat (zc P zq) zq w_1 fun b4 w_2=>
  ldA P 6 (⟨b3,0,none⟩:Addr) w_2 fun t8=>
  ql P zgi #[(Value.pointer u),(Value.agg t8)] [.any] false w_2 fun (t9:Value) w_3=>
  zat (zc P zq) zq w_3 fun b6 w_4=>
  zah P (storeVar zq (⟨b6,0,none⟩:Addr) t9) w_4 fun w_5=>
  za5 w_5 fun w_6=>
  ldA P 5 (⟨b6,0,none⟩:Addr) w_6 fun t10=>
  ld (.int .i64) (⟨b3,0,none⟩:Addr) w_6 fun (t12:Int)=>
  ld .str (⟨b3,1,none⟩:Addr) w_6 fun (t15:ByteArray)=>
  ld (.int .i64) (⟨b6,0,none⟩:Addr) w_6 fun (t17:Int)=>
  ql P zuy #[(Value.int .i64 t12)] [.str] false w_6 fun (t13:ByteArray) w_7=>
  ((ld (.int .i64) (⟨b6,0,none⟩:Addr) w_7 fun (t17_1:Int)=>
  (Value.int .i64 t17_1)=(Value.int .i64 t17)) /\
  ((ld .str (⟨b3,1,none⟩:Addr) w_7 fun (t15_1:ByteArray)=>
  (Value.string t15_1)=(Value.string t15)) /\
  ((ldA P 5 (⟨b6,0,none⟩:Addr) w_7 fun t10_1=>
  (Value.agg t10_1)=(Value.agg t10)) /\
  ql P zp3 #[(Value.string t13),(Value.string t15),(Value.int .i64 t17)] [.any] false w_7 fun (t18:Value) w_8=>
  ((ldA P 5 (⟨b6,0,none⟩:Addr) w_8 fun t10_2=>
  (Value.agg t10_2)=(Value.agg t10)) /\
  zah P (storeVar zq (⟨b4,0,none⟩:Addr) (Value.agg t10)) w_8 fun w_9=>
  ldA P 5 (⟨b4,0,none⟩:Addr) w_9 fun t4=>
  R (.returned (Value.tuple #[(Value.agg t4),t18])) w_9))))
theorem zlm {u:Option Addr}{o:Value}{R:Ending->World->Prop}{w:World}(hT:zi0 u o R w):qj P zda #[(Value.pointer u),o] w R:=
 fnT (.seq .leaf (.seq .leaf (.seq (.tree (.op 1 [] (.op 4 [] (.op 6 [] (.op 0 [] (.op 2 [] (.op 5 [] (.op 7 [] (.op 3 [0,5,7] (.op 8 [0] (.op 9 [] (.op 10 [] .done)))))))))))) .leaf))) Tryz.func10 hT
def zym (quota:Int) (R:Ending->World->Prop) (w:World):Prop:=
  zad P (Builtin.max_ #[zav,zav] zav #[(Value.int .i64 quota),(Value.int .i64 0)]) (.int .i64) w fun (t4:Int)=>
  za2 P (Instr.makeMap zak none) .map w fun (t5:(Option Nat)) w_1=>
  zad P (Instr.build zg1 #[(0,(Value.int .i64 t4)),(2,(Value.map t5))]) .any w_1 fun (t6:Value)=>
  zat (Value.cells t6) zg1 w_1 fun b7 w_2=>
  R (.returned (Value.pointer (some (⟨b7,0,none⟩:Addr)))) w_2
theorem z4l {quota:Int}{R:Ending->World->Prop}{w:World}(hT:zym quota R w):qj P zou #[(Value.int .i64 quota)] w R:=
 fnT (.seq .leaf (.seq .leaf .leaf)) Tryz.func6 hT
def zv3 (s:Option Addr) (root:Value) (R:Ending->World->Prop) (w:World):Prop:=
  zat (Value.cells root) zf w fun b3 w_1=>
  qw (Option.isNone s) (
  R (.returned (Value.tuple #[(Value.slice none 0 0),(Value.int .i64 7)])) w_1) (
  ldA P 32 (⟨b3,0,none⟩:Addr) w_1 fun t12=>
  ql P zia #[(Value.pointer s),(Value.agg t12),(Value.int .i64 3)] [.any,.int .i64] true w_1 fun (t13:(Value×Int)) w_2=>
  zat (zc P zu) zu w_2 fun b6 w_3=>
  zah P (storeVar zu (⟨b6,0,none⟩:Addr) t13.1) w_3 fun w_4=>
  qw (t13.2 != 0) (
  R (.returned (Value.tuple #[(Value.slice none 0 0),(Value.int .i64 t13.2)])) w_4) (
  ldA P 5 (⟨b6,0,none⟩:Addr) w_4 fun t20=>
  ql P zcb #[(Value.pointer s),(Value.agg t20),(Value.slice none 0 0),(Value.slice none 0 0)] [.slc,.int .i64] true w_4 fun (t21:((Option Addr×Nat×Nat)×Int)) w_5=>
  R (.returned (Value.tuple #[(Value.slice t21.1.1 t21.1.2.1 t21.1.2.2),(Value.int .i64 t21.2)])) w_5))
theorem z0v {s:Option Addr}{root:Value}{R:Ending->World->Prop}{w:World}(hT:zv3 s root R w):qj P zqh #[(Value.pointer s),root] w R:=
 fnT (.seq .leaf (.seq (.seq .leaf (.cond (.seq .leaf .leaf) .leaf)) (.seq .leaf (.seq (.seq .leaf (.cond (.seq .leaf .leaf) .leaf)) (.seq .leaf .leaf))))) Tryz.func37 hT
def zyc (s:Option Addr) (d:Value) (kind:Int) (R:Ending->World->Prop) (w:World):Prop:=
  zat (Value.cells d) zf w fun b4 w_1=>
  zat (zc P zu) zu w_1 fun b6 w_2=>
  ldA P 32 (⟨b4,0,none⟩:Addr) w_2 fun t13=>
  ql P zi8 #[(Value.pointer s),(Value.agg t13)] [.slc,.int .i64] true w_2 fun (t14:((Option Addr×Nat×Nat)×Int)) w_3=>
  qw (t14.2 != 0) (
  zad P (Instr.build zu #[]) .any w_3 fun (t19:Value)=>
  zah P (storeVar zu (⟨b6,0,none⟩:Addr) t19) w_3 fun w_4=>
  ldA P 5 (⟨b6,0,none⟩:Addr) w_4 fun t6=>
  R (.returned (Value.tuple #[(Value.agg t6),(Value.int .i64 t14.2)])) w_4) (
  ql P zmn #[(Value.slice t14.1.1 t14.1.2.1 t14.1.2.2)] [.any,.int .i64] true w_3 fun (t23:(Value×Int)) w_5=>
  zat (zc P zu) zu w_5 fun b10 w_6=>
  zah P (storeVar zu (⟨b10,0,none⟩:Addr) t23.1) w_6 fun w_7=>
  joinP Unit (fun k=>
  qw (t23.2 != 0) (
  zad P (Instr.build zu #[]) .any w_7 fun (t34:Value)=>
  zah P (storeVar zu (⟨b6,0,none⟩:Addr) t34) w_7 fun w_8=>
  ldA P 5 (⟨b6,0,none⟩:Addr) w_8 fun t6_1=>
  R (.returned (Value.tuple #[(Value.agg t6_1),(Value.int .i64 21)])) w_8) (
  ld (.int .i64) (⟨b10,0,none⟩:Addr) w_7 fun (t30:Int)=>
  qw (t30 != kind) (
  zad P (Instr.build zu #[]) .any w_7 fun (t34_1:Value)=>
  zah P (storeVar zu (⟨b6,0,none⟩:Addr) t34_1) w_7 fun w_9=>
  ldA P 5 (⟨b6,0,none⟩:Addr) w_9 fun t6_2=>
  R (.returned (Value.tuple #[(Value.agg t6_2),(Value.int .i64 21)])) w_9) (
  k () w_7))) (fun _ w_10=>
  ldA P 5 (⟨b10,0,none⟩:Addr) w_10 fun t35=>
  zah P (storeVar zu (⟨b6,0,none⟩:Addr) (Value.agg t35)) w_10 fun w_11=>
  ldA P 5 (⟨b6,0,none⟩:Addr) w_11 fun t6_3=>
  R (.returned (Value.tuple #[(Value.agg t6_3),(Value.int .i64 0)])) w_11))
theorem z3x {s:Option Addr}{d:Value}{kind:Int}{R:Ending->World->Prop}{w:World}(hT:zyc s d kind R w):qj P zia #[(Value.pointer s),d,(Value.int .i64 kind)] w R:=
 fnT (.seq .leaf (.seq .leaf (.seq (.seq .leaf (.cond (.seq .leaf .leaf) .leaf)) (.seq .leaf (.join [] (.seq .leaf (.cond (.seq .leaf .leaf) .leaf)) (.seq .leaf .leaf)))))) Tryz.func81 hT
def zm8 (s:Option Addr) (d:Value) (R:Ending->World->Prop) (w:World):Prop:=
  zat (Value.cells d) zf w fun b3 w_1=>
  qw (Option.isNone s) (
  R (.returned (Value.tuple #[(Value.slice none 0 0),(Value.int .i64 7)])) w_1) (
  za5 w_1 fun w_2=>
  qg s fun p=>
  ld .map (Addr.add p 2) w_2 fun (t14:(Option Nat))=>
  ldA P 32 (⟨b3,0,none⟩:Addr) w_2 fun t15=>
  zoy P (Instr.lookup zak (Value.map t14) (Value.agg t15) true) [.slc,.bool] w_2 fun (t16:((Option Addr×Nat×Nat)×Bool))=>
  qw (!t16.2) (
  R (.returned (Value.tuple #[(Value.slice none 0 0),(Value.int .i64 50)])) w_2) (
  za5 w_2 fun w_3=>
  ldA P 32 (⟨b3,0,none⟩:Addr) w_3 fun t23=>
  ql P zlu #[(Value.slice t16.1.1 t16.1.2.1 t16.1.2.2)] [.any] false w_3 fun (t22:Value) w_4=>
  ((ldA P 32 (⟨b3,0,none⟩:Addr) w_4 fun t23_1=>
  (Value.agg t23_1)=(Value.agg t23)) /\
  zad P (eqM .neq zf (.tmp 22) (.tmp 23) t22 (Value.agg t23)) .bool w_4 fun (t24:Bool)=>
  qw t24 (
  R (.returned (Value.tuple #[(Value.slice none 0 0),(Value.int .i64 51)])) w_4) (
  ql P zcj #[(Value.slice t16.1.1 t16.1.2.1 t16.1.2.2)] [.slc] false w_4 fun (t26:(Option Addr×Nat×Nat)) w_5=>
  R (.returned (Value.tuple #[(Value.slice t26.1 t26.2.1 t26.2.2),(Value.int .i64 0)])) w_5))))
theorem zs7 {s:Option Addr}{d:Value}{R:Ending->World->Prop}{w:World}(hT:zm8 s d R w):qj P zi8 #[(Value.pointer s),d] w R:=
 fnT (.seq .leaf (.seq (.seq .leaf (.cond (.seq .leaf .leaf) .leaf)) (.seq (.tree (.op 0 [] (.op 1 [] (.op 2 [] (.op 3 [] (.op 4 [] (.op 5 [] (.op 6 [] (.op 7 [] (.op 8 [] (.op 9 [] (.op 10 [] .done)))))))))))) (.seq (.seq .leaf (.cond (.seq .leaf .leaf) .leaf)) (.seq (.seq (.tree (.op 0 [] (.op 2 [] (.op 1 [2] (.op 3 [] .done))))) (.cond (.seq .leaf .leaf) .leaf)) (.seq .leaf .leaf)))))) Tryz.func142 hT
def zjj (f:Option Addr) (R:Ending->World->Prop) (w:World):Prop:=
  qg f fun p=>
  ld .any (Addr.add p 2) w fun (t6:Value)=>
  R (.returned t6) w
theorem zn5 {f:Option Addr}{R:Ending->World->Prop}{w:World}(hT:zjj f R w):qj P zeg #[(Value.pointer f)] w R:=
 fnT (.seq .leaf (.seq .leaf .leaf)) Tryz.func283 hT
set_option maxRecDepth 100000
def zg3 (x:Int) (k:Int) (R:Ending->World->Prop) (w:World):Prop:=
  cvI .u64 k fun t7=>
  qcp .u64 t7 31 fun t8=>
  qfj .u32 x t8 fun t11=>
  zo5 .u64 32 t8 fun t14=>
  z7c .u32 x t14 fun t15=>
  orI .u32 t11 t15 fun t16=>
  R (.returned (Value.int .u32 t16)) w
theorem zli {x:Int}{k:Int}{R:Ending->World->Prop}{w:World}(hT:zg3 x k R w):qj P zaa #[(Value.int .u32 x),(Value.int .i64 k)] w R:=
 fnT (.seq .leaf (.seq .leaf (.seq .leaf .leaf))) Tryz.func215 hT
def z0s (b:Option Addr) (b_l b_c:Nat) (R:Ending->World->Prop) (w:World):Prop:=
  zat (zc P zf) zf w fun b2 w_1=>
  ql P zrn #[] [.ptr] false w_1 fun (t4:(Option Addr)) w_2=>
  ql P zdw #[(Value.pointer t4),(Value.slice b b_l b_c)] [] true w_2 fun (_:Unit) w_3=>
  ql P zlc #[(Value.pointer t4)] [.any] false w_3 fun (t9:Value) w_4=>
  zah P (storeVar zf (⟨b2,0,none⟩:Addr) t9) w_4 fun w_5=>
  ldA P 32 (⟨b2,0,none⟩:Addr) w_5 fun t2=>
  R (.returned (Value.agg t2)) w_5
theorem z8q {b:Option Addr}{b_l b_c:Nat}{R:Ending->World->Prop}{w:World}(hT:z0s b b_l b_c R w):qj P zlu #[(Value.slice b b_l b_c)] w R:=
 fnT (.seq .leaf (.seq .leaf (.seq .leaf (.seq .leaf .leaf)))) Tryz.func59 hT
def z3c  (R:Ending->World->Prop) (w:World):Prop:=
  zad P (Instr.build zcg #[(0,(Value.int .u32 1779033703)),(1,(Value.int .u32 3144134277)),(2,(Value.int .u32 1013904242)),(3,(Value.int .u32 2773480762)),(4,(Value.int .u32 1359893119)),(5,(Value.int .u32 2600822924)),(6,(Value.int .u32 528734635)),(7,(Value.int .u32 1541459225))]) .any w fun (t1:Value)=>
  zad P (Instr.build za0 #[(0,t1)]) .any w fun (t2:Value)=>
  zat (Value.cells t2) za0 w fun b3 w_1=>
  R (.returned (Value.pointer (some (⟨b3,0,none⟩:Addr)))) w_1
theorem z7t  {R:Ending->World->Prop}{w:World}(hT:z3c  R w):qj P zrn #[] w R:=
 fnT (.seq .leaf (.seq .leaf .leaf)) Tryz.func110 hT
def zm9 (hv:Option Addr) (b:Option Addr) (b_l b_c:Nat) (R:Ending->World->Prop) (w:World):Prop:=
  qw (Option.isNone hv) (
  R (.returned (Value.tuple #[])) w) (
  qg hv fun p=>
  ld (.int .i64) (Addr.add p 73) w fun (t10:Int)=>
  zbz .i64 t10 (b_l:Int) fun t13=>
  qg hv fun p_1=>
  stC (Addr.add p_1 73) (Value.int .i64 t13) w fun w_1=>
  za4 (Option Addr×Nat×Nat) (fun s w_2 k=>
  qw (decide ((s.2.1:Int) > 0)) (
  joinP (Option Addr×Nat×Nat) (fun k_1=>
  za5 w_2 fun w_3=>
  qg hv fun p_2=>
  qg hv fun p_3=>
  ld (.int .i64) (Addr.add p_3 72) w_3 fun (t25:Int)=>
  zad P (Instr.sliceAt ztf (Value.pointer (some (Addr.add p_2 8))) (some (Value.int .i64 t25)) none none) .slc w_3 fun (t26:(Option Addr×Nat×Nat))=>
  za2 P (Builtin.copy_ #[xk,xk] zav #[(Value.slice t26.1 t26.2.1 t26.2.2),(Value.slice s.1 s.2.1 s.2.2)]) (.int .i64) w_3 fun (t28:Int) w_4=>
  za5 w_4 fun w_5=>
  qg hv fun p_4=>
  ld (.int .i64) (Addr.add p_4 72) w_5 fun (t33:Int)=>
  zbz .i64 t33 t28 fun t35=>
  qg hv fun p_5=>
  zad P (Instr.sliceAt xk (Value.slice s.1 s.2.1 s.2.2) (some (Value.int .i64 t28)) none none) .slc w_5 fun (t38:(Option Addr×Nat×Nat))=>
  stC (Addr.add p_5 72) (Value.int .i64 t35) w_5 fun w_6=>
  ((zad P (Instr.sliceAt xk (Value.slice s.1 s.2.1 s.2.2) (some (Value.int .i64 t28)) none none) .slc w_6 fun (t38_1:(Option Addr×Nat×Nat))=>
  (Value.slice t38_1.1 t38_1.2.1 t38_1.2.2)=(Value.slice t38.1 t38.2.1 t38.2.2)) /\
  qg hv fun p_6=>
  ld (.int .i64) (Addr.add p_6 72) w_6 fun (t44:Int)=>
  qw (t44==64) (
  qg hv fun p_7=>
  zad P (Instr.sliceAt ztf (Value.pointer (some (Addr.add p_7 8))) none none none) .slc w_6 fun (t50:(Option Addr×Nat×Nat))=>
  ql P zla #[(Value.pointer hv),(Value.slice t50.1 t50.2.1 t50.2.2)] [] true w_6 fun (_:Unit) w_7=>
  qg hv fun p_8=>
  stC (Addr.add p_8 72) (Value.int .i64 0) w_7 fun w_8=>
  k_1 (t38.1,t38.2.1,t38.2.2) w_8) (
  k_1 (t38.1,t38.2.1,t38.2.2) w_6))) (fun s_1 w_9=>
  k (s_1.1,s_1.2.1,s_1.2.2) w_9)) (
  R (.returned (Value.tuple #[])) w_2)) (b,b_l,b_c) w_1)
theorem zsq {hv:Option Addr}{b:Option Addr}{b_l b_c:Nat}{R:Ending->World->Prop}{w:World}(hT:zm9 hv b b_l b_c R w):qj P zdw #[(Value.pointer hv),(Value.slice b b_l b_c)] w R:=
 fnT (.seq (.seq .leaf (.cond .leaf .leaf)) (.seq .leaf (.blk (.loop [(1,.slc)] (.seq (.seq .leaf (.cond .leaf .leaf)) (.jblk [(1,.slc)] (.seq (.tree (.op 0 [] (.op 1 [] (.op 2 [] (.op 3 [] (.op 4 [] (.op 5 [] (.op 8 [] (.op 6 [] (.op 7 [] (.op 9 [] (.op 10 [] .done)))))))))))) (.seq (.tree (.op 0 [] (.op 1 [] (.op 2 [] (.op 3 [] (.op 5 [] (.op 7 [] (.op 8 [] (.op 4 [] (.op 6 [] (.op 10 [] (.op 11 [] (.op 9 [] (.op 12 [9] (.op 13 [] .done))))))))))))))) (.seq .leaf (.cond (.seq .leaf .leaf) .leaf)))))))))) Tryz.func111 hT
def zps (hv:Option Addr) (R:Ending->World->Prop) (w:World):Prop:=
  zat (zc P zf) zf w fun b2 w_1=>
  joinP (Option Addr) (fun k=>
  qw (Option.isNone hv) (
  ql P zrn #[] [.ptr] false w_1 fun (t12:(Option Addr)) w_2=>
  k t12 w_2) (
  k hv w_1)) (fun s w_3=>
  qg s fun p=>
  ldA P 74 p w_3 fun t15=>
  zat (zc P za0) za0 w_3 fun b3 w_4=>
  zah P (storeVar za0 (⟨b3,0,none⟩:Addr) (Value.agg t15)) w_4 fun w_5=>
  ld (.int .i64) (⟨b3,73,none⟩:Addr) w_5 fun (t17:Int)=>
  cvI .u64 t17 fun t18=>
  z0k .u64 t18 8 fun t19=>
  za2 P (Instr.buildSlice xk 1 #[(0,(Value.int .u8 128))]) .slc w_5 fun (t20:(Option Addr×Nat×Nat)) w_6=>
  ql P zdw #[(Value.pointer (some (⟨b3,0,none⟩:Addr))),(Value.slice t20.1 t20.2.1 t20.2.2)] [] true w_6 fun (_:Unit) w_7=>
  za4 Unit (fun _ w_8 k_1=>
  ld (.int .i64) (⟨b3,72,none⟩:Addr) w_8 fun (t23:Int)=>
  qw (t23 != 56) (
  za2 P (Instr.buildSlice xk 1 #[(0,(Value.int .u8 0))]) .slc w_8 fun (t25:(Option Addr×Nat×Nat)) w_9=>
  ql P zdw #[(Value.pointer (some (⟨b3,0,none⟩:Addr))),(Value.slice t25.1 t25.2.1 t25.2.2)] [] true w_9 fun (_:Unit) w_10=>
  k_1 () w_10) (
  zat (zc P zl4) zl4 w_8 fun b5 w_11=>
  za4 Int (fun s_2 w_12 k_2=>
  qw (decide (s_2 < 8)) (
  z0k .i64 8 s_2 fun t33=>
  zo5 .i64 56 t33 fun t34=>
  z7c .u64 t19 t34 fun t35=>
  cvI .u8 t35 fun t36=>
  ixR (⟨b5,0,none⟩:Addr) 8 1 s_2 fun t37=>
  stC t37 (Value.int .u8 t36) w_12 fun w_13=>
  zbz .i64 s_2 1 fun t38=>
  k_2 t38 w_13) (
  zad P (Instr.sliceAt zl4 (Value.pointer (some (⟨b5,0,none⟩:Addr))) none none none) .slc w_12 fun (t39:(Option Addr×Nat×Nat))=>
  ql P zdw #[(Value.pointer (some (⟨b3,0,none⟩:Addr))),(Value.slice t39.1 t39.2.1 t39.2.2)] [] true w_12 fun (_:Unit) w_14=>
  zat (zc P zf) zf w_14 fun b7 w_15=>
  ldA P 8 (⟨b3,0,none⟩:Addr) w_15 fun t42=>
  za4 Int (fun s_3 w_16 k_3=>
  qw (decide (s_3 < 8)) (
  zad P (Instr.index zcg (Value.agg t42) (Value.int .i64 s_3)) (.int .u32) w_16 fun (t46:Int)=>
  z0k .i64 4 s_3 fun t48=>
  z0k .i64 4 s_3 fun t50=>
  zbz .i64 t50 1 fun t51=>
  z0k .i64 4 s_3 fun t53=>
  zbz .i64 t53 2 fun t54=>
  z0k .i64 4 s_3 fun t56=>
  zbz .i64 t56 3 fun t57=>
  z7c .u32 t46 24 fun t59=>
  cvI .u8 t59 fun t60=>
  z7c .u32 t46 16 fun t62=>
  cvI .u8 t62 fun t63=>
  z7c .u32 t46 8 fun t65=>
  cvI .u8 t65 fun t66=>
  cvI .u8 t46 fun t68=>
  ixR (⟨b7,0,none⟩:Addr) 32 1 t48 fun t69=>
  stC t69 (Value.int .u8 t60) w_16 fun w_17=>
  ixR (⟨b7,0,none⟩:Addr) 32 1 t51 fun t70=>
  stC t70 (Value.int .u8 t63) w_17 fun w_18=>
  ixR (⟨b7,0,none⟩:Addr) 32 1 t54 fun t71=>
  stC t71 (Value.int .u8 t66) w_18 fun w_19=>
  ixR (⟨b7,0,none⟩:Addr) 32 1 t57 fun t72=>
  stC t72 (Value.int .u8 t68) w_19 fun w_20=>
  zbz .i64 s_3 1 fun t73=>
  k_3 t73 w_20) (
  ldA P 32 (⟨b7,0,none⟩:Addr) w_16 fun t74=>
  zah P (storeVar zf (⟨b2,0,none⟩:Addr) (Value.agg t74)) w_16 fun w_21=>
  ldA P 32 (⟨b2,0,none⟩:Addr) w_21 fun t2=>
  R (.returned (Value.agg t2)) w_21)) 0 w_15)) 0 w_11)) () w_7)
theorem zwd {hv:Option Addr}{R:Ending->World->Prop}{w:World}(hT:zps hv R w):qj P zlc #[(Value.pointer hv)] w R:=
 fnT (.seq .leaf (.join [(0,.ptr)] (.seq .leaf (.cond .leaf .leaf)) (.seq .leaf (.seq .leaf (.seq .leaf (.seq (.blk (.loop [] (.seq (.seq .leaf (.cond .leaf .leaf)) (.blk .leaf)))) (.seq .leaf (.seq (.seq .leaf (.blk (.loop [(27,.int .i64)] (.seq .leaf (.seq (.cond .leaf .leaf) (.seq (.blk (.seq .leaf .leaf)) .leaf)))))) (.seq .leaf (.seq .leaf (.seq (.seq .leaf (.blk (.loop [(43,.int .i64)] (.seq .leaf (.seq (.cond .leaf .leaf) (.seq (.blk (.seq .leaf .leaf)) .leaf)))))) (.seq .leaf .leaf)))))))))))) Tryz.func112 hT
def zpp (hv:Option Addr) (b:Option Addr) (b_l b_c:Nat) (R:Ending->World->Prop) (w:World):Prop:=
  zat (zc P zfr) zfr w fun b4 w_1=>
  za4 Int (fun s w_2 k=>
  qw (decide (s < 16)) (
  za5 w_2 fun w_3=>
  z0k .i64 4 s fun t24=>
  ixS b b_l 1 t24 fun t25=>
  z0k .i64 4 s fun t31=>
  zbz .i64 t31 1 fun t32=>
  ixS b b_l 1 t32 fun t33=>
  z0k .i64 4 s fun t40=>
  zbz .i64 t40 2 fun t41=>
  ixS b b_l 1 t41 fun t42=>
  z0k .i64 4 s fun t49=>
  zbz .i64 t49 3 fun t50=>
  ixS b b_l 1 t50 fun t51=>
  ld (.int .u8) t25 w_3 fun (t26:Int)=>
  cvI .u32 t26 fun t27=>
  qfj .u32 t27 24 fun t28=>
  ld (.int .u8) t33 w_3 fun (t34:Int)=>
  cvI .u32 t34 fun t35=>
  qfj .u32 t35 16 fun t36=>
  orI .u32 t28 t36 fun t37=>
  ld (.int .u8) t42 w_3 fun (t43:Int)=>
  cvI .u32 t43 fun t44=>
  qfj .u32 t44 8 fun t45=>
  orI .u32 t37 t45 fun t46=>
  ld (.int .u8) t51 w_3 fun (t52:Int)=>
  cvI .u32 t52 fun t53=>
  orI .u32 t46 t53 fun t54=>
  ixR (⟨b4,0,none⟩:Addr) 64 1 s fun t55=>
  stC t55 (Value.int .u32 t54) w_3 fun w_4=>
  zbz .i64 s 1 fun t56=>
  k t56 w_4) (
  za4 Int (fun s_1 w_5 k_1=>
  qw (decide (s_1 < 64)) (
  za5 w_5 fun w_6=>
  zo5 .i64 s_1 2 fun t62=>
  ixR (⟨b4,0,none⟩:Addr) 64 1 t62 fun t63=>
  zo5 .i64 s_1 15 fun t66=>
  ixR (⟨b4,0,none⟩:Addr) 64 1 t66 fun t67=>
  ld (.int .u32) t63 w_6 fun (t64:Int)=>
  ld (.int .u32) t67 w_6 fun (t68:Int)=>
  zlp P zaa #[(Value.int .u32 t64),(Value.int .i64 (-17))] [.int .u32] false w_6 fun (t70:Int)=>
  zlp P zaa #[(Value.int .u32 t64),(Value.int .i64 (-19))] [.int .u32] false w_6 fun (t72:Int)=>
  z3h .u32 t70 t72 fun t73=>
  z7c .u32 t64 10 fun t75=>
  z3h .u32 t73 t75 fun t76=>
  zlp P zaa #[(Value.int .u32 t68),(Value.int .i64 (-7))] [.int .u32] false w_6 fun (t78:Int)=>
  zlp P zaa #[(Value.int .u32 t68),(Value.int .i64 (-18))] [.int .u32] false w_6 fun (t80:Int)=>
  z3h .u32 t78 t80 fun t81=>
  z7c .u32 t68 3 fun t83=>
  z3h .u32 t81 t83 fun t84=>
  za5 w_6 fun w_7=>
  zo5 .i64 s_1 7 fun t88=>
  ixR (⟨b4,0,none⟩:Addr) 64 1 t88 fun t89=>
  zo5 .i64 s_1 16 fun t95=>
  ixR (⟨b4,0,none⟩:Addr) 64 1 t95 fun t96=>
  ld (.int .u32) t89 w_7 fun (t90:Int)=>
  zbz .u32 t76 t90 fun t91=>
  zbz .u32 t91 t84 fun t93=>
  ld (.int .u32) t96 w_7 fun (t97:Int)=>
  zbz .u32 t93 t97 fun t98=>
  ixR (⟨b4,0,none⟩:Addr) 64 1 s_1 fun t99=>
  stC t99 (Value.int .u32 t98) w_7 fun w_8=>
  zbz .i64 s_1 1 fun t60=>
  k_1 t60 w_8) (
  qg hv fun p=>
  ldA P 8 p w_5 fun t103=>
  zat (zc P zcg) zcg w_5 fun b11 w_9=>
  zah P (storeVar zcg (⟨b11,0,none⟩:Addr) (Value.agg t103)) w_9 fun w_10=>
  za4 Int (fun s_2 w_11 k_2=>
  qw (decide (s_2 < 64)) (
  za5 w_11 fun w_12=>
  ld (.int .u32) (⟨b11,4,none⟩:Addr) w_12 fun (t108:Int)=>
  zlp P zaa #[(Value.int .u32 t108),(Value.int .i64 (-6))] [.int .u32] false w_12 fun (t109:Int)=>
  ld (.int .u32) (⟨b11,4,none⟩:Addr) w_12 fun (t111:Int)=>
  zlp P zaa #[(Value.int .u32 t111),(Value.int .i64 (-11))] [.int .u32] false w_12 fun (t112:Int)=>
  z3h .u32 t109 t112 fun t113=>
  ld (.int .u32) (⟨b11,4,none⟩:Addr) w_12 fun (t115:Int)=>
  zlp P zaa #[(Value.int .u32 t115),(Value.int .i64 (-25))] [.int .u32] false w_12 fun (t116:Int)=>
  z3h .u32 t113 t116 fun t117=>
  za5 w_12 fun w_13=>
  ixR (⟨1,0,none⟩:Addr) 64 1 s_2 fun t136=>
  ixR (⟨b4,0,none⟩:Addr) 64 1 s_2 fun t140=>
  ld (.int .u32) (⟨b11,7,none⟩:Addr) w_13 fun (t119:Int)=>
  zbz .u32 t119 t117 fun t121=>
  ld (.int .u32) (⟨b11,4,none⟩:Addr) w_13 fun (t123:Int)=>
  ld (.int .u32) (⟨b11,5,none⟩:Addr) w_13 fun (t125:Int)=>
  qcp .u32 t123 t125 fun t126=>
  ld (.int .u32) (⟨b11,4,none⟩:Addr) w_13 fun (t128:Int)=>
  z3h .u32 (IntKind.max .u32) t128 fun t129=>
  ld (.int .u32) (⟨b11,6,none⟩:Addr) w_13 fun (t131:Int)=>
  qcp .u32 t129 t131 fun t132=>
  z3h .u32 t126 t132 fun t133=>
  zbz .u32 t121 t133 fun t134=>
  ld (.int .u32) t136 w_13 fun (t137:Int)=>
  zbz .u32 t134 t137 fun t138=>
  ld (.int .u32) t140 w_13 fun (t141:Int)=>
  zbz .u32 t138 t141 fun t142=>
  za5 w_13 fun w_14=>
  ld (.int .u32) (⟨b11,0,none⟩:Addr) w_14 fun (t144:Int)=>
  zlp P zaa #[(Value.int .u32 t144),(Value.int .i64 (-2))] [.int .u32] false w_14 fun (t145:Int)=>
  ld (.int .u32) (⟨b11,0,none⟩:Addr) w_14 fun (t147:Int)=>
  zlp P zaa #[(Value.int .u32 t147),(Value.int .i64 (-13))] [.int .u32] false w_14 fun (t148:Int)=>
  z3h .u32 t145 t148 fun t149=>
  ld (.int .u32) (⟨b11,0,none⟩:Addr) w_14 fun (t151:Int)=>
  zlp P zaa #[(Value.int .u32 t151),(Value.int .i64 (-22))] [.int .u32] false w_14 fun (t152:Int)=>
  z3h .u32 t149 t152 fun t153=>
  ld (.int .u32) (⟨b11,0,none⟩:Addr) w_14 fun (t156:Int)=>
  ld (.int .u32) (⟨b11,1,none⟩:Addr) w_14 fun (t158:Int)=>
  qcp .u32 t156 t158 fun t159=>
  ld (.int .u32) (⟨b11,0,none⟩:Addr) w_14 fun (t161:Int)=>
  ld (.int .u32) (⟨b11,2,none⟩:Addr) w_14 fun (t163:Int)=>
  qcp .u32 t161 t163 fun t164=>
  z3h .u32 t159 t164 fun t165=>
  ld (.int .u32) (⟨b11,1,none⟩:Addr) w_14 fun (t167:Int)=>
  ld (.int .u32) (⟨b11,2,none⟩:Addr) w_14 fun (t169:Int)=>
  qcp .u32 t167 t169 fun t170=>
  z3h .u32 t165 t170 fun t171=>
  zbz .u32 t153 t171 fun t172=>
  zbz .u32 t142 t172 fun t175=>
  ld (.int .u32) (⟨b11,0,none⟩:Addr) w_14 fun (t177:Int)=>
  ld (.int .u32) (⟨b11,1,none⟩:Addr) w_14 fun (t179:Int)=>
  ld (.int .u32) (⟨b11,2,none⟩:Addr) w_14 fun (t181:Int)=>
  ld (.int .u32) (⟨b11,3,none⟩:Addr) w_14 fun (t183:Int)=>
  zbz .u32 t183 t142 fun t185=>
  ld (.int .u32) (⟨b11,4,none⟩:Addr) w_14 fun (t187:Int)=>
  ld (.int .u32) (⟨b11,5,none⟩:Addr) w_14 fun (t189:Int)=>
  ld (.int .u32) (⟨b11,6,none⟩:Addr) w_14 fun (t191:Int)=>
  zad P (Instr.build zcg #[(0,(Value.int .u32 t175)),(1,(Value.int .u32 t177)),(2,(Value.int .u32 t179)),(3,(Value.int .u32 t181)),(4,(Value.int .u32 t185)),(5,(Value.int .u32 t187)),(6,(Value.int .u32 t189)),(7,(Value.int .u32 t191))]) .any w_14 fun (t192:Value)=>
  zah P (storeVar zcg (⟨b11,0,none⟩:Addr) t192) w_14 fun w_15=>
  zbz .i64 s_2 1 fun t193=>
  k_2 t193 w_15) (
  za4 Int (fun s_3 w_16 k_3=>
  qw (decide (s_3 < 8)) (
  za5 w_16 fun w_17=>
  qg hv fun p_1=>
  ixR p_1 8 1 s_3 fun t201=>
  ixR (⟨b11,0,none⟩:Addr) 8 1 s_3 fun t204=>
  qg hv fun p_2=>
  ld (.int .u32) t201 w_17 fun (t202:Int)=>
  ld (.int .u32) t204 w_17 fun (t205:Int)=>
  zbz .u32 t202 t205 fun t206=>
  ixR p_2 8 1 s_3 fun t209=>
  stC t209 (Value.int .u32 t206) w_17 fun w_18=>
  zbz .i64 s_3 1 fun t210=>
  k_3 t210 w_18) (
  R (.returned (Value.tuple #[])) w_16)) 0 w_11)) 0 w_10)) 16 w_2)) 0 w_1
theorem zv8 {hv:Option Addr}{b:Option Addr}{b_l b_c:Nat}{R:Ending->World->Prop}{w:World}(hT:zpp hv b b_l b_c R w):qj P zla #[(Value.pointer hv),(Value.slice b b_l b_c)] w R:=
 fnT (.seq .leaf (.seq (.seq .leaf (.blk (.loop [(18,.int .i64)] (.seq .leaf (.seq (.cond .leaf .leaf) (.seq (.blk (.seq .leaf (.tree (.op 0 [] (.op 1 [] (.op 2 [] (.op 3 [] (.op 4 [] (.op 8 [] (.op 9 [] (.op 10 [] (.op 11 [] (.op 12 [] (.op 17 [] (.op 18 [] (.op 19 [] (.op 20 [] (.op 21 [] (.op 26 [] (.op 27 [] (.op 28 [] (.op 29 [] (.op 30 [] (.op 5 [] (.op 6 [] (.op 7 [] (.op 13 [] (.op 14 [] (.op 15 [] (.op 16 [] (.op 22 [] (.op 23 [] (.op 24 [] (.op 25 [] (.op 31 [] (.op 32 [] (.op 33 [] (.op 34 [] (.op 35 [] .done))))))))))))))))))))))))))))))))))))))) .leaf)))))) (.seq (.seq .leaf (.blk (.loop [(6,.int .i64)] (.seq (.seq .leaf (.cond .leaf .leaf)) (.seq (.blk (.seq (.tree (.op 0 [] (.op 1 [] (.op 2 [] (.op 4 [] (.op 5 [] (.op 6 [] (.op 3 [] (.op 8 [] (.op 7 [] (.op 9 [] .done))))))))))) (.seq .leaf (.seq .leaf (.tree (.op 0 [] (.op 1 [] (.op 2 [] (.op 3 [] (.op 4 [] (.op 7 [] (.op 9 [] (.op 10 [] (.op 11 [] (.op 5 [] (.op 6 [] (.op 8 [] (.op 12 [] (.op 13 [] (.op 14 [] (.op 15 [] .done))))))))))))))))))))) .leaf))))) (.seq .leaf (.seq (.seq .leaf (.blk (.loop [(104,.int .i64)] (.seq .leaf (.seq (.cond .leaf .leaf) (.seq (.blk (.seq .leaf (.seq (.tree (.op 0 [] (.op 3 [] (.op 7 [] (.op 1 [] (.op 2 [] (.op 4 [] (.op 5 [] (.op 6 [] (.op 8 [] (.op 9 [] (.op 10 [] (.op 11 [] .done))))))))))))) (.seq (.tree (.op 0 [] (.op 2 [] (.op 4 [] (.op 6 [] (.op 9 [] (.op 12 [] (.op 17 [] (.op 18 [] (.op 21 [] (.op 22 [] (.op 1 [] (.op 3 [] (.op 5 [] (.op 7 [] (.op 8 [] (.op 10 [] (.op 11 [] (.op 13 [] (.op 14 [] (.op 15 [] (.op 16 [] (.op 19 [] (.op 20 [] (.op 23 [] (.op 24 [] (.op 25 [] .done))))))))))))))))))))))))))) (.seq (.tree (.op 0 [] (.op 3 [] (.op 7 [] (.op 1 [] (.op 2 [] (.op 4 [] (.op 5 [] (.op 6 [] (.op 8 [] (.op 9 [] (.op 10 [] (.op 11 [] .done))))))))))))) (.seq .leaf .leaf)))))) .leaf)))))) (.seq .leaf (.blk (.loop [(194,.int .i64)] (.seq .leaf (.seq (.cond .leaf .leaf) (.seq (.blk (.seq .leaf (.tree (.op 0 [] (.op 1 [] (.op 2 [] (.op 3 [] (.op 4 [] (.op 6 [] (.op 7 [] (.op 10 [] (.op 11 [] (.op 5 [] (.op 8 [] (.op 9 [] (.op 12 [] (.op 13 [] .done))))))))))))))))) .leaf))))))))))) Tryz.func168 hT
def zf4 (s:Option Addr) (s_l s_c:Nat) (R:Ending->World->Prop) (w:World):Prop:=
  qw (Option.isNone s) (
  R (.returned (Value.slice none 0 0)) w) (
  za2 P (Instr.buildSlice xk 0 #[]) .slc w fun (t5:(Option Addr×Nat×Nat)) w_1=>
  za2 P (Builtin.append_ #[xk,xk] xk #[(Value.slice t5.1 t5.2.1 t5.2.2),(Value.slice s s_l s_c)]) .slc w_1 fun (t7:(Option Addr×Nat×Nat)) w_2=>
  R (.returned (Value.slice t7.1 t7.2.1 t7.2.2)) w_2)
theorem zkf {s:Option Addr}{s_l s_c:Nat}{R:Ending->World->Prop}{w:World}(hT:zf4 s s_l s_c R w):qj P zcj #[(Value.slice s s_l s_c)] w R:=
 fnT (.seq .leaf (.seq (.seq .leaf (.cond (.seq .leaf .leaf) .leaf)) (.seq .leaf .leaf))) Tryz.func79 hT
def zkg (s:Option Addr) (list:Option Addr) (list_l zbp:Nat) (R:Ending->World->Prop) (w:World):Prop:=
  qw (Option.isNone s) (
  R (.returned (Value.int .i64 7)) w) (
  za2 P (Instr.makeMap zak none) .map w fun (t20:(Option Nat)) w_1=>
  za4 (Int×Int) (fun s_1 w_2 k=>
  qw (decide (s_1.2 < (list_l:Int))) (
  joinP Int (fun k_1=>
  ixS list list_l 1 s_1.2 fun t25=>
  ld .slc t25 w_2 fun (t26:(Option Addr×Nat×Nat))=>
  qw (decide ((t26.2.1:Int) > 4096)) (
  R (.returned (Value.int .i64 2)) w_2) (
  ql P zlu #[(Value.slice t26.1 t26.2.1 t26.2.2)] [.any] false w_2 fun (t31:Value) w_3=>
  zat (zc P zf) zf w_3 fun b9 w_4=>
  zah P (storeVar zf (⟨b9,0,none⟩:Addr) t31) w_4 fun w_5=>
  ldA P 32 (⟨b9,0,none⟩:Addr) w_5 fun t34=>
  zoy P (Instr.lookup zak (Value.map t20) (Value.agg t34) true) [.slc,.bool] w_5 fun (t35:((Option Addr×Nat×Nat)×Bool))=>
  qw t35.2 (
  k_1 s_1.1 w_5) (
  za5 w_5 fun w_6=>
  ldA P 32 (⟨b9,0,none⟩:Addr) w_6 fun t40=>
  ql P zcj #[(Value.slice t26.1 t26.2.1 t26.2.2)] [.slc] false w_6 fun (t42:(Option Addr×Nat×Nat)) w_7=>
  ((ldA P 32 (⟨b9,0,none⟩:Addr) w_7 fun t40_1=>
  (Value.agg t40_1)=(Value.agg t40)) /\
  zah P (Instr.mapUpdate zak (Value.map t20) (Value.agg t40) (Value.slice t42.1 t42.2.1 t42.2.2)) w_7 fun w_8=>
  za5 w_8 fun w_9=>
  qg s fun p=>
  ld .map (Addr.add p 2) w_9 fun (t47:(Option Nat))=>
  ldA P 32 (⟨b9,0,none⟩:Addr) w_9 fun t48=>
  zoy P (Instr.lookup zak (Value.map t47) (Value.agg t48) true) [.slc,.bool] w_9 fun (t49:((Option Addr×Nat×Nat)×Bool))=>
  qw (!t49.2) (
  zbz .i64 s_1.1 (t26.2.1:Int) fun t57=>
  k_1 t57 w_9) (
  k_1 s_1.1 w_9))))) (fun s_2 w_10=>
  zbz .i64 s_1.2 1 fun t58=>
  k (s_2,t58) w_10)) (
  za5 w_2 fun w_11=>
  qg s fun p_1=>
  qg s fun p_2=>
  ld (.int .i64) p_1 w_11 fun (t63:Int)=>
  ld (.int .i64) (Addr.add p_2 1) w_11 fun (t67:Int)=>
  zo5 .i64 t63 t67 fun t68=>
  qw (decide (s_1.1 > t68)) (
  R (.returned (Value.int .i64 3)) w_11) (
  za2 P (Instr.range zak (Value.map t20)) .ptr w_11 fun (t71:(Option Addr)) w_12=>
  za4 Unit (fun _ w_13 k_2=>
  za2 P (Instr.next (Value.pointer t71) false zbk) .any w_13 fun (t72:Value) w_14=>
  exV t72 0 .bool fun (t73:Bool)=>
  qw t73 (
  joinP Unit (fun k_3=>
  zad P (Instr.entry (Value.pointer t71)) .any w_14 fun (t74:Value)=>
  exV t74 0 .any fun (t75:Value)=>
  exV t74 1 .slc fun (t76:(Option Addr×Nat×Nat))=>
  zat (zc P zf) zf w_14 fun b14 w_15=>
  zah P (storeVar zf (⟨b14,0,none⟩:Addr) t75) w_15 fun w_16=>
  za5 w_16 fun w_17=>
  qg s fun p_3=>
  ld .map (Addr.add p_3 2) w_17 fun (t81:(Option Nat))=>
  ldA P 32 (⟨b14,0,none⟩:Addr) w_17 fun t82=>
  zoy P (Instr.lookup zak (Value.map t81) (Value.agg t82) true) [.slc,.bool] w_17 fun (t83:((Option Addr×Nat×Nat)×Bool))=>
  joinP Unit (fun k_4=>
  za5 w_17 fun w_18=>
  qw t83.2 (
  ldA P 32 (⟨b14,0,none⟩:Addr) w_18 fun t90=>
  ql P zlu #[(Value.slice t83.1.1 t83.1.2.1 t83.1.2.2)] [.any] false w_18 fun (t89:Value) w_19=>
  ((ldA P 32 (⟨b14,0,none⟩:Addr) w_19 fun t90_1=>
  (Value.agg t90_1)=(Value.agg t90)) /\
  zad P (eqM .eql zf (.tmp 89) (.tmp 90) t89 (Value.agg t90)) .bool w_19 fun (t91:Bool)=>
  qw t91 (
  k_3 () w_19) (
  k_4 () w_19))) (
  ((undef=undef) /\
  k_4 () w_18))) (fun _ w_20=>
  qg s fun p_4=>
  ld (.int .i64) (Addr.add p_4 1) w_20 fun (t96:Int)=>
  zo5 .i64 (t76.2.1:Int) (t83.1.2.1:Int) fun t101=>
  zbz .i64 t96 t101 fun t102=>
  qg s fun p_5=>
  stC (Addr.add p_5 1) (Value.int .i64 t102) w_20 fun w_21=>
  za5 w_21 fun w_22=>
  qg s fun p_6=>
  ld .map (Addr.add p_6 2) w_22 fun (t108:(Option Nat))=>
  ldA P 32 (⟨b14,0,none⟩:Addr) w_22 fun t109=>
  zah P (Instr.mapUpdate zak (Value.map t108) (Value.agg t109) (Value.slice t76.1 t76.2.1 t76.2.2)) w_22 fun w_23=>
  k_3 () w_23)) (fun _ w_24=>
  k_2 () w_24)) (
  R (.returned (Value.int .i64 0)) w_14)) () w_12))) (0,0) w_1)
theorem zo7 {s:Option Addr}{list:Option Addr}{list_l zbp:Nat}{R:Ending->World->Prop}{w:World}(hT:zkg s list list_l zbp R w):qj P zgr #[(Value.pointer s),(Value.slice list list_l zbp)] w R:=
 fnT (.seq .leaf (.seq (.seq .leaf (.cond (.seq .leaf .leaf) .leaf)) (.seq .leaf (.seq .leaf (.seq (.seq .leaf (.blk (.loop [(6,.int .i64),(23,.int .i64)] (.seq .leaf (.seq (.cond .leaf .leaf) (.seq (.jblk [(6,.int .i64)] (.seq .leaf (.seq (.seq .leaf (.cond (.seq .leaf .leaf) .leaf)) (.seq .leaf (.seq (.seq .leaf (.seq .leaf (.cond .leaf .leaf))) (.seq (.tree (.op 0 [] (.op 2 [] (.op 1 [] (.op 3 [1] (.op 4 [] .done)))))) (.seq (.tree (.op 0 [] (.op 1 [] (.op 2 [] (.op 3 [] (.op 4 [] (.op 5 [] (.op 6 [] (.op 7 [] (.op 8 [] (.op 9 [] (.op 10 [] .done)))))))))))) (.seq .leaf (.cond .leaf .leaf))))))))) .leaf)))))) (.seq (.seq (.tree (.op 0 [] (.op 1 [] (.op 2 [] (.op 3 [] (.op 5 [] (.op 6 [] (.op 7 [] (.op 4 [] (.op 8 [] (.op 9 [] (.op 10 [] .done)))))))))))) (.cond (.seq .leaf .leaf) .leaf)) (.seq (.seq .leaf (.blk (.loop [] (.seq .leaf (.seq (.cond .leaf .leaf) (.jblk [] (.seq .leaf (.seq (.tree (.op 0 [] (.op 1 [] (.op 2 [] (.op 3 [] (.op 4 [] (.op 5 [] (.op 6 [] (.op 7 [] (.op 8 [] (.op 9 [] (.op 10 [] .done)))))))))))) (.join [] (.seq (.tree (.op 0 [] (.op 1 [] (.op 2 [] (.op 4 [] (.op 3 [4] (.op 5 [] (.op 6 [] .done)))))))) (.cond .leaf .leaf)) (.seq .leaf (.tree (.op 0 [] (.op 1 [] (.op 2 [] (.op 5 [] (.op 3 [] (.op 4 [] (.op 6 [] .done)))))))))))))))))) (.seq .leaf .leaf)))))))) Tryz.func35 hT
def zf3 (s:Option Addr) (s_l s_c:Nat) (n:Int) (R:Ending->World->Prop) (w:World):Prop:=
  zat #[(Value.slice s s_l s_c)] xk w fun b2 w_1=>
  zat #[(Value.int .i64 n)] zav w_1 fun b3 w_2=>
  joinP Unit (fun k=>
  ld (.int .i64) (⟨b3,0,none⟩:Addr) w_2 fun (t5:Int)=>
  qw (decide (t5 < 1)) (
  zad P (Instr.makeInterface qx (Value.string (ByteArray.mk #[99,97,110,110,111,116,32,98,101,32,108,101,115,115,32,116,104,97,110,32,49]))) .any w_2 fun (_:Value)=>
  False) (
  k () w_2)) (fun _ w_3=>
  zad P (Instr.makeFunc (Go.Fn.func zb4) #[] #[(Value.pointer (some (⟨b2,0,none⟩:Addr))),(Value.pointer (some (⟨b3,0,none⟩:Addr)))]) .any w_3 fun (t8:Value)=>
  R (.returned t8) w_3)
theorem zj5 {s:Option Addr}{s_l s_c:Nat}{n:Int}{R:Ending->World->Prop}{w:World}(hT:zf3 s s_l s_c n R w):qj P zdv #[(Value.slice s s_l s_c),(Value.int .i64 n)] w R:=
 fnT (.seq .leaf (.join [] (.seq .leaf (.cond .leaf .leaf)) (.seq .leaf .leaf))) Tryz.func77 hT
def zfi (yield:Value) (c0:Option Addr) (c1:Option Addr) (R:Ending->World->Prop) (w:World):Prop:=
  za4 Int (fun s w_1 k=>
  qg c0 fun p=>
  ld .slc p w_1 fun (t7:(Option Addr×Nat×Nat))=>
  qw (decide (s < (t7.2.1:Int))) (
  za5 w_1 fun w_2=>
  qg c1 fun p_1=>
  ld (.int .i64) p_1 w_2 fun (t13:Int)=>
  qg c0 fun p_2=>
  ld .slc p_2 w_2 fun (t14:(Option Addr×Nat×Nat))=>
  zad P (Instr.sliceAt xk (Value.slice t14.1 t14.2.1 t14.2.2) (some (Value.int .i64 s)) none none) .slc w_2 fun (t16:(Option Addr×Nat×Nat))=>
  zad P (Builtin.min_ #[zav,zav] zav #[(Value.int .i64 t13),(Value.int .i64 (t16.2.1:Int))]) (.int .i64) w_2 fun (t18:Int)=>
  qg c0 fun p_3=>
  ld .slc p_3 w_2 fun (t20:(Option Addr×Nat×Nat))=>
  zbz .i64 s t18 fun t24=>
  zbz .i64 s t18 fun t27=>
  zad P (Instr.sliceAt xk (Value.slice t20.1 t20.2.1 t20.2.2) (some (Value.int .i64 s)) (some (Value.int .i64 t24)) (some (Value.int .i64 t27))) .slc w_2 fun (t28:(Option Addr×Nat×Nat))=>
  zp1 P yield #[(Value.slice t28.1 t28.2.1 t28.2.2)] [.bool] false w_2 fun (t29:Bool) w_3=>
  qw (!t29) (
  R (.returned (Value.tuple #[])) w_3) (
  qg c1 fun p_4=>
  ld (.int .i64) p_4 w_3 fun (t11:Int)=>
  zbz .i64 s t11 fun t12=>
  k t12 w_3)) (
  R (.returned (Value.tuple #[])) w_1)) 0 w
theorem zi6 {yield:Value}{c0:Option Addr}{c1:Option Addr}{R:Ending->World->Prop}{w:World}(hT:zfi yield c0 c1 R w):qj P zb4 #[yield,(Value.pointer c0),(Value.pointer c1)] w R:=
 fnT (.seq .leaf (.blk (.loop [(4,.int .i64)] (.seq (.seq .leaf (.cond .leaf .leaf)) (.seq (.blk (.seq (.tree (.op 2 [] (.op 0 [] (.op 1 [] (.op 3 [] (.op 4 [] (.op 5 [] (.op 6 [] .done)))))))) (.seq .leaf (.cond .leaf .leaf)))) .leaf))))) Tryz.func138 hT
def zob (size:Int) (R:Ending->World->Prop) (w:World):Prop:=
  zbz .i64 size 64 fun t4=>
  zo5 .i64 t4 1 fun t5=>
  qj9 .i64 t5 64 fun t6=>
  R (.returned (Value.int .i64 t6)) w
theorem zrm {size:Int}{R:Ending->World->Prop}{w:World}(hT:zob size R w):qj P ziu #[(Value.int .i64 size)] w R:=
 fnT (.seq .leaf (.seq .leaf .leaf)) Tryz.func195 hT
def zr5 (items:Option Addr) (items_l items_c:Nat) (R:Ending->World->Prop) (w:World):Prop:=
  za4 (ByteArray×Int) (fun s w_1 k=>
  qw (decide (s.2 < (items_l:Int))) (
  joinP ByteArray (fun k_1=>
  ixS items items_l 34 s.2 fun t10=>
  ldA P 34 t10 w_1 fun t11=>
  zat (zc P jl) jl w_1 fun b5 w_2=>
  zah P (storeVar jl (⟨b5,0,none⟩:Addr) (Value.agg t11)) w_2 fun w_3=>
  joinP Unit (fun k_2=>
  ld .str (⟨b5,0,none⟩:Addr) w_3 fun (t13:ByteArray)=>
  qw ((Op.bytesLess t13.toList s.1.toList) || (t13.toList==s.1.toList)) (
  R (.returned (Value.bool false)) w_3) (
  ld .str (⟨b5,0,none⟩:Addr) w_3 fun (t18:ByteArray)=>
  za2 P (Instr.buildSlice zx 1 #[(0,(Value.string t18))]) .slc w_3 fun (t19:(Option Addr×Nat×Nat)) w_4=>
  ql P zh0 #[(Value.slice t19.1 t19.2.1 t19.2.2)] [.int .i64] false w_4 fun (t20:Int) w_5=>
  qw (t20 != 0) (
  R (.returned (Value.bool false)) w_5) (
  k_2 () w_5))) (fun _ w_6=>
  ld (.int .i64) (⟨b5,1,none⟩:Addr) w_6 fun (t24:Int)=>
  joinP ByteArray (fun k_3=>
  joinP Unit (fun k_4=>
  joinP Unit (fun k_5=>
  qw (t24==2) (
  k_5 () w_6) (
  qw (t24==3) (
  k_5 () w_6) (
  R (.returned (Value.bool false)) w_6))) (fun _ w_7=>
  k_4 () w_7)) (fun _ w_8=>
  ld .str (⟨b5,0,none⟩:Addr) w_8 fun (t30:ByteArray)=>
  k_3 t30 w_8)) (fun s_4 w_9=>
  k_1 s_4 w_9))) (fun s_5 w_10=>
  zbz .i64 s.2 1 fun t31=>
  k (s_5,t31) w_10)) (
  R (.returned (Value.bool (decide ((items_l:Int)<=64)))) w_1)) ((ByteArray.mk #[]),0) w
theorem zxc {items:Option Addr}{items_l items_c:Nat}{R:Ending->World->Prop}{w:World}(hT:zr5 items items_l items_c R w):qj P zmv #[(Value.slice items items_l items_c)] w R:=
 fnT (.seq .leaf (.seq .leaf (.seq (.seq .leaf (.blk (.loop [(3,.str),(8,.int .i64)] (.seq .leaf (.seq (.cond .leaf .leaf) (.seq (.jblk [(3,.str)] (.seq .leaf (.join [] (.seq .leaf (.cond (.seq .leaf .leaf) .leaf)) (.seq .leaf (.jblk [(3,.str)] (.seq (.blk (.join [] (.jblk [] (.blk (.seq (.seq (.seq .leaf (.cond .leaf .leaf)) (.seq .leaf (.cond .leaf .leaf))) .leaf))) (.seq .leaf .leaf))) (.seq (.seq .leaf .leaf) .leaf))))))) .leaf)))))) (.seq .leaf .leaf)))) Tryz.func196 hT
def ztx (n:Value) (R:Ending->World->Prop) (w:World):Prop:=
  zat (Value.cells n) zu w fun b1 w_1=>
  ld (.int .i64) (⟨b1,0,none⟩:Addr) w_1 fun (t4:Int)=>
  qw (t4==1) (
  ld .str (⟨b1,1,none⟩:Addr) w_1 fun (t8:ByteArray)=>
  qw (decide ((t8.size:Int) > 0)) (
  ld .str (⟨b1,1,none⟩:Addr) w_1 fun (t13:ByteArray)=>
  qw (decide ((t13.size:Int)<=64)) (
  ld (.int .i64) (⟨b1,2,none⟩:Addr) w_1 fun (t19:Int)=>
  qw (t19==0) (
  ld .slc (⟨b1,3,none⟩:Addr) w_1 fun (t24:(Option Addr×Nat×Nat))=>
  qw ((t24.2.1:Int)==0) (
  ld .slc (⟨b1,4,none⟩:Addr) w_1 fun (t30:(Option Addr×Nat×Nat))=>
  R (.returned (Value.bool ((t30.2.1:Int)==0))) w_1) (
  R (.returned (Value.bool false)) w_1)) (
  R (.returned (Value.bool false)) w_1)) (
  R (.returned (Value.bool false)) w_1)) (
  R (.returned (Value.bool false)) w_1)) (
  qw (t4==2) (
  za5 w_1 fun w_2=>
  ld .str (⟨b1,1,none⟩:Addr) w_2 fun (t37:ByteArray)=>
  qw (t37.toList==(ByteArray.mk #[]).toList) (
  ld (.int .i64) (⟨b1,2,none⟩:Addr) w_2 fun (t41:Int)=>
  qw (decide (t41>=0)) (
  ld (.int .i64) (⟨b1,2,none⟩:Addr) w_2 fun (t46:Int)=>
  qw (decide (t46<=1024)) (
  ld .slc (⟨b1,3,none⟩:Addr) w_2 fun (t51:(Option Addr×Nat×Nat))=>
  ld (.int .i64) (⟨b1,2,none⟩:Addr) w_2 fun (t54:Int)=>
  ql P ziu #[(Value.int .i64 t54)] [.int .i64] false w_2 fun (t55:Int) w_3=>
  ((ld .slc (⟨b1,3,none⟩:Addr) w_3 fun (t51_1:(Option Addr×Nat×Nat))=>
  (Value.slice t51_1.1 t51_1.2.1 t51_1.2.2)=(Value.slice t51.1 t51.2.1 t51.2.2)) /\
  qw ((t51.2.1:Int)==t55) (
  ld .slc (⟨b1,4,none⟩:Addr) w_3 fun (t60:(Option Addr×Nat×Nat))=>
  R (.returned (Value.bool ((t60.2.1:Int)==0))) w_3) (
  R (.returned (Value.bool false)) w_3))) (
  ((undef=undef) /\
  R (.returned (Value.bool false)) w_2))) (
  ((undef=undef) /\
  R (.returned (Value.bool false)) w_2))) (
  ((undef=undef) /\
  R (.returned (Value.bool false)) w_2))) (
  qw (t4==3) (
  ld .str (⟨b1,1,none⟩:Addr) w_1 fun (t67:ByteArray)=>
  qw (t67.toList==(ByteArray.mk #[]).toList) (
  ld (.int .i64) (⟨b1,2,none⟩:Addr) w_1 fun (t71:Int)=>
  qw (t71==0) (
  ld .slc (⟨b1,3,none⟩:Addr) w_1 fun (t76:(Option Addr×Nat×Nat))=>
  qw ((t76.2.1:Int)==0) (
  ld .slc (⟨b1,4,none⟩:Addr) w_1 fun (t82:(Option Addr×Nat×Nat))=>
  ql P zmv #[(Value.slice t82.1 t82.2.1 t82.2.2)] [.bool] false w_1 fun (t83:Bool) w_4=>
  R (.returned (Value.bool t83)) w_4) (
  R (.returned (Value.bool false)) w_1)) (
  R (.returned (Value.bool false)) w_1)) (
  R (.returned (Value.bool false)) w_1)) (
  R (.returned (Value.bool false)) w_1)))
theorem z0d {n:Value}{R:Ending->World->Prop}{w:World}(hT:ztx n R w):qj P zkz #[n] w R:=
 fnT (.seq .leaf (.seq (.seq .leaf (.blk (.seq .leaf (.cond (.seq .leaf .leaf) (.seq .leaf (.cond (.seq (.tree (.op 0 [] (.op 1 [] (.op 2 [] (.op 3 [] (.op 4 [] (.op 5 [] (.op 6 [] (.op 7 [] (.op 8 [] (.op 9 [] (.op 10 [] (.op 11 [] (.op 12 [] (.op 13 [] (.op 14 [] (.op 17 [] (.op 15 [] (.op 16 [] (.op 18 [] (.op 19 [15] (.op 20 [] (.op 21 [] (.op 22 [] (.op 23 [] (.op 24 [] (.op 25 [] (.op 26 [] (.op 27 [] (.op 28 [] .done)))))))))))))))))))))))))))))) .leaf) (.seq .leaf (.cond (.seq .leaf .leaf) .leaf)))))))) (.seq .leaf .leaf))) Tryz.func139 hT
def zq9 (n:Value) (R:Ending->World->Prop) (w:World):Prop:=
  zat (Value.cells n) zu w fun b1 w_1=>
  ldA P 5 (⟨b1,0,none⟩:Addr) w_1 fun t9=>
  ql P zkz #[(Value.agg t9)] [.bool] false w_1 fun (t10:Bool) w_2=>
  qw (!t10) (
  R (.returned (Value.tuple #[(Value.slice none 0 0),(Value.int .i64 21)])) w_2) (
  zat (zc P zg0) zg0 w_2 fun b4 w_3=>
  ld (.int .i64) (⟨b1,0,none⟩:Addr) w_3 fun (t13:Int)=>
  cvI .u64 t13 fun t14=>
  ql P zd6 #[(Value.pointer (some (⟨b4,0,none⟩:Addr))),(Value.int .u64 t14)] [] true w_3 fun (_:Unit) w_4=>
  joinP Unit (fun k=>
  ld (.int .i64) (⟨b1,0,none⟩:Addr) w_4 fun (t17:Int)=>
  joinP Unit (fun k_1=>
  qw (t17==1) (
  ld .str (⟨b1,1,none⟩:Addr) w_4 fun (t44:ByteArray)=>
  ql P zhm #[(Value.pointer (some (⟨b4,0,none⟩:Addr))),(Value.string t44)] [] true w_4 fun (_:Unit) w_5=>
  k_1 () w_5) (
  qw (t17==2) (
  ld (.int .i64) (⟨b1,2,none⟩:Addr) w_4 fun (t49:Int)=>
  cvI .u64 t49 fun t50=>
  ql P zd6 #[(Value.pointer (some (⟨b4,0,none⟩:Addr))),(Value.int .u64 t50)] [] true w_4 fun (_:Unit) w_6=>
  ld .slc (⟨b1,3,none⟩:Addr) w_6 fun (t53:(Option Addr×Nat×Nat))=>
  za4 Int (fun s w_7 k_2=>
  qw (decide (s < (t53.2.1:Int))) (
  ixS t53.1 t53.2.1 32 s fun t57=>
  ldA P 32 t57 w_7 fun t58=>
  zat (zc P zf) zf w_7 fun b6 w_8=>
  zah P (storeVar zf (⟨b6,0,none⟩:Addr) (Value.agg t58)) w_8 fun w_9=>
  ldA P 32 (⟨b6,0,none⟩:Addr) w_9 fun t59=>
  ql P zfy #[(Value.pointer (some (⟨b4,0,none⟩:Addr))),(Value.agg t59)] [] true w_9 fun (_:Unit) w_10=>
  zbz .i64 s 1 fun t61=>
  k_2 t61 w_10) (
  k_1 () w_7)) 0 w_6) (
  ld .slc (⟨b1,4,none⟩:Addr) w_4 fun (t19:(Option Addr×Nat×Nat))=>
  cvI .u64 (t19.2.1:Int) fun t21=>
  ql P zd6 #[(Value.pointer (some (⟨b4,0,none⟩:Addr))),(Value.int .u64 t21)] [] true w_4 fun (_:Unit) w_11=>
  ld .slc (⟨b1,4,none⟩:Addr) w_11 fun (t24:(Option Addr×Nat×Nat))=>
  za4 Int (fun s_1 w_12 k_3=>
  qw (decide (s_1 < (t24.2.1:Int))) (
  ixS t24.1 t24.2.1 34 s_1 fun t28=>
  ldA P 34 t28 w_12 fun t29=>
  zat (zc P jl) jl w_12 fun b8 w_13=>
  zah P (storeVar jl (⟨b8,0,none⟩:Addr) (Value.agg t29)) w_13 fun w_14=>
  ld .str (⟨b8,0,none⟩:Addr) w_14 fun (t31:ByteArray)=>
  ql P zhm #[(Value.pointer (some (⟨b4,0,none⟩:Addr))),(Value.string t31)] [] true w_14 fun (_:Unit) w_15=>
  ld (.int .i64) (⟨b8,1,none⟩:Addr) w_15 fun (t34:Int)=>
  cvI .u64 t34 fun t35=>
  ql P zd6 #[(Value.pointer (some (⟨b4,0,none⟩:Addr))),(Value.int .u64 t35)] [] true w_15 fun (_:Unit) w_16=>
  ldA P 32 (⟨b8,2,none⟩:Addr) w_16 fun t38=>
  ql P zfy #[(Value.pointer (some (⟨b4,0,none⟩:Addr))),(Value.agg t38)] [] true w_16 fun (_:Unit) w_17=>
  zbz .i64 s_1 1 fun t40=>
  k_3 t40 w_17) (
  k_1 () w_12)) 0 w_11))) (fun _ w_18=>
  k () w_18)) (fun _ w_19=>
  ql P zi1 #[(Value.pointer (some (⟨b4,0,none⟩:Addr)))] [.slc] false w_19 fun (t62:(Option Addr×Nat×Nat)) w_20=>
  R (.returned (Value.tuple #[(Value.slice t62.1 t62.2.1 t62.2.2),(Value.int .i64 0)])) w_20))
theorem zxk {n:Value}{R:Ending->World->Prop}{w:World}(hT:zq9 n R w):qj P zmz #[n] w R:=
 fnT (.seq .leaf (.seq (.seq .leaf (.cond (.seq .leaf .leaf) .leaf)) (.seq .leaf (.seq .leaf (.join [] (.seq .leaf (.jblk [] (.seq .leaf (.cond .leaf (.seq .leaf (.cond (.seq .leaf (.seq .leaf (.blk (.loop [(55,.int .i64)] (.seq .leaf (.seq (.cond .leaf .leaf) (.seq (.blk (.seq .leaf .leaf)) .leaf))))))) (.seq .leaf (.seq .leaf (.blk (.loop [(26,.int .i64)] (.seq .leaf (.seq (.cond .leaf .leaf) (.seq (.blk (.seq .leaf (.seq .leaf (.seq .leaf .leaf)))) .leaf))))))))))))) (.seq .leaf .leaf)))))) Tryz.func78 hT
def zvl (inv:Option Addr) (R:Ending->World->Prop) (w:World):Prop:=
  zat (zc P zu) zu w fun b2 w_1=>
  ql P zes #[(Value.pointer inv)] [.int .u64] false w_1 fun (t5:Int) w_2=>
  zad P (Builtin.min_ #[zdm,zdm] zdm #[(Value.int .u64 t5),(Value.int .u64 9)]) (.int .u64) w_2 fun (t6:Int)=>
  cvI .i64 t6 fun t7=>
  zad P (Instr.build zu #[(0,(Value.int .i64 t7))]) .any w_2 fun (t8:Value)=>
  zat (zc P zu) zu w_2 fun b3 w_3=>
  zah P (storeVar zu (⟨b3,0,none⟩:Addr) t8) w_3 fun w_4=>
  joinP Unit (fun k=>
  ld (.int .i64) (⟨b3,0,none⟩:Addr) w_4 fun (t10:Int)=>
  joinP Unit (fun k_1=>
  qw (t10==1) (
  ql P zir #[(Value.pointer inv),(Value.int .i64 64)] [.str] false w_4 fun (t14:ByteArray) w_5=>
  stC (⟨b3,1,none⟩:Addr) (Value.string t14) w_5 fun w_6=>
  k_1 () w_6) (
  qw (t10==2) (
  ql P zes #[(Value.pointer inv)] [.int .u64] false w_4 fun (t19:Int) w_7=>
  zad P (Builtin.min_ #[zdm,zdm] zdm #[(Value.int .u64 t19),(Value.int .u64 1025)]) (.int .u64) w_7 fun (t20:Int)=>
  cvI .i64 t20 fun t21=>
  stC (⟨b3,2,none⟩:Addr) (Value.int .i64 t21) w_7 fun w_8=>
  ld (.int .i64) (⟨b3,2,none⟩:Addr) w_8 fun (t24:Int)=>
  ql P ziu #[(Value.int .i64 t24)] [.int .i64] false w_8 fun (t25:Int) w_9=>
  za4 Int (fun s w_10 k_2=>
  qw (decide (s < t25)) (
  za5 w_10 fun w_11=>
  ld .slc (⟨b3,3,none⟩:Addr) w_11 fun (t29:(Option Addr×Nat×Nat))=>
  ql P zgk #[(Value.pointer inv)] [.any] false w_11 fun (t31:Value) w_12=>
  ((ld .slc (⟨b3,3,none⟩:Addr) w_12 fun (t29_1:(Option Addr×Nat×Nat))=>
  (Value.slice t29_1.1 t29_1.2.1 t29_1.2.2)=(Value.slice t29.1 t29.2.1 t29.2.2)) /\
  za2 P (Instr.buildSlice jq 1 #[(0,t31)]) .slc w_12 fun (t32:(Option Addr×Nat×Nat)) w_13=>
  ((ld .slc (⟨b3,3,none⟩:Addr) w_13 fun (t29_2:(Option Addr×Nat×Nat))=>
  (Value.slice t29_2.1 t29_2.2.1 t29_2.2.2)=(Value.slice t29.1 t29.2.1 t29.2.2)) /\
  za2 P (Builtin.append_ #[jq,jq] jq #[(Value.slice t29.1 t29.2.1 t29.2.2),(Value.slice t32.1 t32.2.1 t32.2.2)]) .slc w_13 fun (t33:(Option Addr×Nat×Nat)) w_14=>
  stC (⟨b3,3,none⟩:Addr) (Value.slice t33.1 t33.2.1 t33.2.2) w_14 fun w_15=>
  zbz .i64 s 1 fun t35=>
  k_2 t35 w_15))) (
  k_1 () w_10)) 0 w_9) (
  qw (t10==3) (
  ql P zes #[(Value.pointer inv)] [.int .u64] false w_4 fun (t39:Int) w_16=>
  zad P (Builtin.min_ #[zdm,zdm] zdm #[(Value.int .u64 t39),(Value.int .u64 65)]) (.int .u64) w_16 fun (t40:Int)=>
  za4 Int (fun s_1 w_17 k_3=>
  qw (decide (s_1 < t40)) (
  za5 w_17 fun w_18=>
  ld .slc (⟨b3,4,none⟩:Addr) w_18 fun (t44:(Option Addr×Nat×Nat))=>
  ql P zir #[(Value.pointer inv),(Value.int .i64 16)] [.str] false w_18 fun (t46:ByteArray) w_19=>
  ((ld .slc (⟨b3,4,none⟩:Addr) w_19 fun (t44_1:(Option Addr×Nat×Nat))=>
  (Value.slice t44_1.1 t44_1.2.1 t44_1.2.2)=(Value.slice t44.1 t44.2.1 t44.2.2)) /\
  ql P zes #[(Value.pointer inv)] [.int .u64] false w_19 fun (t48:Int) w_20=>
  ((ld .slc (⟨b3,4,none⟩:Addr) w_20 fun (t44_2:(Option Addr×Nat×Nat))=>
  (Value.slice t44_2.1 t44_2.2.1 t44_2.2.2)=(Value.slice t44.1 t44.2.1 t44.2.2)) /\
  zad P (Builtin.min_ #[zdm,zdm] zdm #[(Value.int .u64 t48),(Value.int .u64 9)]) (.int .u64) w_20 fun (t49:Int)=>
  cvI .i64 t49 fun t50=>
  ql P zgk #[(Value.pointer inv)] [.any] false w_20 fun (t52:Value) w_21=>
  ((zad P (Builtin.min_ #[zdm,zdm] zdm #[(Value.int .u64 t48),(Value.int .u64 9)]) (.int .u64) w_21 fun (t49_1:Int)=>
  (Value.int .u64 t49_1)=(Value.int .u64 t49)) /\
  ((ld .slc (⟨b3,4,none⟩:Addr) w_21 fun (t44_3:(Option Addr×Nat×Nat))=>
  (Value.slice t44_3.1 t44_3.2.1 t44_3.2.2)=(Value.slice t44.1 t44.2.1 t44.2.2)) /\
  zad P (Instr.build jl #[(0,(Value.string t46)),(1,(Value.int .i64 t50)),(2,t52)]) .any w_21 fun (t53:Value)=>
  za2 P (Instr.buildSlice za6 1 #[(0,t53)]) .slc w_21 fun (t54:(Option Addr×Nat×Nat)) w_22=>
  ((ld .slc (⟨b3,4,none⟩:Addr) w_22 fun (t44_4:(Option Addr×Nat×Nat))=>
  (Value.slice t44_4.1 t44_4.2.1 t44_4.2.2)=(Value.slice t44.1 t44.2.1 t44.2.2)) /\
  za2 P (Builtin.append_ #[za6,za6] za6 #[(Value.slice t44.1 t44.2.1 t44.2.2),(Value.slice t54.1 t54.2.1 t54.2.2)]) .slc w_22 fun (t55:(Option Addr×Nat×Nat)) w_23=>
  stC (⟨b3,4,none⟩:Addr) (Value.slice t55.1 t55.2.1 t55.2.2) w_23 fun w_24=>
  zbz .u64 s_1 1 fun t57=>
  k_3 t57 w_24)))))) (
  k_1 () w_17)) 0 w_16) (
  k_1 () w_4)))) (fun _ w_25=>
  k () w_25)) (fun _ w_26=>
  ldA P 5 (⟨b3,0,none⟩:Addr) w_26 fun t58=>
  zah P (storeVar zu (⟨b2,0,none⟩:Addr) (Value.agg t58)) w_26 fun w_27=>
  ldA P 5 (⟨b2,0,none⟩:Addr) w_27 fun t2=>
  R (.returned (Value.agg t2)) w_27)
theorem z0r {inv:Option Addr}{R:Ending->World->Prop}{w:World}(hT:zvl inv R w):qj P zp7 #[(Value.pointer inv)] w R:=
 fnT (.seq .leaf (.seq .leaf (.join [] (.seq .leaf (.jblk [] (.seq .leaf (.cond .leaf (.seq .leaf (.cond (.seq .leaf (.seq .leaf (.blk (.loop [(26,.int .i64)] (.seq .leaf (.seq (.cond .leaf .leaf) (.seq (.blk (.tree (.op 0 [] (.op 2 [] (.op 1 [] (.op 3 [1] (.op 4 [1] (.op 5 [] (.op 6 [] (.op 7 [] .done)))))))))) .leaf))))))) (.seq .leaf (.cond (.seq .leaf (.blk (.loop [(41,.int .u64)] (.seq .leaf (.seq (.cond .leaf .leaf) (.seq (.blk (.tree (.op 0 [] (.op 2 [] (.op 4 [] (.op 8 [] (.op 1 [] (.op 3 [1] (.op 5 [1] (.op 6 [] (.op 7 [] (.op 9 [1,6] (.op 10 [] (.op 11 [1] (.op 12 [] (.op 13 [] (.op 14 [] .done))))))))))))))))) .leaf)))))) .leaf)))))))) (.seq .leaf .leaf)))) Tryz.func197 hT
def zr3 (b:Option Addr) (b_l b_c:Nat) (R:Ending->World->Prop) (w:World):Prop:=
  zat (zc P zu) zu w fun b2 w_1=>
  ql P zqe #[(Value.slice b b_l b_c)] [.ptr] false w_1 fun (t7:(Option Addr)) w_2=>
  ql P zp7 #[(Value.pointer t7)] [.any] false w_2 fun (t9:Value) w_3=>
  zat (zc P zu) zu w_3 fun b5 w_4=>
  zah P (storeVar zu (⟨b5,0,none⟩:Addr) t9) w_4 fun w_5=>
  joinP Unit (fun k=>
  ql P zmr #[(Value.pointer t7)] [.bool] false w_5 fun (t11:Bool) w_6=>
  qw (!t11) (
  zad P (Instr.build zu #[]) .any w_6 fun (t18:Value)=>
  zah P (storeVar zu (⟨b2,0,none⟩:Addr) t18) w_6 fun w_7=>
  ldA P 5 (⟨b2,0,none⟩:Addr) w_7 fun t2=>
  R (.returned (Value.tuple #[(Value.agg t2),(Value.int .i64 21)])) w_7) (
  ldA P 5 (⟨b5,0,none⟩:Addr) w_6 fun t14=>
  ql P zkz #[(Value.agg t14)] [.bool] false w_6 fun (t15:Bool) w_8=>
  qw (!t15) (
  zad P (Instr.build zu #[]) .any w_8 fun (t18_1:Value)=>
  zah P (storeVar zu (⟨b2,0,none⟩:Addr) t18_1) w_8 fun w_9=>
  ldA P 5 (⟨b2,0,none⟩:Addr) w_9 fun t2_1=>
  R (.returned (Value.tuple #[(Value.agg t2_1),(Value.int .i64 21)])) w_9) (
  k () w_8))) (fun _ w_10=>
  ldA P 5 (⟨b5,0,none⟩:Addr) w_10 fun t19=>
  zah P (storeVar zu (⟨b2,0,none⟩:Addr) (Value.agg t19)) w_10 fun w_11=>
  ldA P 5 (⟨b2,0,none⟩:Addr) w_11 fun t2_2=>
  R (.returned (Value.tuple #[(Value.agg t2_2),(Value.int .i64 0)])) w_11)
theorem zxz {b:Option Addr}{b_l b_c:Nat}{R:Ending->World->Prop}{w:World}(hT:zr3 b b_l b_c R w):qj P zmn #[(Value.slice b b_l b_c)] w R:=
 fnT (.seq .leaf (.seq .leaf (.seq .leaf (.join [] (.seq .leaf (.cond (.seq .leaf .leaf) .leaf)) (.seq .leaf .leaf))))) Tryz.func143 hT
def zlx (o:Option Addr) (d:Value) (R:Ending->World->Prop) (w:World):Prop:=
  zat (Value.cells d) zf w fun b3 w_1=>
  qw (!(Option.isNone o)) (
  za5 w_1 fun w_2=>
  qg o fun p=>
  ld .slc p w_2 fun (t10:(Option Addr×Nat×Nat))=>
  zad P (Instr.sliceAt zf (Value.pointer (some (⟨b3,0,none⟩:Addr))) none none none) .slc w_2 fun (t11:(Option Addr×Nat×Nat))=>
  za2 P (Builtin.append_ #[xk,xk] xk #[(Value.slice t10.1 t10.2.1 t10.2.2),(Value.slice t11.1 t11.2.1 t11.2.2)]) .slc w_2 fun (t12:(Option Addr×Nat×Nat)) w_3=>
  qg o fun p_1=>
  stC p_1 (Value.slice t12.1 t12.2.1 t12.2.2) w_3 fun w_4=>
  R (.returned (Value.tuple #[])) w_4) (
  R (.returned (Value.tuple #[])) w_1)
theorem zqv {o:Option Addr}{d:Value}{R:Ending->World->Prop}{w:World}(hT:zlx o d R w):qj P zfy #[(Value.pointer o),d] w R:=
 fnT (.seq .leaf (.seq .leaf (.cond (.tree (.op 0 [] (.op 1 [] (.op 2 [] (.op 3 [] (.op 4 [] (.op 5 [] (.op 6 [] (.op 7 [] (.op 8 [] (.op 9 [] .done))))))))))) .leaf))) Tryz.func140 hT
def znc (i:Option Addr) (R:Ending->World->Prop) (w:World):Prop:=
  zat (zc P zf) zf w fun b2 w_1=>
  zat (zc P zf) zf w_1 fun b3 w_2=>
  za5 w_2 fun w_3=>
  zad P (Instr.sliceAt zf (Value.pointer (some (⟨b3,0,none⟩:Addr))) none none none) .slc w_3 fun (t4:(Option Addr×Nat×Nat))=>
  ql P zga #[(Value.pointer i),(Value.int .i64 32)] [.slc] false w_3 fun (t6:(Option Addr×Nat×Nat)) w_4=>
  ((zad P (Instr.sliceAt zf (Value.pointer (some (⟨b3,0,none⟩:Addr))) none none none) .slc w_4 fun (t4_1:(Option Addr×Nat×Nat))=>
  (Value.slice t4_1.1 t4_1.2.1 t4_1.2.2)=(Value.slice t4.1 t4.2.1 t4.2.2)) /\
  za2 P (Builtin.copy_ #[xk,xk] zav #[(Value.slice t4.1 t4.2.1 t4.2.2),(Value.slice t6.1 t6.2.1 t6.2.2)]) (.int .i64) w_4 fun (_:Int) w_5=>
  ldA P 32 (⟨b3,0,none⟩:Addr) w_5 fun t8=>
  zah P (storeVar zf (⟨b2,0,none⟩:Addr) (Value.agg t8)) w_5 fun w_6=>
  ldA P 32 (⟨b2,0,none⟩:Addr) w_6 fun t2=>
  R (.returned (Value.agg t2)) w_6)
theorem zsz {i:Option Addr}{R:Ending->World->Prop}{w:World}(hT:znc i R w):qj P zgk #[(Value.pointer i)] w R:=
 fnT (.seq .leaf (.seq .leaf (.seq (.tree (.op 1 [] (.op 0 [] (.op 2 [0] (.op 3 [] .done))))) (.seq .leaf .leaf)))) Tryz.func228 hT
end Go.Proofs.YthaaekcaaecdeaaGreatDoor
