/- Part 3 of the texts below the card, joined. -/
import Derived.Test.YtbmegmbnlajbbaaGreatDoorTRpb
import Derived.Test.YtbmegmbnlajbbaaGreatDoorTRpa
namespace Go.Proofs.YtbmegmbnlajbbaaGreatDoor
open Go Go.Fw Go.Proofs
set_option maxRecDepth 100000
def zt2 (n:Value) (R:Ending->World->Prop) (w:World):Prop:=
  zbm (Value.cells n) zh w fun b1 w_1=>
  ld (.int .i64) (⟨b1,0,none⟩:Addr) w_1 fun (t8:Int)=>
  xu (t8==1) (
  ld .str (⟨b1,1,none⟩:Addr) w_1 fun (t11:ByteArray)=>
  xu (decide ((t11.size:Int)>=1)) (
  ld .str (⟨b1,1,none⟩:Addr) w_1 fun (t16:ByteArray)=>
  xu (decide ((t16.size:Int)<=64)) (
  ld (.int .i64) (⟨b1,2,none⟩:Addr) w_1 fun (t22:Int)=>
  xu (t22==0) (
  ld .slc (⟨b1,3,none⟩:Addr) w_1 fun (t27:(Option Addr×Nat×Nat))=>
  xu ((t27.2.1:Int)==0) (
  ld .slc (⟨b1,4,none⟩:Addr) w_1 fun (t33:(Option Addr×Nat×Nat))=>
  R (.returned (Value.bool ((t33.2.1:Int)==0))) w_1) (
  R (.returned (Value.bool false)) w_1)) (
  R (.returned (Value.bool false)) w_1)) (
  R (.returned (Value.bool false)) w_1)) (
  R (.returned (Value.bool false)) w_1)) (
  ld .str (⟨b1,1,none⟩:Addr) w_1 fun (t38:ByteArray)=>
  xu (!(t38.toList==(ByteArray.mk #[]).toList)) (
  R (.returned (Value.bool false)) w_1) (
  ld (.int .i64) (⟨b1,0,none⟩:Addr) w_1 fun (t41:Int)=>
  xu (t41==2) (
  ku Unit (fun k=>
  ld (.int .i64) (⟨b1,2,none⟩:Addr) w_1 fun (t44:Int)=>
  xu (decide (t44 < 0)) (
  R (.returned (Value.bool false)) w_1) (
  ld (.int .i64) (⟨b1,2,none⟩:Addr) w_1 fun (t48:Int)=>
  xu (decide (t48 > 1024)) (
  R (.returned (Value.bool false)) w_1) (
  ld .slc (⟨b1,4,none⟩:Addr) w_1 fun (t53:(Option Addr×Nat×Nat))=>
  xu ((t53.2.1:Int) != 0) (
  R (.returned (Value.bool false)) w_1) (
  k () w_1)))) (fun _ w_2=>
  ld (.int .i64) (⟨b1,2,none⟩:Addr) w_2 fun (t58:Int)=>
  za4 (Int×Int) (fun s_1 w_3 k_1=>
  xu (decide (s_1.2 > 0)) (
  zbv .i64 s_1.1 1 fun t64=>
  zk3 .i64 s_1.2 64 fun t62=>
  k_1 (t64,t62) w_3) (
  ld .slc (⟨b1,3,none⟩:Addr) w_3 fun (t66:(Option Addr×Nat×Nat))=>
  R (.returned (Value.bool ((t66.2.1:Int)==s_1.1))) w_3)) (0,t58) w_2)) (
  ku Unit (fun k_2=>
  ld (.int .i64) (⟨b1,0,none⟩:Addr) w_1 fun (t71:Int)=>
  xu (t71 != 3) (
  R (.returned (Value.bool false)) w_1) (
  ld (.int .i64) (⟨b1,2,none⟩:Addr) w_1 fun (t75:Int)=>
  xu (t75 != 0) (
  R (.returned (Value.bool false)) w_1) (
  ld .slc (⟨b1,3,none⟩:Addr) w_1 fun (t80:(Option Addr×Nat×Nat))=>
  xu ((t80.2.1:Int) != 0) (
  R (.returned (Value.bool false)) w_1) (
  ld .slc (⟨b1,4,none⟩:Addr) w_1 fun (t86:(Option Addr×Nat×Nat))=>
  xu (decide ((t86.2.1:Int) > 64)) (
  R (.returned (Value.bool false)) w_1) (
  k_2 () w_1))))) (fun _ w_4=>
  za4 Int (fun s_3 w_5 k_3=>
  ld .slc (⟨b1,4,none⟩:Addr) w_5 fun (t92:(Option Addr×Nat×Nat))=>
  xu (decide (s_3 < (t92.2.1:Int))) (
  ku Unit (fun k_4=>
  ku Unit (fun k_5=>
  ld .slc (⟨b1,4,none⟩:Addr) w_5 fun (t98:(Option Addr×Nat×Nat))=>
  ixS t98.1 t98.2.1 34 s_3 fun t100=>
  ldA P 34 t100 w_5 fun t101=>
  zbm (zc P zu) zu w_5 fun b6 w_6=>
  zb8 P (storeVar zu (⟨b6,0,none⟩:Addr) (Value.agg t101)) w_6 fun w_7=>
  zbn w_7 fun w_8=>
  ld .str (⟨b6,0,none⟩:Addr) w_8 fun (t103:ByteArray)=>
  qy P zrt #[(Value.string t103)] [.bool] false w_8 fun (t104:Bool) w_9=>
  xu (!t104) (
  R (.returned (Value.bool false)) w_9) (
  ld (.int .i64) (⟨b6,1,none⟩:Addr) w_9 fun (t108:Int)=>
  xu (t108 != 2) (
  ld (.int .i64) (⟨b6,1,none⟩:Addr) w_9 fun (t112:Int)=>
  xu (t112 != 3) (
  R (.returned (Value.bool false)) w_9) (
  xu (decide (s_3 > 0)) (
  zk3 .i64 s_3 1 fun t123=>
  ld .slc (⟨b1,4,none⟩:Addr) w_9 fun (t121:(Option Addr×Nat×Nat))=>
  ixS t121.1 t121.2.1 34 t123 fun t124=>
  ld .str t124 w_9 fun (t126:ByteArray)=>
  ld .str (⟨b6,0,none⟩:Addr) w_9 fun (t128:ByteArray)=>
  xu (!(Op.bytesLess t126.toList t128.toList)) (
  R (.returned (Value.bool false)) w_9) (
  k_5 () w_9)) (
  k_5 () w_9))) (
  xu (decide (s_3 > 0)) (
  zk3 .i64 s_3 1 fun t123_1=>
  ld .slc (⟨b1,4,none⟩:Addr) w_9 fun (t121_1:(Option Addr×Nat×Nat))=>
  ixS t121_1.1 t121_1.2.1 34 t123_1 fun t124_1=>
  ld .str t124_1 w_9 fun (t126_1:ByteArray)=>
  ld .str (⟨b6,0,none⟩:Addr) w_9 fun (t128_1:ByteArray)=>
  xu (!(Op.bytesLess t126_1.toList t128_1.toList)) (
  R (.returned (Value.bool false)) w_9) (
  k_5 () w_9)) (
  k_5 () w_9)))) (fun _ w_10=>
  k_4 () w_10)) (fun _ w_11=>
  zbv .i64 s_3 1 fun t96=>
  k_3 t96 w_11)) (
  R (.returned (Value.bool true)) w_5)) 0 w_4))))
theorem z1l {n:Value}{R:Ending->World->Prop}{w:World}(hT:zt2 n R w):zy P zll #[n] w R:=
 fnT (.seq .leaf (.seq (.seq .leaf (.cond (.seq .leaf .leaf) .leaf)) (.seq (.seq .leaf (.cond (.seq .leaf .leaf) .leaf)) (.seq (.seq .leaf (.cond (.join [] (.seq .leaf (.cond (.seq .leaf .leaf) .leaf)) (.seq .leaf (.seq (.seq .leaf (.blk (.loop [(3,.int .i64),(4,.int .i64)] (.seq (.seq .leaf (.cond .leaf .leaf)) (.seq (.blk .leaf) .leaf))))) (.seq .leaf .leaf)))) .leaf)) (.join [] (.seq .leaf (.cond (.seq .leaf .leaf) .leaf)) (.seq (.seq .leaf (.blk (.loop [(5,.int .i64)] (.seq (.seq .leaf (.cond .leaf .leaf)) (.join [] (.jblk [] (.seq .leaf (.seq (.tree (.op 0 [] (.op 1 [] (.op 2 [] (.op 3 [] (.op 4 [] (.op 5 [] (.op 6 [] (.op 7 [] (.op 8 [] (.op 9 [] (.op 10 [] (.op 11 [] (.op 12 [] (.op 13 [] (.op 14 [] (.op 15 [] (.op 16 [] (.op 17 [] (.op 18 [] (.op 20 [] (.op 21 [] (.op 25 [] (.op 19 [] (.op 22 [] (.op 23 [] (.op 24 [] (.op 26 [] (.op 27 [] (.op 28 [] (.op 29 [] .done))))))))))))))))))))))))))))))) (.cond (.seq .leaf .leaf) .leaf)))) .leaf))))) (.seq .leaf .leaf))))))) Tryz.func72 hT
def zr9 (n:Value) (R:Ending->World->Prop) (w:World):Prop:=
  zbm (Value.cells n) zh w fun b1 w_1=>
  ld (.int .i64) (⟨b1,0,none⟩:Addr) w_1 fun (t7:Int)=>
  cvI .u64 t7 fun t8=>
  qy P zix #[(Value.int .u64 t8)] [.slc] false w_1 fun (t9:(Option Addr×Nat×Nat)) w_2=>
  ld (.int .i64) (⟨b1,0,none⟩:Addr) w_2 fun (t11:Int)=>
  xu (t11==1) (
  ld .str (⟨b1,1,none⟩:Addr) w_2 fun (t15:ByteArray)=>
  qy P zm9 #[(Value.string t15)] [.slc] false w_2 fun (t16:(Option Addr×Nat×Nat)) w_3=>
  zaw P (Builtin.append_ #[zi,zi] zi #[(Value.slice t9.1 t9.2.1 t9.2.2),(Value.slice t16.1 t16.2.1 t16.2.2)]) .slc w_3 fun (t17:(Option Addr×Nat×Nat)) w_4=>
  R (.returned (Value.slice t17.1 t17.2.1 t17.2.2)) w_4) (
  ld (.int .i64) (⟨b1,0,none⟩:Addr) w_2 fun (t19:Int)=>
  xu (t19==2) (
  ld (.int .i64) (⟨b1,2,none⟩:Addr) w_2 fun (t23:Int)=>
  cvI .u64 t23 fun t24=>
  qy P zix #[(Value.int .u64 t24)] [.slc] false w_2 fun (t25:(Option Addr×Nat×Nat)) w_5=>
  zaw P (Builtin.append_ #[zi,zi] zi #[(Value.slice t9.1 t9.2.1 t9.2.2),(Value.slice t25.1 t25.2.1 t25.2.2)]) .slc w_5 fun (t26:(Option Addr×Nat×Nat)) w_6=>
  za4 ((Option Addr×Nat×Nat)×Int) (fun s w_7 k=>
  ld .slc (⟨b1,3,none⟩:Addr) w_7 fun (t29:(Option Addr×Nat×Nat))=>
  xu (decide (s.2 < (t29.2.1:Int))) (
  ld .slc (⟨b1,3,none⟩:Addr) w_7 fun (t36:(Option Addr×Nat×Nat))=>
  ixS t36.1 t36.2.1 32 s.2 fun t38=>
  zba P (Instr.sliceAt zf (Value.pointer (some t38)) none none none) .slc w_7 fun (t39:(Option Addr×Nat×Nat))=>
  zaw P (Builtin.append_ #[zi,zi] zi #[(Value.slice s.1.1 s.1.2.1 s.1.2.2),(Value.slice t39.1 t39.2.1 t39.2.2)]) .slc w_7 fun (t40:(Option Addr×Nat×Nat)) w_8=>
  zbv .i64 s.2 1 fun t33=>
  k ((t40.1,t40.2.1,t40.2.2),t33) w_8) (
  R (.returned (Value.slice s.1.1 s.1.2.1 s.1.2.2)) w_7)) ((t26.1,t26.2.1,t26.2.2),0) w_6) (
  ld .slc (⟨b1,4,none⟩:Addr) w_2 fun (t44:(Option Addr×Nat×Nat))=>
  cvI .u64 (t44.2.1:Int) fun t46=>
  qy P zix #[(Value.int .u64 t46)] [.slc] false w_2 fun (t47:(Option Addr×Nat×Nat)) w_9=>
  zaw P (Builtin.append_ #[zi,zi] zi #[(Value.slice t9.1 t9.2.1 t9.2.2),(Value.slice t47.1 t47.2.1 t47.2.2)]) .slc w_9 fun (t48:(Option Addr×Nat×Nat)) w_10=>
  za4 ((Option Addr×Nat×Nat)×Int) (fun s_1 w_11 k_1=>
  ld .slc (⟨b1,4,none⟩:Addr) w_11 fun (t51:(Option Addr×Nat×Nat))=>
  xu (decide (s_1.2 < (t51.2.1:Int))) (
  ld .slc (⟨b1,4,none⟩:Addr) w_11 fun (t58:(Option Addr×Nat×Nat))=>
  ixS t58.1 t58.2.1 34 s_1.2 fun t60=>
  ld .str t60 w_11 fun (t62:ByteArray)=>
  qy P zm9 #[(Value.string t62)] [.slc] false w_11 fun (t63:(Option Addr×Nat×Nat)) w_12=>
  zaw P (Builtin.append_ #[zi,zi] zi #[(Value.slice s_1.1.1 s_1.1.2.1 s_1.1.2.2),(Value.slice t63.1 t63.2.1 t63.2.2)]) .slc w_12 fun (t64:(Option Addr×Nat×Nat)) w_13=>
  ld .slc (⟨b1,4,none⟩:Addr) w_13 fun (t67:(Option Addr×Nat×Nat))=>
  ixS t67.1 t67.2.1 34 s_1.2 fun t69=>
  ld (.int .i64) (Addr.add t69 1) w_13 fun (t71:Int)=>
  cvI .u64 t71 fun t72=>
  qy P zix #[(Value.int .u64 t72)] [.slc] false w_13 fun (t73:(Option Addr×Nat×Nat)) w_14=>
  zaw P (Builtin.append_ #[zi,zi] zi #[(Value.slice t64.1 t64.2.1 t64.2.2),(Value.slice t73.1 t73.2.1 t73.2.2)]) .slc w_14 fun (t74:(Option Addr×Nat×Nat)) w_15=>
  ld .slc (⟨b1,4,none⟩:Addr) w_15 fun (t77:(Option Addr×Nat×Nat))=>
  ixS t77.1 t77.2.1 34 s_1.2 fun t79=>
  zba P (Instr.sliceAt zf (Value.pointer (some (Addr.add t79 2))) none none none) .slc w_15 fun (t81:(Option Addr×Nat×Nat))=>
  zaw P (Builtin.append_ #[zi,zi] zi #[(Value.slice t74.1 t74.2.1 t74.2.2),(Value.slice t81.1 t81.2.1 t81.2.2)]) .slc w_15 fun (t82:(Option Addr×Nat×Nat)) w_16=>
  zbv .i64 s_1.2 1 fun t55=>
  k_1 ((t82.1,t82.2.1,t82.2.2),t55) w_16) (
  R (.returned (Value.slice s_1.1.1 s_1.1.2.1 s_1.1.2.2)) w_11)) ((t48.1,t48.2.1,t48.2.2),0) w_10))
theorem zx6 {n:Value}{R:Ending->World->Prop}{w:World}(hT:zr9 n R w):zy P zms #[n] w R:=
 fnT (.seq .leaf (.seq .leaf (.seq (.seq .leaf (.cond (.seq .leaf .leaf) .leaf)) (.seq (.seq .leaf (.cond (.seq .leaf (.seq (.seq .leaf (.blk (.loop [(3,.slc),(4,.int .i64)] (.seq (.seq .leaf (.cond .leaf .leaf)) (.seq (.blk .leaf) .leaf))))) (.seq .leaf .leaf))) .leaf)) (.seq .leaf (.seq (.seq .leaf (.blk (.loop [(3,.slc),(5,.int .i64)] (.seq (.seq .leaf (.cond .leaf .leaf)) (.seq (.blk (.seq .leaf (.seq .leaf .leaf))) .leaf))))) (.seq .leaf .leaf))))))) Tryz.func73 hT
def zqr (b:Option Addr) (b_l b_c:Nat) (R:Ending->World->Prop) (w:World):Prop:=
  zbm (zc P zh) zh w fun b2 w_1=>
  qy P zot #[(Value.slice b b_l b_c)] [.ptr] false w_1 fun (t7:(Option Addr)) w_2=>
  qy P zow #[(Value.pointer t7)] [.any] false w_2 fun (t9:Value) w_3=>
  zbm (zc P zh) zh w_3 fun b5 w_4=>
  zb8 P (storeVar zh (⟨b5,0,none⟩:Addr) t9) w_4 fun w_5=>
  ku Unit (fun k=>
  qy P zky #[(Value.pointer t7)] [.bool] false w_5 fun (t11:Bool) w_6=>
  xu (!t11) (
  zba P (Instr.build zh #[]) .any w_6 fun (t18:Value)=>
  zb8 P (storeVar zh (⟨b2,0,none⟩:Addr) t18) w_6 fun w_7=>
  ldA P 5 (⟨b2,0,none⟩:Addr) w_7 fun t2=>
  R (.returned (Value.tuple #[(Value.agg t2),(Value.int .i64 21)])) w_7) (
  ldA P 5 (⟨b5,0,none⟩:Addr) w_6 fun t14=>
  qy P zjf #[(Value.agg t14)] [.bool] false w_6 fun (t15:Bool) w_8=>
  xu (!t15) (
  zba P (Instr.build zh #[]) .any w_8 fun (t18_1:Value)=>
  zb8 P (storeVar zh (⟨b2,0,none⟩:Addr) t18_1) w_8 fun w_9=>
  ldA P 5 (⟨b2,0,none⟩:Addr) w_9 fun t2_1=>
  R (.returned (Value.tuple #[(Value.agg t2_1),(Value.int .i64 21)])) w_9) (
  k () w_8))) (fun _ w_10=>
  ldA P 5 (⟨b5,0,none⟩:Addr) w_10 fun t19=>
  zb8 P (storeVar zh (⟨b2,0,none⟩:Addr) (Value.agg t19)) w_10 fun w_11=>
  ldA P 5 (⟨b2,0,none⟩:Addr) w_11 fun t2_2=>
  R (.returned (Value.tuple #[(Value.agg t2_2),(Value.int .i64 0)])) w_11)
theorem zwn {b:Option Addr}{b_l b_c:Nat}{R:Ending->World->Prop}{w:World}(hT:zqr b b_l b_c R w):zy P zh5 #[(Value.slice b b_l b_c)] w R:=
 fnT (.seq .leaf (.seq .leaf (.seq .leaf (.join [] (.seq .leaf (.cond (.seq .leaf .leaf) .leaf)) (.seq .leaf .leaf))))) Tryz.func85 hT
def zso (b:Option Addr) (b_l b_c:Nat) (R:Ending->World->Prop) (w:World):Prop:=
  zbm (zc P zh) zh w fun b2 w_1=>
  zba P (Instr.build znb #[(0,(Value.slice b b_l b_c))]) .any w_1 fun (t14:Value)=>
  zbm (Value.cells t14) znb w_1 fun b15 w_2=>
  zba P (Instr.build zh #[]) .any w_2 fun (t16:Value)=>
  zbm (zc P zh) zh w_2 fun b5 w_3=>
  zb8 P (storeVar zh (⟨b5,0,none⟩:Addr) t16) w_3 fun w_4=>
  qy P zfa #[(Value.pointer (some (⟨b15,0,none⟩:Addr)))] [.int .u64] false w_4 fun (t18:Int) w_5=>
  ku Unit (fun k=>
  ku Unit (fun k_1=>
  xu (t18==1) (
  stC (⟨b5,0,none⟩:Addr) (Value.int .i64 1) w_5 fun w_6=>
  qy P zh9 #[(Value.pointer (some (⟨b15,0,none⟩:Addr))),(Value.int .i64 64)] [.str] false w_6 fun (t24:ByteArray) w_7=>
  stC (⟨b5,1,none⟩:Addr) (Value.string t24) w_7 fun w_8=>
  k_1 () w_8) (
  xu (t18==2) (
  stC (⟨b5,0,none⟩:Addr) (Value.int .i64 2) w_5 fun w_9=>
  qy P zfa #[(Value.pointer (some (⟨b15,0,none⟩:Addr)))] [.int .u64] false w_9 fun (t30:Int) w_10=>
  xu (decide (t30 > 1024)) (
  zba P (Instr.build zh #[]) .any w_10 fun (t33:Value)=>
  zb8 P (storeVar zh (⟨b2,0,none⟩:Addr) t33) w_10 fun w_11=>
  ldA P 5 (⟨b2,0,none⟩:Addr) w_11 fun t2=>
  R (.returned (Value.tuple #[(Value.agg t2),(Value.bool false)])) w_11) (
  cvI .i64 t30 fun t35=>
  stC (⟨b5,2,none⟩:Addr) (Value.int .i64 t35) w_10 fun w_12=>
  ld (.int .i64) (⟨b5,2,none⟩:Addr) w_12 fun (t38:Int)=>
  za4 Int (fun s w_13 k_2=>
  xu (decide (s > 0)) (
  zbn w_13 fun w_14=>
  ld .slc (⟨b5,3,none⟩:Addr) w_14 fun (t44:(Option Addr×Nat×Nat))=>
  qy P zgh #[(Value.pointer (some (⟨b15,0,none⟩:Addr)))] [.any] false w_14 fun (t46:Value) w_15=>
  ((ld .slc (⟨b5,3,none⟩:Addr) w_15 fun (t44_1:(Option Addr×Nat×Nat))=>
  (Value.slice t44_1.1 t44_1.2.1 t44_1.2.2)=(Value.slice t44.1 t44.2.1 t44.2.2)) /\
  zaw P (Instr.buildSlice zo 1 #[(0,t46)]) .slc w_15 fun (t47:(Option Addr×Nat×Nat)) w_16=>
  ((ld .slc (⟨b5,3,none⟩:Addr) w_16 fun (t44_2:(Option Addr×Nat×Nat))=>
  (Value.slice t44_2.1 t44_2.2.1 t44_2.2.2)=(Value.slice t44.1 t44.2.1 t44.2.2)) /\
  zaw P (Builtin.append_ #[zo,zo] zo #[(Value.slice t44.1 t44.2.1 t44.2.2),(Value.slice t47.1 t47.2.1 t47.2.2)]) .slc w_16 fun (t48:(Option Addr×Nat×Nat)) w_17=>
  stC (⟨b5,3,none⟩:Addr) (Value.slice t48.1 t48.2.1 t48.2.2) w_17 fun w_18=>
  zk3 .i64 s 64 fun t42=>
  k_2 t42 w_18))) (
  k_1 () w_13)) t38 w_12)) (
  xu (t18==3) (
  stC (⟨b5,0,none⟩:Addr) (Value.int .i64 3) w_5 fun w_19=>
  qy P zfa #[(Value.pointer (some (⟨b15,0,none⟩:Addr)))] [.int .u64] false w_19 fun (t54:Int) w_20=>
  xu (decide (t54 > 64)) (
  zba P (Instr.build zh #[]) .any w_20 fun (t57:Value)=>
  zb8 P (storeVar zh (⟨b2,0,none⟩:Addr) t57) w_20 fun w_21=>
  ldA P 5 (⟨b2,0,none⟩:Addr) w_21 fun t2_1=>
  R (.returned (Value.tuple #[(Value.agg t2_1),(Value.bool false)])) w_21) (
  za4 Int (fun s_1 w_22 k_3=>
  cvI .i64 t54 fun t60=>
  xu (decide (s_1 < t60)) (
  qy P zh9 #[(Value.pointer (some (⟨b15,0,none⟩:Addr))),(Value.int .i64 16)] [.str] false w_22 fun (t65:ByteArray) w_23=>
  qy P zfa #[(Value.pointer (some (⟨b15,0,none⟩:Addr)))] [.int .u64] false w_23 fun (t67:Int) w_24=>
  xu (decide (t67 > 3)) (
  zba P (Instr.build zh #[]) .any w_24 fun (t70:Value)=>
  zb8 P (storeVar zh (⟨b2,0,none⟩:Addr) t70) w_24 fun w_25=>
  ldA P 5 (⟨b2,0,none⟩:Addr) w_25 fun t2_2=>
  R (.returned (Value.tuple #[(Value.agg t2_2),(Value.bool false)])) w_25) (
  zbn w_24 fun w_26=>
  cvI .i64 t67 fun t75=>
  ld .slc (⟨b5,4,none⟩:Addr) w_26 fun (t72:(Option Addr×Nat×Nat))=>
  qy P zgh #[(Value.pointer (some (⟨b15,0,none⟩:Addr)))] [.any] false w_26 fun (t77:Value) w_27=>
  ((ld .slc (⟨b5,4,none⟩:Addr) w_27 fun (t72_1:(Option Addr×Nat×Nat))=>
  (Value.slice t72_1.1 t72_1.2.1 t72_1.2.2)=(Value.slice t72.1 t72.2.1 t72.2.2)) /\
  zba P (Instr.build zu #[(0,(Value.string t65)),(1,(Value.int .i64 t75)),(2,t77)]) .any w_27 fun (t78:Value)=>
  zaw P (Instr.buildSlice xg 1 #[(0,t78)]) .slc w_27 fun (t79:(Option Addr×Nat×Nat)) w_28=>
  ((ld .slc (⟨b5,4,none⟩:Addr) w_28 fun (t72_2:(Option Addr×Nat×Nat))=>
  (Value.slice t72_2.1 t72_2.2.1 t72_2.2.2)=(Value.slice t72.1 t72.2.1 t72.2.2)) /\
  zaw P (Builtin.append_ #[xg,xg] xg #[(Value.slice t72.1 t72.2.1 t72.2.2),(Value.slice t79.1 t79.2.1 t79.2.2)]) .slc w_28 fun (t80:(Option Addr×Nat×Nat)) w_29=>
  stC (⟨b5,4,none⟩:Addr) (Value.slice t80.1 t80.2.1 t80.2.2) w_29 fun w_30=>
  zbv .i64 s_1 1 fun t63=>
  k_3 t63 w_30)))) (
  k_1 () w_22)) 0 w_20)) (
  k_1 () w_5)))) (fun _ w_31=>
  k () w_31)) (fun _ w_32=>
  ku Unit (fun k_4=>
  ld (.int .i64) (⟨b15,2,none⟩:Addr) w_32 fun (t85:Int)=>
  xu (t85 != 0) (
  zba P (Instr.build zh #[]) .any w_32 fun (t97:Value)=>
  zb8 P (storeVar zh (⟨b2,0,none⟩:Addr) t97) w_32 fun w_33=>
  ldA P 5 (⟨b2,0,none⟩:Addr) w_33 fun t2_3=>
  R (.returned (Value.tuple #[(Value.agg t2_3),(Value.bool false)])) w_33) (
  qy P zgw #[(Value.pointer (some (⟨b15,0,none⟩:Addr)))] [.int .i64] false w_32 fun (t89:Int) w_34=>
  xu (t89 != 0) (
  zba P (Instr.build zh #[]) .any w_34 fun (t97_1:Value)=>
  zb8 P (storeVar zh (⟨b2,0,none⟩:Addr) t97_1) w_34 fun w_35=>
  ldA P 5 (⟨b2,0,none⟩:Addr) w_35 fun t2_4=>
  R (.returned (Value.tuple #[(Value.agg t2_4),(Value.bool false)])) w_35) (
  ldA P 5 (⟨b5,0,none⟩:Addr) w_34 fun t93=>
  qy P zll #[(Value.agg t93)] [.bool] false w_34 fun (t94:Bool) w_36=>
  xu (!t94) (
  zba P (Instr.build zh #[]) .any w_36 fun (t97_2:Value)=>
  zb8 P (storeVar zh (⟨b2,0,none⟩:Addr) t97_2) w_36 fun w_37=>
  ldA P 5 (⟨b2,0,none⟩:Addr) w_37 fun t2_5=>
  R (.returned (Value.tuple #[(Value.agg t2_5),(Value.bool false)])) w_37) (
  k_4 () w_36)))) (fun _ w_38=>
  ldA P 5 (⟨b5,0,none⟩:Addr) w_38 fun t98=>
  zb8 P (storeVar zh (⟨b2,0,none⟩:Addr) (Value.agg t98)) w_38 fun w_39=>
  ldA P 5 (⟨b2,0,none⟩:Addr) w_39 fun t2_6=>
  R (.returned (Value.tuple #[(Value.agg t2_6),(Value.bool true)])) w_39))
theorem zys {b:Option Addr}{b_l b_c:Nat}{R:Ending->World->Prop}{w:World}(hT:zso b b_l b_c R w):zy P zm3 #[(Value.slice b b_l b_c)] w R:=
 fnT (.seq .leaf (.seq .leaf (.seq .leaf (.seq .leaf (.join [] (.seq .leaf (.jblk [] (.seq .leaf (.cond (.seq .leaf .leaf) (.seq .leaf (.cond (.seq .leaf (.seq .leaf (.seq (.seq .leaf (.cond (.seq .leaf .leaf) .leaf)) (.seq .leaf (.seq .leaf (.blk (.loop [(8,.int .i64)] (.seq (.seq .leaf (.cond .leaf .leaf)) (.seq (.blk (.tree (.op 0 [] (.op 2 [] (.op 1 [] (.op 3 [1] (.op 4 [1] (.op 5 [] (.op 6 [] (.op 7 [] .done)))))))))) .leaf))))))))) (.seq .leaf (.cond (.seq .leaf (.seq .leaf (.seq (.seq .leaf (.cond (.seq .leaf .leaf) .leaf)) (.seq .leaf (.blk (.loop [(10,.int .i64)] (.seq (.seq .leaf (.cond .leaf .leaf)) (.seq (.blk (.seq .leaf (.seq .leaf (.seq (.seq .leaf (.cond (.seq .leaf .leaf) .leaf)) (.tree (.op 0 [] (.op 2 [] (.op 3 [] (.op 4 [] (.op 5 [] (.op 1 [] (.op 6 [1] (.op 7 [] (.op 8 [1] (.op 9 [] (.op 10 [] (.op 11 [] .done))))))))))))))))) .leaf)))))))) .leaf)))))))) (.join [] (.seq .leaf (.cond (.seq .leaf .leaf) .leaf)) (.seq .leaf .leaf))))))) Tryz.func89 hT
def zvz (n:Value) (R:Ending->World->Prop) (w:World):Prop:=
  zbm (Value.cells n) zh w fun b1 w_1=>
  ld .slc (⟨b1,3,none⟩:Addr) w_1 fun (t7:(Option Addr×Nat×Nat))=>
  za4 ((Option Addr×Nat×Nat)×Int) (fun s w_2 k=>
  xu (decide (s.2 < (t7.2.1:Int))) (
  ixS t7.1 t7.2.1 32 s.2 fun t11=>
  ldA P 32 t11 w_2 fun t12=>
  zbm (zc P zf) zf w_2 fun b5 w_3=>
  zb8 P (storeVar zf (⟨b5,0,none⟩:Addr) (Value.agg t12)) w_3 fun w_4=>
  ldA P 32 (⟨b5,0,none⟩:Addr) w_4 fun t14=>
  zba P (Instr.build zu #[(1,(Value.int .i64 1)),(2,(Value.agg t14))]) .any w_4 fun (t15:Value)=>
  zaw P (Instr.buildSlice xg 1 #[(0,t15)]) .slc w_4 fun (t16:(Option Addr×Nat×Nat)) w_5=>
  zaw P (Builtin.append_ #[xg,xg] xg #[(Value.slice s.1.1 s.1.2.1 s.1.2.2),(Value.slice t16.1 t16.2.1 t16.2.2)]) .slc w_5 fun (t17:(Option Addr×Nat×Nat)) w_6=>
  zbv .i64 s.2 1 fun t18=>
  k ((t17.1,t17.2.1,t17.2.2),t18) w_6) (
  ld .slc (⟨b1,4,none⟩:Addr) w_2 fun (t21:(Option Addr×Nat×Nat))=>
  zaw P (Builtin.append_ #[xg,xg] xg #[(Value.slice s.1.1 s.1.2.1 s.1.2.2),(Value.slice t21.1 t21.2.1 t21.2.2)]) .slc w_2 fun (t22:(Option Addr×Nat×Nat)) w_7=>
  R (.returned (Value.slice t22.1 t22.2.1 t22.2.2)) w_7)) ((none,0,0),0) w_1
theorem z0n {n:Value}{R:Ending->World->Prop}{w:World}(hT:zvz n R w):zy P zoi #[n] w R:=
 fnT (.seq .leaf (.seq .leaf (.seq (.seq .leaf (.blk (.loop [(3,.slc),(9,.int .i64)] (.seq .leaf (.seq (.cond .leaf .leaf) (.seq (.blk (.seq .leaf .leaf)) .leaf)))))) (.seq .leaf .leaf)))) Tryz.func96 hT
def zp6 (n:Value) (R:Ending->World->Prop) (w:World):Prop:=
  zbm (Value.cells n) zh w fun b1 w_1=>
  ldA P 5 (⟨b1,0,none⟩:Addr) w_1 fun t9=>
  qy P zjf #[(Value.agg t9)] [.bool] false w_1 fun (t10:Bool) w_2=>
  xu (!t10) (
  R (.returned (Value.tuple #[(Value.slice none 0 0),(Value.int .i64 21)])) w_2) (
  zbm (zc P zgd) zgd w_2 fun b4 w_3=>
  ld (.int .i64) (⟨b1,0,none⟩:Addr) w_3 fun (t13:Int)=>
  cvI .u64 t13 fun t14=>
  qy P zdr #[(Value.pointer (some (⟨b4,0,none⟩:Addr))),(Value.int .u64 t14)] [] true w_3 fun (_:Unit) w_4=>
  ku Unit (fun k=>
  ld (.int .i64) (⟨b1,0,none⟩:Addr) w_4 fun (t17:Int)=>
  ku Unit (fun k_1=>
  xu (t17==1) (
  ld .str (⟨b1,1,none⟩:Addr) w_4 fun (t44:ByteArray)=>
  qy P zgx #[(Value.pointer (some (⟨b4,0,none⟩:Addr))),(Value.string t44)] [] true w_4 fun (_:Unit) w_5=>
  k_1 () w_5) (
  xu (t17==2) (
  ld (.int .i64) (⟨b1,2,none⟩:Addr) w_4 fun (t49:Int)=>
  cvI .u64 t49 fun t50=>
  qy P zdr #[(Value.pointer (some (⟨b4,0,none⟩:Addr))),(Value.int .u64 t50)] [] true w_4 fun (_:Unit) w_6=>
  ld .slc (⟨b1,3,none⟩:Addr) w_6 fun (t53:(Option Addr×Nat×Nat))=>
  za4 Int (fun s w_7 k_2=>
  xu (decide (s < (t53.2.1:Int))) (
  ixS t53.1 t53.2.1 32 s fun t57=>
  ldA P 32 t57 w_7 fun t58=>
  zbm (zc P zf) zf w_7 fun b6 w_8=>
  zb8 P (storeVar zf (⟨b6,0,none⟩:Addr) (Value.agg t58)) w_8 fun w_9=>
  ldA P 32 (⟨b6,0,none⟩:Addr) w_9 fun t59=>
  qy P zfi #[(Value.pointer (some (⟨b4,0,none⟩:Addr))),(Value.agg t59)] [] true w_9 fun (_:Unit) w_10=>
  zbv .i64 s 1 fun t61=>
  k_2 t61 w_10) (
  k_1 () w_7)) 0 w_6) (
  ld .slc (⟨b1,4,none⟩:Addr) w_4 fun (t19:(Option Addr×Nat×Nat))=>
  cvI .u64 (t19.2.1:Int) fun t21=>
  qy P zdr #[(Value.pointer (some (⟨b4,0,none⟩:Addr))),(Value.int .u64 t21)] [] true w_4 fun (_:Unit) w_11=>
  ld .slc (⟨b1,4,none⟩:Addr) w_11 fun (t24:(Option Addr×Nat×Nat))=>
  za4 Int (fun s_1 w_12 k_3=>
  xu (decide (s_1 < (t24.2.1:Int))) (
  ixS t24.1 t24.2.1 34 s_1 fun t28=>
  ldA P 34 t28 w_12 fun t29=>
  zbm (zc P zu) zu w_12 fun b8 w_13=>
  zb8 P (storeVar zu (⟨b8,0,none⟩:Addr) (Value.agg t29)) w_13 fun w_14=>
  ld .str (⟨b8,0,none⟩:Addr) w_14 fun (t31:ByteArray)=>
  qy P zgx #[(Value.pointer (some (⟨b4,0,none⟩:Addr))),(Value.string t31)] [] true w_14 fun (_:Unit) w_15=>
  ld (.int .i64) (⟨b8,1,none⟩:Addr) w_15 fun (t34:Int)=>
  cvI .u64 t34 fun t35=>
  qy P zdr #[(Value.pointer (some (⟨b4,0,none⟩:Addr))),(Value.int .u64 t35)] [] true w_15 fun (_:Unit) w_16=>
  ldA P 32 (⟨b8,2,none⟩:Addr) w_16 fun t38=>
  qy P zfi #[(Value.pointer (some (⟨b4,0,none⟩:Addr))),(Value.agg t38)] [] true w_16 fun (_:Unit) w_17=>
  zbv .i64 s_1 1 fun t40=>
  k_3 t40 w_17) (
  k_1 () w_12)) 0 w_11))) (fun _ w_18=>
  k () w_18)) (fun _ w_19=>
  qy P zho #[(Value.pointer (some (⟨b4,0,none⟩:Addr)))] [.slc] false w_19 fun (t62:(Option Addr×Nat×Nat)) w_20=>
  R (.returned (Value.tuple #[(Value.slice t62.1 t62.2.1 t62.2.2),(Value.int .i64 0)])) w_20))
theorem zwq {n:Value}{R:Ending->World->Prop}{w:World}(hT:zp6 n R w):zy P zk6 #[n] w R:=
 fnT (.seq .leaf (.seq (.seq .leaf (.cond (.seq .leaf .leaf) .leaf)) (.seq .leaf (.seq .leaf (.join [] (.seq .leaf (.jblk [] (.seq .leaf (.cond .leaf (.seq .leaf (.cond (.seq .leaf (.seq .leaf (.blk (.loop [(55,.int .i64)] (.seq .leaf (.seq (.cond .leaf .leaf) (.seq (.blk (.seq .leaf .leaf)) .leaf))))))) (.seq .leaf (.seq .leaf (.blk (.loop [(26,.int .i64)] (.seq .leaf (.seq (.cond .leaf .leaf) (.seq (.blk (.seq .leaf (.seq .leaf (.seq .leaf .leaf)))) .leaf))))))))))))) (.seq .leaf .leaf)))))) Tryz.func114 hT
def zz4 (n:Int) (R:Ending->World->Prop) (w:World):Prop:=
  za4 (Int×(Option Addr×Nat×Nat)) (fun s w_1 k=>
  xu (decide (s.1>=128)) (
  qa3 s.1 128 fun t8=>
  zbv .u64 t8 128 fun t9=>
  cvI .u8 t9 fun t10=>
  zaw P (Instr.buildSlice zi 1 #[(0,(Value.int .u8 t10))]) .slc w_1 fun (t11:(Option Addr×Nat×Nat)) w_2=>
  zaw P (Builtin.append_ #[zi,zi] zi #[(Value.slice s.2.1 s.2.2.1 s.2.2.2),(Value.slice t11.1 t11.2.1 t11.2.2)]) .slc w_2 fun (t12:(Option Addr×Nat×Nat)) w_3=>
  qe3 .u64 s.1 128 fun t14=>
  k (t14,(t12.1,t12.2.1,t12.2.2)) w_3) (
  cvI .u8 s.1 fun t17=>
  zaw P (Instr.buildSlice zi 1 #[(0,(Value.int .u8 t17))]) .slc w_1 fun (t18:(Option Addr×Nat×Nat)) w_4=>
  zaw P (Builtin.append_ #[zi,zi] zi #[(Value.slice s.2.1 s.2.2.1 s.2.2.2),(Value.slice t18.1 t18.2.1 t18.2.2)]) .slc w_4 fun (t19:(Option Addr×Nat×Nat)) w_5=>
  R (.returned (Value.slice t19.1 t19.2.1 t19.2.2)) w_5)) (n,(none,0,0)) w
theorem z6a {n:Int}{R:Ending->World->Prop}{w:World}(hT:zz4 n R w):zy P zix #[(Value.int .u64 n)] w R:=
 fnT (.seq .leaf (.seq .leaf (.seq (.blk (.loop [(0,.int .u64),(3,.slc)] (.seq (.seq .leaf (.cond .leaf .leaf)) (.blk (.seq .leaf .leaf))))) (.seq .leaf .leaf)))) Tryz.func130 hT
def zwx (s:ByteArray) (R:Ending->World->Prop) (w:World):Prop:=
  cvI .u64 (s.size:Int) fun t5=>
  qy P zix #[(Value.int .u64 t5)] [.slc] false w fun (t6:(Option Addr×Nat×Nat)) w_1=>
  zaw P (Builtin.append_ #[zi,jw] zi #[(Value.slice t6.1 t6.2.1 t6.2.2),(Value.string s)]) .slc w_1 fun (t8:(Option Addr×Nat×Nat)) w_2=>
  R (.returned (Value.slice t8.1 t8.2.1 t8.2.2)) w_2
theorem z2w {s:ByteArray}{R:Ending->World->Prop}{w:World}(hT:zwx s R w):zy P zm9 #[(Value.string s)] w R:=
 fnT (.seq .leaf (.seq .leaf .leaf)) Tryz.func131 hT
def zvy (b:Option Addr) (b_l b_c:Nat) (R:Ending->World->Prop) (w:World):Prop:=
  zaw P (Builtin.append_ #[zi,zi] zi #[(Value.slice none 0 0),(Value.slice b b_l b_c)]) .slc w fun (t4:(Option Addr×Nat×Nat)) w_1=>
  zba P (Instr.build zkl #[(0,(Value.slice t4.1 t4.2.1 t4.2.2))]) .any w_1 fun (t5:Value)=>
  zbm (Value.cells t5) zkl w_1 fun b6 w_2=>
  R (.returned (Value.pointer (some (⟨b6,0,none⟩:Addr)))) w_2
theorem z0t {b:Option Addr}{b_l b_c:Nat}{R:Ending->World->Prop}{w:World}(hT:zvy b b_l b_c R w):zy P zot #[(Value.slice b b_l b_c)] w R:=
 fnT (.seq .leaf (.seq .leaf .leaf)) Tryz.func137 hT
def ztp (inv:Option Addr) (R:Ending->World->Prop) (w:World):Prop:=
  zbm (zc P zh) zh w fun b2 w_1=>
  qy P zem #[(Value.pointer inv)] [.int .u64] false w_1 fun (t5:Int) w_2=>
  zba P (Builtin.min_ #[zdh,zdh] zdh #[(Value.int .u64 t5),(Value.int .u64 9)]) (.int .u64) w_2 fun (t6:Int)=>
  cvI .i64 t6 fun t7=>
  zba P (Instr.build zh #[(0,(Value.int .i64 t7))]) .any w_2 fun (t8:Value)=>
  zbm (zc P zh) zh w_2 fun b3 w_3=>
  zb8 P (storeVar zh (⟨b3,0,none⟩:Addr) t8) w_3 fun w_4=>
  ku Unit (fun k=>
  ld (.int .i64) (⟨b3,0,none⟩:Addr) w_4 fun (t10:Int)=>
  ku Unit (fun k_1=>
  xu (t10==1) (
  qy P zhh #[(Value.pointer inv),(Value.int .i64 64)] [.str] false w_4 fun (t14:ByteArray) w_5=>
  stC (⟨b3,1,none⟩:Addr) (Value.string t14) w_5 fun w_6=>
  k_1 () w_6) (
  xu (t10==2) (
  qy P zem #[(Value.pointer inv)] [.int .u64] false w_4 fun (t19:Int) w_7=>
  zba P (Builtin.min_ #[zdh,zdh] zdh #[(Value.int .u64 t19),(Value.int .u64 1025)]) (.int .u64) w_7 fun (t20:Int)=>
  cvI .i64 t20 fun t21=>
  stC (⟨b3,2,none⟩:Addr) (Value.int .i64 t21) w_7 fun w_8=>
  ld (.int .i64) (⟨b3,2,none⟩:Addr) w_8 fun (t24:Int)=>
  qy P zhl #[(Value.int .i64 t24)] [.int .i64] false w_8 fun (t25:Int) w_9=>
  za4 Int (fun s w_10 k_2=>
  xu (decide (s < t25)) (
  zbn w_10 fun w_11=>
  ld .slc (⟨b3,3,none⟩:Addr) w_11 fun (t29:(Option Addr×Nat×Nat))=>
  qy P zfx #[(Value.pointer inv)] [.any] false w_11 fun (t31:Value) w_12=>
  ((ld .slc (⟨b3,3,none⟩:Addr) w_12 fun (t29_1:(Option Addr×Nat×Nat))=>
  (Value.slice t29_1.1 t29_1.2.1 t29_1.2.2)=(Value.slice t29.1 t29.2.1 t29.2.2)) /\
  zaw P (Instr.buildSlice zo 1 #[(0,t31)]) .slc w_12 fun (t32:(Option Addr×Nat×Nat)) w_13=>
  ((ld .slc (⟨b3,3,none⟩:Addr) w_13 fun (t29_2:(Option Addr×Nat×Nat))=>
  (Value.slice t29_2.1 t29_2.2.1 t29_2.2.2)=(Value.slice t29.1 t29.2.1 t29.2.2)) /\
  zaw P (Builtin.append_ #[zo,zo] zo #[(Value.slice t29.1 t29.2.1 t29.2.2),(Value.slice t32.1 t32.2.1 t32.2.2)]) .slc w_13 fun (t33:(Option Addr×Nat×Nat)) w_14=>
  stC (⟨b3,3,none⟩:Addr) (Value.slice t33.1 t33.2.1 t33.2.2) w_14 fun w_15=>
  zbv .i64 s 1 fun t35=>
  k_2 t35 w_15))) (
  k_1 () w_10)) 0 w_9) (
  xu (t10==3) (
  qy P zem #[(Value.pointer inv)] [.int .u64] false w_4 fun (t39:Int) w_16=>
  zba P (Builtin.min_ #[zdh,zdh] zdh #[(Value.int .u64 t39),(Value.int .u64 65)]) (.int .u64) w_16 fun (t40:Int)=>
  za4 Int (fun s_1 w_17 k_3=>
  xu (decide (s_1 < t40)) (
  zbn w_17 fun w_18=>
  ld .slc (⟨b3,4,none⟩:Addr) w_18 fun (t44:(Option Addr×Nat×Nat))=>
  qy P zhh #[(Value.pointer inv),(Value.int .i64 16)] [.str] false w_18 fun (t46:ByteArray) w_19=>
  ((ld .slc (⟨b3,4,none⟩:Addr) w_19 fun (t44_1:(Option Addr×Nat×Nat))=>
  (Value.slice t44_1.1 t44_1.2.1 t44_1.2.2)=(Value.slice t44.1 t44.2.1 t44.2.2)) /\
  qy P zem #[(Value.pointer inv)] [.int .u64] false w_19 fun (t48:Int) w_20=>
  ((ld .slc (⟨b3,4,none⟩:Addr) w_20 fun (t44_2:(Option Addr×Nat×Nat))=>
  (Value.slice t44_2.1 t44_2.2.1 t44_2.2.2)=(Value.slice t44.1 t44.2.1 t44.2.2)) /\
  zba P (Builtin.min_ #[zdh,zdh] zdh #[(Value.int .u64 t48),(Value.int .u64 9)]) (.int .u64) w_20 fun (t49:Int)=>
  cvI .i64 t49 fun t50=>
  qy P zfx #[(Value.pointer inv)] [.any] false w_20 fun (t52:Value) w_21=>
  ((zba P (Builtin.min_ #[zdh,zdh] zdh #[(Value.int .u64 t48),(Value.int .u64 9)]) (.int .u64) w_21 fun (t49_1:Int)=>
  (Value.int .u64 t49_1)=(Value.int .u64 t49)) /\
  ((ld .slc (⟨b3,4,none⟩:Addr) w_21 fun (t44_3:(Option Addr×Nat×Nat))=>
  (Value.slice t44_3.1 t44_3.2.1 t44_3.2.2)=(Value.slice t44.1 t44.2.1 t44.2.2)) /\
  zba P (Instr.build zu #[(0,(Value.string t46)),(1,(Value.int .i64 t50)),(2,t52)]) .any w_21 fun (t53:Value)=>
  zaw P (Instr.buildSlice xg 1 #[(0,t53)]) .slc w_21 fun (t54:(Option Addr×Nat×Nat)) w_22=>
  ((ld .slc (⟨b3,4,none⟩:Addr) w_22 fun (t44_4:(Option Addr×Nat×Nat))=>
  (Value.slice t44_4.1 t44_4.2.1 t44_4.2.2)=(Value.slice t44.1 t44.2.1 t44.2.2)) /\
  zaw P (Builtin.append_ #[xg,xg] xg #[(Value.slice t44.1 t44.2.1 t44.2.2),(Value.slice t54.1 t54.2.1 t54.2.2)]) .slc w_22 fun (t55:(Option Addr×Nat×Nat)) w_23=>
  stC (⟨b3,4,none⟩:Addr) (Value.slice t55.1 t55.2.1 t55.2.2) w_23 fun w_24=>
  zbv .u64 s_1 1 fun t57=>
  k_3 t57 w_24)))))) (
  k_1 () w_17)) 0 w_16) (
  k_1 () w_4)))) (fun _ w_25=>
  k () w_25)) (fun _ w_26=>
  ldA P 5 (⟨b3,0,none⟩:Addr) w_26 fun t58=>
  zb8 P (storeVar zh (⟨b2,0,none⟩:Addr) (Value.agg t58)) w_26 fun w_27=>
  ldA P 5 (⟨b2,0,none⟩:Addr) w_27 fun t2=>
  R (.returned (Value.agg t2)) w_27)
theorem z1k {inv:Option Addr}{R:Ending->World->Prop}{w:World}(hT:ztp inv R w):zy P zow #[(Value.pointer inv)] w R:=
 fnT (.seq .leaf (.seq .leaf (.join [] (.seq .leaf (.jblk [] (.seq .leaf (.cond .leaf (.seq .leaf (.cond (.seq .leaf (.seq .leaf (.blk (.loop [(26,.int .i64)] (.seq .leaf (.seq (.cond .leaf .leaf) (.seq (.blk (.tree (.op 0 [] (.op 2 [] (.op 1 [] (.op 3 [1] (.op 4 [1] (.op 5 [] (.op 6 [] (.op 7 [] .done)))))))))) .leaf))))))) (.seq .leaf (.cond (.seq .leaf (.blk (.loop [(41,.int .u64)] (.seq .leaf (.seq (.cond .leaf .leaf) (.seq (.blk (.tree (.op 0 [] (.op 2 [] (.op 4 [] (.op 8 [] (.op 1 [] (.op 3 [1] (.op 5 [1] (.op 6 [] (.op 7 [] (.op 9 [1,6] (.op 10 [] (.op 11 [1] (.op 12 [] (.op 13 [] (.op 14 [] .done))))))))))))))))) .leaf)))))) .leaf)))))))) (.seq .leaf .leaf)))) Tryz.func138 hT
def zqu (i:Option Addr) (R:Ending->World->Prop) (w:World):Prop:=
  xu (!(Option.isNone i)) (
  zn i fun p=>
  ld (.int .i64) (Addr.add p 1) w fun (t9:Int)=>
  xu (t9==0) (
  zn i fun p_1=>
  ld .slc p_1 w fun (t16:(Option Addr×Nat×Nat))=>
  R (.returned (Value.bool ((t16.2.1:Int)==0))) w) (
  R (.returned (Value.bool false)) w)) (
  R (.returned (Value.bool false)) w)
theorem zwl {i:Option Addr}{R:Ending->World->Prop}{w:World}(hT:zqu i R w):zy P zky #[(Value.pointer i)] w R:=
 fnT (.seq .leaf (.seq .leaf .leaf)) Tryz.func139 hT
def zsq (n:Value) (R:Ending->World->Prop) (w:World):Prop:=
  zbm (Value.cells n) zh w fun b1 w_1=>
  ld (.int .i64) (⟨b1,0,none⟩:Addr) w_1 fun (t4:Int)=>
  xu (t4==1) (
  ld .str (⟨b1,1,none⟩:Addr) w_1 fun (t8:ByteArray)=>
  xu (decide ((t8.size:Int) > 0)) (
  ld .str (⟨b1,1,none⟩:Addr) w_1 fun (t13:ByteArray)=>
  xu (decide ((t13.size:Int)<=64)) (
  ld (.int .i64) (⟨b1,2,none⟩:Addr) w_1 fun (t19:Int)=>
  xu (t19==0) (
  ld .slc (⟨b1,3,none⟩:Addr) w_1 fun (t24:(Option Addr×Nat×Nat))=>
  xu ((t24.2.1:Int)==0) (
  ld .slc (⟨b1,4,none⟩:Addr) w_1 fun (t30:(Option Addr×Nat×Nat))=>
  R (.returned (Value.bool ((t30.2.1:Int)==0))) w_1) (
  R (.returned (Value.bool false)) w_1)) (
  R (.returned (Value.bool false)) w_1)) (
  R (.returned (Value.bool false)) w_1)) (
  R (.returned (Value.bool false)) w_1)) (
  xu (t4==2) (
  zbn w_1 fun w_2=>
  ld .str (⟨b1,1,none⟩:Addr) w_2 fun (t37:ByteArray)=>
  xu (t37.toList==(ByteArray.mk #[]).toList) (
  ld (.int .i64) (⟨b1,2,none⟩:Addr) w_2 fun (t41:Int)=>
  xu (decide (t41>=0)) (
  ld (.int .i64) (⟨b1,2,none⟩:Addr) w_2 fun (t46:Int)=>
  xu (decide (t46<=1024)) (
  ld .slc (⟨b1,3,none⟩:Addr) w_2 fun (t51:(Option Addr×Nat×Nat))=>
  ld (.int .i64) (⟨b1,2,none⟩:Addr) w_2 fun (t54:Int)=>
  qy P zhl #[(Value.int .i64 t54)] [.int .i64] false w_2 fun (t55:Int) w_3=>
  ((ld .slc (⟨b1,3,none⟩:Addr) w_3 fun (t51_1:(Option Addr×Nat×Nat))=>
  (Value.slice t51_1.1 t51_1.2.1 t51_1.2.2)=(Value.slice t51.1 t51.2.1 t51.2.2)) /\
  xu ((t51.2.1:Int)==t55) (
  ld .slc (⟨b1,4,none⟩:Addr) w_3 fun (t60:(Option Addr×Nat×Nat))=>
  R (.returned (Value.bool ((t60.2.1:Int)==0))) w_3) (
  R (.returned (Value.bool false)) w_3))) (
  ((undef=undef) /\
  R (.returned (Value.bool false)) w_2))) (
  ((undef=undef) /\
  R (.returned (Value.bool false)) w_2))) (
  ((undef=undef) /\
  R (.returned (Value.bool false)) w_2))) (
  xu (t4==3) (
  ld .str (⟨b1,1,none⟩:Addr) w_1 fun (t67:ByteArray)=>
  xu (t67.toList==(ByteArray.mk #[]).toList) (
  ld (.int .i64) (⟨b1,2,none⟩:Addr) w_1 fun (t71:Int)=>
  xu (t71==0) (
  ld .slc (⟨b1,3,none⟩:Addr) w_1 fun (t76:(Option Addr×Nat×Nat))=>
  xu ((t76.2.1:Int)==0) (
  ld .slc (⟨b1,4,none⟩:Addr) w_1 fun (t82:(Option Addr×Nat×Nat))=>
  qy P zk0 #[(Value.slice t82.1 t82.2.1 t82.2.2)] [.bool] false w_1 fun (t83:Bool) w_4=>
  R (.returned (Value.bool t83)) w_4) (
  R (.returned (Value.bool false)) w_1)) (
  R (.returned (Value.bool false)) w_1)) (
  R (.returned (Value.bool false)) w_1)) (
  R (.returned (Value.bool false)) w_1)))
theorem zyv {n:Value}{R:Ending->World->Prop}{w:World}(hT:zsq n R w):zy P zjf #[n] w R:=
 fnT (.seq .leaf (.seq (.seq .leaf (.blk (.seq .leaf (.cond (.seq .leaf .leaf) (.seq .leaf (.cond (.seq (.tree (.op 0 [] (.op 1 [] (.op 2 [] (.op 3 [] (.op 4 [] (.op 5 [] (.op 6 [] (.op 7 [] (.op 8 [] (.op 9 [] (.op 10 [] (.op 11 [] (.op 12 [] (.op 13 [] (.op 14 [] (.op 17 [] (.op 15 [] (.op 16 [] (.op 18 [] (.op 19 [15] (.op 20 [] (.op 21 [] (.op 22 [] (.op 23 [] (.op 24 [] (.op 25 [] (.op 26 [] (.op 27 [] (.op 28 [] .done)))))))))))))))))))))))))))))) .leaf) (.seq .leaf (.cond (.seq .leaf .leaf) .leaf)))))))) (.seq .leaf .leaf))) Tryz.func140 hT
def zr1 (i:Option Addr) (R:Ending->World->Prop) (w:World):Prop:=
  zn i fun p=>
  ld (.int .i64) (Addr.add p 2) w fun (t9:Int)=>
  xu (t9 != 0) (
  R (.returned (Value.int .u64 0)) w) (
  za4 (Int×Int) (fun s w_1 k=>
  xu (decide (s.2 < 10)) (
  ku Int (fun k_1=>
  zbn w_1 fun w_2=>
  zn i fun p_1=>
  zn i fun p_2=>
  ld (.int .i64) (Addr.add p_1 1) w_2 fun (t18:Int)=>
  ld .slc p_2 w_2 fun (t22:(Option Addr×Nat×Nat))=>
  xu (decide (t18>=(t22.2.1:Int))) (
  qy P zcf #[(Value.pointer i),(Value.int .i64 20)] [] true w_2 fun (_:Unit) w_3=>
  R (.returned (Value.int .u64 0)) w_3) (
  zbn w_2 fun w_4=>
  zn i fun p_3=>
  zn i fun p_4=>
  ld .slc p_3 w_4 fun (t30:(Option Addr×Nat×Nat))=>
  ld (.int .i64) (Addr.add p_4 1) w_4 fun (t34:Int)=>
  ixS t30.1 t30.2.1 1 t34 fun t35=>
  ld (.int .u8) t35 w_4 fun (t36:Int)=>
  zn i fun p_5=>
  ld (.int .i64) (Addr.add p_5 1) w_4 fun (t40:Int)=>
  zbv .i64 t40 1 fun t41=>
  zn i fun p_6=>
  stC (Addr.add p_6 1) (Value.int .i64 t41) w_4 fun w_5=>
  ku Unit (fun k_2=>
  xu (s.2==9) (
  xu (decide (t36 > 1)) (
  qy P zcf #[(Value.pointer i),(Value.int .i64 21)] [] true w_5 fun (_:Unit) w_6=>
  R (.returned (Value.int .u64 0)) w_6) (
  xu (decide (s.2 > 0)) (
  xu (t36==0) (
  qy P zcf #[(Value.pointer i),(Value.int .i64 21)] [] true w_5 fun (_:Unit) w_7=>
  R (.returned (Value.int .u64 0)) w_7) (
  k_2 () w_5)) (
  k_2 () w_5))) (
  xu (decide (s.2 > 0)) (
  xu (t36==0) (
  qy P zcf #[(Value.pointer i),(Value.int .i64 21)] [] true w_5 fun (_:Unit) w_8=>
  R (.returned (Value.int .u64 0)) w_8) (
  k_2 () w_5)) (
  k_2 () w_5))) (fun _ w_9=>
  qa3 t36 128 fun t62=>
  cvI .u64 t62 fun t63=>
  zv3 .i64 7 s.2 fun t65=>
  cvI .u64 t65 fun t66=>
  z8i .u64 t63 t66 fun t67=>
  orI .u64 s.1 t67 fun t68=>
  xu (decide (t36 < 128)) (
  R (.returned (Value.int .u64 t68)) w_9) (
  k_1 t68 w_9)))) (fun s_2 w_10=>
  zbv .i64 s.2 1 fun t14=>
  k (s_2,t14) w_10)) (
  R (.returned (Value.int .u64 0)) w_1)) (0,0) w)
theorem zy4 {i:Option Addr}{R:Ending->World->Prop}{w:World}(hT:zr1 i R w):zy P zfa #[(Value.pointer i)] w R:=
 fnT (.seq .leaf (.seq (.seq .leaf (.cond (.seq .leaf .leaf) .leaf)) (.seq .leaf (.seq (.seq .leaf (.blk (.loop [(3,.int .u64),(4,.int .i64)] (.seq (.seq .leaf (.cond .leaf .leaf)) (.seq (.jblk [(3,.int .u64)] (.seq (.seq (.tree (.op 0 [] (.op 1 [] (.op 2 [] (.op 4 [] (.op 5 [] (.op 6 [] (.op 3 [] (.op 7 [] (.op 8 [] (.op 9 [] .done))))))))))) (.cond (.seq .leaf (.seq .leaf .leaf)) .leaf)) (.seq (.tree (.op 0 [] (.op 1 [] (.op 2 [] (.op 4 [] (.op 5 [] (.op 6 [] (.op 3 [] (.op 7 [] (.op 8 [] (.op 9 [] (.op 10 [] .done)))))))))))) (.seq .leaf (.join [] (.seq .leaf (.cond (.seq .leaf (.seq .leaf .leaf)) .leaf)) (.seq .leaf (.seq .leaf (.cond (.seq .leaf .leaf) .leaf)))))))) .leaf))))) (.seq .leaf .leaf))))) Tryz.func142 hT
def zpx (i:Option Addr) (most:Int) (R:Ending->World->Prop) (w:World):Prop:=
  qy P zfa #[(Value.pointer i)] [.int .u64] false w fun (t8:Int) w_1=>
  zn i fun p=>
  ld (.int .i64) (Addr.add p 2) w_1 fun (t12:Int)=>
  xu (t12 != 0) (
  R (.returned (Value.string (ByteArray.mk #[]))) w_1) (
  ku Unit (fun k=>
  xu (decide (most < 0)) (
  xu (decide (t8 > 0)) (
  qy P zcf #[(Value.pointer i),(Value.int .i64 2)] [] true w_1 fun (_:Unit) w_2=>
  R (.returned (Value.string (ByteArray.mk #[]))) w_2) (
  xu (decide (most>=0)) (
  cvI .u64 most fun t26=>
  xu (decide (t8 > t26)) (
  qy P zcf #[(Value.pointer i),(Value.int .i64 2)] [] true w_1 fun (_:Unit) w_3=>
  R (.returned (Value.string (ByteArray.mk #[]))) w_3) (
  k () w_1)) (
  k () w_1))) (
  xu (decide (most>=0)) (
  cvI .u64 most fun t26_1=>
  xu (decide (t8 > t26_1)) (
  qy P zcf #[(Value.pointer i),(Value.int .i64 2)] [] true w_1 fun (_:Unit) w_4=>
  R (.returned (Value.string (ByteArray.mk #[]))) w_4) (
  k () w_1)) (
  k () w_1))) (fun _ w_5=>
  qy P zgw #[(Value.pointer i)] [.int .i64] false w_5 fun (t34:Int) w_6=>
  cvI .u64 t34 fun t35=>
  xu (decide (t8 > t35)) (
  qy P zcf #[(Value.pointer i),(Value.int .i64 20)] [] true w_6 fun (_:Unit) w_7=>
  R (.returned (Value.string (ByteArray.mk #[]))) w_7) (
  zbn w_6 fun w_8=>
  zn i fun p_1=>
  zn i fun p_2=>
  zn i fun p_3=>
  cvI .i64 t8 fun t52=>
  ld .slc p_1 w_8 fun (t42:(Option Addr×Nat×Nat))=>
  ld (.int .i64) (Addr.add p_2 1) w_8 fun (t46:Int)=>
  ld (.int .i64) (Addr.add p_3 1) w_8 fun (t50:Int)=>
  zbv .i64 t50 t52 fun t53=>
  zba P (Instr.sliceAt zi (Value.slice t42.1 t42.2.1 t42.2.2) (some (Value.int .i64 t46)) (some (Value.int .i64 t53)) none) .slc w_8 fun (t54:(Option Addr×Nat×Nat))=>
  zba P (convert zi jw (Value.slice t54.1 t54.2.1 t54.2.2)) .str w_8 fun (t55:ByteArray)=>
  zn i fun p_4=>
  ld (.int .i64) (Addr.add p_4 1) w_8 fun (t59:Int)=>
  cvI .i64 t8 fun t61=>
  zbv .i64 t59 t61 fun t62=>
  zn i fun p_5=>
  stC (Addr.add p_5 1) (Value.int .i64 t62) w_8 fun w_9=>
  R (.returned (Value.string t55)) w_9)))
theorem zv9 {i:Option Addr}{most:Int}{R:Ending->World->Prop}{w:World}(hT:zpx i most R w):zy P zh9 #[(Value.pointer i),(Value.int .i64 most)] w R:=
 fnT (.seq .leaf (.seq .leaf (.seq (.seq .leaf (.cond (.seq .leaf .leaf) .leaf)) (.join [] (.seq .leaf (.cond (.seq .leaf (.seq .leaf .leaf)) .leaf)) (.seq (.seq .leaf (.cond (.seq .leaf (.seq .leaf .leaf)) .leaf)) (.seq (.tree (.op 0 [] (.op 1 [] (.op 2 [] (.op 4 [] (.op 5 [] (.op 6 [] (.op 8 [] (.op 9 [] (.op 10 [] (.op 12 [] (.op 13 [] (.op 3 [] (.op 7 [] (.op 11 [] (.op 14 [] (.op 15 [] (.op 16 [] (.op 17 [] .done))))))))))))))))))) (.seq .leaf (.seq .leaf .leaf)))))))) Tryz.func143 hT
def zmt (i:Option Addr) (R:Ending->World->Prop) (w:World):Prop:=
  zbm (zc P zf) zf w fun b2 w_1=>
  zbm (zc P zf) zf w_1 fun b3 w_2=>
  zn i fun p=>
  ld (.int .i64) (Addr.add p 2) w_2 fun (t8:Int)=>
  xu (t8 != 0) (
  ldA P 32 (⟨b3,0,none⟩:Addr) w_2 fun t10=>
  zb8 P (storeVar zf (⟨b2,0,none⟩:Addr) (Value.agg t10)) w_2 fun w_3=>
  ldA P 32 (⟨b2,0,none⟩:Addr) w_3 fun t2=>
  R (.returned (Value.agg t2)) w_3) (
  qy P zgw #[(Value.pointer i)] [.int .i64] false w_2 fun (t12:Int) w_4=>
  xu (decide (t12 < 32)) (
  qy P zcf #[(Value.pointer i),(Value.int .i64 20)] [] true w_4 fun (_:Unit) w_5=>
  ldA P 32 (⟨b3,0,none⟩:Addr) w_5 fun t16=>
  zb8 P (storeVar zf (⟨b2,0,none⟩:Addr) (Value.agg t16)) w_5 fun w_6=>
  ldA P 32 (⟨b2,0,none⟩:Addr) w_6 fun t2_1=>
  R (.returned (Value.agg t2_1)) w_6) (
  za4 Int (fun s w_7 k=>
  xu (decide (s < 32)) (
  zbn w_7 fun w_8=>
  zn i fun p_1=>
  zn i fun p_2=>
  ld .slc p_1 w_8 fun (t25:(Option Addr×Nat×Nat))=>
  ld (.int .i64) (Addr.add p_2 1) w_8 fun (t29:Int)=>
  zbv .i64 t29 s fun t31=>
  ixS t25.1 t25.2.1 1 t31 fun t32=>
  ld (.int .u8) t32 w_8 fun (t33:Int)=>
  ixR (⟨b3,0,none⟩:Addr) 32 1 s fun t34=>
  stC t34 (Value.int .u8 t33) w_8 fun w_9=>
  zbv .i64 s 1 fun t20=>
  k t20 w_9) (
  zn i fun p_3=>
  ld (.int .i64) (Addr.add p_3 1) w_7 fun (t38:Int)=>
  zbv .i64 t38 32 fun t39=>
  zn i fun p_4=>
  stC (Addr.add p_4 1) (Value.int .i64 t39) w_7 fun w_10=>
  ldA P 32 (⟨b3,0,none⟩:Addr) w_10 fun t42=>
  zb8 P (storeVar zf (⟨b2,0,none⟩:Addr) (Value.agg t42)) w_10 fun w_11=>
  ldA P 32 (⟨b2,0,none⟩:Addr) w_11 fun t2_2=>
  R (.returned (Value.agg t2_2)) w_11)) 0 w_4))
theorem zs6 {i:Option Addr}{R:Ending->World->Prop}{w:World}(hT:zmt i R w):zy P zgh #[(Value.pointer i)] w R:=
 fnT (.seq .leaf (.seq .leaf (.seq (.seq .leaf (.cond (.seq .leaf .leaf) .leaf)) (.seq (.seq .leaf (.cond (.seq .leaf (.seq .leaf .leaf)) .leaf)) (.seq (.seq .leaf (.blk (.loop [(4,.int .i64)] (.seq (.seq .leaf (.cond .leaf .leaf)) (.seq (.blk (.tree (.op 0 [] (.op 1 [] (.op 2 [] (.op 3 [] (.op 5 [] (.op 6 [] (.op 7 [] (.op 9 [] (.op 4 [] (.op 8 [] (.op 10 [] (.op 11 [] (.op 12 [] (.op 13 [] (.op 14 [] .done))))))))))))))))) .leaf))))) (.seq .leaf (.seq .leaf .leaf))))))) Tryz.func144 hT
def zqi (i:Option Addr) (R:Ending->World->Prop) (w:World):Prop:=
  zbn w fun w_1=>
  zn i fun p=>
  zn i fun p_1=>
  ld .slc p w_1 fun (t6:(Option Addr×Nat×Nat))=>
  ld (.int .i64) (Addr.add p_1 1) w_1 fun (t11:Int)=>
  zk3 .i64 (t6.2.1:Int) t11 fun t12=>
  R (.returned (Value.int .i64 t12)) w_1
theorem zv5 {i:Option Addr}{R:Ending->World->Prop}{w:World}(hT:zqi i R w):zy P zgw #[(Value.pointer i)] w R:=
 fnT (.seq .leaf (.seq (.tree (.op 0 [] (.op 1 [] (.op 2 [] (.op 5 [] (.op 6 [] (.op 7 [] (.op 3 [] (.op 4 [] (.op 8 [] (.op 9 [] (.op 10 [] .done)))))))))))) .leaf)) Tryz.func145 hT
def zxk (n:Value) (R:Ending->World->Prop) (w:World):Prop:=
  zbm (Value.cells n) zh w fun b1 w_1=>
  za4 ((Option Addr×Nat×Nat)×Int) (fun s w_2 k=>
  ld .slc (⟨b1,3,none⟩:Addr) w_2 fun (t8:(Option Addr×Nat×Nat))=>
  xu (decide (s.2 < (t8.2.1:Int))) (
  ld .slc (⟨b1,3,none⟩:Addr) w_2 fun (t15:(Option Addr×Nat×Nat))=>
  ixS t15.1 t15.2.1 32 s.2 fun t17=>
  ldA P 32 t17 w_2 fun t18=>
  zba P (Instr.build zu #[(1,(Value.int .i64 1)),(2,(Value.agg t18))]) .any w_2 fun (t19:Value)=>
  zaw P (Instr.buildSlice xg 1 #[(0,t19)]) .slc w_2 fun (t20:(Option Addr×Nat×Nat)) w_3=>
  zaw P (Builtin.append_ #[xg,xg] xg #[(Value.slice s.1.1 s.1.2.1 s.1.2.2),(Value.slice t20.1 t20.2.1 t20.2.2)]) .slc w_3 fun (t21:(Option Addr×Nat×Nat)) w_4=>
  zbv .i64 s.2 1 fun t12=>
  k ((t21.1,t21.2.1,t21.2.2),t12) w_4) (
  za4 ((Option Addr×Nat×Nat)×Int) (fun s_1 w_5 k_1=>
  ld .slc (⟨b1,4,none⟩:Addr) w_5 fun (t24:(Option Addr×Nat×Nat))=>
  xu (decide (s_1.2 < (t24.2.1:Int))) (
  ld .slc (⟨b1,4,none⟩:Addr) w_5 fun (t31:(Option Addr×Nat×Nat))=>
  ixS t31.1 t31.2.1 34 s_1.2 fun t33=>
  ldA P 34 t33 w_5 fun t34=>
  zaw P (Instr.buildSlice xg 1 #[(0,(Value.agg t34))]) .slc w_5 fun (t35:(Option Addr×Nat×Nat)) w_6=>
  zaw P (Builtin.append_ #[xg,xg] xg #[(Value.slice s_1.1.1 s_1.1.2.1 s_1.1.2.2),(Value.slice t35.1 t35.2.1 t35.2.2)]) .slc w_6 fun (t36:(Option Addr×Nat×Nat)) w_7=>
  zbv .i64 s_1.2 1 fun t28=>
  k_1 ((t36.1,t36.2.1,t36.2.2),t28) w_7) (
  R (.returned (Value.slice s_1.1.1 s_1.1.2.1 s_1.1.2.2)) w_5)) ((s.1.1,s.1.2.1,s.1.2.2),0) w_2)) ((none,0,0),0) w_1
theorem z2u {n:Value}{R:Ending->World->Prop}{w:World}(hT:zxk n R w):zy P zrl #[n] w R:=
 fnT (.seq .leaf (.seq .leaf (.seq (.seq .leaf (.blk (.loop [(3,.slc),(4,.int .i64)] (.seq (.seq .leaf (.cond .leaf .leaf)) (.seq (.blk .leaf) .leaf))))) (.seq (.seq .leaf (.blk (.loop [(3,.slc),(5,.int .i64)] (.seq (.seq .leaf (.cond .leaf .leaf)) (.seq (.blk .leaf) .leaf))))) (.seq .leaf .leaf))))) Tryz.func146 hT
def zqa (i:Option Addr) (R:Ending->World->Prop) (w:World):Prop:=
  za4 (Int×Int) (fun s w_1 k=>
  ku Int (fun k_1=>
  qy P zjs #[(Value.pointer i)] [.int .u8,.bool] true w_1 fun (t11:(Int×Bool)) w_2=>
  xu (!t11.2) (
  R (.returned (Value.int .u64 0)) w_2) (
  ku Unit (fun k_2=>
  xu (s.2==9) (
  xu (decide (t11.1 > 1)) (
  qy P zcw #[(Value.pointer i),(Value.int .i64 21)] [] true w_2 fun (_:Unit) w_3=>
  R (.returned (Value.int .u64 0)) w_3) (
  xu (decide (s.2 > 0)) (
  xu (t11.1==0) (
  qy P zcw #[(Value.pointer i),(Value.int .i64 21)] [] true w_2 fun (_:Unit) w_4=>
  R (.returned (Value.int .u64 0)) w_4) (
  k_2 () w_2)) (
  k_2 () w_2))) (
  xu (decide (s.2 > 0)) (
  xu (t11.1==0) (
  qy P zcw #[(Value.pointer i),(Value.int .i64 21)] [] true w_2 fun (_:Unit) w_5=>
  R (.returned (Value.int .u64 0)) w_5) (
  k_2 () w_2)) (
  k_2 () w_2))) (fun _ w_6=>
  z3g .u8 t11.1 127 fun t34=>
  cvI .u64 t34 fun t35=>
  zv3 .i64 7 s.2 fun t37=>
  z8i .u64 t35 t37 fun t38=>
  orI .u64 s.1 t38 fun t39=>
  xu (decide (t11.1 < 128)) (
  R (.returned (Value.int .u64 t39)) w_6) (
  k_1 t39 w_6)))) (fun s_2 w_7=>
  zbv .i64 s.2 1 fun t8=>
  k (s_2,t8) w_7)) (0,0) w
theorem zwh {i:Option Addr}{R:Ending->World->Prop}{w:World}(hT:zqa i R w):zy P zem #[(Value.pointer i)] w R:=
 fnT (.seq .leaf (.seq .leaf (.seq .leaf (.blk (.loop [(3,.int .u64),(4,.int .i64)] (.seq (.jblk [(3,.int .u64)] (.seq .leaf (.seq (.seq .leaf (.cond (.seq .leaf .leaf) .leaf)) (.join [] (.seq .leaf (.cond (.seq .leaf (.seq .leaf .leaf)) .leaf)) (.seq .leaf (.seq .leaf (.cond (.seq .leaf .leaf) .leaf))))))) .leaf)))))) Tryz.func176 hT
def zoc (i:Option Addr) (most:Int) (R:Ending->World->Prop) (w:World):Prop:=
  qy P zem #[(Value.pointer i)] [.int .u64] false w fun (t7:Int) w_1=>
  ku Unit (fun k=>
  xu (Option.isNone i) (
  R (.returned (Value.string (ByteArray.mk #[]))) w_1) (
  zn i fun p=>
  ld (.int .i64) (Addr.add p 1) w_1 fun (t14:Int)=>
  xu (t14 != 0) (
  R (.returned (Value.string (ByteArray.mk #[]))) w_1) (
  k () w_1))) (fun _ w_2=>
  zba P (Builtin.max_ #[zbl,zbl] zbl #[(Value.int .i64 most),(Value.int .i64 0)]) (.int .i64) w_2 fun (t19:Int)=>
  cvI .u64 t19 fun t20=>
  xu (decide (t7 > t20)) (
  qy P zcw #[(Value.pointer i),(Value.int .i64 2)] [] true w_2 fun (_:Unit) w_3=>
  R (.returned (Value.string (ByteArray.mk #[]))) w_3) (
  cvI .i64 t7 fun t26=>
  qy P zfu #[(Value.pointer i),(Value.int .i64 t26)] [.slc] false w_2 fun (t27:(Option Addr×Nat×Nat)) w_4=>
  zba P (convert zi jw (Value.slice t27.1 t27.2.1 t27.2.2)) .str w_4 fun (t28:ByteArray)=>
  R (.returned (Value.string t28)) w_4))
theorem zt3 {i:Option Addr}{most:Int}{R:Ending->World->Prop}{w:World}(hT:zoc i most R w):zy P zhh #[(Value.pointer i),(Value.int .i64 most)] w R:=
 fnT (.seq .leaf (.seq .leaf (.join [] (.seq .leaf (.cond (.seq .leaf .leaf) .leaf)) (.seq (.seq .leaf (.cond (.seq .leaf (.seq .leaf .leaf)) .leaf)) (.seq .leaf .leaf))))) Tryz.func177 hT
def zmx (size:Int) (R:Ending->World->Prop) (w:World):Prop:=
  zbv .i64 size 64 fun t4=>
  zk3 .i64 t4 1 fun t5=>
  qe3 .i64 t5 64 fun t6=>
  R (.returned (Value.int .i64 t6)) w
theorem zp1 {size:Int}{R:Ending->World->Prop}{w:World}(hT:zmx size R w):zy P zhl #[(Value.int .i64 size)] w R:=
 fnT (.seq .leaf (.seq .leaf .leaf)) Tryz.func178 hT
def zlx (i:Option Addr) (R:Ending->World->Prop) (w:World):Prop:=
  zbm (zc P zf) zf w fun b2 w_1=>
  zbm (zc P zf) zf w_1 fun b3 w_2=>
  zbn w_2 fun w_3=>
  zba P (Instr.sliceAt zf (Value.pointer (some (⟨b3,0,none⟩:Addr))) none none none) .slc w_3 fun (t4:(Option Addr×Nat×Nat))=>
  qy P zfu #[(Value.pointer i),(Value.int .i64 32)] [.slc] false w_3 fun (t6:(Option Addr×Nat×Nat)) w_4=>
  ((zba P (Instr.sliceAt zf (Value.pointer (some (⟨b3,0,none⟩:Addr))) none none none) .slc w_4 fun (t4_1:(Option Addr×Nat×Nat))=>
  (Value.slice t4_1.1 t4_1.2.1 t4_1.2.2)=(Value.slice t4.1 t4.2.1 t4.2.2)) /\
  zaw P (Builtin.copy_ #[zi,zi] zbl #[(Value.slice t4.1 t4.2.1 t4.2.2),(Value.slice t6.1 t6.2.1 t6.2.2)]) (.int .i64) w_4 fun (_:Int) w_5=>
  ldA P 32 (⟨b3,0,none⟩:Addr) w_5 fun t8=>
  zb8 P (storeVar zf (⟨b2,0,none⟩:Addr) (Value.agg t8)) w_5 fun w_6=>
  ldA P 32 (⟨b2,0,none⟩:Addr) w_6 fun t2=>
  R (.returned (Value.agg t2)) w_6)
theorem zrn {i:Option Addr}{R:Ending->World->Prop}{w:World}(hT:zlx i R w):zy P zfx #[(Value.pointer i)] w R:=
 fnT (.seq .leaf (.seq .leaf (.seq (.tree (.op 1 [] (.op 0 [] (.op 2 [0] (.op 3 [] .done))))) (.seq .leaf .leaf)))) Tryz.func179 hT
def zqj (items:Option Addr) (items_l items_c:Nat) (R:Ending->World->Prop) (w:World):Prop:=
  za4 (ByteArray×Int) (fun s w_1 k=>
  xu (decide (s.2 < (items_l:Int))) (
  ku ByteArray (fun k_1=>
  ixS items items_l 34 s.2 fun t10=>
  ldA P 34 t10 w_1 fun t11=>
  zbm (zc P zu) zu w_1 fun b5 w_2=>
  zb8 P (storeVar zu (⟨b5,0,none⟩:Addr) (Value.agg t11)) w_2 fun w_3=>
  ku Unit (fun k_2=>
  ld .str (⟨b5,0,none⟩:Addr) w_3 fun (t13:ByteArray)=>
  xu ((Op.bytesLess t13.toList s.1.toList) || (t13.toList==s.1.toList)) (
  R (.returned (Value.bool false)) w_3) (
  ld .str (⟨b5,0,none⟩:Addr) w_3 fun (t18:ByteArray)=>
  zaw P (Instr.buildSlice zam 1 #[(0,(Value.string t18))]) .slc w_3 fun (t19:(Option Addr×Nat×Nat)) w_4=>
  qy P zlg #[(Value.slice t19.1 t19.2.1 t19.2.2)] [.int .i64] false w_4 fun (t20:Int) w_5=>
  xu (t20 != 0) (
  R (.returned (Value.bool false)) w_5) (
  k_2 () w_5))) (fun _ w_6=>
  ld (.int .i64) (⟨b5,1,none⟩:Addr) w_6 fun (t24:Int)=>
  ku ByteArray (fun k_3=>
  ku Unit (fun k_4=>
  ku Unit (fun k_5=>
  xu (t24==2) (
  k_5 () w_6) (
  xu (t24==3) (
  k_5 () w_6) (
  R (.returned (Value.bool false)) w_6))) (fun _ w_7=>
  k_4 () w_7)) (fun _ w_8=>
  ld .str (⟨b5,0,none⟩:Addr) w_8 fun (t30:ByteArray)=>
  k_3 t30 w_8)) (fun s_4 w_9=>
  k_1 s_4 w_9))) (fun s_5 w_10=>
  zbv .i64 s.2 1 fun t31=>
  k (s_5,t31) w_10)) (
  R (.returned (Value.bool (decide ((items_l:Int)<=64)))) w_1)) ((ByteArray.mk #[]),0) w
theorem zwp {items:Option Addr}{items_l items_c:Nat}{R:Ending->World->Prop}{w:World}(hT:zqj items items_l items_c R w):zy P zk0 #[(Value.slice items items_l items_c)] w R:=
 fnT (.seq .leaf (.seq .leaf (.seq (.seq .leaf (.blk (.loop [(3,.str),(8,.int .i64)] (.seq .leaf (.seq (.cond .leaf .leaf) (.seq (.jblk [(3,.str)] (.seq .leaf (.join [] (.seq .leaf (.cond (.seq .leaf .leaf) .leaf)) (.seq .leaf (.jblk [(3,.str)] (.seq (.blk (.join [] (.jblk [] (.blk (.seq (.seq (.seq .leaf (.cond .leaf .leaf)) (.seq .leaf (.cond .leaf .leaf))) .leaf))) (.seq .leaf .leaf))) (.seq (.seq .leaf .leaf) .leaf))))))) .leaf)))))) (.seq .leaf .leaf)))) Tryz.func180 hT
def zsh (i:Option Addr) (e:Int) (R:Ending->World->Prop) (w:World):Prop:=
  zn i fun p=>
  stC (Addr.add p 2) (Value.int .i64 e) w fun w_1=>
  zn i fun p_1=>
  ld .slc p_1 w_1 fun (t12:(Option Addr×Nat×Nat))=>
  zn i fun p_2=>
  stC (Addr.add p_2 1) (Value.int .i64 (t12.2.1:Int)) w_1 fun w_2=>
  R (.returned (Value.tuple #[])) w_2
theorem zyo {i:Option Addr}{e:Int}{R:Ending->World->Prop}{w:World}(hT:zsh i e R w):zy P zcf #[(Value.pointer i),(Value.int .i64 e)] w R:=
 fnT (.seq .leaf .leaf) Tryz.func181 hT
def zn0 (i:Option Addr) (R:Ending->World->Prop) (w:World):Prop:=
  ku Unit (fun k=>
  xu (Option.isNone i) (
  R (.returned (Value.tuple #[(Value.int .u8 0),(Value.bool false)])) w) (
  zn i fun p=>
  ld (.int .i64) (Addr.add p 1) w fun (t11:Int)=>
  xu (t11 != 0) (
  R (.returned (Value.tuple #[(Value.int .u8 0),(Value.bool false)])) w) (
  k () w))) (fun _ w_1=>
  zn i fun p_1=>
  ld .slc p_1 w_1 fun (t17:(Option Addr×Nat×Nat))=>
  xu ((t17.2.1:Int)==0) (
  qy P zcw #[(Value.pointer i),(Value.int .i64 20)] [] true w_1 fun (_:Unit) w_2=>
  R (.returned (Value.tuple #[(Value.int .u8 0),(Value.bool false)])) w_2) (
  zn i fun p_2=>
  ld .slc p_2 w_1 fun (t25:(Option Addr×Nat×Nat))=>
  ixS t25.1 t25.2.1 1 0 fun t26=>
  ld (.int .u8) t26 w_1 fun (t27:Int)=>
  zn i fun p_3=>
  ld .slc p_3 w_1 fun (t32:(Option Addr×Nat×Nat))=>
  zba P (Instr.sliceAt zi (Value.slice t32.1 t32.2.1 t32.2.2) (some (Value.int .i64 1)) none none) .slc w_1 fun (t33:(Option Addr×Nat×Nat))=>
  zn i fun p_4=>
  stC p_4 (Value.slice t33.1 t33.2.1 t33.2.2) w_1 fun w_3=>
  R (.returned (Value.tuple #[(Value.int .u8 t27),(Value.bool true)])) w_3))
theorem zuf {i:Option Addr}{R:Ending->World->Prop}{w:World}(hT:zn0 i R w):zy P zjs #[(Value.pointer i)] w R:=
 fnT (.seq .leaf (.join [] (.seq .leaf (.cond (.seq .leaf .leaf) .leaf)) (.seq (.seq .leaf (.cond (.seq .leaf (.seq .leaf .leaf)) .leaf)) (.seq .leaf (.seq .leaf (.seq .leaf .leaf)))))) Tryz.func204 hT
def zn2 (i:Option Addr) (e:Int) (R:Ending->World->Prop) (w:World):Prop:=
  zn i fun p=>
  stC p (Value.slice none 0 0) w fun w_1=>
  zn i fun p_1=>
  stC (Addr.add p_1 1) (Value.int .i64 e) w_1 fun w_2=>
  R (.returned (Value.tuple #[])) w_2
theorem zva {i:Option Addr}{e:Int}{R:Ending->World->Prop}{w:World}(hT:zn2 i e R w):zy P zcw #[(Value.pointer i),(Value.int .i64 e)] w R:=
 fnT .leaf Tryz.func205 hT
def zj4 (i:Option Addr) (n:Int) (R:Ending->World->Prop) (w:World):Prop:=
  ku Unit (fun k=>
  xu (Option.isNone i) (
  R (.returned (Value.slice none 0 0)) w) (
  zn i fun p=>
  ld (.int .i64) (Addr.add p 1) w fun (t12:Int)=>
  xu (t12 != 0) (
  R (.returned (Value.slice none 0 0)) w) (
  k () w))) (fun _ w_1=>
  zn i fun p_1=>
  ld .slc p_1 w_1 fun (t19:(Option Addr×Nat×Nat))=>
  xu (decide (n > (t19.2.1:Int))) (
  qy P zcw #[(Value.pointer i),(Value.int .i64 20)] [] true w_1 fun (_:Unit) w_2=>
  R (.returned (Value.slice none 0 0)) w_2) (
  zn i fun p_2=>
  ld .slc p_2 w_1 fun (t27:(Option Addr×Nat×Nat))=>
  zba P (Instr.sliceAt zi (Value.slice t27.1 t27.2.1 t27.2.2) none (some (Value.int .i64 n)) none) .slc w_1 fun (t29:(Option Addr×Nat×Nat))=>
  zn i fun p_3=>
  ld .slc p_3 w_1 fun (t34:(Option Addr×Nat×Nat))=>
  zba P (Instr.sliceAt zi (Value.slice t34.1 t34.2.1 t34.2.2) (some (Value.int .i64 n)) none none) .slc w_1 fun (t36:(Option Addr×Nat×Nat))=>
  zn i fun p_4=>
  stC p_4 (Value.slice t36.1 t36.2.1 t36.2.2) w_1 fun w_3=>
  R (.returned (Value.slice t29.1 t29.2.1 t29.2.2)) w_3))
theorem zmz {i:Option Addr}{n:Int}{R:Ending->World->Prop}{w:World}(hT:zj4 i n R w):zy P zfu #[(Value.pointer i),(Value.int .i64 n)] w R:=
 fnT (.seq .leaf (.join [] (.seq .leaf (.cond (.seq .leaf .leaf) .leaf)) (.seq (.seq .leaf (.cond (.seq .leaf (.seq .leaf .leaf)) .leaf)) (.seq .leaf (.seq .leaf (.seq .leaf .leaf)))))) Tryz.func206 hT
set_option maxRecDepth 100000
def zss (s:Option Addr) (list:Option Addr) (list_l list_c:Nat) (R:Ending->World->Prop) (w:World):Prop:=
  zbm (zc P zf) zf w fun b4 w_1=>
  xu (Option.isNone s) (
  zba P (Instr.build zf #[]) .any w_1 fun (t15:Value)=>
  zb8 P (storeVar zf (⟨b4,0,none⟩:Addr) t15) w_1 fun w_2=>
  ldA P 32 (⟨b4,0,none⟩:Addr) w_2 fun t4=>
  R (.returned (Value.tuple #[(Value.agg t4),(Value.int .i64 7)])) w_2) (
  qy P zme #[(Value.slice list list_l list_c)] [.slc,.int .i64] true w_1 fun (t18:((Option Addr×Nat×Nat)×Int)) w_3=>
  xu (t18.2 != 0) (
  zba P (Instr.build zf #[]) .any w_3 fun (t23:Value)=>
  zb8 P (storeVar zf (⟨b4,0,none⟩:Addr) t23) w_3 fun w_4=>
  ldA P 32 (⟨b4,0,none⟩:Addr) w_4 fun t4_1=>
  R (.returned (Value.tuple #[(Value.agg t4_1),(Value.int .i64 t18.2)])) w_4) (
  qy P zm7 #[(Value.slice t18.1.1 t18.1.2.1 t18.1.2.2)] [.map,.int .i64] true w_3 fun (t27:((Option Nat)×Int)) w_5=>
  zbm (zc P zaa) zaa w_5 fun b8 w_6=>
  stC (⟨b8,0,none⟩:Addr) (Value.map t27.1) w_6 fun w_7=>
  xu (t27.2 != 0) (
  zba P (Instr.build zf #[]) .any w_7 fun (t32:Value)=>
  zb8 P (storeVar zf (⟨b4,0,none⟩:Addr) t32) w_7 fun w_8=>
  ldA P 32 (⟨b4,0,none⟩:Addr) w_8 fun t4_2=>
  R (.returned (Value.tuple #[(Value.agg t4_2),(Value.int .i64 t27.2)])) w_8) (
  zbm (zc P jq) jq w_7 fun b9 w_9=>
  zbm (zc P zcv) zcv w_9 fun b10 w_10=>
  zba P (Instr.makeFunc (Go.Fn.func zhf) #[] #[(Value.pointer (some (⟨b8,0,none⟩:Addr))),(Value.pointer (some (⟨b10,0,none⟩:Addr))),(Value.pointer (some (⟨b9,0,none⟩:Addr)))]) .any w_10 fun (t34:Value)=>
  zb8 P (storeVar zcv (⟨b10,0,none⟩:Addr) t34) w_10 fun w_11=>
  ld .any (⟨b10,0,none⟩:Addr) w_11 fun (t35:Value)=>
  zok P t35 #[(Value.string (ByteArray.mk #[47]))] [.any] false w_11 fun (t36:Value) w_12=>
  zbm (zc P zf) zf w_12 fun b11 w_13=>
  zb8 P (storeVar zf (⟨b11,0,none⟩:Addr) t36) w_13 fun w_14=>
  ld .slc (⟨b9,0,none⟩:Addr) w_14 fun (t38:(Option Addr×Nat×Nat))=>
  qy P zek #[(Value.pointer s),(Value.slice t38.1 t38.2.1 t38.2.2)] [.int .i64] false w_14 fun (t39:Int) w_15=>
  xu (t39 != 0) (
  zba P (Instr.build zf #[]) .any w_15 fun (t42:Value)=>
  zb8 P (storeVar zf (⟨b4,0,none⟩:Addr) t42) w_15 fun w_16=>
  ldA P 32 (⟨b4,0,none⟩:Addr) w_16 fun t4_3=>
  R (.returned (Value.tuple #[(Value.agg t4_3),(Value.int .i64 t39)])) w_16) (
  ldA P 32 (⟨b11,0,none⟩:Addr) w_15 fun t44=>
  zb8 P (storeVar zf (⟨b4,0,none⟩:Addr) (Value.agg t44)) w_15 fun w_17=>
  ldA P 32 (⟨b4,0,none⟩:Addr) w_17 fun t4_4=>
  R (.returned (Value.tuple #[(Value.agg t4_4),(Value.int .i64 0)])) w_17))))
theorem zx7 {s:Option Addr}{list:Option Addr}{list_l list_c:Nat}{R:Ending->World->Prop}{w:World}(hT:zss s list list_l list_c R w):zy P zjh #[(Value.pointer s),(Value.slice list list_l list_c)] w R:=
 fnT (.seq .leaf (.seq (.seq .leaf (.cond (.seq .leaf .leaf) .leaf)) (.seq .leaf (.seq (.seq .leaf (.cond (.seq .leaf .leaf) .leaf)) (.seq .leaf (.seq (.seq .leaf (.cond (.seq .leaf .leaf) .leaf)) (.seq .leaf (.seq .leaf (.seq .leaf (.seq .leaf (.seq (.seq .leaf (.seq .leaf (.cond (.seq .leaf .leaf) .leaf))) (.seq .leaf .leaf)))))))))))) Tryz.func14 hT
def zr3 (list:Option Addr) (list_l list_c:Nat) (R:Ending->World->Prop) (w:World):Prop:=
  za4 ((Option Addr×Nat×Nat)×Int) (fun s w_1 k=>
  xu (decide (s.2 < (list_l:Int))) (
  ixS list list_l 3 s.2 fun t13=>
  ldA P 3 t13 w_1 fun t14=>
  zbm (zc P za1) za1 w_1 fun b6 w_2=>
  zb8 P (storeVar za1 (⟨b6,0,none⟩:Addr) (Value.agg t14)) w_2 fun w_3=>
  ld .str (⟨b6,0,none⟩:Addr) w_3 fun (t17:ByteArray)=>
  qy P zk2 #[(Value.string t17)] [.slc,.int .i64] true w_3 fun (t18:((Option Addr×Nat×Nat)×Int)) w_4=>
  xu (t18.2 != 0) (
  R (.returned (Value.tuple #[(Value.slice none 0 0),(Value.int .i64 t18.2)])) w_4) (
  ldA P 3 (⟨b6,0,none⟩:Addr) w_4 fun t26=>
  zba P (Instr.build qj #[(0,(Value.slice t18.1.1 t18.1.2.1 t18.1.2.2)),(1,(Value.agg t26))]) .any w_4 fun (t27:Value)=>
  zaw P (Instr.buildSlice za5 1 #[(0,t27)]) .slc w_4 fun (t28:(Option Addr×Nat×Nat)) w_5=>
  zaw P (Builtin.append_ #[za5,za5] za5 #[(Value.slice s.1.1 s.1.2.1 s.1.2.2),(Value.slice t28.1 t28.2.1 t28.2.2)]) .slc w_5 fun (t29:(Option Addr×Nat×Nat)) w_6=>
  zbv .i64 s.2 1 fun t30=>
  k ((t29.1,t29.2.1,t29.2.2),t30) w_6)) (
  qy P zax #[(Value.slice list list_l list_c),(Value.func (.func zjt) #[] #[])] [.bool] false w_1 fun (t32:Bool) w_7=>
  xu t32 (
  R (.returned (Value.tuple #[(Value.slice none 0 0),(Value.int .i64 1)])) w_7) (
  qy P zax #[(Value.slice list list_l list_c),(Value.func (.func zjw) #[] #[])] [.bool] false w_7 fun (t34:Bool) w_8=>
  xu t34 (
  R (.returned (Value.tuple #[(Value.slice none 0 0),(Value.int .i64 134)])) w_8) (
  R (.returned (Value.tuple #[(Value.slice s.1.1 s.1.2.1 s.1.2.2),(Value.int .i64 0)])) w_8)))) ((none,0,0),0) w
theorem zyd {list:Option Addr}{list_l list_c:Nat}{R:Ending->World->Prop}{w:World}(hT:zr3 list list_l list_c R w):zy P zme #[(Value.slice list list_l list_c)] w R:=
 fnT (.seq .leaf (.seq .leaf (.seq (.seq .leaf (.blk (.loop [(4,.slc),(11,.int .i64)] (.seq .leaf (.seq (.cond .leaf .leaf) (.seq (.blk (.seq .leaf (.seq .leaf (.seq (.seq .leaf (.cond (.seq .leaf .leaf) .leaf)) .leaf)))) .leaf)))))) (.seq (.seq .leaf (.cond (.seq .leaf .leaf) .leaf)) (.seq (.seq .leaf (.cond (.seq .leaf .leaf) .leaf)) (.seq .leaf .leaf)))))) Tryz.func54 hT
def zse (list:Option Addr) (list_l list_c:Nat) (R:Ending->World->Prop) (w:World):Prop:=
  zaw P (Instr.makeMap zb5 none) .map w fun (t18:(Option Nat)) w_1=>
  zba P (Instr.build za1 #[(1,(Value.bool true))]) .any w_1 fun (t19:Value)=>
  zba P (Instr.build qj #[(0,(Value.slice none 0 0)),(1,t19)]) .any w_1 fun (t20:Value)=>
  zb8 P (Instr.mapUpdate zb5 (Value.map t18) (Value.string (ByteArray.mk #[47])) t20) w_1 fun w_2=>
  za4 Int (fun s w_3 k=>
  xu (decide (s < (list_l:Int))) (
  ixS list list_l 4 s fun t26=>
  ldA P 4 t26 w_3 fun t27=>
  zbm (zc P qj) qj w_3 fun b6 w_4=>
  zb8 P (storeVar qj (⟨b6,0,none⟩:Addr) (Value.agg t27)) w_4 fun w_5=>
  ld .slc (⟨b6,0,none⟩:Addr) w_5 fun (t31:(Option Addr×Nat×Nat))=>
  qy P zge #[(Value.slice t31.1 t31.2.1 t31.2.2)] [.str] false w_5 fun (t32:ByteArray) w_6=>
  z6v P (Instr.lookup zb5 (Value.map t18) (Value.string t32) true) [.any,.bool] w_6 fun (t33:(Value×Bool))=>
  zbm (zc P qj) qj w_6 fun b7 w_7=>
  zb8 P (storeVar qj (⟨b7,0,none⟩:Addr) t33.1) w_7 fun w_8=>
  xu t33.2 (
  R (.returned (Value.tuple #[(Value.map none),(Value.int .i64 5)])) w_8) (
  zbn w_8 fun w_9=>
  ld .slc (⟨b6,0,none⟩:Addr) w_9 fun (t39:(Option Addr×Nat×Nat))=>
  ldA P 4 (⟨b6,0,none⟩:Addr) w_9 fun t41=>
  qy P zge #[(Value.slice t39.1 t39.2.1 t39.2.2)] [.str] false w_9 fun (t40:ByteArray) w_10=>
  ((ldA P 4 (⟨b6,0,none⟩:Addr) w_10 fun t41_1=>
  (Value.agg t41_1)=(Value.agg t41)) /\
  zb8 P (Instr.mapUpdate zb5 (Value.map t18) (Value.string t40) (Value.agg t41)) w_10 fun w_11=>
  zbv .i64 s 1 fun t42=>
  k t42 w_11))) (
  zaw P (Instr.makeMap zaa none) .map w_3 fun (t43:(Option Nat)) w_12=>
  za4 (Bool×Int) (fun s_1 w_13 k_1=>
  xu (decide (s_1.2 < (list_l:Int))) (
  ixS list list_l 4 s_1.2 fun t48=>
  ldA P 4 t48 w_13 fun t49=>
  zbm (zc P qj) qj w_13 fun b12 w_14=>
  zb8 P (storeVar qj (⟨b12,0,none⟩:Addr) (Value.agg t49)) w_14 fun w_15=>
  ld .slc (⟨b12,0,none⟩:Addr) w_15 fun (t51:(Option Addr×Nat×Nat))=>
  ld .slc (⟨b12,0,none⟩:Addr) w_15 fun (t53:(Option Addr×Nat×Nat))=>
  zk3 .i64 (t53.2.1:Int) 1 fun t55=>
  zba P (Instr.sliceAt zam (Value.slice t51.1 t51.2.1 t51.2.2) none (some (Value.int .i64 t55)) none) .slc w_15 fun (t56:(Option Addr×Nat×Nat))=>
  qy P zge #[(Value.slice t56.1 t56.2.1 t56.2.2)] [.str] false w_15 fun (t57:ByteArray) w_16=>
  z6v P (Instr.lookup zb5 (Value.map t18) (Value.string t57) true) [.any,.bool] w_16 fun (t61:(Value×Bool))=>
  zbm (zc P qj) qj w_16 fun b14 w_17=>
  zb8 P (storeVar qj (⟨b14,0,none⟩:Addr) t61.1) w_17 fun w_18=>
  xu (!t61.2) (
  R (.returned (Value.tuple #[(Value.map none),(Value.int .i64 4)])) w_18) (
  ku Bool (fun k_2=>
  xu s_1.1 (
  k_2 true w_18) (
  ld .bool (⟨b14,2,none⟩:Addr) w_18 fun (t70:Bool)=>
  k_2 (!t70) w_18)) (fun s_2 w_19=>
  zba P (Instr.lookup zaa (Value.map t43) (Value.string t57) false) .slc w_19 fun (t77:(Option Addr×Nat×Nat))=>
  ldA P 4 (⟨b12,0,none⟩:Addr) w_19 fun t78=>
  zaw P (Instr.buildSlice za5 1 #[(0,(Value.agg t78))]) .slc w_19 fun (t79:(Option Addr×Nat×Nat)) w_20=>
  zaw P (Builtin.append_ #[za5,za5] za5 #[(Value.slice t77.1 t77.2.1 t77.2.2),(Value.slice t79.1 t79.2.1 t79.2.2)]) .slc w_20 fun (t80:(Option Addr×Nat×Nat)) w_21=>
  zb8 P (Instr.mapUpdate zaa (Value.map t43) (Value.string t57) (Value.slice t80.1 t80.2.1 t80.2.2)) w_21 fun w_22=>
  zbv .i64 s_1.2 1 fun t81=>
  k_1 (s_2,t81) w_22))) (
  xu s_1.1 (
  R (.returned (Value.tuple #[(Value.map none),(Value.int .i64 70)])) w_13) (
  zaw P (Instr.range zaa (Value.map t43)) .ptr w_13 fun (t84:(Option Addr)) w_23=>
  za4 Unit (fun _ w_24 k_3=>
  zaw P (Instr.next (Value.pointer t84) false zdb) .any w_24 fun (t85:Value) w_25=>
  exV t85 0 .bool fun (t86:Bool)=>
  xu t86 (
  zba P (Instr.entry (Value.pointer t84)) .any w_25 fun (t87:Value)=>
  exV t87 1 .slc fun (t88:(Option Addr×Nat×Nat))=>
  xu (decide ((t88.2.1:Int) > 64)) (
  R (.returned (Value.tuple #[(Value.map none),(Value.int .i64 8)])) w_25) (
  qy P zcn #[(Value.slice t88.1 t88.2.1 t88.2.2),(Value.func (.func zfq) #[] #[])] [] true w_25 fun (_:Unit) w_26=>
  k_3 () w_26)) (
  R (.returned (Value.tuple #[(Value.map t43),(Value.int .i64 0)])) w_25)) () w_23))) (false,0) w_12)) 0 w_2
theorem zx1 {list:Option Addr}{list_l list_c:Nat}{R:Ending->World->Prop}{w:World}(hT:zse list list_l list_c R w):zy P zm7 #[(Value.slice list list_l list_c)] w R:=
 fnT (.seq .leaf (.seq .leaf (.seq (.seq .leaf (.blk (.loop [(24,.int .i64)] (.seq .leaf (.seq (.cond .leaf .leaf) (.seq (.blk (.seq .leaf (.seq (.seq .leaf (.seq .leaf (.cond (.seq .leaf .leaf) .leaf))) (.tree (.op 0 [] (.op 1 [] (.op 2 [] (.op 4 [] (.op 3 [4] (.op 5 [] .done)))))))))) .leaf)))))) (.seq .leaf (.seq .leaf (.seq (.seq .leaf (.blk (.loop [(10,.bool),(46,.int .i64)] (.seq .leaf (.seq (.cond .leaf .leaf) (.seq (.blk (.seq .leaf (.seq .leaf (.seq .leaf (.seq (.seq .leaf (.cond (.seq .leaf .leaf) .leaf)) (.join [(10,.bool)] .leaf .leaf)))))) .leaf)))))) (.seq (.seq .leaf (.cond (.seq .leaf .leaf) .leaf)) (.seq (.seq .leaf (.blk (.loop [] (.seq .leaf (.seq (.cond .leaf .leaf) (.blk (.seq .leaf (.seq (.seq .leaf (.cond (.seq .leaf .leaf) .leaf)) .leaf)))))))) (.seq .leaf .leaf))))))))) Tryz.func55 hT
def zod (atv:ByteArray) (c0:Option Addr) (c1:Option Addr) (c2:Option Addr) (R:Ending->World->Prop) (w:World):Prop:=
  zbm (zc P zf) zf w fun b5 w_1=>
  zba P (Instr.build zh #[(0,(Value.int .i64 3))]) .any w_1 fun (t11:Value)=>
  zbm (zc P zh) zh w_1 fun b6 w_2=>
  zb8 P (storeVar zh (⟨b6,0,none⟩:Addr) t11) w_2 fun w_3=>
  zn c0 fun p=>
  ld .map p w_3 fun (t12:(Option Nat))=>
  zba P (Instr.lookup zaa (Value.map t12) (Value.string atv) false) .slc w_3 fun (t14:(Option Addr×Nat×Nat))=>
  za4 Int (fun s w_4 k=>
  xu (decide (s < (t14.2.1:Int))) (
  ku Unit (fun k_1=>
  ku Unit (fun k_2=>
  ixS t14.1 t14.2.1 4 s fun t18=>
  ldA P 4 t18 w_4 fun t19=>
  zbm (zc P qj) qj w_4 fun b8 w_5=>
  zb8 P (storeVar qj (⟨b8,0,none⟩:Addr) (Value.agg t19)) w_5 fun w_6=>
  ld .slc (⟨b8,0,none⟩:Addr) w_6 fun (t21:(Option Addr×Nat×Nat))=>
  ld .slc (⟨b8,0,none⟩:Addr) w_6 fun (t23:(Option Addr×Nat×Nat))=>
  zk3 .i64 (t23.2.1:Int) 1 fun t25=>
  ixS t21.1 t21.2.1 1 t25 fun t26=>
  ld .str t26 w_6 fun (t27:ByteArray)=>
  zba P (Instr.build zu #[(0,(Value.string t27)),(1,(Value.int .i64 2))]) .any w_6 fun (t28:Value)=>
  zbm (zc P zu) zu w_6 fun b9 w_7=>
  zb8 P (storeVar zu (⟨b9,0,none⟩:Addr) t28) w_7 fun w_8=>
  ku Unit (fun k_3=>
  ld .bool (⟨b8,2,none⟩:Addr) w_8 fun (t31:Bool)=>
  xu t31 (
  zbn w_8 fun w_9=>
  zn c1 fun p_1=>
  ld .any p_1 w_9 fun (t32:Value)=>
  ld .slc (⟨b8,0,none⟩:Addr) w_9 fun (t34:(Option Addr×Nat×Nat))=>
  qy P zge #[(Value.slice t34.1 t34.2.1 t34.2.2)] [.str] false w_9 fun (t35:ByteArray) w_10=>
  ((zn c1 fun p_2=>
  ld .any p_2 w_10 fun (t32_1:Value)=>
  t32_1=t32) /\
  zok P t32 #[(Value.string t35)] [.any] false w_10 fun (t36:Value) w_11=>
  stC (⟨b9,1,none⟩:Addr) (Value.int .i64 3) w_11 fun w_12=>
  zb8 P (storeVar zf (⟨b9,2,none⟩:Addr) t36) w_12 fun w_13=>
  k_3 () w_13)) (
  zn c2 fun p_3=>
  ld .slc p_3 w_8 fun (t40:(Option Addr×Nat×Nat))=>
  ld .str (⟨b8,3,none⟩:Addr) w_8 fun (t43:ByteArray)=>
  qy P zoy #[(Value.slice t40.1 t40.2.1 t40.2.2),(Value.string t43)] [.slc,.any] true w_8 fun (t44:((Option Addr×Nat×Nat)×Value)) w_14=>
  zn c2 fun p_4=>
  stC p_4 (Value.slice t44.1.1 t44.1.2.1 t44.1.2.2) w_14 fun w_15=>
  zb8 P (storeVar zf (⟨b9,2,none⟩:Addr) t44.2) w_15 fun w_16=>
  k_3 () w_16)) (fun _ w_17=>
  ld .slc (⟨b6,4,none⟩:Addr) w_17 fun (t49:(Option Addr×Nat×Nat))=>
  ldA P 34 (⟨b9,0,none⟩:Addr) w_17 fun t50=>
  zaw P (Instr.buildSlice xg 1 #[(0,(Value.agg t50))]) .slc w_17 fun (t51:(Option Addr×Nat×Nat)) w_18=>
  zaw P (Builtin.append_ #[xg,xg] xg #[(Value.slice t49.1 t49.2.1 t49.2.2),(Value.slice t51.1 t51.2.1 t51.2.2)]) .slc w_18 fun (t52:(Option Addr×Nat×Nat)) w_19=>
  stC (⟨b6,4,none⟩:Addr) (Value.slice t52.1 t52.2.1 t52.2.2) w_19 fun w_20=>
  k_2 () w_20)) (fun _ w_21=>
  k_1 () w_21)) (fun _ w_22=>
  zbv .i64 s 1 fun t54=>
  k t54 w_22)) (
  zbm (zc P zf) zf w_4 fun b10 w_23=>
  zn c2 fun p_5=>
  ld .slc p_5 w_23 fun (t56:(Option Addr×Nat×Nat))=>
  ldA P 5 (⟨b6,0,none⟩:Addr) w_23 fun t57=>
  qy P zi8 #[(Value.slice t56.1 t56.2.1 t56.2.2),(Value.agg t57)] [.slc,.any] true w_23 fun (t58:((Option Addr×Nat×Nat)×Value)) w_24=>
  zn c2 fun p_6=>
  stC p_6 (Value.slice t58.1.1 t58.1.2.1 t58.1.2.2) w_24 fun w_25=>
  zb8 P (storeVar zf (⟨b10,0,none⟩:Addr) t58.2) w_25 fun w_26=>
  ldA P 32 (⟨b10,0,none⟩:Addr) w_26 fun t61=>
  zb8 P (storeVar zf (⟨b5,0,none⟩:Addr) (Value.agg t61)) w_26 fun w_27=>
  ldA P 32 (⟨b5,0,none⟩:Addr) w_27 fun t5=>
  R (.returned (Value.agg t5)) w_27)) 0 w_3
theorem zuo {atv:ByteArray}{c0:Option Addr}{c1:Option Addr}{c2:Option Addr}{R:Ending->World->Prop}{w:World}(hT:zod atv c0 c1 c2 R w):zy P zhf #[(Value.string atv),(Value.pointer c0),(Value.pointer c1),(Value.pointer c2)] w R:=
 fnT (.seq .leaf (.seq .leaf (.seq (.seq .leaf (.blk (.loop [(16,.int .i64)] (.seq .leaf (.seq (.cond .leaf .leaf) (.join [] (.jblk [] (.seq .leaf (.seq .leaf (.join [] (.seq .leaf (.cond (.tree (.op 1 [] (.op 5 [] (.op 0 [] (.op 2 [] (.op 3 [0] (.op 4 [] (.op 6 [] (.op 7 [] (.op 8 [] .done)))))))))) .leaf)) .leaf)))) .leaf)))))) (.seq .leaf (.seq .leaf (.seq .leaf .leaf)))))) Tryz.func56 hT
def zvv (list:Option Addr) (list_l list_c:Nat) (data:ByteArray) (R:Ending->World->Prop) (w:World):Prop:=
  zbm #[(Value.slice list list_l list_c)] jq w fun b2 w_1=>
  zbm (zc P zf) zf w_1 fun b5 w_2=>
  zba P (Instr.build zh #[(0,(Value.int .i64 2)),(2,(Value.int .i64 (data.size:Int)))]) .any w_2 fun (t11:Value)=>
  zbm (zc P zh) zh w_2 fun b6 w_3=>
  zb8 P (storeVar zh (⟨b6,0,none⟩:Addr) t11) w_3 fun w_4=>
  zaw P (convert jw zi (Value.string data)) .slc w_4 fun (t13:(Option Addr×Nat×Nat)) w_5=>
  qy P zdl #[(Value.slice t13.1 t13.2.1 t13.2.2),(Value.int .i64 64)] [.any] false w_5 fun (t14:Value) w_6=>
  zul P [.slc] t14 w_6 (fun (x:(Option Addr×Nat×Nat)) w_7 beg kc _ _=>
  beg w_7 fun w_8=>
  zbm (zc P zf) zf w_8 fun b8 w_9=>
  ld .slc (⟨b2,0,none⟩:Addr) w_9 fun (t17:(Option Addr×Nat×Nat))=>
  zba P (convert zi jw (Value.slice x.1 x.2.1 x.2.2)) .str w_9 fun (t19:ByteArray)=>
  zba P (Instr.build zh #[(0,(Value.int .i64 1)),(1,(Value.string t19))]) .any w_9 fun (t20:Value)=>
  qy P zi8 #[(Value.slice t17.1 t17.2.1 t17.2.2),t20] [.slc,.any] true w_9 fun (t21:((Option Addr×Nat×Nat)×Value)) w_10=>
  stC (⟨b2,0,none⟩:Addr) (Value.slice t21.1.1 t21.1.2.1 t21.1.2.2) w_10 fun w_11=>
  zb8 P (storeVar zf (⟨b8,0,none⟩:Addr) t21.2) w_11 fun w_12=>
  ld .slc (⟨b6,3,none⟩:Addr) w_12 fun (t25:(Option Addr×Nat×Nat))=>
  ldA P 32 (⟨b8,0,none⟩:Addr) w_12 fun t26=>
  zaw P (Instr.buildSlice zo 1 #[(0,(Value.agg t26))]) .slc w_12 fun (t27:(Option Addr×Nat×Nat)) w_13=>
  zaw P (Builtin.append_ #[zo,zo] zo #[(Value.slice t25.1 t25.2.1 t25.2.2),(Value.slice t27.1 t27.2.1 t27.2.2)]) .slc w_13 fun (t28:(Option Addr×Nat×Nat)) w_14=>
  stC (⟨b6,3,none⟩:Addr) (Value.slice t28.1 t28.2.1 t28.2.2) w_14 fun w_15=>
  kc w_15) (fun D w_16=>
  ld .slc (⟨b2,0,none⟩:Addr) w_16 fun (t30:(Option Addr×Nat×Nat))=>
  ldA P 5 (⟨b6,0,none⟩:Addr) w_16 fun t31=>
  qy P zi8 #[(Value.slice t30.1 t30.2.1 t30.2.2),(Value.agg t31)] [.slc,.any] true w_16 fun (t32:((Option Addr×Nat×Nat)×Value)) w_17=>
  zb8 P (storeVar zf (⟨b5,0,none⟩:Addr) t32.2) w_17 fun w_18=>
  (w_18.heap[D]?=some (.deferred (some []))/\∀ w_19,w_19=World.putObj w_18 D (.deferred none) ->
  ldA P 32 (⟨b5,0,none⟩:Addr) w_19 fun t5=>
  R (.returned (Value.tuple #[(Value.slice t32.1.1 t32.1.2.1 t32.1.2.2),(Value.agg t5)])) w_19)) (fun _D _w=>False) (fun _ _D _w=>False)
theorem zzv {list:Option Addr}{list_l list_c:Nat}{data:ByteArray}{R:Ending->World->Prop}{w:World}(hT:zvv list list_l list_c data R w):zy P zoy #[(Value.slice list list_l list_c),(Value.string data)] w R:=
 fnU (.seq (.pure .leaf) (.seq (.pure .leaf) (.seq (.seq (.pure .leaf) (.blk (.rng [(15,.slc)] false [] .leaf (.blk (.seq .leaf (.seq .leaf .leaf)))))) (.pure (.seq .leaf .leaf))))) Tryz.func58 hT
def zug (list:Option Addr) (list_l list_c:Nat) (n:Value) (R:Ending->World->Prop) (w:World):Prop:=
  zbm (Value.cells n) zh w fun b3 w_1=>
  zbm (zc P zf) zf w_1 fun b5 w_2=>
  ldA P 5 (⟨b3,0,none⟩:Addr) w_2 fun t9=>
  qy P zk6 #[(Value.agg t9)] [.slc,.int .i64] true w_2 fun (t10:((Option Addr×Nat×Nat)×Int)) w_3=>
  zaw P (Instr.buildSlice jq 1 #[(0,(Value.slice t10.1.1 t10.1.2.1 t10.1.2.2))]) .slc w_3 fun (t15:(Option Addr×Nat×Nat)) w_4=>
  zaw P (Builtin.append_ #[jq,jq] jq #[(Value.slice list list_l list_c),(Value.slice t15.1 t15.2.1 t15.2.2)]) .slc w_4 fun (t16:(Option Addr×Nat×Nat)) w_5=>
  qy P zi7 #[(Value.slice t10.1.1 t10.1.2.1 t10.1.2.2)] [.any] false w_5 fun (t18:Value) w_6=>
  zb8 P (storeVar zf (⟨b5,0,none⟩:Addr) t18) w_6 fun w_7=>
  ldA P 32 (⟨b5,0,none⟩:Addr) w_7 fun t5=>
  R (.returned (Value.tuple #[(Value.slice t16.1 t16.2.1 t16.2.2),(Value.agg t5)])) w_7
theorem z0r {list:Option Addr}{list_l list_c:Nat}{n:Value}{R:Ending->World->Prop}{w:World}(hT:zug list list_l list_c n R w):zy P zi8 #[(Value.slice list list_l list_c),n] w R:=
 fnT (.seq .leaf (.seq .leaf (.seq .leaf .leaf))) Tryz.func59 hT
def zxd (s:Option Addr) (d:Value) (kind:Int) (R:Ending->World->Prop) (w:World):Prop:=
  zbm (Value.cells d) zf w fun b4 w_1=>
  zbm (zc P zh) zh w_1 fun b6 w_2=>
  ldA P 32 (⟨b4,0,none⟩:Addr) w_2 fun t13=>
  qy P zfz #[(Value.pointer s),(Value.agg t13)] [.slc,.int .i64] true w_2 fun (t14:((Option Addr×Nat×Nat)×Int)) w_3=>
  xu (t14.2 != 0) (
  zba P (Instr.build zh #[]) .any w_3 fun (t19:Value)=>
  zb8 P (storeVar zh (⟨b6,0,none⟩:Addr) t19) w_3 fun w_4=>
  ldA P 5 (⟨b6,0,none⟩:Addr) w_4 fun t6=>
  R (.returned (Value.tuple #[(Value.agg t6),(Value.int .i64 t14.2)])) w_4) (
  qy P zh5 #[(Value.slice t14.1.1 t14.1.2.1 t14.1.2.2)] [.any,.int .i64] true w_3 fun (t23:(Value×Int)) w_5=>
  zbm (zc P zh) zh w_5 fun b10 w_6=>
  zb8 P (storeVar zh (⟨b10,0,none⟩:Addr) t23.1) w_6 fun w_7=>
  ku Unit (fun k=>
  xu (t23.2 != 0) (
  zba P (Instr.build zh #[]) .any w_7 fun (t34:Value)=>
  zb8 P (storeVar zh (⟨b6,0,none⟩:Addr) t34) w_7 fun w_8=>
  ldA P 5 (⟨b6,0,none⟩:Addr) w_8 fun t6_1=>
  R (.returned (Value.tuple #[(Value.agg t6_1),(Value.int .i64 21)])) w_8) (
  ld (.int .i64) (⟨b10,0,none⟩:Addr) w_7 fun (t30:Int)=>
  xu (t30 != kind) (
  zba P (Instr.build zh #[]) .any w_7 fun (t34_1:Value)=>
  zb8 P (storeVar zh (⟨b6,0,none⟩:Addr) t34_1) w_7 fun w_9=>
  ldA P 5 (⟨b6,0,none⟩:Addr) w_9 fun t6_2=>
  R (.returned (Value.tuple #[(Value.agg t6_2),(Value.int .i64 21)])) w_9) (
  k () w_7))) (fun _ w_10=>
  ldA P 5 (⟨b10,0,none⟩:Addr) w_10 fun t35=>
  zb8 P (storeVar zh (⟨b6,0,none⟩:Addr) (Value.agg t35)) w_10 fun w_11=>
  ldA P 5 (⟨b6,0,none⟩:Addr) w_11 fun t6_3=>
  R (.returned (Value.tuple #[(Value.agg t6_3),(Value.int .i64 0)])) w_11))
theorem z2e {s:Option Addr}{d:Value}{kind:Int}{R:Ending->World->Prop}{w:World}(hT:zxd s d kind R w):zy P zxm #[(Value.pointer s),d,(Value.int .i64 kind)] w R:=
 fnT (.seq .leaf (.seq .leaf (.seq (.seq .leaf (.cond (.seq .leaf .leaf) .leaf)) (.seq .leaf (.join [] (.seq .leaf (.cond (.seq .leaf .leaf) .leaf)) (.seq .leaf .leaf)))))) Tryz.func103 hT
def zcs (s:Option Addr) (s_l s_c:Nat) (f:Value) (R:Ending->World->Prop) (w:World):Prop:=
  qy P zbx #[(Value.slice s s_l s_c),f] [.int .i64] false w fun (t7:Int) w_1=>
  R (.returned (Value.bool (decide (t7>=0)))) w_1
theorem zev {s:Option Addr}{s_l s_c:Nat}{f:Value}{R:Ending->World->Prop}{w:World}(hT:zcs s s_l s_c f R w):zy P zax #[(Value.slice s s_l s_c),f] w R:=
 fnT (.seq .leaf (.seq .leaf .leaf)) Tryz.func106 hT
def zn5 (f:Value) (R:Ending->World->Prop) (w:World):Prop:=
  zbm (Value.cells f) za1 w fun b1 w_1=>
  ld .bool (⟨b1,1,none⟩:Addr) w_1 fun (t4:Bool)=>
  xu t4 (
  ld .str (⟨b1,2,none⟩:Addr) w_1 fun (t7:ByteArray)=>
  R (.returned (Value.bool (!(t7.toList==(ByteArray.mk #[]).toList)))) w_1) (
  R (.returned (Value.bool false)) w_1)
theorem zuj {f:Value}{R:Ending->World->Prop}{w:World}(hT:zn5 f R w):zy P zjt #[f] w R:=
 fnT (.seq .leaf (.seq .leaf .leaf)) Tryz.func107 hT
def znx (f:Value) (R:Ending->World->Prop) (w:World):Prop:=
  zbm (Value.cells f) za1 w fun b1 w_1=>
  ld .str (⟨b1,2,none⟩:Addr) w_1 fun (t4:ByteArray)=>
  R (.returned (Value.bool (decide ((t4.size:Int) > 1024)))) w_1
theorem zui {f:Value}{R:Ending->World->Prop}{w:World}(hT:znx f R w):zy P zjw #[f] w R:=
 fnT (.seq .leaf (.seq .leaf .leaf)) Tryz.func108 hT
def zn1 (a:Value) (b:Value) (R:Ending->World->Prop) (w:World):Prop:=
  zbm (Value.cells a) qj w fun b2 w_1=>
  zbm (Value.cells b) qj w_1 fun b3 w_2=>
  ld .slc (⟨b2,0,none⟩:Addr) w_2 fun (t6:(Option Addr×Nat×Nat))=>
  ld .slc (⟨b3,0,none⟩:Addr) w_2 fun (t8:(Option Addr×Nat×Nat))=>
  qy P zi5 #[(Value.slice t6.1 t6.2.1 t6.2.2),(Value.slice t8.1 t8.2.1 t8.2.2)] [.int .i64] false w_2 fun (t9:Int) w_3=>
  R (.returned (Value.int .i64 t9)) w_3
theorem ztt {a:Value}{b:Value}{R:Ending->World->Prop}{w:World}(hT:zn1 a b R w):zy P zfq #[a,b] w R:=
 fnT (.seq .leaf (.seq .leaf .leaf)) Tryz.func110 hT
def zfl (s:Option Addr) (s_l s_c:Nat) (n:Int) (R:Ending->World->Prop) (w:World):Prop:=
  zbm #[(Value.slice s s_l s_c)] zi w fun b2 w_1=>
  zbm #[(Value.int .i64 n)] zbl w_1 fun b3 w_2=>
  ku Unit (fun k=>
  ld (.int .i64) (⟨b3,0,none⟩:Addr) w_2 fun (t5:Int)=>
  xu (decide (t5 < 1)) (
  zba P (Instr.makeInterface jw (Value.string (ByteArray.mk #[99,97,110,110,111,116,32,98,101,32,108,101,115,115,32,116,104,97,110,32,49]))) .any w_2 fun (_:Value)=>
  False) (
  k () w_2)) (fun _ w_3=>
  zba P (Instr.makeFunc (Go.Fn.func zb9) #[] #[(Value.pointer (some (⟨b2,0,none⟩:Addr))),(Value.pointer (some (⟨b3,0,none⟩:Addr)))]) .any w_3 fun (t8:Value)=>
  R (.returned t8) w_3)
theorem zij {s:Option Addr}{s_l s_c:Nat}{n:Int}{R:Ending->World->Prop}{w:World}(hT:zfl s s_l s_c n R w):zy P zdl #[(Value.slice s s_l s_c),(Value.int .i64 n)] w R:=
 fnT (.seq .leaf (.join [] (.seq .leaf (.cond .leaf .leaf)) (.seq .leaf .leaf))) Tryz.func113 hT
def zc2 (s:Option Addr) (s_l s_c:Nat) (f:Value) (R:Ending->World->Prop) (w:World):Prop:=
  za4 Int (fun s_1 w_1 k=>
  xu (decide (s_1 < (s_l:Int))) (
  ixS s s_l 3 s_1 fun t14=>
  ldA P 3 t14 w_1 fun t15=>
  zok P f #[(Value.agg t15)] [.bool] false w_1 fun (t16:Bool) w_2=>
  xu t16 (
  R (.returned (Value.int .i64 s_1)) w_2) (
  zbv .i64 s_1 1 fun t18=>
  k t18 w_2)) (
  R (.returned (Value.int .i64 (-1))) w_1)) 0 w
theorem zfe {s:Option Addr}{s_l s_c:Nat}{f:Value}{R:Ending->World->Prop}{w:World}(hT:zc2 s s_l s_c f R w):zy P zbx #[(Value.slice s s_l s_c),f] w R:=
 fnT (.seq .leaf (.seq (.seq .leaf (.blk (.loop [(8,.int .i64)] (.seq .leaf (.seq (.cond .leaf .leaf) (.seq (.blk (.seq .leaf (.seq .leaf (.cond (.seq .leaf .leaf) .leaf)))) .leaf)))))) (.seq .leaf .leaf))) Tryz.func159 hT
def ze4 (yield:Value) (c0:Option Addr) (c1:Option Addr) (R:Ending->World->Prop) (w:World):Prop:=
  za4 Int (fun s w_1 k=>
  zn c0 fun p=>
  ld .slc p w_1 fun (t7:(Option Addr×Nat×Nat))=>
  xu (decide (s < (t7.2.1:Int))) (
  zbn w_1 fun w_2=>
  zn c1 fun p_1=>
  ld (.int .i64) p_1 w_2 fun (t13:Int)=>
  zn c0 fun p_2=>
  ld .slc p_2 w_2 fun (t14:(Option Addr×Nat×Nat))=>
  zba P (Instr.sliceAt zi (Value.slice t14.1 t14.2.1 t14.2.2) (some (Value.int .i64 s)) none none) .slc w_2 fun (t16:(Option Addr×Nat×Nat))=>
  zba P (Builtin.min_ #[zbl,zbl] zbl #[(Value.int .i64 t13),(Value.int .i64 (t16.2.1:Int))]) (.int .i64) w_2 fun (t18:Int)=>
  zn c0 fun p_3=>
  ld .slc p_3 w_2 fun (t20:(Option Addr×Nat×Nat))=>
  zbv .i64 s t18 fun t24=>
  zbv .i64 s t18 fun t27=>
  zba P (Instr.sliceAt zi (Value.slice t20.1 t20.2.1 t20.2.2) (some (Value.int .i64 s)) (some (Value.int .i64 t24)) (some (Value.int .i64 t27))) .slc w_2 fun (t28:(Option Addr×Nat×Nat))=>
  zok P yield #[(Value.slice t28.1 t28.2.1 t28.2.2)] [.bool] false w_2 fun (t29:Bool) w_3=>
  xu (!t29) (
  R (.returned (Value.tuple #[])) w_3) (
  zn c1 fun p_4=>
  ld (.int .i64) p_4 w_3 fun (t11:Int)=>
  zbv .i64 s t11 fun t12=>
  k t12 w_3)) (
  R (.returned (Value.tuple #[])) w_1)) 0 w
theorem zhu {yield:Value}{c0:Option Addr}{c1:Option Addr}{R:Ending->World->Prop}{w:World}(hT:ze4 yield c0 c1 R w):zy P zb9 #[yield,(Value.pointer c0),(Value.pointer c1)] w R:=
 fnT (.seq .leaf (.blk (.loop [(4,.int .i64)] (.seq (.seq .leaf (.cond .leaf .leaf)) (.seq (.blk (.seq (.tree (.op 2 [] (.op 0 [] (.op 1 [] (.op 3 [] (.op 4 [] (.op 5 [] (.op 6 [] .done)))))))) (.seq .leaf (.cond .leaf .leaf)))) .leaf))))) Tryz.func167 hT
set_option maxRecDepth 100000
set_option maxRecDepth 100000
def zmb (x:Value) (l:Option Addr) (l_l l_c:Nat) (R:Ending->World->Prop) (w:World):Prop:=
  zbm (Value.cells x) zew w fun b2 w_1=>
  qy P zoj #[] [.bool] false w_1 fun (t18:Bool) w_2=>
  xu (!t18) (
  R (.returned (Value.bool false)) w_2) (
  ldA P 3 (⟨b2,0,none⟩:Addr) w_2 fun t21=>
  qy P ztx #[(Value.agg t21)] [.ptr,.ptr,.slc] true w_2 fun (t22:((Option Addr)×(Option Addr)×(Option Addr×Nat×Nat))) w_3=>
  ku (Option Addr×Nat×Nat) (fun k=>
  za4 ((Option Addr×Nat×Nat)×Int) (fun s w_4 k_1=>
  ku Unit (fun k_2=>
  xu (decide (s.2 < (l_l:Int))) (
  xu (decide (s.2 < 10)) (
  k_2 () w_4) (
  k (s.1.1,s.1.2.1,s.1.2.2) w_4)) (
  k (s.1.1,s.1.2.1,s.1.2.2) w_4)) (fun _ w_5=>
  ku (Option Addr×Nat×Nat) (fun k_3=>
  ixS l l_l 2 s.2 fun t38=>
  ld (.int .i64) (Addr.add t38 1) w_5 fun (t40:Int)=>
  zba P (Instr.build zu #[(0,(Value.string (ByteArray.mk #[97,110,121]))),(1,(Value.int .i64 t40))]) .any w_5 fun (t41:Value)=>
  zbm (zc P zu) zu w_5 fun b10 w_6=>
  zb8 P (storeVar zu (⟨b10,0,none⟩:Addr) t41) w_6 fun w_7=>
  ku Unit (fun k_4=>
  xu (decide ((t22.2.2.2.1:Int) > 0)) (
  ixS l l_l 2 s.2 fun t48=>
  ld (.int .i64) t48 w_7 fun (t50:Int)=>
  cvI .u64 t50 fun t51=>
  cvI .u64 (t22.2.2.2.1:Int) fun t54=>
  qa3 t51 t54 fun t55=>
  cvI .i64 t55 fun t56=>
  ixS t22.2.2.1 t22.2.2.2.1 32 t56 fun t57=>
  ldA P 32 t57 w_7 fun t58=>
  zb8 P (storeVar zf (⟨b10,2,none⟩:Addr) (Value.agg t58)) w_7 fun w_8=>
  k_4 () w_8) (
  k_4 () w_7)) (fun _ w_9=>
  ldA P 34 (⟨b10,0,none⟩:Addr) w_9 fun t61=>
  zaw P (Instr.buildSlice xg 1 #[(0,(Value.agg t61))]) .slc w_9 fun (t62:(Option Addr×Nat×Nat)) w_10=>
  zaw P (Builtin.append_ #[xg,xg] xg #[(Value.slice s.1.1 s.1.2.1 s.1.2.2),(Value.slice t62.1 t62.2.1 t62.2.2)]) .slc w_10 fun (t63:(Option Addr×Nat×Nat)) w_11=>
  k_3 (t63.1,t63.2.1,t63.2.2) w_11)) (fun s_3 w_12=>
  zbv .i64 s.2 1 fun t35=>
  k_1 ((s_3.1,s_3.2.1,s_3.2.2),t35) w_12))) ((none,0,0),0) w_3) (fun s_4 w_13=>
  qy P zou #[(Value.pointer t22.1),(Value.slice s_4.1 s_4.2.1 s_4.2.2)] [.slc,.int .i64] true w_13 fun (t67:((Option Addr×Nat×Nat)×Int)) w_14=>
  qy P znj #[(Value.pointer t22.2.1),(Value.slice s_4.1 s_4.2.1 s_4.2.2)] [.slc,.int .i64] true w_14 fun (t73:((Option Addr×Nat×Nat)×Int)) w_15=>
  ku Unit (fun k_5=>
  xu (t67.2 != t73.2) (
  R (.returned (Value.bool false)) w_15) (
  qy P zid #[(Value.slice t67.1.1 t67.1.2.1 t67.1.2.2),(Value.slice t73.1.1 t73.1.2.1 t73.1.2.2)] [.bool] false w_15 fun (t82:Bool) w_16=>
  xu (!t82) (
  R (.returned (Value.bool false)) w_16) (
  k_5 () w_16))) (fun _ w_17=>
  qy P zf7 #[(Value.pointer t22.1),(Value.slice s_4.1 s_4.2.1 s_4.2.2)] [.int .i64,.int .i64] true w_17 fun (t88:(Int×Int)) w_18=>
  qy P zom #[(Value.pointer t22.2.1),(Value.slice s_4.1 s_4.2.1 s_4.2.2)] [.int .i64,.int .i64] true w_18 fun (t94:(Int×Int)) w_19=>
  ku Unit (fun k_6=>
  zbn w_19 fun w_20=>
  xu (t88.2 != t94.2) (
  ((undef=undef) /\
  R (.returned (Value.bool false)) w_20)) (
  xu (t88.1 != t94.1) (
  ((undef=undef) /\
  R (.returned (Value.bool false)) w_20)) (
  zn t22.2.1 fun p=>
  ld .slc (Addr.add p 1) w_20 fun (t111:(Option Addr×Nat×Nat))=>
  qy P ze3 #[(Value.pointer t22.1)] [.int .i64] false w_20 fun (t107:Int) w_21=>
  ((ld .slc (Addr.add p 1) w_21 fun (t111_1:(Option Addr×Nat×Nat))=>
  (Value.slice t111_1.1 t111_1.2.1 t111_1.2.2)=(Value.slice t111.1 t111.2.1 t111.2.2)) /\
  xu (t107 != (t111.2.1:Int)) (
  R (.returned (Value.bool false)) w_21) (
  qy P zgr #[(Value.pointer t22.1)] [.int .i64] false w_21 fun (t117:Int) w_22=>
  qy P zfh #[(Value.pointer t22.2.1)] [.int .i64] false w_22 fun (t119:Int) w_23=>
  xu (t117 != t119) (
  R (.returned (Value.bool false)) w_23) (
  k_6 () w_23)))))) (fun _ w_24=>
  za4 Int (fun s_7 w_25 k_7=>
  zn t22.2.1 fun p_1=>
  ld .slc (Addr.add p_1 1) w_25 fun (t126:(Option Addr×Nat×Nat))=>
  xu (decide (s_7 < (t126.2.1:Int))) (
  zn t22.2.1 fun p_2=>
  ld .slc (Addr.add p_2 1) w_25 fun (t135:(Option Addr×Nat×Nat))=>
  ixS t135.1 t135.2.1 33 s_7 fun t137=>
  ldA P 32 t137 w_25 fun t139=>
  qy P zhs #[(Value.pointer t22.1),(Value.agg t139)] [.bool] false w_25 fun (t140:Bool) w_26=>
  xu (!t140) (
  R (.returned (Value.bool false)) w_26) (
  zbv .i64 s_7 1 fun t130=>
  k_7 t130 w_26)) (
  R (.returned (Value.bool true)) w_25)) 0 w_24))))
theorem zsz {x:Value}{l:Option Addr}{l_l l_c:Nat}{R:Ending->World->Prop}{w:World}(hT:zmb x l l_l l_c R w):zy P zl6 #[x,(Value.slice l l_l l_c)] w R:=
 fnT (.seq .leaf (.seq (.seq .leaf (.cond (.seq .leaf .leaf) .leaf)) (.seq .leaf (.seq .leaf (.seq (.seq .leaf (.jblk [(8,.slc)] (.loop [(8,.slc),(9,.int .i64)] (.join [] (.seq .leaf (.cond .leaf .leaf)) (.seq (.jblk [(8,.slc)] (.seq .leaf (.join [] (.seq .leaf (.cond .leaf .leaf)) .leaf))) .leaf))))) (.seq .leaf (.seq .leaf (.join [] (.seq .leaf (.cond (.seq .leaf .leaf) .leaf)) (.seq .leaf (.seq .leaf (.join [] (.seq (.tree (.op 0 [] (.op 1 [] (.op 2 [] (.op 3 [] (.op 4 [] (.op 5 [] (.op 6 [] (.op 7 [] (.op 8 [] (.op 9 [] (.op 11 [] (.op 12 [] (.op 13 [] (.op 14 [] (.op 15 [] (.op 10 [14] (.op 16 [] (.op 17 [] (.op 18 [] (.op 19 [] (.op 21 [] (.op 20 [] (.op 22 [] (.op 23 [] (.op 24 [] .done)))))))))))))))))))))))))) (.cond (.seq .leaf .leaf) .leaf)) (.seq (.seq .leaf (.blk (.loop [(17,.int .i64)] (.seq (.seq .leaf (.cond .leaf .leaf)) (.seq (.blk (.seq .leaf (.cond (.seq .leaf .leaf) .leaf))) .leaf))))) (.seq .leaf .leaf))))))))))))) Tryz.func8 hT
def zzx (x:Value) (R:Ending->World->Prop) (w:World):Prop:=
  zbm (Value.cells x) zew w fun b1 w_1=>
  qy P zna #[(Value.int .i64 1048576)] [.ptr] false w_1 fun (t14:(Option Addr)) w_2=>
  qy P zvw #[(Value.int .i64 1048576)] [.ptr] false w_2 fun (t15:(Option Addr)) w_3=>
  ku (Option Addr×Nat×Nat) (fun k=>
  za4 ((Option Addr×Nat×Nat)×Int) (fun s w_4 k_1=>
  ku Unit (fun k_2=>
  ld .slc (⟨b1,0,none⟩:Addr) w_4 fun (t18:(Option Addr×Nat×Nat))=>
  xu (decide (s.2 < (t18.2.1:Int))) (
  xu (decide (s.2 < 20)) (
  k_2 () w_4) (
  k (s.1.1,s.1.2.1,s.1.2.2) w_4)) (
  k (s.1.1,s.1.2.1,s.1.2.2) w_4)) (fun _ w_5=>
  ld .slc (⟨b1,0,none⟩:Addr) w_5 fun (t28:(Option Addr×Nat×Nat))=>
  ixS t28.1 t28.2.1 7 s.2 fun t30=>
  ldA P 7 t30 w_5 fun t31=>
  qy P zrm #[(Value.agg t31)] [.any] false w_5 fun (t32:Value) w_6=>
  zbm (zc P zh) zh w_6 fun b9 w_7=>
  zb8 P (storeVar zh (⟨b9,0,none⟩:Addr) t32) w_7 fun w_8=>
  za4 Int (fun s_2 w_9 k_3=>
  ld .slc (⟨b9,3,none⟩:Addr) w_9 fun (t35:(Option Addr×Nat×Nat))=>
  xu (decide (s_2 < (t35.2.1:Int))) (
  zbn w_9 fun w_10=>
  ld .slc (⟨b9,3,none⟩:Addr) w_10 fun (t41:(Option Addr×Nat×Nat))=>
  ld .slc (⟨b9,3,none⟩:Addr) w_10 fun (t44:(Option Addr×Nat×Nat))=>
  ixS t44.1 t44.2.1 32 s_2 fun t46=>
  ldA P 32 t46 w_10 fun t47=>
  qy P zkx #[(Value.agg t47),(Value.slice s.1.1 s.1.2.1 s.1.2.2)] [.any] false w_10 fun (t49:Value) w_11=>
  ((ld .slc (⟨b9,3,none⟩:Addr) w_11 fun (t41_1:(Option Addr×Nat×Nat))=>
  (Value.slice t41_1.1 t41_1.2.1 t41_1.2.2)=(Value.slice t41.1 t41.2.1 t41.2.2)) /\
  ixS t41.1 t41.2.1 32 s_2 fun t50=>
  zb8 P (storeVar zf t50 t49) w_11 fun w_12=>
  zbv .i64 s_2 1 fun t39=>
  k_3 t39 w_12)) (
  za4 Int (fun s_3 w_13 k_4=>
  ld .slc (⟨b9,4,none⟩:Addr) w_13 fun (t53:(Option Addr×Nat×Nat))=>
  xu (decide (s_3 < (t53.2.1:Int))) (
  zbn w_13 fun w_14=>
  ld .slc (⟨b9,4,none⟩:Addr) w_14 fun (t59:(Option Addr×Nat×Nat))=>
  ld .slc (⟨b9,4,none⟩:Addr) w_14 fun (t62:(Option Addr×Nat×Nat))=>
  ixS t62.1 t62.2.1 34 s_3 fun t64=>
  ldA P 32 (Addr.add t64 2) w_14 fun t66=>
  qy P zkx #[(Value.agg t66),(Value.slice s.1.1 s.1.2.1 s.1.2.2)] [.any] false w_14 fun (t68:Value) w_15=>
  ((ld .slc (⟨b9,4,none⟩:Addr) w_15 fun (t59_1:(Option Addr×Nat×Nat))=>
  (Value.slice t59_1.1 t59_1.2.1 t59_1.2.2)=(Value.slice t59.1 t59.2.1 t59.2.2)) /\
  ixS t59.1 t59.2.1 34 s_3 fun t69=>
  zb8 P (storeVar zf (Addr.add t69 2) t68) w_15 fun w_16=>
  zbv .i64 s_3 1 fun t57=>
  k_4 t57 w_16)) (
  ld .str (⟨b9,1,none⟩:Addr) w_13 fun (t72:ByteArray)=>
  zaw P (convert jw zi (Value.string t72)) .slc w_13 fun (t73:(Option Addr×Nat×Nat)) w_17=>
  ku (Option Addr×Nat×Nat) (fun k_5=>
  ldA P 5 (⟨b9,0,none⟩:Addr) w_17 fun t74=>
  qy P zll #[(Value.agg t74)] [.bool] false w_17 fun (t75:Bool) w_18=>
  xu t75 (
  ldA P 5 (⟨b9,0,none⟩:Addr) w_18 fun t76=>
  qy P zms #[(Value.agg t76)] [.slc] false w_18 fun (t77:(Option Addr×Nat×Nat)) w_19=>
  k_5 (t77.1,t77.2.1,t77.2.2) w_19) (
  k_5 (t73.1,t73.2.1,t73.2.2) w_18)) (fun s_4 w_20=>
  ku (Option Addr×Nat×Nat) (fun k_6=>
  xu (decide ((s_4.2.1:Int) > 4096)) (
  zba P (Instr.sliceAt zi (Value.slice s_4.1 s_4.2.1 s_4.2.2) none (some (Value.int .i64 4096)) none) .slc w_20 fun (t82:(Option Addr×Nat×Nat))=>
  k_6 (t82.1,t82.2.1,t82.2.2) w_20) (
  k_6 (s_4.1,s_4.2.1,s_4.2.2) w_20)) (fun s_5 w_21=>
  qy P zhp #[(Value.pointer t14),(Value.slice s_5.1 s_5.2.1 s_5.2.2)] [.any,.int .i64] true w_21 fun (_:(Value×Int)) w_22=>
  qy P zis #[(Value.pointer t15),(Value.slice s_5.1 s_5.2.1 s_5.2.2)] [.any,.int .i64] true w_22 fun (_:(Value×Int)) w_23=>
  qy P ziq #[(Value.slice s_5.1 s_5.2.1 s_5.2.2)] [.any] false w_23 fun (t91:Value) w_24=>
  zaw P (Instr.buildSlice zo 1 #[(0,t91)]) .slc w_24 fun (t92:(Option Addr×Nat×Nat)) w_25=>
  zaw P (Builtin.append_ #[zo,zo] zo #[(Value.slice s.1.1 s.1.2.1 s.1.2.2),(Value.slice t92.1 t92.2.1 t92.2.2)]) .slc w_25 fun (t93:(Option Addr×Nat×Nat)) w_26=>
  zbv .i64 s.2 1 fun t26=>
  k_1 ((t93.1,t93.2.1,t93.2.2),t26) w_26)))) 0 w_9)) 0 w_8)) ((none,0,0),0) w_3) (fun s_6 w_27=>
  ld (.int .i64) (⟨b1,1,none⟩:Addr) w_27 fun (t95:Int)=>
  cvI .u64 t95 fun t96=>
  zbv .i64 (s_6.2.1:Int) 1 fun t99=>
  cvI .u64 t99 fun t100=>
  qa3 t96 t100 fun t101=>
  cvI .i64 t101 fun t102=>
  ku Unit (fun k_7=>
  xu (decide (t102 < (s_6.2.1:Int))) (
  ixS s_6.1 s_6.2.1 32 t102 fun t110=>
  ldA P 32 t110 w_27 fun t111=>
  qy P zfg #[(Value.pointer t14),(Value.agg t111)] [.int .i64] false w_27 fun (_:Int) w_28=>
  ixS s_6.1 s_6.2.1 32 t102 fun t116=>
  ldA P 32 t116 w_28 fun t117=>
  qy P zhx #[(Value.pointer t15),(Value.agg t117)] [.int .i64] false w_28 fun (_:Int) w_29=>
  k_7 () w_29) (
  k_7 () w_27)) (fun _ w_30=>
  ld (.int .i64) (⟨b1,2,none⟩:Addr) w_30 fun (t120:Int)=>
  cvI .u64 t120 fun t121=>
  zbv .i64 (s_6.2.1:Int) 1 fun t124=>
  cvI .u64 t124 fun t125=>
  qa3 t121 t125 fun t126=>
  cvI .i64 t126 fun t127=>
  ku Unit (fun k_8=>
  xu (decide (t127 < (s_6.2.1:Int))) (
  ixS s_6.1 s_6.2.1 32 t127 fun t135=>
  ldA P 32 t135 w_30 fun t136=>
  qy P zgp #[(Value.pointer t14),(Value.agg t136),(Value.int .i64 0),(Value.int .u8 1)] [.int .i64] false w_30 fun (_:Int) w_31=>
  ixS s_6.1 s_6.2.1 32 t127 fun t141=>
  ldA P 32 t141 w_31 fun t142=>
  qy P zha #[(Value.pointer t15),(Value.agg t142),(Value.int .i64 0),(Value.int .u8 1)] [.int .i64] false w_31 fun (_:Int) w_32=>
  k_8 () w_32) (
  k_8 () w_30)) (fun _ w_33=>
  R (.returned (Value.tuple #[(Value.pointer t14),(Value.pointer t15),(Value.slice s_6.1 s_6.2.1 s_6.2.2)])) w_33)))
theorem z5r {x:Value}{R:Ending->World->Prop}{w:World}(hT:zzx x R w):zy P ztx #[x] w R:=
 fnT (.seq .leaf (.seq .leaf (.seq .leaf (.seq .leaf (.seq (.seq .leaf (.jblk [(7,.slc)] (.loop [(7,.slc),(8,.int .i64)] (.join [] (.seq .leaf (.cond .leaf .leaf)) (.seq (.blk (.seq .leaf (.seq (.seq .leaf (.blk (.loop [(10,.int .i64)] (.seq (.seq .leaf (.cond .leaf .leaf)) (.seq (.blk (.tree (.op 0 [] (.op 2 [] (.op 3 [] (.op 5 [] (.op 8 [] (.op 1 [] (.op 4 [] (.op 6 [] (.op 7 [] (.op 9 [1] (.op 10 [] (.op 11 [] .done)))))))))))))) .leaf))))) (.seq (.seq .leaf (.blk (.loop [(11,.int .i64)] (.seq (.seq .leaf (.cond .leaf .leaf)) (.seq (.blk (.tree (.op 0 [] (.op 2 [] (.op 3 [] (.op 5 [] (.op 9 [] (.op 1 [] (.op 4 [] (.op 6 [] (.op 7 [] (.op 8 [] (.op 10 [1] (.op 11 [] (.op 12 [] (.op 13 [] .done)))))))))))))))) .leaf))))) (.seq .leaf (.join [(12,.slc)] (.seq .leaf (.cond .leaf .leaf)) (.join [(12,.slc)] (.seq .leaf (.cond .leaf .leaf)) (.seq .leaf (.seq .leaf .leaf))))))))) .leaf))))) (.seq .leaf (.join [] (.seq .leaf (.cond (.seq .leaf .leaf) .leaf)) (.seq .leaf (.join [] (.seq .leaf (.cond (.seq .leaf .leaf) .leaf)) (.seq .leaf .leaf)))))))))) Tryz.func29 hT
def zto  (R:Ending->World->Prop) (w:World):Prop:=
  qy P zna #[(Value.int .i64 65536)] [.ptr] false w fun (t8:(Option Addr)) w_1=>
  zba P (Instr.build za1 #[(0,(Value.string (ByteArray.mk #[47,102]))),(2,(Value.string (ByteArray.mk #[104,105])))]) .any w_1 fun (t11:Value)=>
  zaw P (Instr.buildSlice zmu 1 #[(0,t11)]) .slc w_1 fun (t12:(Option Addr×Nat×Nat)) w_2=>
  qy P zjh #[(Value.pointer t8),(Value.slice t12.1 t12.2.1 t12.2.2)] [.any,.int .i64] true w_2 fun (t13:(Value×Int)) w_3=>
  zbm (zc P zf) zf w_3 fun b2 w_4=>
  zb8 P (storeVar zf (⟨b2,0,none⟩:Addr) t13.1) w_4 fun w_5=>
  zba P (Instr.build za1 #[(0,(Value.string (ByteArray.mk #[47,103]))),(2,(Value.string (ByteArray.mk #[104,111])))]) .any w_5 fun (t17:Value)=>
  zaw P (Instr.buildSlice zmu 1 #[(0,t17)]) .slc w_5 fun (t18:(Option Addr×Nat×Nat)) w_6=>
  qy P zjh #[(Value.pointer t8),(Value.slice t18.1 t18.2.1 t18.2.2)] [.any,.int .i64] true w_6 fun (_:(Value×Int)) w_7=>
  ldA P 32 (⟨b2,0,none⟩:Addr) w_7 fun t22=>
  zba P (Instr.build zu #[(1,(Value.int .i64 3)),(2,(Value.agg t22))]) .any w_7 fun (t23:Value)=>
  zaw P (Instr.buildSlice xg 1 #[(0,t23)]) .slc w_7 fun (t24:(Option Addr×Nat×Nat)) w_8=>
  qy P zf7 #[(Value.pointer t8),(Value.slice t24.1 t24.2.1 t24.2.2)] [.int .i64,.int .i64] true w_8 fun (t25:(Int×Int)) w_9=>
  qy P zf7 #[(Value.pointer none),(Value.slice none 0 0)] [.int .i64,.int .i64] true w_9 fun (t29:(Int×Int)) w_10=>
  xu (t13.2==0) (
  xu (t25.1==3) (
  xu (t25.2==0) (
  qy P ze3 #[(Value.pointer t8)] [.int .i64] false w_10 fun (t44:Int) w_11=>
  xu (t44==3) (
  R (.returned (Value.bool (t29.2==7))) w_11) (
  R (.returned (Value.bool false)) w_11)) (
  R (.returned (Value.bool false)) w_10)) (
  R (.returned (Value.bool false)) w_10)) (
  R (.returned (Value.bool false)) w_10)
theorem z1j  {R:Ending->World->Prop}{w:World}(hT:zto  R w):zy P zoj #[] w R:=
 fnT (.seq .leaf (.seq .leaf (.seq .leaf (.seq .leaf (.seq .leaf (.seq .leaf (.seq .leaf .leaf))))))) Tryz.func45 hT
def zxt (r:Value) (R:Ending->World->Prop) (w:World):Prop:=
  zbm (Value.cells r) zgs w fun b1 w_1=>
  zbm (zc P zh) zh w_1 fun b2 w_2=>
  ld (.int .i64) (⟨b1,0,none⟩:Addr) w_2 fun (t8:Int)=>
  ld .str (⟨b1,1,none⟩:Addr) w_2 fun (t10:ByteArray)=>
  ld (.int .i64) (⟨b1,2,none⟩:Addr) w_2 fun (t12:Int)=>
  zba P (Instr.build zh #[(0,(Value.int .i64 t8)),(1,(Value.string t10)),(2,(Value.int .i64 t12))]) .any w_2 fun (t13:Value)=>
  zbm (zc P zh) zh w_2 fun b3 w_3=>
  zb8 P (storeVar zh (⟨b3,0,none⟩:Addr) t13) w_3 fun w_4=>
  za4 Int (fun s w_5 k=>
  ld .slc (⟨b1,3,none⟩:Addr) w_5 fun (t16:(Option Addr×Nat×Nat))=>
  xu (decide (s < (t16.2.1:Int))) (
  zbn w_5 fun w_6=>
  ld .slc (⟨b3,3,none⟩:Addr) w_6 fun (t22:(Option Addr×Nat×Nat))=>
  ld .slc (⟨b1,3,none⟩:Addr) w_6 fun (t24:(Option Addr×Nat×Nat))=>
  ixS t24.1 t24.2.1 1 s fun t26=>
  ld .slc t26 w_6 fun (t27:(Option Addr×Nat×Nat))=>
  qy P znk #[(Value.slice t27.1 t27.2.1 t27.2.2)] [.any] false w_6 fun (t28:Value) w_7=>
  ((ld .slc (⟨b3,3,none⟩:Addr) w_7 fun (t22_1:(Option Addr×Nat×Nat))=>
  (Value.slice t22_1.1 t22_1.2.1 t22_1.2.2)=(Value.slice t22.1 t22.2.1 t22.2.2)) /\
  zaw P (Instr.buildSlice zo 1 #[(0,t28)]) .slc w_7 fun (t29:(Option Addr×Nat×Nat)) w_8=>
  ((ld .slc (⟨b3,3,none⟩:Addr) w_8 fun (t22_2:(Option Addr×Nat×Nat))=>
  (Value.slice t22_2.1 t22_2.2.1 t22_2.2.2)=(Value.slice t22.1 t22.2.1 t22.2.2)) /\
  zaw P (Builtin.append_ #[zo,zo] zo #[(Value.slice t22.1 t22.2.1 t22.2.2),(Value.slice t29.1 t29.2.1 t29.2.2)]) .slc w_8 fun (t30:(Option Addr×Nat×Nat)) w_9=>
  stC (⟨b3,3,none⟩:Addr) (Value.slice t30.1 t30.2.1 t30.2.2) w_9 fun w_10=>
  zbv .i64 s 1 fun t20=>
  k t20 w_10))) (
  za4 Int (fun s_1 w_11 k_1=>
  ld .slc (⟨b1,4,none⟩:Addr) w_11 fun (t34:(Option Addr×Nat×Nat))=>
  xu (decide (s_1 < (t34.2.1:Int))) (
  ku Unit (fun k_2=>
  ku Unit (fun k_3=>
  ld .slc (⟨b1,4,none⟩:Addr) w_11 fun (t40:(Option Addr×Nat×Nat))=>
  ixS t40.1 t40.2.1 1 s_1 fun t42=>
  ld .str t42 w_11 fun (t43:ByteArray)=>
  zba P (Instr.build zu #[(0,(Value.string t43))]) .any w_11 fun (t44:Value)=>
  zbm (zc P zu) zu w_11 fun b6 w_12=>
  zb8 P (storeVar zu (⟨b6,0,none⟩:Addr) t44) w_12 fun w_13=>
  ku Unit (fun k_4=>
  ld .slc (⟨b1,5,none⟩:Addr) w_13 fun (t47:(Option Addr×Nat×Nat))=>
  xu (decide (s_1 < (t47.2.1:Int))) (
  ld .slc (⟨b1,5,none⟩:Addr) w_13 fun (t51:(Option Addr×Nat×Nat))=>
  ixS t51.1 t51.2.1 1 s_1 fun t53=>
  ld (.int .i64) t53 w_13 fun (t54:Int)=>
  stC (⟨b6,1,none⟩:Addr) (Value.int .i64 t54) w_13 fun w_14=>
  k_4 () w_14) (
  k_4 () w_13)) (fun _ w_15=>
  ku Unit (fun k_5=>
  ld .slc (⟨b1,6,none⟩:Addr) w_15 fun (t58:(Option Addr×Nat×Nat))=>
  xu (decide (s_1 < (t58.2.1:Int))) (
  ld .slc (⟨b1,6,none⟩:Addr) w_15 fun (t62:(Option Addr×Nat×Nat))=>
  ixS t62.1 t62.2.1 1 s_1 fun t64=>
  ld .slc t64 w_15 fun (t65:(Option Addr×Nat×Nat))=>
  qy P znk #[(Value.slice t65.1 t65.2.1 t65.2.2)] [.any] false w_15 fun (t66:Value) w_16=>
  zb8 P (storeVar zf (⟨b6,2,none⟩:Addr) t66) w_16 fun w_17=>
  k_5 () w_17) (
  k_5 () w_15)) (fun _ w_18=>
  ld .slc (⟨b3,4,none⟩:Addr) w_18 fun (t69:(Option Addr×Nat×Nat))=>
  ldA P 34 (⟨b6,0,none⟩:Addr) w_18 fun t70=>
  zaw P (Instr.buildSlice xg 1 #[(0,(Value.agg t70))]) .slc w_18 fun (t71:(Option Addr×Nat×Nat)) w_19=>
  zaw P (Builtin.append_ #[xg,xg] xg #[(Value.slice t69.1 t69.2.1 t69.2.2),(Value.slice t71.1 t71.2.1 t71.2.2)]) .slc w_19 fun (t72:(Option Addr×Nat×Nat)) w_20=>
  stC (⟨b3,4,none⟩:Addr) (Value.slice t72.1 t72.2.1 t72.2.2) w_20 fun w_21=>
  k_3 () w_21))) (fun _ w_22=>
  k_2 () w_22)) (fun _ w_23=>
  zbv .i64 s_1 1 fun t38=>
  k_1 t38 w_23)) (
  ldA P 5 (⟨b3,0,none⟩:Addr) w_11 fun t74=>
  zb8 P (storeVar zh (⟨b2,0,none⟩:Addr) (Value.agg t74)) w_11 fun w_24=>
  ldA P 5 (⟨b2,0,none⟩:Addr) w_24 fun t2=>
  R (.returned (Value.agg t2)) w_24)) 0 w_5)) 0 w_4
theorem z2g {r:Value}{R:Ending->World->Prop}{w:World}(hT:zxt r R w):zy P zrm #[r] w R:=
 fnT (.seq .leaf (.seq .leaf (.seq (.seq .leaf (.blk (.loop [(4,.int .i64)] (.seq (.seq .leaf (.cond .leaf .leaf)) (.seq (.blk (.tree (.op 0 [] (.op 2 [] (.op 4 [] (.op 1 [] (.op 3 [] (.op 5 [] (.op 6 [] (.op 7 [1] (.op 8 [1] (.op 9 [] (.op 10 [] (.op 11 [] .done)))))))))))))) .leaf))))) (.seq (.seq .leaf (.blk (.loop [(5,.int .i64)] (.seq (.seq .leaf (.cond .leaf .leaf)) (.join [] (.jblk [] (.seq .leaf (.join [] (.seq .leaf (.cond .leaf .leaf)) (.join [] (.seq .leaf (.cond .leaf .leaf)) .leaf)))) .leaf))))) (.seq .leaf .leaf))))) Tryz.func70 hT
def ztu (d:Value) (sums:Option Addr) (sums_l sums_c:Nat) (R:Ending->World->Prop) (w:World):Prop:=
  zbm (Value.cells d) zf w fun b2 w_1=>
  zbm (zc P zf) zf w_1 fun b4 w_2=>
  ld (.int .u8) (⟨b2,0,none⟩:Addr) w_2 fun (t6:Int)=>
  cvI .i64 t6 fun t7=>
  xu (decide (t7 < (sums_l:Int))) (
  ld (.int .u8) (⟨b2,0,none⟩:Addr) w_2 fun (t13:Int)=>
  ixS sums sums_l 32 t13 fun t14=>
  ldA P 32 t14 w_2 fun t15=>
  zb8 P (storeVar zf (⟨b4,0,none⟩:Addr) (Value.agg t15)) w_2 fun w_3=>
  ldA P 32 (⟨b4,0,none⟩:Addr) w_3 fun t4=>
  R (.returned (Value.agg t4)) w_3) (
  ldA P 32 (⟨b2,0,none⟩:Addr) w_2 fun t16=>
  zb8 P (storeVar zf (⟨b4,0,none⟩:Addr) (Value.agg t16)) w_2 fun w_4=>
  ldA P 32 (⟨b4,0,none⟩:Addr) w_4 fun t4_1=>
  R (.returned (Value.agg t4_1)) w_4)
theorem zz8 {d:Value}{sums:Option Addr}{sums_l sums_c:Nat}{R:Ending->World->Prop}{w:World}(hT:ztu d sums sums_l sums_c R w):zy P zkx #[d,(Value.slice sums sums_l sums_c)] w R:=
 fnT (.seq .leaf (.seq (.seq .leaf (.cond (.seq .leaf .leaf) .leaf)) (.seq .leaf .leaf))) Tryz.func71 hT
set_option maxRecDepth 100000
def zp5 (a:Option Addr) (a_l a_c:Nat) (b:Option Addr) (b_l b_c:Nat) (R:Ending->World->Prop) (w:World):Prop:=
  xu ((a_l:Int) != (b_l:Int)) (
  R (.returned (Value.bool false)) w) (
  za4 Int (fun s w_1 k=>
  xu (decide (s < (a_l:Int))) (
  zbn w_1 fun w_2=>
  ixS a a_l 32 s fun t19=>
  ixS b b_l 32 s fun t23=>
  ldA P 32 t19 w_2 fun t20=>
  ldA P 32 t23 w_2 fun t24=>
  zba P (eqM .neq zf (.tmp 20) (.tmp 24) (Value.agg t20) (Value.agg t24)) .bool w_2 fun (t25:Bool)=>
  xu t25 (
  R (.returned (Value.bool false)) w_2) (
  zbv .i64 s 1 fun t16=>
  k t16 w_2)) (
  R (.returned (Value.bool true)) w_1)) 0 w)
theorem zwj {a:Option Addr}{a_l a_c:Nat}{b:Option Addr}{b_l b_c:Nat}{R:Ending->World->Prop}{w:World}(hT:zp5 a a_l a_c b b_l b_c R w):zy P zid #[(Value.slice a a_l a_c),(Value.slice b b_l b_c)] w R:=
 fnT (.seq .leaf (.seq (.seq .leaf (.cond (.seq .leaf .leaf) .leaf)) (.seq (.seq .leaf (.blk (.loop [(5,.int .i64)] (.seq (.seq .leaf (.cond .leaf .leaf)) (.seq (.blk (.seq (.tree (.op 0 [] (.op 1 [] (.op 2 [] (.op 4 [] (.op 5 [] (.op 6 [] (.op 3 [] (.op 7 [] (.op 8 [] .done)))))))))) (.cond (.seq .leaf .leaf) .leaf))) .leaf))))) (.seq .leaf .leaf)))) Tryz.func41 hT
def zkt (s:Option Addr) (root:Value) (kind:Int) (R:Ending->World->Prop) (w:World):Prop:=
  zbm #[(Value.pointer s)] zds w fun b3 w_1=>
  zbm (Value.cells root) zf w_1 fun b4 w_2=>
  ku Unit (fun k=>
  ku Unit (fun k_1=>
  ld .ptr (⟨b3,0,none⟩:Addr) w_2 fun (t14:(Option Addr))=>
  xu (Option.isNone t14) (
  R (.returned (Value.tuple #[(Value.slice none 0 0),(Value.int .i64 7)])) w_2) (
  xu (kind != 2) (
  xu (kind != 3) (
  R (.returned (Value.tuple #[(Value.slice none 0 0),(Value.int .i64 100)])) w_2) (
  k_1 () w_2)) (
  k_1 () w_2))) (fun _ w_3=>
  k () w_3)) (fun _ w_4=>
  zaw P (Instr.makeMap zbb none) .map w_4 fun (t23:(Option Nat)) w_5=>
  zbm (zc P zbb) zbb w_5 fun b8 w_6=>
  stC (⟨b8,0,none⟩:Addr) (Value.map t23) w_6 fun w_7=>
  zaw P (Instr.makeMap ji none) .map w_7 fun (t24:(Option Nat)) w_8=>
  zbm (zc P ji) ji w_8 fun b9 w_9=>
  stC (⟨b9,0,none⟩:Addr) (Value.map t24) w_9 fun w_10=>
  zbm (zc P zo) zo w_10 fun b10 w_11=>
  zbm (zc P zda) zda w_11 fun b11 w_12=>
  zba P (Instr.makeFunc (Go.Fn.func zfd) #[] #[(Value.pointer (some (⟨b8,0,none⟩:Addr))),(Value.pointer (some (⟨b3,0,none⟩:Addr))),(Value.pointer (some (⟨b9,0,none⟩:Addr))),(Value.pointer (some (⟨b10,0,none⟩:Addr))),(Value.pointer (some (⟨b11,0,none⟩:Addr)))]) .any w_12 fun (t25:Value)=>
  zb8 P (storeVar zda (⟨b11,0,none⟩:Addr) t25) w_12 fun w_13=>
  ld .any (⟨b11,0,none⟩:Addr) w_13 fun (t26:Value)=>
  ldA P 32 (⟨b4,0,none⟩:Addr) w_13 fun t27=>
  zba P (Instr.build za8 #[(0,(Value.agg t27)),(1,(Value.int .i64 kind))]) .any w_13 fun (t29:Value)=>
  zok P t26 #[t29] [.int .i64] false w_13 fun (t30:Int) w_14=>
  xu (t30 != 0) (
  R (.returned (Value.tuple #[(Value.slice none 0 0),(Value.int .i64 t30)])) w_14) (
  ld .slc (⟨b10,0,none⟩:Addr) w_14 fun (t34:(Option Addr×Nat×Nat))=>
  R (.returned (Value.tuple #[(Value.slice t34.1 t34.2.1 t34.2.2),(Value.int .i64 0)])) w_14))
theorem zoa {s:Option Addr}{root:Value}{kind:Int}{R:Ending->World->Prop}{w:World}(hT:zkt s root kind R w):zy P zh3 #[(Value.pointer s),root,(Value.int .i64 kind)] w R:=
 fnT (.seq .leaf (.join [] (.jblk [] (.seq .leaf (.cond (.seq .leaf .leaf) (.seq .leaf (.cond (.seq .leaf .leaf) .leaf))))) (.seq .leaf (.seq .leaf (.seq .leaf (.seq .leaf (.seq .leaf (.seq (.seq .leaf (.seq .leaf (.cond (.seq .leaf .leaf) .leaf))) (.seq .leaf .leaf))))))))) Tryz.func42 hT
def ztw (s:Option Addr) (roots:Option Addr) (roots_l roots_c:Nat) (R:Ending->World->Prop) (w:World):Prop:=
  qy P zgl #[(Value.pointer s),(Value.slice roots roots_l roots_c)] [.map,.int .i64] true w fun (t11:((Option Nat)×Int)) w_1=>
  xu (t11.2 != 0) (
  R (.returned (Value.tuple #[(Value.slice none 0 0),(Value.int .i64 t11.2)])) w_1) (
  qy P zbh #[(Value.map t11.1)] [.any] false w_1 fun (t18:Value) w_2=>
  qy P zbz #[t18,(Value.func (.func zed) #[] #[])] [.slc] false w_2 fun (t19:(Option Addr×Nat×Nat)) w_3=>
  R (.returned (Value.tuple #[(Value.slice t19.1 t19.2.1 t19.2.2),(Value.int .i64 0)])) w_3)
theorem zzr {s:Option Addr}{roots:Option Addr}{roots_l roots_c:Nat}{R:Ending->World->Prop}{w:World}(hT:ztw s roots roots_l roots_c R w):zy P zou #[(Value.pointer s),(Value.slice roots roots_l roots_c)] w R:=
 fnT (.seq .leaf (.seq .leaf (.seq (.seq .leaf (.cond (.seq .leaf .leaf) .leaf)) (.seq .leaf .leaf)))) Tryz.func46 hT
def zxy (s:Option Addr) (roots:Option Addr) (roots_l roots_c:Nat) (R:Ending->World->Prop) (w:World):Prop:=
  za4 ((Option Addr×Nat×Nat)×Int) (fun s_1 w_1 k=>
  xu (decide (s_1.2 < (roots_l:Int))) (
  zbn w_1 fun w_2=>
  ixS roots roots_l 34 s_1.2 fun t21=>
  ixS roots roots_l 34 s_1.2 fun t26=>
  ldA P 32 (Addr.add t21 2) w_2 fun t23=>
  ld (.int .i64) (Addr.add t26 1) w_2 fun (t28:Int)=>
  qy P zlf #[(Value.pointer s),(Value.agg t23),(Value.int .i64 t28)] [.slc,.int .i64] true w_2 fun (t29:((Option Addr×Nat×Nat)×Int)) w_3=>
  xu (t29.2 != 0) (
  R (.returned (Value.tuple #[(Value.slice none 0 0),(Value.int .i64 t29.2)])) w_3) (
  za4 ((Option Addr×Nat×Nat)×Int) (fun s_2 w_4 k_1=>
  xu (decide (s_2.2 < (t29.1.2.1:Int))) (
  ixS t29.1.1 t29.1.2.1 32 s_2.2 fun t44=>
  ldA P 32 t44 w_4 fun t45=>
  qy P zmo #[(Value.slice s_2.1.1 s_2.1.2.1 s_2.1.2.2),(Value.agg t45)] [.slc] false w_4 fun (t46:(Option Addr×Nat×Nat)) w_5=>
  zbv .i64 s_2.2 1 fun t40=>
  k_1 ((t46.1,t46.2.1,t46.2.2),t40) w_5) (
  zbv .i64 s_1.2 1 fun t16=>
  k ((s_2.1.1,s_2.1.2.1,s_2.1.2.2),t16) w_4)) ((s_1.1.1,s_1.1.2.1,s_1.1.2.2),0) w_3)) (
  R (.returned (Value.tuple #[(Value.slice s_1.1.1 s_1.1.2.1 s_1.1.2.2),(Value.int .i64 0)])) w_1)) ((none,0,0),0) w
theorem z2s {s:Option Addr}{roots:Option Addr}{roots_l roots_c:Nat}{R:Ending->World->Prop}{w:World}(hT:zxy s roots roots_l roots_c R w):zy P znj #[(Value.pointer s),(Value.slice roots roots_l roots_c)] w R:=
 fnT (.seq .leaf (.seq .leaf (.seq (.seq .leaf (.blk (.loop [(6,.slc),(7,.int .i64)] (.seq (.seq .leaf (.cond .leaf .leaf)) (.seq (.blk (.seq (.tree (.op 0 [] (.op 1 [] (.op 2 [] (.op 3 [] (.op 4 [] (.op 6 [] (.op 7 [] (.op 8 [] (.op 9 [] (.op 5 [] (.op 10 [] (.op 11 [] (.op 12 [] (.op 13 [] (.op 14 [] (.op 15 [] (.op 16 [] .done)))))))))))))))))) (.seq (.seq .leaf (.cond (.seq .leaf .leaf) .leaf)) (.seq .leaf (.blk (.loop [(6,.slc),(10,.int .i64)] (.seq (.seq .leaf (.cond .leaf .leaf)) (.seq (.blk .leaf) .leaf)))))))) .leaf))))) (.seq .leaf .leaf)))) Tryz.func47 hT
def zmq (s:Option Addr) (roots:Option Addr) (roots_l roots_c:Nat) (R:Ending->World->Prop) (w:World):Prop:=
  zbm #[(Value.pointer s)] zds w fun b2 w_1=>
  ld .ptr (⟨b2,0,none⟩:Addr) w_1 fun (t11:(Option Addr))=>
  qy P zgl #[(Value.pointer t11),(Value.slice roots roots_l roots_c)] [.map,.int .i64] true w_1 fun (t13:((Option Nat)×Int)) w_2=>
  zbm (zc P ji) ji w_2 fun b6 w_3=>
  stC (⟨b6,0,none⟩:Addr) (Value.map t13.1) w_3 fun w_4=>
  xu (t13.2 != 0) (
  R (.returned (Value.tuple #[(Value.int .i64 0),(Value.int .i64 t13.2)])) w_4) (
  zbm (zc P zbl) zbl w_4 fun b8 w_5=>
  stC (⟨b8,0,none⟩:Addr) (Value.int .i64 0) w_5 fun w_6=>
  ld .ptr (⟨b2,0,none⟩:Addr) w_6 fun (t19:(Option Addr))=>
  qy P zhq #[(Value.pointer t19)] [.any] false w_6 fun (t20:Value) w_7=>
  zul P [.any] t20 w_7 (fun (x:Value) w_8 beg kc _ _=>
  zbm (zc P zf) zf w_8 fun b9 w_10=>
  zb8 P (storeVar zf (⟨b9,0,none⟩:Addr) x) w_10 fun w_11=>
  beg w_11 fun w_9=>
  ku Unit (fun k=>
  ld .map (⟨b6,0,none⟩:Addr) w_9 fun (t22:(Option Nat))=>
  ldA P 32 (⟨b9,0,none⟩:Addr) w_9 fun t23=>
  zba P (Instr.lookup ji (Value.map t22) (Value.agg t23) false) (.int .i64) w_9 fun (t24:Int)=>
  xu (t24==0) (
  ld .ptr (⟨b2,0,none⟩:Addr) w_9 fun (t27:(Option Addr))=>
  ldA P 32 (⟨b9,0,none⟩:Addr) w_9 fun t28=>
  qy P zfg #[(Value.pointer t27),(Value.agg t28)] [.int .i64] false w_9 fun (t29:Int) w_12=>
  xu (t29==0) (
  ld (.int .i64) (⟨b8,0,none⟩:Addr) w_12 fun (t32:Int)=>
  zbv .i64 t32 1 fun t33=>
  stC (⟨b8,0,none⟩:Addr) (Value.int .i64 t33) w_12 fun w_13=>
  k () w_13) (
  k () w_12)) (
  k () w_9)) (fun _ w_14=>
  kc w_14)) (fun D w_15=>
  ld (.int .i64) (⟨b8,0,none⟩:Addr) w_15 fun (t34:Int)=>
  (w_15.heap[D]?=some (.deferred (some []))/\∀ w_16,w_16=World.putObj w_15 D (.deferred none) ->
  R (.returned (Value.tuple #[(Value.int .i64 t34),(Value.int .i64 0)])) w_16)) (fun _D _w=>False) (fun _ _D _w=>False))
theorem zqv {s:Option Addr}{roots:Option Addr}{roots_l roots_c:Nat}{R:Ending->World->Prop}{w:World}(hT:zmq s roots roots_l roots_c R w):zy P zf7 #[(Value.pointer s),(Value.slice roots roots_l roots_c)] w R:=
 fnU (.seq (.pure .leaf) (.seq (.pure .leaf) (.seq (.pure (.seq .leaf (.cond (.seq .leaf .leaf) .leaf))) (.seq (.pure .leaf) (.seq (.seq (.pure .leaf) (.blk (.rng [(21,.any)] false [] .leaf (.jblk [] (.seq .leaf (.cond .leaf .leaf)))))) (.pure (.seq .leaf .leaf))))))) Tryz.func48 hT
def zvr (s:Option Addr) (roots:Option Addr) (roots_l roots_c:Nat) (R:Ending->World->Prop) (w:World):Prop:=
  qy P znj #[(Value.pointer s),(Value.slice roots roots_l roots_c)] [.slc,.int .i64] true w fun (t14:((Option Addr×Nat×Nat)×Int)) w_1=>
  xu (t14.2 != 0) (
  R (.returned (Value.tuple #[(Value.int .i64 0),(Value.int .i64 t14.2)])) w_1) (
  za4 ((Option Addr×Nat×Nat)×Int) (fun s_1 w_2 k=>
  zn s fun p=>
  ld .slc (Addr.add p 1) w_2 fun (t24:(Option Addr×Nat×Nat))=>
  xu (decide (s_1.2 < (t24.2.1:Int))) (
  ku (Option Addr×Nat×Nat) (fun k_1=>
  zn s fun p_1=>
  ld .slc (Addr.add p_1 1) w_2 fun (t33:(Option Addr×Nat×Nat))=>
  ixS t33.1 t33.2.1 33 s_1.2 fun t35=>
  ldA P 32 t35 w_2 fun t37=>
  qy P zpg #[(Value.slice t14.1.1 t14.1.2.1 t14.1.2.2),(Value.agg t37)] [.bool] false w_2 fun (t38:Bool) w_3=>
  xu t38 (
  zn s fun p_2=>
  ld .slc (Addr.add p_2 1) w_3 fun (t43:(Option Addr×Nat×Nat))=>
  ixS t43.1 t43.2.1 33 s_1.2 fun t45=>
  ldA P 33 t45 w_3 fun t46=>
  zaw P (Instr.buildSlice jc 1 #[(0,(Value.agg t46))]) .slc w_3 fun (t47:(Option Addr×Nat×Nat)) w_4=>
  zaw P (Builtin.append_ #[jc,jc] jc #[(Value.slice s_1.1.1 s_1.1.2.1 s_1.1.2.2),(Value.slice t47.1 t47.2.1 t47.2.2)]) .slc w_4 fun (t48:(Option Addr×Nat×Nat)) w_5=>
  k_1 (t48.1,t48.2.1,t48.2.2) w_5) (
  k_1 (s_1.1.1,s_1.1.2.1,s_1.1.2.2) w_3)) (fun s_2 w_6=>
  zbv .i64 s_1.2 1 fun t28=>
  k ((s_2.1,s_2.2.1,s_2.2.2),t28) w_6)) (
  zn s fun p_3=>
  ld .slc (Addr.add p_3 1) w_2 fun (t52:(Option Addr×Nat×Nat))=>
  zk3 .i64 (t52.2.1:Int) (s_1.1.2.1:Int) fun t56=>
  zn s fun p_4=>
  stC (Addr.add p_4 1) (Value.slice s_1.1.1 s_1.1.2.1 s_1.1.2.2) w_2 fun w_7=>
  R (.returned (Value.tuple #[(Value.int .i64 t56),(Value.int .i64 0)])) w_7)) ((none,0,0),0) w_1)
theorem z1g {s:Option Addr}{roots:Option Addr}{roots_l roots_c:Nat}{R:Ending->World->Prop}{w:World}(hT:zvr s roots roots_l roots_c R w):zy P zom #[(Value.pointer s),(Value.slice roots roots_l roots_c)] w R:=
 fnT (.seq .leaf (.seq .leaf (.seq (.seq .leaf (.cond (.seq .leaf .leaf) .leaf)) (.seq .leaf (.seq (.seq .leaf (.blk (.loop [(8,.slc),(9,.int .i64)] (.seq (.seq .leaf (.cond .leaf .leaf)) (.seq (.jblk [(8,.slc)] (.seq .leaf (.cond .leaf .leaf))) .leaf))))) (.seq .leaf (.seq .leaf (.seq .leaf .leaf)))))))) Tryz.func49 hT
def zos (s:Option Addr) (root:Value) (kind:Int) (R:Ending->World->Prop) (w:World):Prop:=
  zbm (Value.cells root) zf w fun b4 w_1=>
  ku Unit (fun k=>
  xu (kind != 2) (
  xu (kind != 3) (
  R (.returned (Value.tuple #[(Value.slice none 0 0),(Value.int .i64 100)])) w_1) (
  k () w_1)) (
  k () w_1)) (fun _ w_2=>
  ldA P 32 (⟨b4,0,none⟩:Addr) w_2 fun t22=>
  zba P (Instr.build jf #[(0,(Value.agg t22)),(1,(Value.int .i64 kind))]) .any w_2 fun (t24:Value)=>
  zaw P (Instr.buildSlice zad 1 #[(0,t24)]) .slc w_2 fun (t25:(Option Addr×Nat×Nat)) w_3=>
  za4 ((Option Addr×Nat×Nat)×(Option Addr×Nat×Nat)×(Option Addr×Nat×Nat)) (fun s_2 w_4 k_1=>
  xu (decide ((s_2.2.2.2.1:Int) > 0)) (
  ku ((Option Addr×Nat×Nat)×(Option Addr×Nat×Nat)×(Option Addr×Nat×Nat)) (fun k_2=>
  ixS s_2.2.2.1 s_2.2.2.2.1 33 0 fun t30=>
  ldA P 33 t30 w_4 fun t31=>
  zbm (zc P jf) jf w_4 fun b11 w_5=>
  zb8 P (storeVar jf (⟨b11,0,none⟩:Addr) (Value.agg t31)) w_5 fun w_6=>
  zaw P (Instr.buildSlice zad 0 #[]) .slc w_6 fun (t32:(Option Addr×Nat×Nat)) w_7=>
  zba P (Instr.sliceAt zad (Value.slice s_2.2.2.1 s_2.2.2.2.1 s_2.2.2.2.2) (some (Value.int .i64 1)) none none) .slc w_7 fun (t34:(Option Addr×Nat×Nat))=>
  zaw P (Builtin.append_ #[zad,zad] zad #[(Value.slice t32.1 t32.2.1 t32.2.2),(Value.slice t34.1 t34.2.1 t34.2.2)]) .slc w_7 fun (t35:(Option Addr×Nat×Nat)) w_8=>
  ldA P 33 (⟨b11,0,none⟩:Addr) w_8 fun t37=>
  qy P zyz #[(Value.slice s_2.1.1 s_2.1.2.1 s_2.1.2.2),(Value.agg t37)] [.bool] false w_8 fun (t38:Bool) w_9=>
  xu t38 (
  k_2 ((s_2.1.1,s_2.1.2.1,s_2.1.2.2),(s_2.2.1.1,s_2.2.1.2.1,s_2.2.1.2.2),(t35.1,t35.2.1,t35.2.2)) w_9) (
  ldA P 33 (⟨b11,0,none⟩:Addr) w_9 fun t40=>
  zaw P (Instr.buildSlice zad 1 #[(0,(Value.agg t40))]) .slc w_9 fun (t41:(Option Addr×Nat×Nat)) w_10=>
  zaw P (Builtin.append_ #[zad,zad] zad #[(Value.slice s_2.1.1 s_2.1.2.1 s_2.1.2.2),(Value.slice t41.1 t41.2.1 t41.2.2)]) .slc w_10 fun (t42:(Option Addr×Nat×Nat)) w_11=>
  ldA P 32 (⟨b11,0,none⟩:Addr) w_11 fun t46=>
  qy P zif #[(Value.pointer s),(Value.agg t46)] [.slc,.int .i64] true w_11 fun (t47:((Option Addr×Nat×Nat)×Int)) w_12=>
  xu (t47.2 != 0) (
  R (.returned (Value.tuple #[(Value.slice none 0 0),(Value.int .i64 t47.2)])) w_12) (
  qy P zm3 #[(Value.slice t47.1.1 t47.1.2.1 t47.1.2.2)] [.any,.bool] true w_12 fun (t55:(Value×Bool)) w_13=>
  zbm (zc P zh) zh w_13 fun b14 w_14=>
  zb8 P (storeVar zh (⟨b14,0,none⟩:Addr) t55.1) w_14 fun w_15=>
  ku Unit (fun k_3=>
  xu (!t55.2) (
  R (.returned (Value.tuple #[(Value.slice none 0 0),(Value.int .i64 21)])) w_15) (
  ld (.int .i64) (⟨b14,0,none⟩:Addr) w_15 fun (t62:Int)=>
  ld (.int .i64) (⟨b11,32,none⟩:Addr) w_15 fun (t64:Int)=>
  xu (t62 != t64) (
  R (.returned (Value.tuple #[(Value.slice none 0 0),(Value.int .i64 21)])) w_15) (
  k_3 () w_15))) (fun _ w_16=>
  ku (Option Addr×Nat×Nat) (fun k_4=>
  ldA P 32 (⟨b11,0,none⟩:Addr) w_16 fun t69=>
  qy P zpg #[(Value.slice s_2.2.1.1 s_2.2.1.2.1 s_2.2.1.2.2),(Value.agg t69)] [.bool] false w_16 fun (t70:Bool) w_17=>
  xu (!t70) (
  ldA P 32 (⟨b11,0,none⟩:Addr) w_17 fun t74=>
  zaw P (Instr.buildSlice zo 1 #[(0,(Value.agg t74))]) .slc w_17 fun (t75:(Option Addr×Nat×Nat)) w_18=>
  zaw P (Builtin.append_ #[zo,zo] zo #[(Value.slice s_2.2.1.1 s_2.2.1.2.1 s_2.2.1.2.2),(Value.slice t75.1 t75.2.1 t75.2.2)]) .slc w_18 fun (t76:(Option Addr×Nat×Nat)) w_19=>
  k_4 (t76.1,t76.2.1,t76.2.2) w_19) (
  k_4 (s_2.2.1.1,s_2.2.1.2.1,s_2.2.1.2.2) w_17)) (fun s_4 w_20=>
  ldA P 5 (⟨b14,0,none⟩:Addr) w_20 fun t77=>
  qy P zo7 #[(Value.agg t77)] [.slc] false w_20 fun (t78:(Option Addr×Nat×Nat)) w_21=>
  zaw P (Builtin.append_ #[zad,zad] zad #[(Value.slice t78.1 t78.2.1 t78.2.2),(Value.slice t35.1 t35.2.1 t35.2.2)]) .slc w_21 fun (t80:(Option Addr×Nat×Nat)) w_22=>
  k_2 ((t42.1,t42.2.1,t42.2.2),(s_4.1,s_4.2.1,s_4.2.2),(t80.1,t80.2.1,t80.2.2)) w_22))))) (fun s_5 w_23=>
  k_1 ((s_5.1.1,s_5.1.2.1,s_5.1.2.2),(s_5.2.1.1,s_5.2.1.2.1,s_5.2.1.2.2),(s_5.2.2.1,s_5.2.2.2.1,s_5.2.2.2.2)) w_23)) (
  R (.returned (Value.tuple #[(Value.slice s_2.2.1.1 s_2.2.1.2.1 s_2.2.1.2.2),(Value.int .i64 0)])) w_4)) ((none,0,0),(none,0,0),(t25.1,t25.2.1,t25.2.2)) w_3)
theorem zsb {s:Option Addr}{root:Value}{kind:Int}{R:Ending->World->Prop}{w:World}(hT:zos s root kind R w):zy P zlf #[(Value.pointer s),root,(Value.int .i64 kind)] w R:=
 fnT (.seq .leaf (.join [] (.seq .leaf (.cond (.seq .leaf .leaf) .leaf)) (.seq .leaf (.seq .leaf (.seq .leaf (.seq (.blk (.loop [(8,.slc),(9,.slc),(10,.slc)] (.seq (.seq .leaf (.cond .leaf .leaf)) (.jblk [(8,.slc),(9,.slc),(10,.slc)] (.seq .leaf (.seq .leaf (.seq (.seq .leaf (.cond .leaf .leaf)) (.seq .leaf (.seq .leaf (.seq (.seq .leaf (.cond (.seq .leaf .leaf) .leaf)) (.seq .leaf (.join [] (.seq .leaf (.cond (.seq .leaf .leaf) .leaf)) (.join [(9,.slc)] (.seq .leaf (.cond .leaf .leaf)) .leaf))))))))))))) (.seq .leaf .leaf))))))) Tryz.func51 hT
def z0l (l:Option Addr) (l_l l_c:Nat) (d:Value) (R:Ending->World->Prop) (w:World):Prop:=
  zbm (Value.cells d) zf w fun b3 w_1=>
  za4 Int (fun s w_2 k=>
  xu (decide (s < (l_l:Int))) (
  zbn w_2 fun w_3=>
  ixS l l_l 32 s fun t14=>
  ldA P 32 t14 w_3 fun t15=>
  ldA P 32 (⟨b3,0,none⟩:Addr) w_3 fun t16=>
  zba P (eqM .eql zf (.tmp 15) (.tmp 16) (Value.agg t15) (Value.agg t16)) .bool w_3 fun (t17:Bool)=>
  xu t17 (
  R (.returned (Value.bool true)) w_3) (
  zbv .i64 s 1 fun t11=>
  k t11 w_3)) (
  R (.returned (Value.bool false)) w_2)) 0 w_1
theorem z6l {l:Option Addr}{l_l l_c:Nat}{d:Value}{R:Ending->World->Prop}{w:World}(hT:z0l l l_l l_c d R w):zy P zpg #[(Value.slice l l_l l_c),d] w R:=
 fnT (.seq .leaf (.seq (.seq .leaf (.blk (.loop [(5,.int .i64)] (.seq (.seq .leaf (.cond .leaf .leaf)) (.seq (.blk (.seq (.tree (.op 0 [] (.op 1 [] (.op 2 [] (.op 3 [] (.op 4 [] (.op 5 [] .done))))))) (.cond (.seq .leaf .leaf) .leaf))) .leaf))))) (.seq .leaf .leaf))) Tryz.func81 hT
def z4n (l:Option Addr) (l_l l_c:Nat) (p:Value) (R:Ending->World->Prop) (w:World):Prop:=
  zbm (Value.cells p) jf w fun b3 w_1=>
  za4 Int (fun s w_2 k=>
  xu (decide (s < (l_l:Int))) (
  zbn w_2 fun w_3=>
  ixS l l_l 33 s fun t14=>
  ldA P 33 t14 w_3 fun t15=>
  ldA P 33 (⟨b3,0,none⟩:Addr) w_3 fun t16=>
  zba P (eqM .eql jf (.tmp 15) (.tmp 16) (Value.agg t15) (Value.agg t16)) .bool w_3 fun (t17:Bool)=>
  xu t17 (
  R (.returned (Value.bool true)) w_3) (
  zbv .i64 s 1 fun t11=>
  k t11 w_3)) (
  R (.returned (Value.bool false)) w_2)) 0 w_1
theorem z7x {l:Option Addr}{l_l l_c:Nat}{p:Value}{R:Ending->World->Prop}{w:World}(hT:z4n l l_l l_c p R w):zy P zyz #[(Value.slice l l_l l_c),p] w R:=
 fnT (.seq .leaf (.seq (.seq .leaf (.blk (.loop [(5,.int .i64)] (.seq (.seq .leaf (.cond .leaf .leaf)) (.seq (.blk (.seq (.tree (.op 0 [] (.op 1 [] (.op 2 [] (.op 3 [] (.op 4 [] (.op 5 [] .done))))))) (.cond (.seq .leaf .leaf) .leaf))) .leaf))))) (.seq .leaf .leaf))) Tryz.func90 hT
def zu7 (n:Value) (R:Ending->World->Prop) (w:World):Prop:=
  zbm (Value.cells n) zh w fun b1 w_1=>
  ldA P 5 (⟨b1,0,none⟩:Addr) w_1 fun t6=>
  qy P zrl #[(Value.agg t6)] [.slc] false w_1 fun (t7:(Option Addr×Nat×Nat)) w_2=>
  za4 ((Option Addr×Nat×Nat)×Int) (fun s w_3 k=>
  xu (decide (s.2 < (t7.2.1:Int))) (
  zbn w_3 fun w_4=>
  ixS t7.1 t7.2.1 34 s.2 fun t17=>
  ixS t7.1 t7.2.1 34 s.2 fun t22=>
  ldA P 32 (Addr.add t17 2) w_4 fun t19=>
  ld (.int .i64) (Addr.add t22 1) w_4 fun (t24:Int)=>
  zba P (Instr.build jf #[(0,(Value.agg t19)),(1,(Value.int .i64 t24))]) .any w_4 fun (t25:Value)=>
  zaw P (Instr.buildSlice zad 1 #[(0,t25)]) .slc w_4 fun (t26:(Option Addr×Nat×Nat)) w_5=>
  zaw P (Builtin.append_ #[zad,zad] zad #[(Value.slice s.1.1 s.1.2.1 s.1.2.2),(Value.slice t26.1 t26.2.1 t26.2.2)]) .slc w_5 fun (t27:(Option Addr×Nat×Nat)) w_6=>
  zbv .i64 s.2 1 fun t13=>
  k ((t27.1,t27.2.1,t27.2.2),t13) w_6) (
  R (.returned (Value.slice s.1.1 s.1.2.1 s.1.2.2)) w_3)) ((none,0,0),0) w_2
theorem z0f {n:Value}{R:Ending->World->Prop}{w:World}(hT:zu7 n R w):zy P zo7 #[n] w R:=
 fnT (.seq .leaf (.seq .leaf (.seq .leaf (.seq (.seq .leaf (.blk (.loop [(3,.slc),(5,.int .i64)] (.seq (.seq .leaf (.cond .leaf .leaf)) (.seq (.blk (.tree (.op 0 [] (.op 1 [] (.op 2 [] (.op 3 [] (.op 4 [] (.op 6 [] (.op 7 [] (.op 8 [] (.op 9 [] (.op 5 [] (.op 10 [] (.op 11 [] (.op 12 [] (.op 13 [] (.op 14 [] .done))))))))))))))))) .leaf))))) (.seq .leaf .leaf))))) Tryz.func91 hT
def zm6 (p:Value) (c0:Option Addr) (c1:Option Addr) (c2:Option Addr) (c3:Option Addr) (c4:Option Addr) (R:Ending->World->Prop) (w:World):Prop:=
  zbm (Value.cells p) za8 w fun b6 w_1=>
  zn c0 fun p_1=>
  ld .map p_1 w_1 fun (t14:(Option Nat))=>
  ldA P 33 (⟨b6,0,none⟩:Addr) w_1 fun t15=>
  zba P (Instr.lookup zbb (Value.map t14) (Value.agg t15) false) (.int .i64) w_1 fun (t16:Int)=>
  xu (decide (t16 > 0)) (
  R (.returned (Value.int .i64 0)) w_1) (
  zn c0 fun p_2=>
  ld .map p_2 w_1 fun (t18:(Option Nat))=>
  ldA P 33 (⟨b6,0,none⟩:Addr) w_1 fun t19=>
  zb8 P (Instr.mapUpdate zbb (Value.map t18) (Value.agg t19) (Value.int .i64 1)) w_1 fun w_2=>
  zn c1 fun p_3=>
  ld .ptr p_3 w_2 fun (t21:(Option Addr))=>
  ldA P 32 (⟨b6,0,none⟩:Addr) w_2 fun t23=>
  qy P zfz #[(Value.pointer t21),(Value.agg t23)] [.slc,.int .i64] true w_2 fun (t24:((Option Addr×Nat×Nat)×Int)) w_3=>
  xu (t24.2 != 0) (
  R (.returned (Value.int .i64 t24.2)) w_3) (
  qy P zh5 #[(Value.slice t24.1.1 t24.1.2.1 t24.1.2.2)] [.any,.int .i64] true w_3 fun (t32:(Value×Int)) w_4=>
  zbm (zc P zh) zh w_4 fun b10 w_5=>
  zb8 P (storeVar zh (⟨b10,0,none⟩:Addr) t32.1) w_5 fun w_6=>
  ku Unit (fun k=>
  xu (t32.2 != 0) (
  R (.returned (Value.int .i64 21)) w_6) (
  ld (.int .i64) (⟨b10,0,none⟩:Addr) w_6 fun (t39:Int)=>
  ld (.int .i64) (⟨b6,32,none⟩:Addr) w_6 fun (t41:Int)=>
  xu (t39 != t41) (
  R (.returned (Value.int .i64 21)) w_6) (
  k () w_6))) (fun _ w_7=>
  ku Unit (fun k_1=>
  zn c2 fun p_4=>
  ld .map p_4 w_7 fun (t44:(Option Nat))=>
  ldA P 32 (⟨b6,0,none⟩:Addr) w_7 fun t46=>
  zba P (Instr.lookup ji (Value.map t44) (Value.agg t46) false) (.int .i64) w_7 fun (t47:Int)=>
  xu (t47==0) (
  zn c3 fun p_5=>
  ld .slc p_5 w_7 fun (t49:(Option Addr×Nat×Nat))=>
  ldA P 32 (⟨b6,0,none⟩:Addr) w_7 fun t51=>
  zaw P (Instr.buildSlice zo 1 #[(0,(Value.agg t51))]) .slc w_7 fun (t52:(Option Addr×Nat×Nat)) w_8=>
  zaw P (Builtin.append_ #[zo,zo] zo #[(Value.slice t49.1 t49.2.1 t49.2.2),(Value.slice t52.1 t52.2.1 t52.2.2)]) .slc w_8 fun (t53:(Option Addr×Nat×Nat)) w_9=>
  zn c3 fun p_6=>
  stC p_6 (Value.slice t53.1 t53.2.1 t53.2.2) w_9 fun w_10=>
  k_1 () w_10) (
  k_1 () w_7)) (fun _ w_11=>
  zn c2 fun p_7=>
  ld .map p_7 w_11 fun (t54:(Option Nat))=>
  ldA P 32 (⟨b6,0,none⟩:Addr) w_11 fun t56=>
  zb8 P (Instr.mapUpdate ji (Value.map t54) (Value.agg t56) (Value.int .i64 1)) w_11 fun w_12=>
  ldA P 5 (⟨b10,0,none⟩:Addr) w_12 fun t57=>
  qy P zoi #[(Value.agg t57)] [.slc] false w_12 fun (t58:(Option Addr×Nat×Nat)) w_13=>
  za4 Int (fun s_2 w_14 k_2=>
  xu (decide (s_2 < (t58.2.1:Int))) (
  ixS t58.1 t58.2.1 34 s_2 fun t62=>
  ldA P 34 t62 w_14 fun t63=>
  zbm (zc P zu) zu w_14 fun b12 w_15=>
  zb8 P (storeVar zu (⟨b12,0,none⟩:Addr) (Value.agg t63)) w_15 fun w_16=>
  zn c4 fun p_8=>
  ld .any p_8 w_16 fun (t64:Value)=>
  ldA P 32 (⟨b12,2,none⟩:Addr) w_16 fun t66=>
  ld (.int .i64) (⟨b12,1,none⟩:Addr) w_16 fun (t68:Int)=>
  zba P (Instr.build za8 #[(0,(Value.agg t66)),(1,(Value.int .i64 t68))]) .any w_16 fun (t69:Value)=>
  zok P t64 #[t69] [.int .i64] false w_16 fun (t70:Int) w_17=>
  xu (t70 != 0) (
  R (.returned (Value.int .i64 t70)) w_17) (
  zbv .i64 s_2 1 fun t74=>
  k_2 t74 w_17)) (
  R (.returned (Value.int .i64 0)) w_14)) 0 w_13))))
theorem zsx {p:Value}{c0:Option Addr}{c1:Option Addr}{c2:Option Addr}{c3:Option Addr}{c4:Option Addr}{R:Ending->World->Prop}{w:World}(hT:zm6 p c0 c1 c2 c3 c4 R w):zy P zfd #[p,(Value.pointer c0),(Value.pointer c1),(Value.pointer c2),(Value.pointer c3),(Value.pointer c4)] w R:=
 fnT (.seq .leaf (.seq (.seq .leaf (.cond (.seq .leaf .leaf) .leaf)) (.seq .leaf (.seq .leaf (.seq (.seq .leaf (.cond (.seq .leaf .leaf) .leaf)) (.seq .leaf (.join [] (.seq .leaf (.cond (.seq .leaf .leaf) .leaf)) (.join [] (.seq .leaf (.cond .leaf .leaf)) (.seq .leaf (.seq (.seq .leaf (.blk (.loop [(60,.int .i64)] (.seq .leaf (.seq (.cond .leaf .leaf) (.seq (.blk (.seq .leaf (.seq .leaf (.seq .leaf (.cond (.seq .leaf .leaf) .leaf))))) .leaf)))))) (.seq .leaf .leaf))))))))))) Tryz.func95 hT
def zlm (s:Option Addr) (roots:Option Addr) (roots_l roots_c:Nat) (R:Ending->World->Prop) (w:World):Prop:=
  xu (Option.isNone s) (
  R (.returned (Value.tuple #[(Value.map none),(Value.int .i64 7)])) w) (
  zaw P (Instr.makeMap ji none) .map w fun (t15:(Option Nat)) w_1=>
  za4 Int (fun s_1 w_2 k=>
  xu (decide (s_1 < (roots_l:Int))) (
  ixS roots roots_l 34 s_1 fun t20=>
  ldA P 34 t20 w_2 fun t21=>
  zbm (zc P zu) zu w_2 fun b8 w_3=>
  zb8 P (storeVar zu (⟨b8,0,none⟩:Addr) (Value.agg t21)) w_3 fun w_4=>
  ldA P 32 (⟨b8,2,none⟩:Addr) w_4 fun t25=>
  ld (.int .i64) (⟨b8,1,none⟩:Addr) w_4 fun (t27:Int)=>
  qy P zh3 #[(Value.pointer s),(Value.agg t25),(Value.int .i64 t27)] [.slc,.int .i64] true w_4 fun (t28:((Option Addr×Nat×Nat)×Int)) w_5=>
  xu (t28.2 != 0) (
  R (.returned (Value.tuple #[(Value.map none),(Value.int .i64 t28.2)])) w_5) (
  za4 Int (fun s_2 w_6 k_1=>
  xu (decide (s_2 < (t28.1.2.1:Int))) (
  ixS t28.1.1 t28.1.2.1 32 s_2 fun t38=>
  ldA P 32 t38 w_6 fun t39=>
  zbm (zc P zf) zf w_6 fun b12 w_7=>
  zb8 P (storeVar zf (⟨b12,0,none⟩:Addr) (Value.agg t39)) w_7 fun w_8=>
  ldA P 32 (⟨b12,0,none⟩:Addr) w_8 fun t41=>
  zb8 P (Instr.mapUpdate ji (Value.map t15) (Value.agg t41) (Value.int .i64 1)) w_8 fun w_9=>
  zbv .i64 s_2 1 fun t42=>
  k_1 t42 w_9) (
  zbv .i64 s_1 1 fun t43=>
  k t43 w_6)) 0 w_5)) (
  R (.returned (Value.tuple #[(Value.map t15),(Value.int .i64 0)])) w_2)) 0 w_1)
theorem zn9 {s:Option Addr}{roots:Option Addr}{roots_l roots_c:Nat}{R:Ending->World->Prop}{w:World}(hT:zlm s roots roots_l roots_c R w):zy P zgl #[(Value.pointer s),(Value.slice roots roots_l roots_c)] w R:=
 fnT (.seq .leaf (.seq (.seq .leaf (.cond (.seq .leaf .leaf) .leaf)) (.seq .leaf (.seq (.seq .leaf (.blk (.loop [(18,.int .i64)] (.seq .leaf (.seq (.cond .leaf .leaf) (.seq (.blk (.seq .leaf (.seq .leaf (.seq (.seq .leaf (.cond (.seq .leaf .leaf) .leaf)) (.seq .leaf (.blk (.loop [(36,.int .i64)] (.seq .leaf (.seq (.cond .leaf .leaf) (.seq (.blk (.seq .leaf .leaf)) .leaf)))))))))) .leaf)))))) (.seq .leaf .leaf))))) Tryz.func97 hT
def zry (l:Option Addr) (l_l l_c:Nat) (d:Value) (R:Ending->World->Prop) (w:World):Prop:=
  zbm (Value.cells d) zf w fun b3 w_1=>
  ku Int (fun k=>
  za4 Int (fun s w_2 k_1=>
  ku Unit (fun k_2=>
  zbn w_2 fun w_3=>
  xu (decide (s < (l_l:Int))) (
  ixS l l_l 32 s fun t14=>
  ldA P 32 t14 w_3 fun t15=>
  ldA P 32 (⟨b3,0,none⟩:Addr) w_3 fun t16=>
  qy P zia #[(Value.agg t15),(Value.agg t16)] [.int .i64] false w_3 fun (t17:Int) w_4=>
  xu (decide (t17 < 0)) (
  k_2 () w_4) (
  k s w_4)) (
  k s w_3)) (fun _ w_5=>
  zbv .i64 s 1 fun t21=>
  k_1 t21 w_5)) 0 w_1) (fun s_2 w_6=>
  ku Unit (fun k_3=>
  zbn w_6 fun w_7=>
  xu (decide (s_2 < (l_l:Int))) (
  ixS l l_l 32 s_2 fun t29=>
  ldA P 32 t29 w_7 fun t30=>
  ldA P 32 (⟨b3,0,none⟩:Addr) w_7 fun t31=>
  zba P (eqM .eql zf (.tmp 30) (.tmp 31) (Value.agg t30) (Value.agg t31)) .bool w_7 fun (t32:Bool)=>
  xu t32 (
  R (.returned (Value.slice l l_l l_c)) w_7) (
  k_3 () w_7)) (
  k_3 () w_7)) (fun _ w_8=>
  zaw P (Instr.buildSlice zo 0 #[]) .slc w_8 fun (t35:(Option Addr×Nat×Nat)) w_9=>
  zba P (Instr.sliceAt zo (Value.slice l l_l l_c) none (some (Value.int .i64 s_2)) none) .slc w_9 fun (t38:(Option Addr×Nat×Nat))=>
  zaw P (Builtin.append_ #[zo,zo] zo #[(Value.slice t35.1 t35.2.1 t35.2.2),(Value.slice t38.1 t38.2.1 t38.2.2)]) .slc w_9 fun (t39:(Option Addr×Nat×Nat)) w_10=>
  ldA P 32 (⟨b3,0,none⟩:Addr) w_10 fun t41=>
  zaw P (Instr.buildSlice zo 1 #[(0,(Value.agg t41))]) .slc w_10 fun (t42:(Option Addr×Nat×Nat)) w_11=>
  zaw P (Builtin.append_ #[zo,zo] zo #[(Value.slice t39.1 t39.2.1 t39.2.2),(Value.slice t42.1 t42.2.1 t42.2.2)]) .slc w_11 fun (t43:(Option Addr×Nat×Nat)) w_12=>
  zba P (Instr.sliceAt zo (Value.slice l l_l l_c) (some (Value.int .i64 s_2)) none none) .slc w_12 fun (t47:(Option Addr×Nat×Nat))=>
  zaw P (Builtin.append_ #[zo,zo] zo #[(Value.slice t43.1 t43.2.1 t43.2.2),(Value.slice t47.1 t47.2.1 t47.2.2)]) .slc w_12 fun (t48:(Option Addr×Nat×Nat)) w_13=>
  R (.returned (Value.slice t48.1 t48.2.1 t48.2.2)) w_13))
theorem zyr {l:Option Addr}{l_l l_c:Nat}{d:Value}{R:Ending->World->Prop}{w:World}(hT:zry l l_l l_c d R w):zy P zmo #[(Value.slice l l_l l_c),d] w R:=
 fnT (.seq .leaf (.seq .leaf (.seq (.jblk [(5,.int .i64)] (.loop [(5,.int .i64)] (.join [] (.seq (.tree (.op 0 [] (.op 1 [] (.op 2 [] (.op 3 [] (.op 4 [] (.op 5 [] (.op 6 [] (.op 7 [] (.op 8 [] (.op 9 [] (.op 10 [] (.op 11 [] (.op 12 [] .done)))))))))))))) (.cond .leaf .leaf)) (.blk .leaf)))) (.join [] (.seq (.tree (.op 0 [] (.op 1 [] (.op 2 [] (.op 3 [] (.op 4 [] (.op 5 [] (.op 6 [] (.op 7 [] (.op 8 [] (.op 9 [] (.op 10 [] (.op 11 [] .done))))))))))))) (.cond (.seq .leaf .leaf) .leaf)) (.seq .leaf (.seq .leaf (.seq .leaf .leaf))))))) Tryz.func101 hT
end Go.Proofs.YtbmegmbnlajbbaaGreatDoor
namespace Go.Fw
open Go
abbrev Heap:=Array Obj
@[simp] theorem qg {a:Addr}{K:Addr->Prop}:zn (some a) K=K a:=rfl
theorem zai {b:Bool}{A B:Prop}(h:b=true) (hA:A):xu b A B:=⟨fun _=>hA,fun h'=>(by rw [h] at h';cases h')⟩
theorem jr {b:Bool}{A B:Prop}(h:b=false) (hB:B):xu b A B:=⟨fun h'=>(by rw [h] at h';cases h'),fun _=>hB⟩
theorem zx {p:Prop} [Decidable p] {A B:Prop}(hA:p->A) (hB:¬p->B):xu (decide p) A B:=⟨fun h=>hA (of_decide_eq_true h),fun h=>hB (of_decide_eq_false h)⟩
theorem zdv {p:Prop}{b:Bool}{A B:Prop}(h:b=true ↔ p) (hA:p->A) (hB:¬p->B):xu b A B:=
 ⟨fun h'=>hA (h.1 h'),fun h'=>hB fun hp=>by rw [h.2 hp] at h';cases h'⟩
theorem zbo {a b:Int}{A B:Prop}(hA:a=b->A) (hB:a≠b->B):xu (a==b) A B:=zdv (by simp) hA hB
theorem zan {a b:Int}{A B:Prop}(hA:a≠b->A) (hB:a=b->B):xu (a != b) A B:=zdv (p:=a≠b) (by simp) hA fun h=>hB (by omega)
theorem wrap_i64 {n:Int}(h1:-9223372036854775808<=n) (h2:n<=9223372036854775807):IntKind.i64.wrap n=n:=by
 simp only [IntKind.wrap,IntKind.bits,IntKind.signed]
 have e:(2:Int) ^ 64=18446744073709551616:=by decide
 have e':(2:Int) ^ (64-1)=9223372036854775808:=by decide
 simp only [e,e',Bool.true_and]
 split
 ·rename_i h;simp at h;omega
 ·rename_i h;simp at h;omega
theorem wrap_u64 {n:Int}(h1:0<=n) (h2:n < 18446744073709551616):IntKind.u64.wrap n=n:=by
 simp only [IntKind.wrap,IntKind.bits,IntKind.signed]
 have e:(2:Int) ^ 64=18446744073709551616:=by decide
 simp only [e,Bool.false_and,Bool.false_eq_true,if_false]
 omega
theorem qfm {a b:Int}{K:Int->Prop}(h1:-9223372036854775808<=a+b) (h2:a+b<=9223372036854775807) (hK:K (a+b)):zbv .i64 a b K:=⟨_,(wrap_i64 h1 h2).symm,hK⟩
theorem qfn {a b:Int}{K:Int->Prop}(h1:-9223372036854775808<=a-b) (h2:a-b<=9223372036854775807) (hK:K (a-b)):zk3 .i64 a b K:=⟨_,(wrap_i64 h1 h2).symm,hK⟩
theorem qee {a b:Int}{K:Int->Prop}(h1:-9223372036854775808<=a * b) (h2:a * b<=9223372036854775807) (hK:K (a * b)):zv3 .i64 a b K:=⟨_,(wrap_i64 h1 h2).symm,hK⟩
theorem jd {a b:Int}{K:Int->Prop}(c:Int) (hc:a+b=c) (h1:-9223372036854775808<=c) (h2:c<=9223372036854775807) (hK:K c):zbv .i64 a b K:=by subst hc;exact qfm h1 h2 hK
theorem zb3 {a b:Int}{K:Int->Prop}(c:Int) (hc:a-b=c) (h1:-9223372036854775808<=c) (h2:c<=9223372036854775807) (hK:K c):zk3 .i64 a b K:=by subst hc;exact qfn h1 h2 hK
theorem zfo {a b:Int}{K:Int->Prop}(c:Int) (hc:a * b=c) (h1:-9223372036854775808<=c) (h2:c<=9223372036854775807) (hK:K c):zv3 .i64 a b K:=by subst hc;exact qee h1 h2 hK
theorem zf6 {a:Int}{K:Int->Prop}(h1:0<=a) (h2:a < 18446744073709551616) (hK:K a):cvI .u64 a K:=⟨_,(wrap_u64 h1 h2).symm,hK⟩
theorem zhb {a:Int}{K:Int->Prop}(h1:-9223372036854775808<=a) (h2:a<=9223372036854775807) (hK:K a):cvI .i64 a K:=⟨_,(wrap_i64 h1 h2).symm,hK⟩
theorem zf4 {n:Nat}(x:BitVec n):BitVec.ofInt n (x.toNat:Int)=x:=by
 apply BitVec.eq_of_toNat_eq
 simp
theorem zg4 (m:Nat):IntKind.u32.wrap (m:Int)=((m % 4294967296:Nat):Int):=by
 simp only [IntKind.wrap,IntKind.bits,IntKind.signed]
 have e:(2:Int) ^ 32=4294967296:=by decide
 simp only [e,Bool.false_and,Bool.false_eq_true,if_false]
 omega
theorem z6z (m:Nat):IntKind.u64.wrap (m:Int)=((m % 18446744073709551616:Nat):Int):=by
 simp only [IntKind.wrap,IntKind.bits,IntKind.signed]
 have e:(2:Int) ^ 64=18446744073709551616:=by decide
 simp only [e,Bool.false_and,Bool.false_eq_true,if_false]
 omega
theorem zi0 (m:Nat):IntKind.u8.wrap (m:Int)=((m % 256:Nat):Int):=by
 simp only [IntKind.wrap,IntKind.bits,IntKind.signed]
 have e:(2:Int) ^ 8=256:=by decide
 simp only [e,Bool.false_and,Bool.false_eq_true,if_false]
 omega
section w32
variable {K:Int->Prop}(x y:BitVec 32)
theorem zv2 (hK:K ((x+y).toNat:Int)):zbv .u32 (x.toNat:Int) (y.toNat:Int) K:=by
 refine⟨_,?_,hK⟩
 rw [<-Int.natCast_add,zg4]
 simp [BitVec.toNat_add]
theorem qa5 (hK:K ((x &&& y).toNat:Int)):z3g .u32 (x.toNat:Int) (y.toNat:Int) K:=by
 refine⟨_,?_,hK⟩
 change _=IntKind.u32.wrap ((BitVec.ofInt 32 (x.toNat:Int) &&& BitVec.ofInt 32 (y.toNat:Int)).toNat:Int)
 rw [zf4,zf4,zg4,Nat.mod_eq_of_lt (BitVec.isLt _)]
theorem orW (hK:K ((x ||| y).toNat:Int)):orI .u32 (x.toNat:Int) (y.toNat:Int) K:=by
 refine⟨_,?_,hK⟩
 change _=IntKind.u32.wrap ((BitVec.ofInt 32 (x.toNat:Int) ||| BitVec.ofInt 32 (y.toNat:Int)).toNat:Int)
 rw [zf4,zf4,zg4,Nat.mod_eq_of_lt (BitVec.isLt _)]
theorem zv4 (hK:K ((x ^^^ y).toNat:Int)):zn3 .u32 (x.toNat:Int) (y.toNat:Int) K:=by
 refine⟨_,?_,hK⟩
 change _=IntKind.u32.wrap ((BitVec.ofInt 32 (x.toNat:Int) ^^^ BitVec.ofInt 32 (y.toNat:Int)).toNat:Int)
 rw [zf4,zf4,zg4,Nat.mod_eq_of_lt (BitVec.isLt _)]
theorem z4j (hK:K ((~~~ x).toNat:Int)):zn3 .u32 (IntKind.max .u32) (x.toNat:Int) K:=by
 refine⟨_,?_,hK⟩
 change _=IntKind.u32.wrap ((BitVec.ofInt 32 (IntKind.max .u32) ^^^ BitVec.ofInt 32 (x.toNat:Int)).toNat:Int)
 rw [zf4,zg4,Nat.mod_eq_of_lt (BitVec.isLt _)]
 have:BitVec.ofInt 32 (IntKind.max .u32)=BitVec.allOnes 32:=by decide
 rw [this,BitVec.allOnes_xor]
theorem qce (hK:K ((~~~ x).toNat:Int)):zn3 .u32 4294967295 (x.toNat:Int) K:=z4j x hK
theorem qfy {i:Int}(n:Nat) (hi:i=(n:Int)) (hn:n<=32) (hK:K ((x <<< n).toNat:Int)):z8i .u32 (x.toNat:Int) i K:=by
 subst hi
 refine⟨by omega,_,?_,hK⟩
 have h1:min (n:Int).toNat IntKind.u32.bits=n:=by simp [IntKind.bits];omega
 rw [h1]
 have h2:((x.toNat:Int) * 2 ^ n)=((x.toNat * 2 ^ n:Nat):Int):=by simp
 rw [h2,zg4]
 simp [BitVec.toNat_shiftLeft,Nat.shiftLeft_eq]
theorem qa7 {i:Int}(n:Nat) (hi:i=(n:Int)) (hn:n<=32) (hK:K ((x >>> n).toNat:Int)):zzc .u32 (x.toNat:Int) i K:=by
 subst hi
 refine⟨by omega,_,?_,hK⟩
 have h1:min (n:Int).toNat IntKind.u32.bits=n:=by simp [IntKind.bits];omega
 rw [h1]
 have h2:(2:Int) ^ n=((2 ^ n:Nat):Int):=by simp
 rw [h2,BitVec.toNat_ushiftRight,Nat.shiftRight_eq_div_pow,Int.fdiv_eq_ediv_of_nonneg _ (Int.natCast_nonneg _)]
 rfl
end w32
theorem qh3 {i:Int}{m:Nat}(n:Nat) (hi:i=(n:Int)) (hn:n<=64){K:Int->Prop}(hK:K ((m / 2 ^ n:Nat):Int)):zzc .u64 (m:Int) i K:=by
 subst hi
 refine⟨by omega,_,?_,hK⟩
 have h1:min (n:Int).toNat IntKind.u64.bits=n:=by simp [IntKind.bits];omega
 rw [h1]
 have h2:(2:Int) ^ n=((2 ^ n:Nat):Int):=by simp
 rw [h2,Int.fdiv_eq_ediv_of_nonneg _ (Int.natCast_nonneg _)]
 rfl
theorem cv8 {m:Nat}{K:Int->Prop}(hK:K ((UInt8.ofNat m).toNat:Int)):cvI .u8 (m:Int) K:=by
 refine⟨_,?_,hK⟩
 rw [zi0]
 simp
theorem qd3 {a b:Int}{K:Int->Prop}(c:Int) (hc:a * b=c) (h1:0<=c) (h2:c < 18446744073709551616) (hK:K c):zv3 .u64 a b K:=by
 subst hc
 exact⟨_,(wrap_u64 h1 h2).symm,hK⟩
def b32 (b:UInt8):BitVec 32:=BitVec.ofNat 32 b.toNat
theorem cvB {b:UInt8}{K:Int->Prop}(hK:K ((b32 b).toNat:Int)):cvI .u32 (b.toNat:Int) K:=by
 refine⟨_,?_,hK⟩
 rw [zg4]
 simp [b32]
def lo8 (x:BitVec 32):UInt8:=UInt8.ofNat x.toNat
theorem cvL (x:BitVec 32){K:Int->Prop}(hK:K ((lo8 x).toNat:Int)):cvI .u8 (x.toNat:Int) K:=by
 refine⟨_,?_,hK⟩
 rw [zi0]
 simp [lo8]
def Bytes (c:Array Value) (o:Nat) (f:Nat->UInt8) (n:Nat):Prop:=∀ i,i < n->c[o+i]?=some (.int .u8 ((f i).toNat:Int))
def Words (c:Array Value) (o:Nat) (f:Nat->BitVec 32) (n:Nat):Prop:=∀ i,i < n->c[o+i]?=some (.int .u32 ((f i).toNat:Int))
theorem Words.at {c:Array Value}{f:Nat->BitVec 32}{n:Nat}(h:Words c 0 f n) (i:Nat) (hi:i < n):c[i]?=some (.int .u32 ((f i).toNat:Int)):=by simpa using h i hi
theorem Words.snoc {c:Array Value}{f:Nat->BitVec 32}{n:Nat}(h:Words c 0 f n) (hn:n < c.size){x:BitVec 32}(hx:x=f n):Words (c.setIfInBounds n (.int .u32 (x.toNat:Int))) 0 f (n+1):=by
 intro i hi
 subst hx
 by_cases e:i=n
 ·subst e;simp [hn]
 ·rw [Array.getElem?_setIfInBounds_ne (by omega)];exact h i (by omega)
theorem Bytes.at {c:Array Value}{f:Nat->UInt8}{n:Nat}(h:Bytes c 0 f n) (i:Nat) (hi:i < n):c[i]?=some (.int .u8 ((f i).toNat:Int)):=by simpa using h i hi
theorem Bytes.snoc {c:Array Value}{f:Nat->UInt8}{n:Nat}(h:Bytes c 0 f n) (hn:n < c.size){x:UInt8}(hx:x=f n):Bytes (c.setIfInBounds n (.int .u8 (x.toNat:Int))) 0 f (n+1):=by
 intro i hi
 subst hx
 by_cases e:i=n
 ·subst e;simp [hn]
 ·rw [Array.getElem?_setIfInBounds_ne (by omega)];exact h i (by omega)
def Ext (M:List Nat) (H H':Heap):Prop:=H.size<=H'.size/\∀ b,b < H.size->b∉M->H'[b]?=H[b]?
theorem Ext.refl (M:List Nat) (H:Heap):Ext M H H:=⟨Nat.le_refl _,fun _ _ _=>rfl⟩
theorem Ext.trans {M:List Nat}{H H' H'':Heap}(h:Ext M H H') (h':Ext M H' H''):Ext M H H'':=
 ⟨Nat.le_trans h.1 h'.1,fun b hb hn=>(h'.2 b (Nat.lt_of_lt_of_le hb h.1) hn).trans (h.2 b hb hn)⟩
theorem Ext.mono {M M':List Nat}{H H':Heap}(hm:∀ b,b∈M->b∈M') (h:Ext M H H'):Ext M' H H':=⟨h.1,fun b hb hn=>h.2 b hb fun hm'=>hn (hm b hm')⟩
theorem Ext.own {M M':List Nat}{H H' H'':Heap}(h:Ext M H H') (h':Ext M' H' H'') (hm:∀ b,b∈M'->b < H.size->b∈M):Ext M H H'':=
 ⟨Nat.le_trans h.1 h'.1,fun b hb hn=>(h'.2 b (Nat.lt_of_lt_of_le hb h.1) fun hm'=>hn (hm b hm' hb)).trans (h.2 b hb hn)⟩
theorem Ext.push {M:List Nat}{H:Heap}(o:Obj):Ext M H (H.push o):=⟨by simp,fun b hb _=>by rw [Array.getElem?_push_lt hb,Array.getElem?_eq_getElem hb]⟩
theorem Ext.get {M:List Nat}{H H':Heap}{b:Nat}{o:Obj}(h:Ext M H H') (hb:H[b]?=some o) (hn:b∉M):H'[b]?=some o:=by
 rw [h.2 b (Array.getElem?_eq_some_iff.1 hb).1 hn,hb]
theorem lt_of_get {H:Heap}{b:Nat}{o:Obj}(hb:H[b]?=some o):b < H.size:=(Array.getElem?_eq_some_iff.1 hb).1
theorem zk {H:Heap}{o:Obj}:(H.push o)[H.size]?=some o:=by simp
theorem zc6 {H:Heap}{o x:Obj}{b:Nat}(h:H[b]?=some x):(H.push o)[b]?=some x:=by
 rw [Array.getElem?_push_lt (lt_of_get h),<-h,Array.getElem?_eq_getElem (lt_of_get h)]
theorem qc {H:Heap}{o x:Obj}{b:Nat}(h:H[b]?=some x):(H.setIfInBounds b o)[b]?=some o:=by
 simp [lt_of_get h]
theorem zfn {H:Heap}{o x:Obj}{b c:Nat}(h:H[c]?=some x) (hne:c≠b):(H.setIfInBounds b o)[c]?=some x:=by
 rw [Array.getElem?_setIfInBounds_ne (Ne.symm hne),h]
theorem Ext.set {M:List Nat}{H:Heap}{b:Nat}(o:Obj) (hb:b∈M):Ext M H (H.setIfInBounds b o):=
 ⟨by simp,fun c _ hn=>by rw [Array.getElem?_setIfInBounds_ne];intro e;subst e;exact hn hb⟩
theorem Ext.set_own {M:List Nat}{H H':Heap}{b:Nat}{o:Obj}(h:Ext M H H') (hb:H.size<=b\/b∈M):Ext M H (H'.setIfInBounds b o):=by
 refine⟨by simp;exact h.1,fun c hc hn=>?_⟩
 rw [Array.getElem?_setIfInBounds_ne]
 ·exact h.2 c hc hn
 ·intro e
  subst e
  rcases hb with hb | hb
  ·omega
  ·exact hn hb
theorem Ext.push_own {M:List Nat}{H H':Heap}{o:Obj}(h:Ext M H H'):Ext M H (H'.push o):=h.trans (.push o)
section heap
variable {w:World}{H:Heap}
theorem zu8 (hw:w.heap=H){b o:Nat}{c:Array Value}{T:TypeId}{fr:Nat×Nat}(hb:H[b]?=some (.cells c T fr)):w.cell? ⟨b,o,none⟩=c[o]?:=by
 unfold World.cell?
 rw [hw]
 simp only [hb]
 simp
theorem je {s:Sh}{b o:Nat}{c:Array Value}{T:TypeId}{fr:Nat×Nat}{K:s.T->Prop}{t:s.T}(hw:w.heap=H) (hb:H[b]?=some (.cells c T fr)) (hc:c[o]?=some (s.val t)) (hK:K t) :
  ld s ⟨b,o,none⟩ w K:=⟨t,by rw [zu8 hw hb,hc],hK⟩
theorem jv {K:World->Prop}(hw:w.heap=H) (hK:∀ w',w'.heap=H->K w'):zbn w K:=by
 rintro w' rfl
 exact hK _ hw
theorem jm {c:Array Value}{T:TypeId}{K:Nat->World->Prop}(hw:w.heap=H) (hK:∀ w',w'.heap=H.push (.cells c T)->K H.size w'):zbm c T w K:=by
 rintro b w' ⟨rfl,rfl⟩
 rw [hw]
 exact hK _ (by simp)
theorem z04 {b o:Nat}{c:Array Value}{T:TypeId}{fr:Nat×Nat}{v:Value}(hw:w.heap=H) (hb:H[b]?=some (.cells c T fr)) :
  (w.setCell ⟨b,o,none⟩ v).heap=H.setIfInBounds b (.cells (c.setIfInBounds o v) T fr):=by
 unfold World.setCell
 simp only [hw]
 apply Array.ext_getElem?
 intro i
 rw [Array.getElem?_modify]
 by_cases h:b=i
 ·subst h
  rw [if_pos rfl,hb,qc hb]
  simp
 ·rw [if_neg h,Array.getElem?_setIfInBounds_ne h]
theorem zta {b o:Nat}{c:Array Value}{T:TypeId}(hw:w.heap=H) (hb:H[b]?=some (.cells c T (0,0))):w.frozen? ⟨b,o,none⟩=false:=by
 unfold World.frozen?
 rw [hw]
 simp only [hb]
 simp
theorem zbd {b o:Nat}{c:Array Value}{T:TypeId}{v:Value}{K:World->Prop}(hw:w.heap=H) (hb:H[b]?=some (.cells c T (0,0))) (ho:o < c.size)
  (hK:∀ w',w'.heap=H.setIfInBounds b (.cells (c.setIfInBounds o v) T (0,0))->K w'):stC ⟨b,o,none⟩ v w K:=by
 refine⟨⟨c[o],by rw [zu8 hw hb];simp [ho]⟩,zta hw hb,?_⟩
 rintro w' rfl
 exact hK _ (z04 hw hb)
theorem vg {b o n:Nat}:Addr.add ⟨b,o,none⟩ n=⟨b,o+n,none⟩:=by
 unfold Addr.add
 split
 ·rename_i h;subst h;rfl
 ·rfl
theorem qit {b o len size:Nat}{i:Int}{K:Addr->Prop}(k:Nat) (hi:i=(k:Int)) (hk:k < len) (hK:K ⟨b,o+k * size,none⟩):ixR ⟨b,o,none⟩ len size i K:=by
 subst hi
 refine⟨by omega,by omega,?_⟩
 rw [vg]
 exact hK
theorem z07 {b o len size:Nat}{i:Int}{K:Addr->Prop}(k:Nat) (hi:i=(k:Int)) (hk:k < len) (hK:K ⟨b,o+k * size,none⟩):ixS (some ⟨b,o,none⟩) len size i K:=by
 subst hi
 refine⟨_,rfl,by omega,by omega,?_⟩
 rw [vg]
 exact hK
theorem zkk {b o len:Nat}{i:Int}{K:Addr->Prop}(k:Nat) (hi:i=(k:Int)) (hk:k < len) (hK:K ⟨b,o+k,none⟩):ixS (some ⟨b,o,none⟩) len 1 i K:=z07 k hi hk (by simpa using hK)
theorem zeg {b len:Nat}{i:Int}{K:Addr->Prop}(k:Nat) (hi:i=(k:Int)) (hk:k < len) (hK:K ⟨b,k,none⟩):ixR ⟨b,0,none⟩ len 1 i K:=qit k hi hk (by simpa using hK)
end heap
theorem zon {P:Program}{w:World}{H:Heap}{b o n:Nat}{c:Array Value}{T:TypeId}{fr:Nat×Nat}(hw:w.heap=H) (hb:H[b]?=some (.cells c T fr)) (hn:o+n<=c.size) :
  (loadCells ⟨b,o,none⟩ n).run P w=.ok (c.extract o (o+n)) w:=by
 have key:∀ (m i:Nat) (acc:Array Value),o+i+m<=c.size->(loadCellsFrom ⟨b,o,none⟩ i m acc).run P w=.ok (acc++c.extract (o+i) (o+i+m)) w:=by
  intro m
  induction m with
  | zero=>intro i acc _;simp [loadCellsFrom];omega
  | succ m ih=>
   intro i acc h
   have hc:w.cell? (Addr.add ⟨b,o,none⟩ i)=some c[o+i]:=by
    rw [vg,zu8 hw hb,Array.getElem?_eq_getElem (by omega)]
   simp only [loadCellsFrom,Sem.run_bind,run_load,hc,Result.andThen_ok]
   rw [ih (i+1) _ (by omega)]
   congr 1
   apply Array.ext'
   simp only [Array.toList_append,Array.toList_push,Array.toList_extract,List.extract_eq_take_drop,List.append_assoc]
   congr 1
   have e1:o+i+(m+1)-(o+i)=m+1:=by omega
   have e2:o+(i+1)+m-(o+(i+1))=m:=by omega
   rw [e1,e2]
   have hlt:o+i < c.toList.length:=by simp;omega
   rw [List.drop_eq_getElem_cons hlt]
   simp [List.take_succ_cons,Nat.add_assoc]
 have:=key n 0 #[] (by omega)
 simpa [loadCells] using this
theorem zhc {P:Program}{w:World}{H:Heap}{b o n:Nat}{c:Array Value}{T:TypeId}{fr:Nat×Nat}{K:Array Value->Prop}(hw:w.heap=H) (hb:H[b]?=some (.cells c T fr)) (hn:o+n<=c.size)
  (hK:K (c.extract o (o+n))):ldA P n ⟨b,o,none⟩ w K:=⟨_,zon hw hb hn,hK⟩
theorem qp {P:Program}{w:World}{H:Heap}{b n:Nat}{c:Array Value}{T:TypeId}{fr:Nat×Nat}{K:Array Value->Prop}(hw:w.heap=H) (hb:H[b]?=some (.cells c T fr)) (hn:c.size=n)
  (hK:K c):ldA P n ⟨b,0,none⟩ w K:=zhc hw hb (by omega) (by subst hn;simpa using hK)
def zcl (vs:List Value):Prop:=∀ v∈vs,v.oneCell'=true
def setCells (c:Array Value) (o:Nat):List Value->Array Value
 | []=>c
 | v :: r=>setCells (c.setIfInBounds o v) (o+1) r
@[simp] theorem size_setCells {vs:List Value}:∀ {c:Array Value}{o:Nat},(setCells c o vs).size=c.size:=by
 induction vs with
 | nil=>intro c o;rfl
 | cons v r ih=>intro c o;simp [setCells,ih]
theorem zdc {vs:List Value}:∀ {c:Array Value}{o i:Nat},o+vs.length<=c.size->(setCells c o vs)[i]?=if o<=i/\i < o+vs.length then vs[i-o]? else c[i]?:=by
 induction vs with
 | nil=>
  intro c o i h
  simp only [setCells,List.length_nil,Nat.add_zero]
  rw [if_neg (by omega)]
 | cons v r ih=>
  intro c o i h
  simp only [List.length_cons] at h
  simp only [setCells,List.length_cons]
  rw [ih (by simp;omega)]
  by_cases h1:i=o
  ·subst h1
   rw [if_neg (by omega),if_pos (by omega)]
   have:i < c.size:=by omega
   simp [this]
  ·by_cases h2:o+1<=i/\i < o+1+r.length
   ·rw [if_pos h2,if_pos (by omega)]
    have:i-o=(i-(o+1))+1:=by omega
    rw [this]
    simp
   ·rw [if_neg h2,if_neg (by omega),Array.getElem?_setIfInBounds_ne (by omega)]
theorem zak {vs:List Value}{c:Array Value}(h:vs.length=c.size):setCells c 0 vs=vs.toArray:=by
 apply Array.ext_getElem?
 intro i
 rw [zdc (by omega)]
 by_cases hi:i < vs.length
 ·rw [if_pos (by omega)];simp
 ·rw [if_neg (by omega)]
  rw [Array.getElem?_eq_none (by omega),Array.getElem?_eq_none (by simp;omega)]
theorem set_set {H:Heap}{b:Nat}{x y:Obj}:(H.setIfInBounds b x).setIfInBounds b y=H.setIfInBounds b y:=by
 apply Array.ext_getElem?
 intro i
 by_cases h:b=i
 ·subst h
  by_cases hb:b < H.size
  ·simp [hb]
  ·rw [Array.getElem?_eq_none (by simp;omega),Array.getElem?_eq_none (by simp;omega)]
 ·rw [Array.getElem?_setIfInBounds_ne h,Array.getElem?_setIfInBounds_ne h,Array.getElem?_setIfInBounds_ne h]
theorem zmk {P:Program}{b:Nat}{T:TypeId}:∀ (vs:List Value) (w:World) (H:Heap) (c:Array Value) (o i:Nat),zcl vs->w.heap=H->H[b]?=some (.cells c T (0,0))->o+i+vs.length<=c.size ->
  ∃ w',(storeCells ⟨b,o,none⟩ vs i).run P w=.ok () w'/\Calm w w'/\w'.heap=H.setIfInBounds b (.cells (setCells c (o+i) vs) T (0,0)):=by
 intro vs
 induction vs with
 | nil=>
  intro w H c o i _ hw hb _
  refine⟨w,by simp [storeCells],.refl w,?_⟩
  simp only [setCells]
  rw [hw]
  apply Array.ext_getElem?
  intro j
  by_cases hj:b=j
  ·subst hj;rw [qc hb,hb]
  ·rw [Array.getElem?_setIfInBounds_ne hj]
 | cons v r ih=>
  intro w H c o i h1 hw hb hn
  simp only [List.length_cons] at hn
  have hv:=h1 v (by simp)
  have hc:w.cell? (Addr.add ⟨b,o,none⟩ i)=some c[o+i]:=by
   rw [vg,zu8 hw hb,Array.getElem?_eq_getElem (by omega)]
  have hf:w.frozen? (Addr.add ⟨b,o,none⟩ i)=false:=by rw [vg];exact zta hw hb
  obtain⟨w',h2,h4,h3⟩:=ih (w.setCell (Addr.add ⟨b,o,none⟩ i) v) _ (c.setIfInBounds (o+i) v) o (i+1) (fun x hx=>h1 x (by simp [hx])) (by rw [vg];exact z04 hw hb) (qc hb) (by simp;omega)
  refine⟨w',?_,h4,?_⟩
  ·simp only [storeCells,Sem.run_bind,run_store P w _ v .plain hv,hc,hf,Bool.false_eq_true,if_false,Result.andThen_ok,h2]
  ·rw [h3,set_set]
   simp [setCells,Nat.add_assoc]
theorem zay {P:Program}{w:World}{H:Heap}{b o:Nat}{T t:TypeId}{c:Array Value}{v:Value}{K:World->Prop}(hs:P.cellsOf t=v.cells.size) (hs0:v.cells.size≠0) (h1:zcl v.cells.toList) (hw:w.heap=H)
  (hb:H[b]?=some (.cells c T (0,0))) (hn:o+v.cells.size<=c.size) (hK:∀ w',w'.heap=H.setIfInBounds b (.cells (setCells c o v.cells.toList) T (0,0))->K w'):zb8 P (storeVar t ⟨b,o,none⟩ v) w K:=by
 obtain⟨w',h2,h4,h3⟩:=zmk (P:=P) v.cells.toList w H c o 0 h1 hw hb (by simpa using hn)
 refine⟨w',?_,h4,hK w' (by simpa using h3)⟩
 have h0:(sizeOf t).run P w=.ok v.cells.size w:=by rw [zh0 (by omega),hs]
 simp only [storeVar,Sem.run_bind,h0,Result.andThen_ok,ne_eq,not_true_eq_false,if_false,h2]
def W32 (s:Nat->BitVec 32) (n:Nat):Array Value:=((List.range n).map fun i=>Value.int .u32 ((s i).toNat:Int)).toArray
def B8 (f:Nat->UInt8) (n:Nat):Array Value:=((List.range n).map fun i=>Value.int .u8 ((f i).toNat:Int)).toArray
@[simp] theorem qia {s:Nat->BitVec 32}{n:Nat}:(W32 s n).size=n:=by simp [W32]
@[simp] theorem qi9 {f:Nat->UInt8}{n:Nat}:(B8 f n).size=n:=by simp [B8]
theorem zj8 {s:Nat->BitVec 32}{n:Nat}:Words (W32 s n) 0 s n:=by
 intro i hi
 simp [W32,hi]
theorem qcl {f:Nat->UInt8}{n:Nat}:Bytes (B8 f n) 0 f n:=by
 intro i hi
 simp [B8,hi]
theorem zt9 {s:Nat->BitVec 32}{n:Nat}:zcl (W32 s n).toList:=by
 intro v hv
 simp only [W32,List.mem_map] at hv
 obtain⟨i,_,rfl⟩:=hv
 rfl
theorem qd1 {f:Nat->UInt8}{n:Nat}:zcl (B8 f n).toList:=by
 intro v hv
 simp only [B8,List.mem_map] at hv
 obtain⟨i,_,rfl⟩:=hv
 rfl
theorem Words.extract {c:Array Value}{s:Nat->BitVec 32}{o n:Nat}(h:Words c o s n) (hn:o+n<=c.size):c.extract o (o+n)=W32 s n:=by
 apply Array.ext_getElem?
 intro i
 by_cases hi:i < n
 ·rw [Array.getElem?_extract,if_pos (by omega),h i hi,zj8.at i hi]
 ·rw [Array.getElem?_eq_none (by simp;omega),Array.getElem?_eq_none (by simp;omega)]
theorem Bytes.extract {c:Array Value}{f:Nat->UInt8}{o n:Nat}(h:Bytes c o f n) (hn:o+n<=c.size):c.extract o (o+n)=B8 f n:=by
 apply Array.ext_getElem?
 intro i
 by_cases hi:i < n
 ·rw [Array.getElem?_extract,if_pos (by omega),h i hi,qcl.at i hi]
 ·rw [Array.getElem?_eq_none (by simp;omega),Array.getElem?_eq_none (by simp;omega)]
theorem joinP_of {σ:Type}{m:(σ->World->Prop)->Prop}{k:σ->World->Prop}(J:σ->World->Prop) (h:m J) (hk:∀ s w,J s w->k s w):ku σ m k:=⟨J,h,hk⟩
theorem zar {σ:Type}{m:(σ->World->Prop)->Prop}{k:σ->World->Prop}(h:m k):ku σ m k:=⟨k,h,fun _ _ h=>h⟩
theorem jg {σ:Type}{m:σ->World->(σ->World->Prop)->Prop}{s:σ}{w:World}(I:σ->World->Prop) (μ:σ->World->Nat) (h0:I s w) (hr:∀ s w,I s w->m s w fun s' w'=>I s' w'/\μ s' w' < μ s w) :
  za4 σ m s w:=⟨I,μ,h0,hr⟩
theorem least {p:Nat->Prop}(h:∃ n,p n):∃ n,p n/\∀ m,p m->n<=m:=by
 obtain⟨n,hn⟩:=h
 induction n using Nat.strongRecOn with
 | _ n ih=>
  by_cases hm:∃ m,m < n/\p m
  ·obtain⟨m,h1,h2⟩:=hm;exact ih m h1 h2
  ·exact⟨n,hn,fun m h=>Nat.le_of_not_lt fun h'=>hm ⟨m,h',h⟩⟩
theorem zjd {σ:Type}{m:σ->World->(σ->World->Prop)->Prop}{s:σ}{w:World}(I:Nat->σ->World->Prop) (n:Nat) (h0:I n s w)
  (hr:∀ n s w,I n s w->∀ K:σ->World->Prop,(∀ n' s' w',n' < n->I n' s' w'->K s' w')->m s w K):za4 σ m s w:=by
 classical
 refine⟨fun s w=>∃ n,I n s w,fun s w=>if h:∃ n,I n s w then Classical.choose (least h) else 0,⟨n,h0⟩,fun s w h=>?_⟩
 refine hr _ s w (Classical.choose_spec (least h)).1 _ fun n' s' w' hn' hI=>⟨⟨n',hI⟩,?_⟩
 have h':∃ n,I n s' w':=⟨n',hI⟩
 have h:∃ n,I n s w:=h
 simp only [dif_pos h,dif_pos h']
 exact Nat.lt_of_le_of_lt ((Classical.choose_spec (least h')).2 n' hI) hn'
theorem zy.mono {P:Program}{f:FuncId}{args:Array Value}{w:World}{R R':Ending->World->Prop}(h:zy P f args w R) (hr:∀ e w',R e w'->R' e w'):zy P f args w R':=⟨h.1,h.2.mono fun e w' h=>⟨hr e w' h.1,h.2⟩⟩
theorem zbw {P:Program}{f:FuncId}{args:Array Value}{l:List Sh}{tup:Bool}{w:World}{K:Tup l->Prop}(t:Tup l) (h:zy P f args w (fun e w'=>e=.returned (zl8 l tup t).2/\w'=w)) (hK:K t) :
  zgn P f args l tup w K:=⟨t,h,hK⟩
theorem zl {P:Program}{f:FuncId}{args:Array Value}{l:List Sh}{tup:Bool}{w:World}{K:Tup l->World->Prop}{R:Ending->World->Prop}(h:zy P f args w R)
  (hK:∀ e w',R e w'->∃ t,e=.returned (zl8 l tup t).2/\K t w'):qy P f args l tup w K:=.go (h.mono hK)
theorem zux {P:Program}{f:FuncId}{args:Array Value}{l:List Sh}{tup:Bool}{w:World}{K:Tup l->World->Prop}(t:Tup l) (h:(callFunc f args).run P w=.ok (.value (zl8 l tup t).2) w) (hK:K t w):qy P f args l tup w K:=.own _ _ h (.refl w) ⟨t,rfl,hK⟩
theorem z7q {P:Program}{f:FuncId}{args:Array Value}{l:List Sh}{tup:Bool}{w:World}{K:Tup l->World->Prop}(t:Tup l) (w':World) (h:(callFunc f args).run P w=.ok (.value (zl8 l tup t).2) w') (hc:Calm w w') (hK:K t w'):qy P f args l tup w K:=.own _ _ h hc ⟨t,rfl,hK⟩
theorem qm {P:Program}{m:Sem Value}{s:Sh}{w:World}{K:s.T->Prop}(t:s.T) (h:m.run P w=.ok (s.val t) w) (hK:K t):zba P m s w K:=⟨t,h,hK⟩
theorem zah {P:Program}{m:Sem Value}{s:Sh}{w:World}{K:s.T->World->Prop}(t:s.T) (w':World) (h:m.run P w=.ok (s.val t) w') (hK:K t w') (hc:Calm w w':=by first | exact⟨rfl,rfl,rfl,Nat.le_refl _⟩ | exact⟨rfl,rfl,rfl,Nat.le_succ _⟩):zaw P m s w K:=⟨t,w',h,hc,hK⟩
theorem zw0 {a b:Int}{K:Int->Prop}(m n:Nat) (ha:a=(m:Int)) (hb:b=(n:Int)) (hn:n≠0) (hK:K ((m % n:Nat):Int)):qa3 a b K:=by
 subst ha hb
 exact⟨by omega,_,by rw [Int.tmod_eq_emod_of_nonneg (by omega)];rfl,hK⟩
theorem z3t {a b:Int}{K:Int->Prop}(m n:Nat) (ha:a=(m:Int)) (hb:b=(n:Int)) (hn:n≠0) (hm:m < 9223372036854775808) (hK:K ((m / n:Nat):Int)):qe3 .i64 a b K:=by
 subst ha hb
 have hd:m / n<=m:=Nat.div_le_self _ _
 refine⟨by omega,_,?_,hK⟩
 have he:Int.tdiv (m:Int) (n:Int)=((m / n:Nat):Int):=by rw [Int.tdiv_eq_ediv_of_nonneg (by omega)];rfl
 rw [he]
 generalize m / n=d at *
 rw [wrap_i64 (by omega) (by omega)]
theorem Words.put {c:Array Value}{f:Nat->BitVec 32}{n:Nat}(h:Words c 0 f n) (i:Nat) (hi:i < c.size) (x:BitVec 32):Words (c.setIfInBounds i (.int .u32 (x.toNat:Int))) 0 (fun k=>if k=i then x else f k) n:=by
 intro k hk
 by_cases e:k=i
 ·subst e;simp [hi]
 ·rw [Array.getElem?_setIfInBounds_ne (by omega),h k hk];simp only [if_neg e]
theorem Words.congr {c:Array Value}{f g:Nat->BitVec 32}{n:Nat}(h:Words c 0 f n) (hg:∀ k,k < n->f k=g k):Words c 0 g n:=fun k hk=>by rw [h k hk,hg k hk]
theorem qju (a b:UInt8){K:Int->Prop}(hK:K ((a ^^^ b).toNat:Int)):zn3 .u8 (a.toNat:Int) (b.toNat:Int) K:=by
 refine⟨_,?_,hK⟩
 have ha:BitVec.ofInt IntKind.u8.bits (a.toNat:Int)=a.toBitVec:=by
  apply BitVec.eq_of_toNat_eq
  show (BitVec.ofInt 8 (a.toNat:Int)).toNat=a.toBitVec.toNat
  rw [BitVec.ofInt_natCast];simp
 have hb:BitVec.ofInt IntKind.u8.bits (b.toNat:Int)=b.toBitVec:=by
  apply BitVec.eq_of_toNat_eq
  show (BitVec.ofInt 8 (b.toNat:Int)).toNat=b.toBitVec.toNat
  rw [BitVec.ofInt_natCast];simp
 rw [ha,hb]
 show _=IntKind.u8.wrap ((a ^^^ b).toNat:Nat)
 rw [zi0,Nat.mod_eq_of_lt (a ^^^ b).toNat_lt]
end Go.Fw
