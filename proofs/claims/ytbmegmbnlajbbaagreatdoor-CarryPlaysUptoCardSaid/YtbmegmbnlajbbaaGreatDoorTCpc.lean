/- Part 3 of the texts below the card, joined. -/
import Derived.Test.YtbmegmbnlajbbaaGreatDoorTCpb
namespace Go.Proofs.YtbmegmbnlajbbaaGreatDoor
open Go Go.Fw Go.Proofs
set_option maxRecDepth 100000
def zvy (n:Value) (R:Ending->World->Prop) (w:World):Prop:=
  zbk (Value.cells n) zh w fun b1 w_1=>
  ld (.int .i64) (⟨b1,0,none⟩:Addr) w_1 fun (t8:Int)=>
  xq (t8==1) (
  ld .str (⟨b1,1,none⟩:Addr) w_1 fun (t11:ByteArray)=>
  xq (decide ((t11.size:Int)>=1)) (
  ld .str (⟨b1,1,none⟩:Addr) w_1 fun (t16:ByteArray)=>
  xq (decide ((t16.size:Int)<=64)) (
  ld (.int .i64) (⟨b1,2,none⟩:Addr) w_1 fun (t22:Int)=>
  xq (t22==0) (
  ld .slc (⟨b1,3,none⟩:Addr) w_1 fun (t27:(Option Addr×Nat×Nat))=>
  xq ((t27.2.1:Int)==0) (
  ld .slc (⟨b1,4,none⟩:Addr) w_1 fun (t33:(Option Addr×Nat×Nat))=>
  R (.returned (Value.bool ((t33.2.1:Int)==0))) w_1) (
  R (.returned (Value.bool false)) w_1)) (
  R (.returned (Value.bool false)) w_1)) (
  R (.returned (Value.bool false)) w_1)) (
  R (.returned (Value.bool false)) w_1)) (
  ld .str (⟨b1,1,none⟩:Addr) w_1 fun (t38:ByteArray)=>
  xq (!(t38.toList==(ByteArray.mk #[]).toList)) (
  R (.returned (Value.bool false)) w_1) (
  ld (.int .i64) (⟨b1,0,none⟩:Addr) w_1 fun (t41:Int)=>
  xq (t41==2) (
  jw Unit (fun k=>
  ld (.int .i64) (⟨b1,2,none⟩:Addr) w_1 fun (t44:Int)=>
  xq (decide (t44 < 0)) (
  R (.returned (Value.bool false)) w_1) (
  ld (.int .i64) (⟨b1,2,none⟩:Addr) w_1 fun (t48:Int)=>
  xq (decide (t48 > 1024)) (
  R (.returned (Value.bool false)) w_1) (
  ld .slc (⟨b1,4,none⟩:Addr) w_1 fun (t53:(Option Addr×Nat×Nat))=>
  xq ((t53.2.1:Int) != 0) (
  R (.returned (Value.bool false)) w_1) (
  k () w_1)))) (fun _ w_2=>
  ld (.int .i64) (⟨b1,2,none⟩:Addr) w_2 fun (t58:Int)=>
  za0 (Int×Int) (fun s_1 w_3 k_1=>
  xq (decide (s_1.2 > 0)) (
  zbl .i64 s_1.1 1 fun t64=>
  zln .i64 s_1.2 64 fun t62=>
  k_1 (t64,t62) w_3) (
  ld .slc (⟨b1,3,none⟩:Addr) w_3 fun (t66:(Option Addr×Nat×Nat))=>
  R (.returned (Value.bool ((t66.2.1:Int)==s_1.1))) w_3)) (0,t58) w_2)) (
  jw Unit (fun k_2=>
  ld (.int .i64) (⟨b1,0,none⟩:Addr) w_1 fun (t71:Int)=>
  xq (t71 != 3) (
  R (.returned (Value.bool false)) w_1) (
  ld (.int .i64) (⟨b1,2,none⟩:Addr) w_1 fun (t75:Int)=>
  xq (t75 != 0) (
  R (.returned (Value.bool false)) w_1) (
  ld .slc (⟨b1,3,none⟩:Addr) w_1 fun (t80:(Option Addr×Nat×Nat))=>
  xq ((t80.2.1:Int) != 0) (
  R (.returned (Value.bool false)) w_1) (
  ld .slc (⟨b1,4,none⟩:Addr) w_1 fun (t86:(Option Addr×Nat×Nat))=>
  xq (decide ((t86.2.1:Int) > 64)) (
  R (.returned (Value.bool false)) w_1) (
  k_2 () w_1))))) (fun _ w_4=>
  za0 Int (fun s_3 w_5 k_3=>
  ld .slc (⟨b1,4,none⟩:Addr) w_5 fun (t92:(Option Addr×Nat×Nat))=>
  xq (decide (s_3 < (t92.2.1:Int))) (
  jw Unit (fun k_4=>
  jw Unit (fun k_5=>
  ld .slc (⟨b1,4,none⟩:Addr) w_5 fun (t98:(Option Addr×Nat×Nat))=>
  ixS t98.1 t98.2.1 34 s_3 fun t100=>
  ldA P 34 t100 w_5 fun t101=>
  zbk (zc P zx) zx w_5 fun b6 w_6=>
  zbz P (storeVar zx (⟨b6,0,none⟩:Addr) (Value.agg t101)) w_6 fun w_7=>
  za6 w_7 fun w_8=>
  ld .str (⟨b6,0,none⟩:Addr) w_8 fun (t103:ByteArray)=>
  qw P zrk #[(Value.string t103)] [.bool] false w_8 fun (t104:Bool) w_9=>
  xq (!t104) (
  R (.returned (Value.bool false)) w_9) (
  ld (.int .i64) (⟨b6,1,none⟩:Addr) w_9 fun (t108:Int)=>
  xq (t108 != 2) (
  ld (.int .i64) (⟨b6,1,none⟩:Addr) w_9 fun (t112:Int)=>
  xq (t112 != 3) (
  R (.returned (Value.bool false)) w_9) (
  xq (decide (s_3 > 0)) (
  zln .i64 s_3 1 fun t123=>
  ld .slc (⟨b1,4,none⟩:Addr) w_9 fun (t121:(Option Addr×Nat×Nat))=>
  ixS t121.1 t121.2.1 34 t123 fun t124=>
  ld .str t124 w_9 fun (t126:ByteArray)=>
  ld .str (⟨b6,0,none⟩:Addr) w_9 fun (t128:ByteArray)=>
  xq (!(Op.bytesLess t126.toList t128.toList)) (
  R (.returned (Value.bool false)) w_9) (
  k_5 () w_9)) (
  k_5 () w_9))) (
  xq (decide (s_3 > 0)) (
  zln .i64 s_3 1 fun t123_1=>
  ld .slc (⟨b1,4,none⟩:Addr) w_9 fun (t121_1:(Option Addr×Nat×Nat))=>
  ixS t121_1.1 t121_1.2.1 34 t123_1 fun t124_1=>
  ld .str t124_1 w_9 fun (t126_1:ByteArray)=>
  ld .str (⟨b6,0,none⟩:Addr) w_9 fun (t128_1:ByteArray)=>
  xq (!(Op.bytesLess t126_1.toList t128_1.toList)) (
  R (.returned (Value.bool false)) w_9) (
  k_5 () w_9)) (
  k_5 () w_9)))) (fun _ w_10=>
  k_4 () w_10)) (fun _ w_11=>
  zbl .i64 s_3 1 fun t96=>
  k_3 t96 w_11)) (
  R (.returned (Value.bool true)) w_5)) 0 w_4))))
theorem z1q {n:Value}{R:Ending->World->Prop}{w:World}(hT:zvy n R w):qc P zlg #[n] w R:=
 fnT (.seq .leaf (.seq (.seq .leaf (.cond (.seq .leaf .leaf) .leaf)) (.seq (.seq .leaf (.cond (.seq .leaf .leaf) .leaf)) (.seq (.seq .leaf (.cond (.join [] (.seq .leaf (.cond (.seq .leaf .leaf) .leaf)) (.seq .leaf (.seq (.seq .leaf (.blk (.loop [(3,.int .i64),(4,.int .i64)] (.seq (.seq .leaf (.cond .leaf .leaf)) (.seq (.blk .leaf) .leaf))))) (.seq .leaf .leaf)))) .leaf)) (.join [] (.seq .leaf (.cond (.seq .leaf .leaf) .leaf)) (.seq (.seq .leaf (.blk (.loop [(5,.int .i64)] (.seq (.seq .leaf (.cond .leaf .leaf)) (.join [] (.jblk [] (.seq .leaf (.seq (.tree (.op 0 [] (.op 1 [] (.op 2 [] (.op 3 [] (.op 4 [] (.op 5 [] (.op 6 [] (.op 7 [] (.op 8 [] (.op 9 [] (.op 10 [] (.op 11 [] (.op 12 [] (.op 13 [] (.op 14 [] (.op 15 [] (.op 16 [] (.op 17 [] (.op 18 [] (.op 20 [] (.op 21 [] (.op 25 [] (.op 19 [] (.op 22 [] (.op 23 [] (.op 24 [] (.op 26 [] (.op 27 [] (.op 28 [] (.op 29 [] .done))))))))))))))))))))))))))))))) (.cond (.seq .leaf .leaf) .leaf)))) .leaf))))) (.seq .leaf .leaf))))))) Tryz.func72 hT
def zsn (n:Value) (R:Ending->World->Prop) (w:World):Prop:=
  zbk (Value.cells n) zh w fun b1 w_1=>
  ld (.int .i64) (⟨b1,0,none⟩:Addr) w_1 fun (t7:Int)=>
  cvI .u64 t7 fun t8=>
  qw P zi0 #[(Value.int .u64 t8)] [.slc] false w_1 fun (t9:(Option Addr×Nat×Nat)) w_2=>
  ld (.int .i64) (⟨b1,0,none⟩:Addr) w_2 fun (t11:Int)=>
  xq (t11==1) (
  ld .str (⟨b1,1,none⟩:Addr) w_2 fun (t15:ByteArray)=>
  qw P zm9 #[(Value.string t15)] [.slc] false w_2 fun (t16:(Option Addr×Nat×Nat)) w_3=>
  zas P (Builtin.append_ #[zi,zi] zi #[(Value.slice t9.1 t9.2.1 t9.2.2),(Value.slice t16.1 t16.2.1 t16.2.2)]) .slc w_3 fun (t17:(Option Addr×Nat×Nat)) w_4=>
  R (.returned (Value.slice t17.1 t17.2.1 t17.2.2)) w_4) (
  ld (.int .i64) (⟨b1,0,none⟩:Addr) w_2 fun (t19:Int)=>
  xq (t19==2) (
  ld (.int .i64) (⟨b1,2,none⟩:Addr) w_2 fun (t23:Int)=>
  cvI .u64 t23 fun t24=>
  qw P zi0 #[(Value.int .u64 t24)] [.slc] false w_2 fun (t25:(Option Addr×Nat×Nat)) w_5=>
  zas P (Builtin.append_ #[zi,zi] zi #[(Value.slice t9.1 t9.2.1 t9.2.2),(Value.slice t25.1 t25.2.1 t25.2.2)]) .slc w_5 fun (t26:(Option Addr×Nat×Nat)) w_6=>
  za0 ((Option Addr×Nat×Nat)×Int) (fun s w_7 k=>
  ld .slc (⟨b1,3,none⟩:Addr) w_7 fun (t29:(Option Addr×Nat×Nat))=>
  xq (decide (s.2 < (t29.2.1:Int))) (
  ld .slc (⟨b1,3,none⟩:Addr) w_7 fun (t36:(Option Addr×Nat×Nat))=>
  ixS t36.1 t36.2.1 32 s.2 fun t38=>
  za7 P (Instr.sliceAt zf (Value.pointer (some t38)) none none none) .slc w_7 fun (t39:(Option Addr×Nat×Nat))=>
  zas P (Builtin.append_ #[zi,zi] zi #[(Value.slice s.1.1 s.1.2.1 s.1.2.2),(Value.slice t39.1 t39.2.1 t39.2.2)]) .slc w_7 fun (t40:(Option Addr×Nat×Nat)) w_8=>
  zbl .i64 s.2 1 fun t33=>
  k ((t40.1,t40.2.1,t40.2.2),t33) w_8) (
  R (.returned (Value.slice s.1.1 s.1.2.1 s.1.2.2)) w_7)) ((t26.1,t26.2.1,t26.2.2),0) w_6) (
  ld .slc (⟨b1,4,none⟩:Addr) w_2 fun (t44:(Option Addr×Nat×Nat))=>
  cvI .u64 (t44.2.1:Int) fun t46=>
  qw P zi0 #[(Value.int .u64 t46)] [.slc] false w_2 fun (t47:(Option Addr×Nat×Nat)) w_9=>
  zas P (Builtin.append_ #[zi,zi] zi #[(Value.slice t9.1 t9.2.1 t9.2.2),(Value.slice t47.1 t47.2.1 t47.2.2)]) .slc w_9 fun (t48:(Option Addr×Nat×Nat)) w_10=>
  za0 ((Option Addr×Nat×Nat)×Int) (fun s_1 w_11 k_1=>
  ld .slc (⟨b1,4,none⟩:Addr) w_11 fun (t51:(Option Addr×Nat×Nat))=>
  xq (decide (s_1.2 < (t51.2.1:Int))) (
  ld .slc (⟨b1,4,none⟩:Addr) w_11 fun (t58:(Option Addr×Nat×Nat))=>
  ixS t58.1 t58.2.1 34 s_1.2 fun t60=>
  ld .str t60 w_11 fun (t62:ByteArray)=>
  qw P zm9 #[(Value.string t62)] [.slc] false w_11 fun (t63:(Option Addr×Nat×Nat)) w_12=>
  zas P (Builtin.append_ #[zi,zi] zi #[(Value.slice s_1.1.1 s_1.1.2.1 s_1.1.2.2),(Value.slice t63.1 t63.2.1 t63.2.2)]) .slc w_12 fun (t64:(Option Addr×Nat×Nat)) w_13=>
  ld .slc (⟨b1,4,none⟩:Addr) w_13 fun (t67:(Option Addr×Nat×Nat))=>
  ixS t67.1 t67.2.1 34 s_1.2 fun t69=>
  ld (.int .i64) (Addr.add t69 1) w_13 fun (t71:Int)=>
  cvI .u64 t71 fun t72=>
  qw P zi0 #[(Value.int .u64 t72)] [.slc] false w_13 fun (t73:(Option Addr×Nat×Nat)) w_14=>
  zas P (Builtin.append_ #[zi,zi] zi #[(Value.slice t64.1 t64.2.1 t64.2.2),(Value.slice t73.1 t73.2.1 t73.2.2)]) .slc w_14 fun (t74:(Option Addr×Nat×Nat)) w_15=>
  ld .slc (⟨b1,4,none⟩:Addr) w_15 fun (t77:(Option Addr×Nat×Nat))=>
  ixS t77.1 t77.2.1 34 s_1.2 fun t79=>
  za7 P (Instr.sliceAt zf (Value.pointer (some (Addr.add t79 2))) none none none) .slc w_15 fun (t81:(Option Addr×Nat×Nat))=>
  zas P (Builtin.append_ #[zi,zi] zi #[(Value.slice t74.1 t74.2.1 t74.2.2),(Value.slice t81.1 t81.2.1 t81.2.2)]) .slc w_15 fun (t82:(Option Addr×Nat×Nat)) w_16=>
  zbl .i64 s_1.2 1 fun t55=>
  k_1 ((t82.1,t82.2.1,t82.2.2),t55) w_16) (
  R (.returned (Value.slice s_1.1.1 s_1.1.2.1 s_1.1.2.2)) w_11)) ((t48.1,t48.2.1,t48.2.2),0) w_10))
theorem zy7 {n:Value}{R:Ending->World->Prop}{w:World}(hT:zsn n R w):qc P zmk #[n] w R:=
 fnT (.seq .leaf (.seq .leaf (.seq (.seq .leaf (.cond (.seq .leaf .leaf) .leaf)) (.seq (.seq .leaf (.cond (.seq .leaf (.seq (.seq .leaf (.blk (.loop [(3,.slc),(4,.int .i64)] (.seq (.seq .leaf (.cond .leaf .leaf)) (.seq (.blk .leaf) .leaf))))) (.seq .leaf .leaf))) .leaf)) (.seq .leaf (.seq (.seq .leaf (.blk (.loop [(3,.slc),(5,.int .i64)] (.seq (.seq .leaf (.cond .leaf .leaf)) (.seq (.blk (.seq .leaf (.seq .leaf .leaf))) .leaf))))) (.seq .leaf .leaf))))))) Tryz.func73 hT
def zqk (b:Option Addr) (b_l b_c:Nat) (R:Ending->World->Prop) (w:World):Prop:=
  zbk (zc P zh) zh w fun b2 w_1=>
  qw P zoj #[(Value.slice b b_l b_c)] [.ptr] false w_1 fun (t7:(Option Addr)) w_2=>
  qw P zov #[(Value.pointer t7)] [.any] false w_2 fun (t9:Value) w_3=>
  zbk (zc P zh) zh w_3 fun b5 w_4=>
  zbz P (storeVar zh (⟨b5,0,none⟩:Addr) t9) w_4 fun w_5=>
  jw Unit (fun k=>
  qw P zlp #[(Value.pointer t7)] [.bool] false w_5 fun (t11:Bool) w_6=>
  xq (!t11) (
  za7 P (Instr.build zh #[]) .any w_6 fun (t18:Value)=>
  zbz P (storeVar zh (⟨b2,0,none⟩:Addr) t18) w_6 fun w_7=>
  ldA P 5 (⟨b2,0,none⟩:Addr) w_7 fun t2=>
  R (.returned (Value.tuple #[(Value.agg t2),(Value.int .i64 21)])) w_7) (
  ldA P 5 (⟨b5,0,none⟩:Addr) w_6 fun t14=>
  qw P zjh #[(Value.agg t14)] [.bool] false w_6 fun (t15:Bool) w_8=>
  xq (!t15) (
  za7 P (Instr.build zh #[]) .any w_8 fun (t18_1:Value)=>
  zbz P (storeVar zh (⟨b2,0,none⟩:Addr) t18_1) w_8 fun w_9=>
  ldA P 5 (⟨b2,0,none⟩:Addr) w_9 fun t2_1=>
  R (.returned (Value.tuple #[(Value.agg t2_1),(Value.int .i64 21)])) w_9) (
  k () w_8))) (fun _ w_10=>
  ldA P 5 (⟨b5,0,none⟩:Addr) w_10 fun t19=>
  zbz P (storeVar zh (⟨b2,0,none⟩:Addr) (Value.agg t19)) w_10 fun w_11=>
  ldA P 5 (⟨b2,0,none⟩:Addr) w_11 fun t2_2=>
  R (.returned (Value.tuple #[(Value.agg t2_2),(Value.int .i64 0)])) w_11)
theorem zwe {b:Option Addr}{b_l b_c:Nat}{R:Ending->World->Prop}{w:World}(hT:zqk b b_l b_c R w):qc P zg2 #[(Value.slice b b_l b_c)] w R:=
 fnT (.seq .leaf (.seq .leaf (.seq .leaf (.join [] (.seq .leaf (.cond (.seq .leaf .leaf) .leaf)) (.seq .leaf .leaf))))) Tryz.func85 hT
def zsb (b:Option Addr) (b_l b_c:Nat) (R:Ending->World->Prop) (w:World):Prop:=
  zbk (zc P zh) zh w fun b2 w_1=>
  za7 P (Instr.build znf #[(0,(Value.slice b b_l b_c))]) .any w_1 fun (t14:Value)=>
  zbk (Value.cells t14) znf w_1 fun b15 w_2=>
  za7 P (Instr.build zh #[]) .any w_2 fun (t16:Value)=>
  zbk (zc P zh) zh w_2 fun b5 w_3=>
  zbz P (storeVar zh (⟨b5,0,none⟩:Addr) t16) w_3 fun w_4=>
  qw P zfk #[(Value.pointer (some (⟨b15,0,none⟩:Addr)))] [.int .u64] false w_4 fun (t18:Int) w_5=>
  jw Unit (fun k=>
  jw Unit (fun k_1=>
  xq (t18==1) (
  stC (⟨b5,0,none⟩:Addr) (Value.int .i64 1) w_5 fun w_6=>
  qw P zij #[(Value.pointer (some (⟨b15,0,none⟩:Addr))),(Value.int .i64 64)] [.str] false w_6 fun (t24:ByteArray) w_7=>
  stC (⟨b5,1,none⟩:Addr) (Value.string t24) w_7 fun w_8=>
  k_1 () w_8) (
  xq (t18==2) (
  stC (⟨b5,0,none⟩:Addr) (Value.int .i64 2) w_5 fun w_9=>
  qw P zfk #[(Value.pointer (some (⟨b15,0,none⟩:Addr)))] [.int .u64] false w_9 fun (t30:Int) w_10=>
  xq (decide (t30 > 1024)) (
  za7 P (Instr.build zh #[]) .any w_10 fun (t33:Value)=>
  zbz P (storeVar zh (⟨b2,0,none⟩:Addr) t33) w_10 fun w_11=>
  ldA P 5 (⟨b2,0,none⟩:Addr) w_11 fun t2=>
  R (.returned (Value.tuple #[(Value.agg t2),(Value.bool false)])) w_11) (
  cvI .i64 t30 fun t35=>
  stC (⟨b5,2,none⟩:Addr) (Value.int .i64 t35) w_10 fun w_12=>
  ld (.int .i64) (⟨b5,2,none⟩:Addr) w_12 fun (t38:Int)=>
  za0 Int (fun s w_13 k_2=>
  xq (decide (s > 0)) (
  za6 w_13 fun w_14=>
  ld .slc (⟨b5,3,none⟩:Addr) w_14 fun (t44:(Option Addr×Nat×Nat))=>
  qw P zg9 #[(Value.pointer (some (⟨b15,0,none⟩:Addr)))] [.any] false w_14 fun (t46:Value) w_15=>
  ((ld .slc (⟨b5,3,none⟩:Addr) w_15 fun (t44_1:(Option Addr×Nat×Nat))=>
  (Value.slice t44_1.1 t44_1.2.1 t44_1.2.2)=(Value.slice t44.1 t44.2.1 t44.2.2)) /\
  zas P (Instr.buildSlice jc 1 #[(0,t46)]) .slc w_15 fun (t47:(Option Addr×Nat×Nat)) w_16=>
  ((ld .slc (⟨b5,3,none⟩:Addr) w_16 fun (t44_2:(Option Addr×Nat×Nat))=>
  (Value.slice t44_2.1 t44_2.2.1 t44_2.2.2)=(Value.slice t44.1 t44.2.1 t44.2.2)) /\
  zas P (Builtin.append_ #[jc,jc] jc #[(Value.slice t44.1 t44.2.1 t44.2.2),(Value.slice t47.1 t47.2.1 t47.2.2)]) .slc w_16 fun (t48:(Option Addr×Nat×Nat)) w_17=>
  stC (⟨b5,3,none⟩:Addr) (Value.slice t48.1 t48.2.1 t48.2.2) w_17 fun w_18=>
  zln .i64 s 64 fun t42=>
  k_2 t42 w_18))) (
  k_1 () w_13)) t38 w_12)) (
  xq (t18==3) (
  stC (⟨b5,0,none⟩:Addr) (Value.int .i64 3) w_5 fun w_19=>
  qw P zfk #[(Value.pointer (some (⟨b15,0,none⟩:Addr)))] [.int .u64] false w_19 fun (t54:Int) w_20=>
  xq (decide (t54 > 64)) (
  za7 P (Instr.build zh #[]) .any w_20 fun (t57:Value)=>
  zbz P (storeVar zh (⟨b2,0,none⟩:Addr) t57) w_20 fun w_21=>
  ldA P 5 (⟨b2,0,none⟩:Addr) w_21 fun t2_1=>
  R (.returned (Value.tuple #[(Value.agg t2_1),(Value.bool false)])) w_21) (
  za0 Int (fun s_1 w_22 k_3=>
  cvI .i64 t54 fun t60=>
  xq (decide (s_1 < t60)) (
  qw P zij #[(Value.pointer (some (⟨b15,0,none⟩:Addr))),(Value.int .i64 16)] [.str] false w_22 fun (t65:ByteArray) w_23=>
  qw P zfk #[(Value.pointer (some (⟨b15,0,none⟩:Addr)))] [.int .u64] false w_23 fun (t67:Int) w_24=>
  xq (decide (t67 > 3)) (
  za7 P (Instr.build zh #[]) .any w_24 fun (t70:Value)=>
  zbz P (storeVar zh (⟨b2,0,none⟩:Addr) t70) w_24 fun w_25=>
  ldA P 5 (⟨b2,0,none⟩:Addr) w_25 fun t2_2=>
  R (.returned (Value.tuple #[(Value.agg t2_2),(Value.bool false)])) w_25) (
  za6 w_24 fun w_26=>
  cvI .i64 t67 fun t75=>
  ld .slc (⟨b5,4,none⟩:Addr) w_26 fun (t72:(Option Addr×Nat×Nat))=>
  qw P zg9 #[(Value.pointer (some (⟨b15,0,none⟩:Addr)))] [.any] false w_26 fun (t77:Value) w_27=>
  ((ld .slc (⟨b5,4,none⟩:Addr) w_27 fun (t72_1:(Option Addr×Nat×Nat))=>
  (Value.slice t72_1.1 t72_1.2.1 t72_1.2.2)=(Value.slice t72.1 t72.2.1 t72.2.2)) /\
  za7 P (Instr.build zx #[(0,(Value.string t65)),(1,(Value.int .i64 t75)),(2,t77)]) .any w_27 fun (t78:Value)=>
  zas P (Instr.buildSlice jh 1 #[(0,t78)]) .slc w_27 fun (t79:(Option Addr×Nat×Nat)) w_28=>
  ((ld .slc (⟨b5,4,none⟩:Addr) w_28 fun (t72_2:(Option Addr×Nat×Nat))=>
  (Value.slice t72_2.1 t72_2.2.1 t72_2.2.2)=(Value.slice t72.1 t72.2.1 t72.2.2)) /\
  zas P (Builtin.append_ #[jh,jh] jh #[(Value.slice t72.1 t72.2.1 t72.2.2),(Value.slice t79.1 t79.2.1 t79.2.2)]) .slc w_28 fun (t80:(Option Addr×Nat×Nat)) w_29=>
  stC (⟨b5,4,none⟩:Addr) (Value.slice t80.1 t80.2.1 t80.2.2) w_29 fun w_30=>
  zbl .i64 s_1 1 fun t63=>
  k_3 t63 w_30)))) (
  k_1 () w_22)) 0 w_20)) (
  k_1 () w_5)))) (fun _ w_31=>
  k () w_31)) (fun _ w_32=>
  jw Unit (fun k_4=>
  ld (.int .i64) (⟨b15,2,none⟩:Addr) w_32 fun (t85:Int)=>
  xq (t85 != 0) (
  za7 P (Instr.build zh #[]) .any w_32 fun (t97:Value)=>
  zbz P (storeVar zh (⟨b2,0,none⟩:Addr) t97) w_32 fun w_33=>
  ldA P 5 (⟨b2,0,none⟩:Addr) w_33 fun t2_3=>
  R (.returned (Value.tuple #[(Value.agg t2_3),(Value.bool false)])) w_33) (
  qw P zgt #[(Value.pointer (some (⟨b15,0,none⟩:Addr)))] [.int .i64] false w_32 fun (t89:Int) w_34=>
  xq (t89 != 0) (
  za7 P (Instr.build zh #[]) .any w_34 fun (t97_1:Value)=>
  zbz P (storeVar zh (⟨b2,0,none⟩:Addr) t97_1) w_34 fun w_35=>
  ldA P 5 (⟨b2,0,none⟩:Addr) w_35 fun t2_4=>
  R (.returned (Value.tuple #[(Value.agg t2_4),(Value.bool false)])) w_35) (
  ldA P 5 (⟨b5,0,none⟩:Addr) w_34 fun t93=>
  qw P zlg #[(Value.agg t93)] [.bool] false w_34 fun (t94:Bool) w_36=>
  xq (!t94) (
  za7 P (Instr.build zh #[]) .any w_36 fun (t97_2:Value)=>
  zbz P (storeVar zh (⟨b2,0,none⟩:Addr) t97_2) w_36 fun w_37=>
  ldA P 5 (⟨b2,0,none⟩:Addr) w_37 fun t2_5=>
  R (.returned (Value.tuple #[(Value.agg t2_5),(Value.bool false)])) w_37) (
  k_4 () w_36)))) (fun _ w_38=>
  ldA P 5 (⟨b5,0,none⟩:Addr) w_38 fun t98=>
  zbz P (storeVar zh (⟨b2,0,none⟩:Addr) (Value.agg t98)) w_38 fun w_39=>
  ldA P 5 (⟨b2,0,none⟩:Addr) w_39 fun t2_6=>
  R (.returned (Value.tuple #[(Value.agg t2_6),(Value.bool true)])) w_39))
theorem zyl {b:Option Addr}{b_l b_c:Nat}{R:Ending->World->Prop}{w:World}(hT:zsb b b_l b_c R w):qc P zjl #[(Value.slice b b_l b_c)] w R:=
 fnT (.seq .leaf (.seq .leaf (.seq .leaf (.seq .leaf (.join [] (.seq .leaf (.jblk [] (.seq .leaf (.cond (.seq .leaf .leaf) (.seq .leaf (.cond (.seq .leaf (.seq .leaf (.seq (.seq .leaf (.cond (.seq .leaf .leaf) .leaf)) (.seq .leaf (.seq .leaf (.blk (.loop [(8,.int .i64)] (.seq (.seq .leaf (.cond .leaf .leaf)) (.seq (.blk (.tree (.op 0 [] (.op 2 [] (.op 1 [] (.op 3 [1] (.op 4 [1] (.op 5 [] (.op 6 [] (.op 7 [] .done)))))))))) .leaf))))))))) (.seq .leaf (.cond (.seq .leaf (.seq .leaf (.seq (.seq .leaf (.cond (.seq .leaf .leaf) .leaf)) (.seq .leaf (.blk (.loop [(10,.int .i64)] (.seq (.seq .leaf (.cond .leaf .leaf)) (.seq (.blk (.seq .leaf (.seq .leaf (.seq (.seq .leaf (.cond (.seq .leaf .leaf) .leaf)) (.tree (.op 0 [] (.op 2 [] (.op 3 [] (.op 4 [] (.op 5 [] (.op 1 [] (.op 6 [1] (.op 7 [] (.op 8 [1] (.op 9 [] (.op 10 [] (.op 11 [] .done))))))))))))))))) .leaf)))))))) .leaf)))))))) (.join [] (.seq .leaf (.cond (.seq .leaf .leaf) .leaf)) (.seq .leaf .leaf))))))) Tryz.func89 hT
def zt2 (n:Value) (R:Ending->World->Prop) (w:World):Prop:=
  zbk (Value.cells n) zh w fun b1 w_1=>
  ld .slc (⟨b1,3,none⟩:Addr) w_1 fun (t7:(Option Addr×Nat×Nat))=>
  za0 ((Option Addr×Nat×Nat)×Int) (fun s w_2 k=>
  xq (decide (s.2 < (t7.2.1:Int))) (
  ixS t7.1 t7.2.1 32 s.2 fun t11=>
  ldA P 32 t11 w_2 fun t12=>
  zbk (zc P zf) zf w_2 fun b5 w_3=>
  zbz P (storeVar zf (⟨b5,0,none⟩:Addr) (Value.agg t12)) w_3 fun w_4=>
  ldA P 32 (⟨b5,0,none⟩:Addr) w_4 fun t14=>
  za7 P (Instr.build zx #[(1,(Value.int .i64 1)),(2,(Value.agg t14))]) .any w_4 fun (t15:Value)=>
  zas P (Instr.buildSlice jh 1 #[(0,t15)]) .slc w_4 fun (t16:(Option Addr×Nat×Nat)) w_5=>
  zas P (Builtin.append_ #[jh,jh] jh #[(Value.slice s.1.1 s.1.2.1 s.1.2.2),(Value.slice t16.1 t16.2.1 t16.2.2)]) .slc w_5 fun (t17:(Option Addr×Nat×Nat)) w_6=>
  zbl .i64 s.2 1 fun t18=>
  k ((t17.1,t17.2.1,t17.2.2),t18) w_6) (
  ld .slc (⟨b1,4,none⟩:Addr) w_2 fun (t21:(Option Addr×Nat×Nat))=>
  zas P (Builtin.append_ #[jh,jh] jh #[(Value.slice s.1.1 s.1.2.1 s.1.2.2),(Value.slice t21.1 t21.2.1 t21.2.2)]) .slc w_2 fun (t22:(Option Addr×Nat×Nat)) w_7=>
  R (.returned (Value.slice t22.1 t22.2.1 t22.2.2)) w_7)) ((none,0,0),0) w_1
theorem z1r {n:Value}{R:Ending->World->Prop}{w:World}(hT:zt2 n R w):qc P zo4 #[n] w R:=
 fnT (.seq .leaf (.seq .leaf (.seq (.seq .leaf (.blk (.loop [(3,.slc),(9,.int .i64)] (.seq .leaf (.seq (.cond .leaf .leaf) (.seq (.blk (.seq .leaf .leaf)) .leaf)))))) (.seq .leaf .leaf)))) Tryz.func96 hT
def zpv (n:Value) (R:Ending->World->Prop) (w:World):Prop:=
  zbk (Value.cells n) zh w fun b1 w_1=>
  ldA P 5 (⟨b1,0,none⟩:Addr) w_1 fun t9=>
  qw P zjh #[(Value.agg t9)] [.bool] false w_1 fun (t10:Bool) w_2=>
  xq (!t10) (
  R (.returned (Value.tuple #[(Value.slice none 0 0),(Value.int .i64 21)])) w_2) (
  zbk (zc P zgg) zgg w_2 fun b4 w_3=>
  ld (.int .i64) (⟨b1,0,none⟩:Addr) w_3 fun (t13:Int)=>
  cvI .u64 t13 fun t14=>
  qw P zdz #[(Value.pointer (some (⟨b4,0,none⟩:Addr))),(Value.int .u64 t14)] [] true w_3 fun (_:Unit) w_4=>
  jw Unit (fun k=>
  ld (.int .i64) (⟨b1,0,none⟩:Addr) w_4 fun (t17:Int)=>
  jw Unit (fun k_1=>
  xq (t17==1) (
  ld .str (⟨b1,1,none⟩:Addr) w_4 fun (t44:ByteArray)=>
  qw P zgs #[(Value.pointer (some (⟨b4,0,none⟩:Addr))),(Value.string t44)] [] true w_4 fun (_:Unit) w_5=>
  k_1 () w_5) (
  xq (t17==2) (
  ld (.int .i64) (⟨b1,2,none⟩:Addr) w_4 fun (t49:Int)=>
  cvI .u64 t49 fun t50=>
  qw P zdz #[(Value.pointer (some (⟨b4,0,none⟩:Addr))),(Value.int .u64 t50)] [] true w_4 fun (_:Unit) w_6=>
  ld .slc (⟨b1,3,none⟩:Addr) w_6 fun (t53:(Option Addr×Nat×Nat))=>
  za0 Int (fun s w_7 k_2=>
  xq (decide (s < (t53.2.1:Int))) (
  ixS t53.1 t53.2.1 32 s fun t57=>
  ldA P 32 t57 w_7 fun t58=>
  zbk (zc P zf) zf w_7 fun b6 w_8=>
  zbz P (storeVar zf (⟨b6,0,none⟩:Addr) (Value.agg t58)) w_8 fun w_9=>
  ldA P 32 (⟨b6,0,none⟩:Addr) w_9 fun t59=>
  qw P zfp #[(Value.pointer (some (⟨b4,0,none⟩:Addr))),(Value.agg t59)] [] true w_9 fun (_:Unit) w_10=>
  zbl .i64 s 1 fun t61=>
  k_2 t61 w_10) (
  k_1 () w_7)) 0 w_6) (
  ld .slc (⟨b1,4,none⟩:Addr) w_4 fun (t19:(Option Addr×Nat×Nat))=>
  cvI .u64 (t19.2.1:Int) fun t21=>
  qw P zdz #[(Value.pointer (some (⟨b4,0,none⟩:Addr))),(Value.int .u64 t21)] [] true w_4 fun (_:Unit) w_11=>
  ld .slc (⟨b1,4,none⟩:Addr) w_11 fun (t24:(Option Addr×Nat×Nat))=>
  za0 Int (fun s_1 w_12 k_3=>
  xq (decide (s_1 < (t24.2.1:Int))) (
  ixS t24.1 t24.2.1 34 s_1 fun t28=>
  ldA P 34 t28 w_12 fun t29=>
  zbk (zc P zx) zx w_12 fun b8 w_13=>
  zbz P (storeVar zx (⟨b8,0,none⟩:Addr) (Value.agg t29)) w_13 fun w_14=>
  ld .str (⟨b8,0,none⟩:Addr) w_14 fun (t31:ByteArray)=>
  qw P zgs #[(Value.pointer (some (⟨b4,0,none⟩:Addr))),(Value.string t31)] [] true w_14 fun (_:Unit) w_15=>
  ld (.int .i64) (⟨b8,1,none⟩:Addr) w_15 fun (t34:Int)=>
  cvI .u64 t34 fun t35=>
  qw P zdz #[(Value.pointer (some (⟨b4,0,none⟩:Addr))),(Value.int .u64 t35)] [] true w_15 fun (_:Unit) w_16=>
  ldA P 32 (⟨b8,2,none⟩:Addr) w_16 fun t38=>
  qw P zfp #[(Value.pointer (some (⟨b4,0,none⟩:Addr))),(Value.agg t38)] [] true w_16 fun (_:Unit) w_17=>
  zbl .i64 s_1 1 fun t40=>
  k_3 t40 w_17) (
  k_1 () w_12)) 0 w_11))) (fun _ w_18=>
  k () w_18)) (fun _ w_19=>
  qw P zia #[(Value.pointer (some (⟨b4,0,none⟩:Addr)))] [.slc] false w_19 fun (t62:(Option Addr×Nat×Nat)) w_20=>
  R (.returned (Value.tuple #[(Value.slice t62.1 t62.2.1 t62.2.2),(Value.int .i64 0)])) w_20))
theorem zwp {n:Value}{R:Ending->World->Prop}{w:World}(hT:zpv n R w):qc P zla #[n] w R:=
 fnT (.seq .leaf (.seq (.seq .leaf (.cond (.seq .leaf .leaf) .leaf)) (.seq .leaf (.seq .leaf (.join [] (.seq .leaf (.jblk [] (.seq .leaf (.cond .leaf (.seq .leaf (.cond (.seq .leaf (.seq .leaf (.blk (.loop [(55,.int .i64)] (.seq .leaf (.seq (.cond .leaf .leaf) (.seq (.blk (.seq .leaf .leaf)) .leaf))))))) (.seq .leaf (.seq .leaf (.blk (.loop [(26,.int .i64)] (.seq .leaf (.seq (.cond .leaf .leaf) (.seq (.blk (.seq .leaf (.seq .leaf (.seq .leaf .leaf)))) .leaf))))))))))))) (.seq .leaf .leaf)))))) Tryz.func114 hT
def z0c (n:Int) (R:Ending->World->Prop) (w:World):Prop:=
  za0 (Int×(Option Addr×Nat×Nat)) (fun s w_1 k=>
  xq (decide (s.1>=128)) (
  z6d s.1 128 fun t8=>
  zbl .u64 t8 128 fun t9=>
  cvI .u8 t9 fun t10=>
  zas P (Instr.buildSlice zi 1 #[(0,(Value.int .u8 t10))]) .slc w_1 fun (t11:(Option Addr×Nat×Nat)) w_2=>
  zas P (Builtin.append_ #[zi,zi] zi #[(Value.slice s.2.1 s.2.2.1 s.2.2.2),(Value.slice t11.1 t11.2.1 t11.2.2)]) .slc w_2 fun (t12:(Option Addr×Nat×Nat)) w_3=>
  qfm .u64 s.1 128 fun t14=>
  k (t14,(t12.1,t12.2.1,t12.2.2)) w_3) (
  cvI .u8 s.1 fun t17=>
  zas P (Instr.buildSlice zi 1 #[(0,(Value.int .u8 t17))]) .slc w_1 fun (t18:(Option Addr×Nat×Nat)) w_4=>
  zas P (Builtin.append_ #[zi,zi] zi #[(Value.slice s.2.1 s.2.2.1 s.2.2.2),(Value.slice t18.1 t18.2.1 t18.2.2)]) .slc w_4 fun (t19:(Option Addr×Nat×Nat)) w_5=>
  R (.returned (Value.slice t19.1 t19.2.1 t19.2.2)) w_5)) (n,(none,0,0)) w
theorem z7h {n:Int}{R:Ending->World->Prop}{w:World}(hT:z0c n R w):qc P zi0 #[(Value.int .u64 n)] w R:=
 fnT (.seq .leaf (.seq .leaf (.seq (.blk (.loop [(0,.int .u64),(3,.slc)] (.seq (.seq .leaf (.cond .leaf .leaf)) (.blk (.seq .leaf .leaf))))) (.seq .leaf .leaf)))) Tryz.func130 hT
def zxj (s:ByteArray) (R:Ending->World->Prop) (w:World):Prop:=
  cvI .u64 (s.size:Int) fun t5=>
  qw P zi0 #[(Value.int .u64 t5)] [.slc] false w fun (t6:(Option Addr×Nat×Nat)) w_1=>
  zas P (Builtin.append_ #[zi,vg] zi #[(Value.slice t6.1 t6.2.1 t6.2.2),(Value.string s)]) .slc w_1 fun (t8:(Option Addr×Nat×Nat)) w_2=>
  R (.returned (Value.slice t8.1 t8.2.1 t8.2.2)) w_2
theorem z19 {s:ByteArray}{R:Ending->World->Prop}{w:World}(hT:zxj s R w):qc P zm9 #[(Value.string s)] w R:=
 fnT (.seq .leaf (.seq .leaf .leaf)) Tryz.func131 hT
def ztu (b:Option Addr) (b_l b_c:Nat) (R:Ending->World->Prop) (w:World):Prop:=
  zas P (Builtin.append_ #[zi,zi] zi #[(Value.slice none 0 0),(Value.slice b b_l b_c)]) .slc w fun (t4:(Option Addr×Nat×Nat)) w_1=>
  za7 P (Instr.build zkz #[(0,(Value.slice t4.1 t4.2.1 t4.2.2))]) .any w_1 fun (t5:Value)=>
  zbk (Value.cells t5) zkz w_1 fun b6 w_2=>
  R (.returned (Value.pointer (some (⟨b6,0,none⟩:Addr)))) w_2
theorem z0k {b:Option Addr}{b_l b_c:Nat}{R:Ending->World->Prop}{w:World}(hT:ztu b b_l b_c R w):qc P zoj #[(Value.slice b b_l b_c)] w R:=
 fnT (.seq .leaf (.seq .leaf .leaf)) Tryz.func137 hT
def zvo (inv:Option Addr) (R:Ending->World->Prop) (w:World):Prop:=
  zbk (zc P zh) zh w fun b2 w_1=>
  qw P zes #[(Value.pointer inv)] [.int .u64] false w_1 fun (t5:Int) w_2=>
  za7 P (Builtin.min_ #[zdm,zdm] zdm #[(Value.int .u64 t5),(Value.int .u64 9)]) (.int .u64) w_2 fun (t6:Int)=>
  cvI .i64 t6 fun t7=>
  za7 P (Instr.build zh #[(0,(Value.int .i64 t7))]) .any w_2 fun (t8:Value)=>
  zbk (zc P zh) zh w_2 fun b3 w_3=>
  zbz P (storeVar zh (⟨b3,0,none⟩:Addr) t8) w_3 fun w_4=>
  jw Unit (fun k=>
  ld (.int .i64) (⟨b3,0,none⟩:Addr) w_4 fun (t10:Int)=>
  jw Unit (fun k_1=>
  xq (t10==1) (
  qw P zht #[(Value.pointer inv),(Value.int .i64 64)] [.str] false w_4 fun (t14:ByteArray) w_5=>
  stC (⟨b3,1,none⟩:Addr) (Value.string t14) w_5 fun w_6=>
  k_1 () w_6) (
  xq (t10==2) (
  qw P zes #[(Value.pointer inv)] [.int .u64] false w_4 fun (t19:Int) w_7=>
  za7 P (Builtin.min_ #[zdm,zdm] zdm #[(Value.int .u64 t19),(Value.int .u64 1025)]) (.int .u64) w_7 fun (t20:Int)=>
  cvI .i64 t20 fun t21=>
  stC (⟨b3,2,none⟩:Addr) (Value.int .i64 t21) w_7 fun w_8=>
  ld (.int .i64) (⟨b3,2,none⟩:Addr) w_8 fun (t24:Int)=>
  qw P zhx #[(Value.int .i64 t24)] [.int .i64] false w_8 fun (t25:Int) w_9=>
  za0 Int (fun s w_10 k_2=>
  xq (decide (s < t25)) (
  za6 w_10 fun w_11=>
  ld .slc (⟨b3,3,none⟩:Addr) w_11 fun (t29:(Option Addr×Nat×Nat))=>
  qw P zf6 #[(Value.pointer inv)] [.any] false w_11 fun (t31:Value) w_12=>
  ((ld .slc (⟨b3,3,none⟩:Addr) w_12 fun (t29_1:(Option Addr×Nat×Nat))=>
  (Value.slice t29_1.1 t29_1.2.1 t29_1.2.2)=(Value.slice t29.1 t29.2.1 t29.2.2)) /\
  zas P (Instr.buildSlice jc 1 #[(0,t31)]) .slc w_12 fun (t32:(Option Addr×Nat×Nat)) w_13=>
  ((ld .slc (⟨b3,3,none⟩:Addr) w_13 fun (t29_2:(Option Addr×Nat×Nat))=>
  (Value.slice t29_2.1 t29_2.2.1 t29_2.2.2)=(Value.slice t29.1 t29.2.1 t29.2.2)) /\
  zas P (Builtin.append_ #[jc,jc] jc #[(Value.slice t29.1 t29.2.1 t29.2.2),(Value.slice t32.1 t32.2.1 t32.2.2)]) .slc w_13 fun (t33:(Option Addr×Nat×Nat)) w_14=>
  stC (⟨b3,3,none⟩:Addr) (Value.slice t33.1 t33.2.1 t33.2.2) w_14 fun w_15=>
  zbl .i64 s 1 fun t35=>
  k_2 t35 w_15))) (
  k_1 () w_10)) 0 w_9) (
  xq (t10==3) (
  qw P zes #[(Value.pointer inv)] [.int .u64] false w_4 fun (t39:Int) w_16=>
  za7 P (Builtin.min_ #[zdm,zdm] zdm #[(Value.int .u64 t39),(Value.int .u64 65)]) (.int .u64) w_16 fun (t40:Int)=>
  za0 Int (fun s_1 w_17 k_3=>
  xq (decide (s_1 < t40)) (
  za6 w_17 fun w_18=>
  ld .slc (⟨b3,4,none⟩:Addr) w_18 fun (t44:(Option Addr×Nat×Nat))=>
  qw P zht #[(Value.pointer inv),(Value.int .i64 16)] [.str] false w_18 fun (t46:ByteArray) w_19=>
  ((ld .slc (⟨b3,4,none⟩:Addr) w_19 fun (t44_1:(Option Addr×Nat×Nat))=>
  (Value.slice t44_1.1 t44_1.2.1 t44_1.2.2)=(Value.slice t44.1 t44.2.1 t44.2.2)) /\
  qw P zes #[(Value.pointer inv)] [.int .u64] false w_19 fun (t48:Int) w_20=>
  ((ld .slc (⟨b3,4,none⟩:Addr) w_20 fun (t44_2:(Option Addr×Nat×Nat))=>
  (Value.slice t44_2.1 t44_2.2.1 t44_2.2.2)=(Value.slice t44.1 t44.2.1 t44.2.2)) /\
  za7 P (Builtin.min_ #[zdm,zdm] zdm #[(Value.int .u64 t48),(Value.int .u64 9)]) (.int .u64) w_20 fun (t49:Int)=>
  cvI .i64 t49 fun t50=>
  qw P zf6 #[(Value.pointer inv)] [.any] false w_20 fun (t52:Value) w_21=>
  ((za7 P (Builtin.min_ #[zdm,zdm] zdm #[(Value.int .u64 t48),(Value.int .u64 9)]) (.int .u64) w_21 fun (t49_1:Int)=>
  (Value.int .u64 t49_1)=(Value.int .u64 t49)) /\
  ((ld .slc (⟨b3,4,none⟩:Addr) w_21 fun (t44_3:(Option Addr×Nat×Nat))=>
  (Value.slice t44_3.1 t44_3.2.1 t44_3.2.2)=(Value.slice t44.1 t44.2.1 t44.2.2)) /\
  za7 P (Instr.build zx #[(0,(Value.string t46)),(1,(Value.int .i64 t50)),(2,t52)]) .any w_21 fun (t53:Value)=>
  zas P (Instr.buildSlice jh 1 #[(0,t53)]) .slc w_21 fun (t54:(Option Addr×Nat×Nat)) w_22=>
  ((ld .slc (⟨b3,4,none⟩:Addr) w_22 fun (t44_4:(Option Addr×Nat×Nat))=>
  (Value.slice t44_4.1 t44_4.2.1 t44_4.2.2)=(Value.slice t44.1 t44.2.1 t44.2.2)) /\
  zas P (Builtin.append_ #[jh,jh] jh #[(Value.slice t44.1 t44.2.1 t44.2.2),(Value.slice t54.1 t54.2.1 t54.2.2)]) .slc w_22 fun (t55:(Option Addr×Nat×Nat)) w_23=>
  stC (⟨b3,4,none⟩:Addr) (Value.slice t55.1 t55.2.1 t55.2.2) w_23 fun w_24=>
  zbl .u64 s_1 1 fun t57=>
  k_3 t57 w_24)))))) (
  k_1 () w_17)) 0 w_16) (
  k_1 () w_4)))) (fun _ w_25=>
  k () w_25)) (fun _ w_26=>
  ldA P 5 (⟨b3,0,none⟩:Addr) w_26 fun t58=>
  zbz P (storeVar zh (⟨b2,0,none⟩:Addr) (Value.agg t58)) w_26 fun w_27=>
  ldA P 5 (⟨b2,0,none⟩:Addr) w_27 fun t2=>
  R (.returned (Value.agg t2)) w_27)
theorem z1b {inv:Option Addr}{R:Ending->World->Prop}{w:World}(hT:zvo inv R w):qc P zov #[(Value.pointer inv)] w R:=
 fnT (.seq .leaf (.seq .leaf (.join [] (.seq .leaf (.jblk [] (.seq .leaf (.cond .leaf (.seq .leaf (.cond (.seq .leaf (.seq .leaf (.blk (.loop [(26,.int .i64)] (.seq .leaf (.seq (.cond .leaf .leaf) (.seq (.blk (.tree (.op 0 [] (.op 2 [] (.op 1 [] (.op 3 [1] (.op 4 [1] (.op 5 [] (.op 6 [] (.op 7 [] .done)))))))))) .leaf))))))) (.seq .leaf (.cond (.seq .leaf (.blk (.loop [(41,.int .u64)] (.seq .leaf (.seq (.cond .leaf .leaf) (.seq (.blk (.tree (.op 0 [] (.op 2 [] (.op 4 [] (.op 8 [] (.op 1 [] (.op 3 [1] (.op 5 [1] (.op 6 [] (.op 7 [] (.op 9 [1,6] (.op 10 [] (.op 11 [1] (.op 12 [] (.op 13 [] (.op 14 [] .done))))))))))))))))) .leaf)))))) .leaf)))))))) (.seq .leaf .leaf)))) Tryz.func138 hT
def zqh (i:Option Addr) (R:Ending->World->Prop) (w:World):Prop:=
  xq (!(Option.isNone i)) (
  zl i fun p=>
  ld (.int .i64) (Addr.add p 1) w fun (t9:Int)=>
  xq (t9==0) (
  zl i fun p_1=>
  ld .slc p_1 w fun (t16:(Option Addr×Nat×Nat))=>
  R (.returned (Value.bool ((t16.2.1:Int)==0))) w) (
  R (.returned (Value.bool false)) w)) (
  R (.returned (Value.bool false)) w)
theorem zwr {i:Option Addr}{R:Ending->World->Prop}{w:World}(hT:zqh i R w):qc P zlp #[(Value.pointer i)] w R:=
 fnT (.seq .leaf (.seq .leaf .leaf)) Tryz.func139 hT
def zr6 (n:Value) (R:Ending->World->Prop) (w:World):Prop:=
  zbk (Value.cells n) zh w fun b1 w_1=>
  ld (.int .i64) (⟨b1,0,none⟩:Addr) w_1 fun (t4:Int)=>
  xq (t4==1) (
  ld .str (⟨b1,1,none⟩:Addr) w_1 fun (t8:ByteArray)=>
  xq (decide ((t8.size:Int) > 0)) (
  ld .str (⟨b1,1,none⟩:Addr) w_1 fun (t13:ByteArray)=>
  xq (decide ((t13.size:Int)<=64)) (
  ld (.int .i64) (⟨b1,2,none⟩:Addr) w_1 fun (t19:Int)=>
  xq (t19==0) (
  ld .slc (⟨b1,3,none⟩:Addr) w_1 fun (t24:(Option Addr×Nat×Nat))=>
  xq ((t24.2.1:Int)==0) (
  ld .slc (⟨b1,4,none⟩:Addr) w_1 fun (t30:(Option Addr×Nat×Nat))=>
  R (.returned (Value.bool ((t30.2.1:Int)==0))) w_1) (
  R (.returned (Value.bool false)) w_1)) (
  R (.returned (Value.bool false)) w_1)) (
  R (.returned (Value.bool false)) w_1)) (
  R (.returned (Value.bool false)) w_1)) (
  xq (t4==2) (
  za6 w_1 fun w_2=>
  ld .str (⟨b1,1,none⟩:Addr) w_2 fun (t37:ByteArray)=>
  xq (t37.toList==(ByteArray.mk #[]).toList) (
  ld (.int .i64) (⟨b1,2,none⟩:Addr) w_2 fun (t41:Int)=>
  xq (decide (t41>=0)) (
  ld (.int .i64) (⟨b1,2,none⟩:Addr) w_2 fun (t46:Int)=>
  xq (decide (t46<=1024)) (
  ld .slc (⟨b1,3,none⟩:Addr) w_2 fun (t51:(Option Addr×Nat×Nat))=>
  ld (.int .i64) (⟨b1,2,none⟩:Addr) w_2 fun (t54:Int)=>
  qw P zhx #[(Value.int .i64 t54)] [.int .i64] false w_2 fun (t55:Int) w_3=>
  ((ld .slc (⟨b1,3,none⟩:Addr) w_3 fun (t51_1:(Option Addr×Nat×Nat))=>
  (Value.slice t51_1.1 t51_1.2.1 t51_1.2.2)=(Value.slice t51.1 t51.2.1 t51.2.2)) /\
  xq ((t51.2.1:Int)==t55) (
  ld .slc (⟨b1,4,none⟩:Addr) w_3 fun (t60:(Option Addr×Nat×Nat))=>
  R (.returned (Value.bool ((t60.2.1:Int)==0))) w_3) (
  R (.returned (Value.bool false)) w_3))) (
  ((undef=undef) /\
  R (.returned (Value.bool false)) w_2))) (
  ((undef=undef) /\
  R (.returned (Value.bool false)) w_2))) (
  ((undef=undef) /\
  R (.returned (Value.bool false)) w_2))) (
  xq (t4==3) (
  ld .str (⟨b1,1,none⟩:Addr) w_1 fun (t67:ByteArray)=>
  xq (t67.toList==(ByteArray.mk #[]).toList) (
  ld (.int .i64) (⟨b1,2,none⟩:Addr) w_1 fun (t71:Int)=>
  xq (t71==0) (
  ld .slc (⟨b1,3,none⟩:Addr) w_1 fun (t76:(Option Addr×Nat×Nat))=>
  xq ((t76.2.1:Int)==0) (
  ld .slc (⟨b1,4,none⟩:Addr) w_1 fun (t82:(Option Addr×Nat×Nat))=>
  qw P zlj #[(Value.slice t82.1 t82.2.1 t82.2.2)] [.bool] false w_1 fun (t83:Bool) w_4=>
  R (.returned (Value.bool t83)) w_4) (
  R (.returned (Value.bool false)) w_1)) (
  R (.returned (Value.bool false)) w_1)) (
  R (.returned (Value.bool false)) w_1)) (
  R (.returned (Value.bool false)) w_1)))
theorem zyz {n:Value}{R:Ending->World->Prop}{w:World}(hT:zr6 n R w):qc P zjh #[n] w R:=
 fnT (.seq .leaf (.seq (.seq .leaf (.blk (.seq .leaf (.cond (.seq .leaf .leaf) (.seq .leaf (.cond (.seq (.tree (.op 0 [] (.op 1 [] (.op 2 [] (.op 3 [] (.op 4 [] (.op 5 [] (.op 6 [] (.op 7 [] (.op 8 [] (.op 9 [] (.op 10 [] (.op 11 [] (.op 12 [] (.op 13 [] (.op 14 [] (.op 17 [] (.op 15 [] (.op 16 [] (.op 18 [] (.op 19 [15] (.op 20 [] (.op 21 [] (.op 22 [] (.op 23 [] (.op 24 [] (.op 25 [] (.op 26 [] (.op 27 [] (.op 28 [] .done)))))))))))))))))))))))))))))) .leaf) (.seq .leaf (.cond (.seq .leaf .leaf) .leaf)))))))) (.seq .leaf .leaf))) Tryz.func140 hT
def zsd (i:Option Addr) (R:Ending->World->Prop) (w:World):Prop:=
  zl i fun p=>
  ld (.int .i64) (Addr.add p 2) w fun (t9:Int)=>
  xq (t9 != 0) (
  R (.returned (Value.int .u64 0)) w) (
  za0 (Int×Int) (fun s w_1 k=>
  xq (decide (s.2 < 10)) (
  jw Int (fun k_1=>
  za6 w_1 fun w_2=>
  zl i fun p_1=>
  zl i fun p_2=>
  ld (.int .i64) (Addr.add p_1 1) w_2 fun (t18:Int)=>
  ld .slc p_2 w_2 fun (t22:(Option Addr×Nat×Nat))=>
  xq (decide (t18>=(t22.2.1:Int))) (
  qw P zcb #[(Value.pointer i),(Value.int .i64 20)] [] true w_2 fun (_:Unit) w_3=>
  R (.returned (Value.int .u64 0)) w_3) (
  za6 w_2 fun w_4=>
  zl i fun p_3=>
  zl i fun p_4=>
  ld .slc p_3 w_4 fun (t30:(Option Addr×Nat×Nat))=>
  ld (.int .i64) (Addr.add p_4 1) w_4 fun (t34:Int)=>
  ixS t30.1 t30.2.1 1 t34 fun t35=>
  ld (.int .u8) t35 w_4 fun (t36:Int)=>
  zl i fun p_5=>
  ld (.int .i64) (Addr.add p_5 1) w_4 fun (t40:Int)=>
  zbl .i64 t40 1 fun t41=>
  zl i fun p_6=>
  stC (Addr.add p_6 1) (Value.int .i64 t41) w_4 fun w_5=>
  jw Unit (fun k_2=>
  xq (s.2==9) (
  xq (decide (t36 > 1)) (
  qw P zcb #[(Value.pointer i),(Value.int .i64 21)] [] true w_5 fun (_:Unit) w_6=>
  R (.returned (Value.int .u64 0)) w_6) (
  xq (decide (s.2 > 0)) (
  xq (t36==0) (
  qw P zcb #[(Value.pointer i),(Value.int .i64 21)] [] true w_5 fun (_:Unit) w_7=>
  R (.returned (Value.int .u64 0)) w_7) (
  k_2 () w_5)) (
  k_2 () w_5))) (
  xq (decide (s.2 > 0)) (
  xq (t36==0) (
  qw P zcb #[(Value.pointer i),(Value.int .i64 21)] [] true w_5 fun (_:Unit) w_8=>
  R (.returned (Value.int .u64 0)) w_8) (
  k_2 () w_5)) (
  k_2 () w_5))) (fun _ w_9=>
  z6d t36 128 fun t62=>
  cvI .u64 t62 fun t63=>
  zv5 .i64 7 s.2 fun t65=>
  cvI .u64 t65 fun t66=>
  z9r .u64 t63 t66 fun t67=>
  orI .u64 s.1 t67 fun t68=>
  xq (decide (t36 < 128)) (
  R (.returned (Value.int .u64 t68)) w_9) (
  k_1 t68 w_9)))) (fun s_2 w_10=>
  zbl .i64 s.2 1 fun t14=>
  k (s_2,t14) w_10)) (
  R (.returned (Value.int .u64 0)) w_1)) (0,0) w)
theorem zyp {i:Option Addr}{R:Ending->World->Prop}{w:World}(hT:zsd i R w):qc P zfk #[(Value.pointer i)] w R:=
 fnT (.seq .leaf (.seq (.seq .leaf (.cond (.seq .leaf .leaf) .leaf)) (.seq .leaf (.seq (.seq .leaf (.blk (.loop [(3,.int .u64),(4,.int .i64)] (.seq (.seq .leaf (.cond .leaf .leaf)) (.seq (.jblk [(3,.int .u64)] (.seq (.seq (.tree (.op 0 [] (.op 1 [] (.op 2 [] (.op 4 [] (.op 5 [] (.op 6 [] (.op 3 [] (.op 7 [] (.op 8 [] (.op 9 [] .done))))))))))) (.cond (.seq .leaf (.seq .leaf .leaf)) .leaf)) (.seq (.tree (.op 0 [] (.op 1 [] (.op 2 [] (.op 4 [] (.op 5 [] (.op 6 [] (.op 3 [] (.op 7 [] (.op 8 [] (.op 9 [] (.op 10 [] .done)))))))))))) (.seq .leaf (.join [] (.seq .leaf (.cond (.seq .leaf (.seq .leaf .leaf)) .leaf)) (.seq .leaf (.seq .leaf (.cond (.seq .leaf .leaf) .leaf)))))))) .leaf))))) (.seq .leaf .leaf))))) Tryz.func142 hT
def zqx (i:Option Addr) (most:Int) (R:Ending->World->Prop) (w:World):Prop:=
  qw P zfk #[(Value.pointer i)] [.int .u64] false w fun (t8:Int) w_1=>
  zl i fun p=>
  ld (.int .i64) (Addr.add p 2) w_1 fun (t12:Int)=>
  xq (t12 != 0) (
  R (.returned (Value.string (ByteArray.mk #[]))) w_1) (
  jw Unit (fun k=>
  xq (decide (most < 0)) (
  xq (decide (t8 > 0)) (
  qw P zcb #[(Value.pointer i),(Value.int .i64 2)] [] true w_1 fun (_:Unit) w_2=>
  R (.returned (Value.string (ByteArray.mk #[]))) w_2) (
  xq (decide (most>=0)) (
  cvI .u64 most fun t26=>
  xq (decide (t8 > t26)) (
  qw P zcb #[(Value.pointer i),(Value.int .i64 2)] [] true w_1 fun (_:Unit) w_3=>
  R (.returned (Value.string (ByteArray.mk #[]))) w_3) (
  k () w_1)) (
  k () w_1))) (
  xq (decide (most>=0)) (
  cvI .u64 most fun t26_1=>
  xq (decide (t8 > t26_1)) (
  qw P zcb #[(Value.pointer i),(Value.int .i64 2)] [] true w_1 fun (_:Unit) w_4=>
  R (.returned (Value.string (ByteArray.mk #[]))) w_4) (
  k () w_1)) (
  k () w_1))) (fun _ w_5=>
  qw P zgt #[(Value.pointer i)] [.int .i64] false w_5 fun (t34:Int) w_6=>
  cvI .u64 t34 fun t35=>
  xq (decide (t8 > t35)) (
  qw P zcb #[(Value.pointer i),(Value.int .i64 20)] [] true w_6 fun (_:Unit) w_7=>
  R (.returned (Value.string (ByteArray.mk #[]))) w_7) (
  za6 w_6 fun w_8=>
  zl i fun p_1=>
  zl i fun p_2=>
  zl i fun p_3=>
  cvI .i64 t8 fun t52=>
  ld .slc p_1 w_8 fun (t42:(Option Addr×Nat×Nat))=>
  ld (.int .i64) (Addr.add p_2 1) w_8 fun (t46:Int)=>
  ld (.int .i64) (Addr.add p_3 1) w_8 fun (t50:Int)=>
  zbl .i64 t50 t52 fun t53=>
  za7 P (Instr.sliceAt zi (Value.slice t42.1 t42.2.1 t42.2.2) (some (Value.int .i64 t46)) (some (Value.int .i64 t53)) none) .slc w_8 fun (t54:(Option Addr×Nat×Nat))=>
  za7 P (convert zi vg (Value.slice t54.1 t54.2.1 t54.2.2)) .str w_8 fun (t55:ByteArray)=>
  zl i fun p_4=>
  ld (.int .i64) (Addr.add p_4 1) w_8 fun (t59:Int)=>
  cvI .i64 t8 fun t61=>
  zbl .i64 t59 t61 fun t62=>
  zl i fun p_5=>
  stC (Addr.add p_5 1) (Value.int .i64 t62) w_8 fun w_9=>
  R (.returned (Value.string t55)) w_9)))
theorem zwh {i:Option Addr}{most:Int}{R:Ending->World->Prop}{w:World}(hT:zqx i most R w):qc P zij #[(Value.pointer i),(Value.int .i64 most)] w R:=
 fnT (.seq .leaf (.seq .leaf (.seq (.seq .leaf (.cond (.seq .leaf .leaf) .leaf)) (.join [] (.seq .leaf (.cond (.seq .leaf (.seq .leaf .leaf)) .leaf)) (.seq (.seq .leaf (.cond (.seq .leaf (.seq .leaf .leaf)) .leaf)) (.seq (.tree (.op 0 [] (.op 1 [] (.op 2 [] (.op 4 [] (.op 5 [] (.op 6 [] (.op 8 [] (.op 9 [] (.op 10 [] (.op 12 [] (.op 13 [] (.op 3 [] (.op 7 [] (.op 11 [] (.op 14 [] (.op 15 [] (.op 16 [] (.op 17 [] .done))))))))))))))))))) (.seq .leaf (.seq .leaf .leaf)))))))) Tryz.func143 hT
def zml (i:Option Addr) (R:Ending->World->Prop) (w:World):Prop:=
  zbk (zc P zf) zf w fun b2 w_1=>
  zbk (zc P zf) zf w_1 fun b3 w_2=>
  zl i fun p=>
  ld (.int .i64) (Addr.add p 2) w_2 fun (t8:Int)=>
  xq (t8 != 0) (
  ldA P 32 (⟨b3,0,none⟩:Addr) w_2 fun t10=>
  zbz P (storeVar zf (⟨b2,0,none⟩:Addr) (Value.agg t10)) w_2 fun w_3=>
  ldA P 32 (⟨b2,0,none⟩:Addr) w_3 fun t2=>
  R (.returned (Value.agg t2)) w_3) (
  qw P zgt #[(Value.pointer i)] [.int .i64] false w_2 fun (t12:Int) w_4=>
  xq (decide (t12 < 32)) (
  qw P zcb #[(Value.pointer i),(Value.int .i64 20)] [] true w_4 fun (_:Unit) w_5=>
  ldA P 32 (⟨b3,0,none⟩:Addr) w_5 fun t16=>
  zbz P (storeVar zf (⟨b2,0,none⟩:Addr) (Value.agg t16)) w_5 fun w_6=>
  ldA P 32 (⟨b2,0,none⟩:Addr) w_6 fun t2_1=>
  R (.returned (Value.agg t2_1)) w_6) (
  za0 Int (fun s w_7 k=>
  xq (decide (s < 32)) (
  za6 w_7 fun w_8=>
  zl i fun p_1=>
  zl i fun p_2=>
  ld .slc p_1 w_8 fun (t25:(Option Addr×Nat×Nat))=>
  ld (.int .i64) (Addr.add p_2 1) w_8 fun (t29:Int)=>
  zbl .i64 t29 s fun t31=>
  ixS t25.1 t25.2.1 1 t31 fun t32=>
  ld (.int .u8) t32 w_8 fun (t33:Int)=>
  ixR (⟨b3,0,none⟩:Addr) 32 1 s fun t34=>
  stC t34 (Value.int .u8 t33) w_8 fun w_9=>
  zbl .i64 s 1 fun t20=>
  k t20 w_9) (
  zl i fun p_3=>
  ld (.int .i64) (Addr.add p_3 1) w_7 fun (t38:Int)=>
  zbl .i64 t38 32 fun t39=>
  zl i fun p_4=>
  stC (Addr.add p_4 1) (Value.int .i64 t39) w_7 fun w_10=>
  ldA P 32 (⟨b3,0,none⟩:Addr) w_10 fun t42=>
  zbz P (storeVar zf (⟨b2,0,none⟩:Addr) (Value.agg t42)) w_10 fun w_11=>
  ldA P 32 (⟨b2,0,none⟩:Addr) w_11 fun t2_2=>
  R (.returned (Value.agg t2_2)) w_11)) 0 w_4))
theorem zsz {i:Option Addr}{R:Ending->World->Prop}{w:World}(hT:zml i R w):qc P zg9 #[(Value.pointer i)] w R:=
 fnT (.seq .leaf (.seq .leaf (.seq (.seq .leaf (.cond (.seq .leaf .leaf) .leaf)) (.seq (.seq .leaf (.cond (.seq .leaf (.seq .leaf .leaf)) .leaf)) (.seq (.seq .leaf (.blk (.loop [(4,.int .i64)] (.seq (.seq .leaf (.cond .leaf .leaf)) (.seq (.blk (.tree (.op 0 [] (.op 1 [] (.op 2 [] (.op 3 [] (.op 5 [] (.op 6 [] (.op 7 [] (.op 9 [] (.op 4 [] (.op 8 [] (.op 10 [] (.op 11 [] (.op 12 [] (.op 13 [] (.op 14 [] .done))))))))))))))))) .leaf))))) (.seq .leaf (.seq .leaf .leaf))))))) Tryz.func144 hT
def zpp (i:Option Addr) (R:Ending->World->Prop) (w:World):Prop:=
  za6 w fun w_1=>
  zl i fun p=>
  zl i fun p_1=>
  ld .slc p w_1 fun (t6:(Option Addr×Nat×Nat))=>
  ld (.int .i64) (Addr.add p_1 1) w_1 fun (t11:Int)=>
  zln .i64 (t6.2.1:Int) t11 fun t12=>
  R (.returned (Value.int .i64 t12)) w_1
theorem zv9 {i:Option Addr}{R:Ending->World->Prop}{w:World}(hT:zpp i R w):qc P zgt #[(Value.pointer i)] w R:=
 fnT (.seq .leaf (.seq (.tree (.op 0 [] (.op 1 [] (.op 2 [] (.op 5 [] (.op 6 [] (.op 7 [] (.op 3 [] (.op 4 [] (.op 8 [] (.op 9 [] (.op 10 [] .done)))))))))))) .leaf)) Tryz.func145 hT
def zxg (n:Value) (R:Ending->World->Prop) (w:World):Prop:=
  zbk (Value.cells n) zh w fun b1 w_1=>
  za0 ((Option Addr×Nat×Nat)×Int) (fun s w_2 k=>
  ld .slc (⟨b1,3,none⟩:Addr) w_2 fun (t8:(Option Addr×Nat×Nat))=>
  xq (decide (s.2 < (t8.2.1:Int))) (
  ld .slc (⟨b1,3,none⟩:Addr) w_2 fun (t15:(Option Addr×Nat×Nat))=>
  ixS t15.1 t15.2.1 32 s.2 fun t17=>
  ldA P 32 t17 w_2 fun t18=>
  za7 P (Instr.build zx #[(1,(Value.int .i64 1)),(2,(Value.agg t18))]) .any w_2 fun (t19:Value)=>
  zas P (Instr.buildSlice jh 1 #[(0,t19)]) .slc w_2 fun (t20:(Option Addr×Nat×Nat)) w_3=>
  zas P (Builtin.append_ #[jh,jh] jh #[(Value.slice s.1.1 s.1.2.1 s.1.2.2),(Value.slice t20.1 t20.2.1 t20.2.2)]) .slc w_3 fun (t21:(Option Addr×Nat×Nat)) w_4=>
  zbl .i64 s.2 1 fun t12=>
  k ((t21.1,t21.2.1,t21.2.2),t12) w_4) (
  za0 ((Option Addr×Nat×Nat)×Int) (fun s_1 w_5 k_1=>
  ld .slc (⟨b1,4,none⟩:Addr) w_5 fun (t24:(Option Addr×Nat×Nat))=>
  xq (decide (s_1.2 < (t24.2.1:Int))) (
  ld .slc (⟨b1,4,none⟩:Addr) w_5 fun (t31:(Option Addr×Nat×Nat))=>
  ixS t31.1 t31.2.1 34 s_1.2 fun t33=>
  ldA P 34 t33 w_5 fun t34=>
  zas P (Instr.buildSlice jh 1 #[(0,(Value.agg t34))]) .slc w_5 fun (t35:(Option Addr×Nat×Nat)) w_6=>
  zas P (Builtin.append_ #[jh,jh] jh #[(Value.slice s_1.1.1 s_1.1.2.1 s_1.1.2.2),(Value.slice t35.1 t35.2.1 t35.2.2)]) .slc w_6 fun (t36:(Option Addr×Nat×Nat)) w_7=>
  zbl .i64 s_1.2 1 fun t28=>
  k_1 ((t36.1,t36.2.1,t36.2.2),t28) w_7) (
  R (.returned (Value.slice s_1.1.1 s_1.1.2.1 s_1.1.2.2)) w_5)) ((s.1.1,s.1.2.1,s.1.2.2),0) w_2)) ((none,0,0),0) w_1
theorem z3b {n:Value}{R:Ending->World->Prop}{w:World}(hT:zxg n R w):qc P zq3 #[n] w R:=
 fnT (.seq .leaf (.seq .leaf (.seq (.seq .leaf (.blk (.loop [(3,.slc),(4,.int .i64)] (.seq (.seq .leaf (.cond .leaf .leaf)) (.seq (.blk .leaf) .leaf))))) (.seq (.seq .leaf (.blk (.loop [(3,.slc),(5,.int .i64)] (.seq (.seq .leaf (.cond .leaf .leaf)) (.seq (.blk .leaf) .leaf))))) (.seq .leaf .leaf))))) Tryz.func146 hT
def zpu (i:Option Addr) (R:Ending->World->Prop) (w:World):Prop:=
  za0 (Int×Int) (fun s w_1 k=>
  jw Int (fun k_1=>
  qw P zjz #[(Value.pointer i)] [.int .u8,.bool] true w_1 fun (t11:(Int×Bool)) w_2=>
  xq (!t11.2) (
  R (.returned (Value.int .u64 0)) w_2) (
  jw Unit (fun k_2=>
  xq (s.2==9) (
  xq (decide (t11.1 > 1)) (
  qw P zcq #[(Value.pointer i),(Value.int .i64 21)] [] true w_2 fun (_:Unit) w_3=>
  R (.returned (Value.int .u64 0)) w_3) (
  xq (decide (s.2 > 0)) (
  xq (t11.1==0) (
  qw P zcq #[(Value.pointer i),(Value.int .i64 21)] [] true w_2 fun (_:Unit) w_4=>
  R (.returned (Value.int .u64 0)) w_4) (
  k_2 () w_2)) (
  k_2 () w_2))) (
  xq (decide (s.2 > 0)) (
  xq (t11.1==0) (
  qw P zcq #[(Value.pointer i),(Value.int .i64 21)] [] true w_2 fun (_:Unit) w_5=>
  R (.returned (Value.int .u64 0)) w_5) (
  k_2 () w_2)) (
  k_2 () w_2))) (fun _ w_6=>
  z2i .u8 t11.1 127 fun t34=>
  cvI .u64 t34 fun t35=>
  zv5 .i64 7 s.2 fun t37=>
  z9r .u64 t35 t37 fun t38=>
  orI .u64 s.1 t38 fun t39=>
  xq (decide (t11.1 < 128)) (
  R (.returned (Value.int .u64 t39)) w_6) (
  k_1 t39 w_6)))) (fun s_2 w_7=>
  zbl .i64 s.2 1 fun t8=>
  k (s_2,t8) w_7)) (0,0) w
theorem zwo {i:Option Addr}{R:Ending->World->Prop}{w:World}(hT:zpu i R w):qc P zes #[(Value.pointer i)] w R:=
 fnT (.seq .leaf (.seq .leaf (.seq .leaf (.blk (.loop [(3,.int .u64),(4,.int .i64)] (.seq (.jblk [(3,.int .u64)] (.seq .leaf (.seq (.seq .leaf (.cond (.seq .leaf .leaf) .leaf)) (.join [] (.seq .leaf (.cond (.seq .leaf (.seq .leaf .leaf)) .leaf)) (.seq .leaf (.seq .leaf (.cond (.seq .leaf .leaf) .leaf))))))) .leaf)))))) Tryz.func176 hT
def zof (i:Option Addr) (most:Int) (R:Ending->World->Prop) (w:World):Prop:=
  qw P zes #[(Value.pointer i)] [.int .u64] false w fun (t7:Int) w_1=>
  jw Unit (fun k=>
  xq (Option.isNone i) (
  R (.returned (Value.string (ByteArray.mk #[]))) w_1) (
  zl i fun p=>
  ld (.int .i64) (Addr.add p 1) w_1 fun (t14:Int)=>
  xq (t14 != 0) (
  R (.returned (Value.string (ByteArray.mk #[]))) w_1) (
  k () w_1))) (fun _ w_2=>
  za7 P (Builtin.max_ #[zbw,zbw] zbw #[(Value.int .i64 most),(Value.int .i64 0)]) (.int .i64) w_2 fun (t19:Int)=>
  cvI .u64 t19 fun t20=>
  xq (decide (t7 > t20)) (
  qw P zcq #[(Value.pointer i),(Value.int .i64 2)] [] true w_2 fun (_:Unit) w_3=>
  R (.returned (Value.string (ByteArray.mk #[]))) w_3) (
  cvI .i64 t7 fun t26=>
  qw P zf2 #[(Value.pointer i),(Value.int .i64 t26)] [.slc] false w_2 fun (t27:(Option Addr×Nat×Nat)) w_4=>
  za7 P (convert zi vg (Value.slice t27.1 t27.2.1 t27.2.2)) .str w_4 fun (t28:ByteArray)=>
  R (.returned (Value.string t28)) w_4))
theorem zue {i:Option Addr}{most:Int}{R:Ending->World->Prop}{w:World}(hT:zof i most R w):qc P zht #[(Value.pointer i),(Value.int .i64 most)] w R:=
 fnT (.seq .leaf (.seq .leaf (.join [] (.seq .leaf (.cond (.seq .leaf .leaf) .leaf)) (.seq (.seq .leaf (.cond (.seq .leaf (.seq .leaf .leaf)) .leaf)) (.seq .leaf .leaf))))) Tryz.func177 hT
def zms (size:Int) (R:Ending->World->Prop) (w:World):Prop:=
  zbl .i64 size 64 fun t4=>
  zln .i64 t4 1 fun t5=>
  qfm .i64 t5 64 fun t6=>
  R (.returned (Value.int .i64 t6)) w
theorem zpg {size:Int}{R:Ending->World->Prop}{w:World}(hT:zms size R w):qc P zhx #[(Value.int .i64 size)] w R:=
 fnT (.seq .leaf (.seq .leaf .leaf)) Tryz.func178 hT
def zl1 (i:Option Addr) (R:Ending->World->Prop) (w:World):Prop:=
  zbk (zc P zf) zf w fun b2 w_1=>
  zbk (zc P zf) zf w_1 fun b3 w_2=>
  za6 w_2 fun w_3=>
  za7 P (Instr.sliceAt zf (Value.pointer (some (⟨b3,0,none⟩:Addr))) none none none) .slc w_3 fun (t4:(Option Addr×Nat×Nat))=>
  qw P zf2 #[(Value.pointer i),(Value.int .i64 32)] [.slc] false w_3 fun (t6:(Option Addr×Nat×Nat)) w_4=>
  ((za7 P (Instr.sliceAt zf (Value.pointer (some (⟨b3,0,none⟩:Addr))) none none none) .slc w_4 fun (t4_1:(Option Addr×Nat×Nat))=>
  (Value.slice t4_1.1 t4_1.2.1 t4_1.2.2)=(Value.slice t4.1 t4.2.1 t4.2.2)) /\
  zas P (Builtin.copy_ #[zi,zi] zbw #[(Value.slice t4.1 t4.2.1 t4.2.2),(Value.slice t6.1 t6.2.1 t6.2.2)]) (.int .i64) w_4 fun (_:Int) w_5=>
  ldA P 32 (⟨b3,0,none⟩:Addr) w_5 fun t8=>
  zbz P (storeVar zf (⟨b2,0,none⟩:Addr) (Value.agg t8)) w_5 fun w_6=>
  ldA P 32 (⟨b2,0,none⟩:Addr) w_6 fun t2=>
  R (.returned (Value.agg t2)) w_6)
theorem zq9 {i:Option Addr}{R:Ending->World->Prop}{w:World}(hT:zl1 i R w):qc P zf6 #[(Value.pointer i)] w R:=
 fnT (.seq .leaf (.seq .leaf (.seq (.tree (.op 1 [] (.op 0 [] (.op 2 [0] (.op 3 [] .done))))) (.seq .leaf .leaf)))) Tryz.func179 hT
def zo9 (items:Option Addr) (items_l items_c:Nat) (R:Ending->World->Prop) (w:World):Prop:=
  za0 (ByteArray×Int) (fun s w_1 k=>
  xq (decide (s.2 < (items_l:Int))) (
  jw ByteArray (fun k_1=>
  ixS items items_l 34 s.2 fun t10=>
  ldA P 34 t10 w_1 fun t11=>
  zbk (zc P zx) zx w_1 fun b5 w_2=>
  zbz P (storeVar zx (⟨b5,0,none⟩:Addr) (Value.agg t11)) w_2 fun w_3=>
  jw Unit (fun k_2=>
  ld .str (⟨b5,0,none⟩:Addr) w_3 fun (t13:ByteArray)=>
  xq ((Op.bytesLess t13.toList s.1.toList) || (t13.toList==s.1.toList)) (
  R (.returned (Value.bool false)) w_3) (
  ld .str (⟨b5,0,none⟩:Addr) w_3 fun (t18:ByteArray)=>
  zas P (Instr.buildSlice zak 1 #[(0,(Value.string t18))]) .slc w_3 fun (t19:(Option Addr×Nat×Nat)) w_4=>
  qw P zk1 #[(Value.slice t19.1 t19.2.1 t19.2.2)] [.int .i64] false w_4 fun (t20:Int) w_5=>
  xq (t20 != 0) (
  R (.returned (Value.bool false)) w_5) (
  k_2 () w_5))) (fun _ w_6=>
  ld (.int .i64) (⟨b5,1,none⟩:Addr) w_6 fun (t24:Int)=>
  jw ByteArray (fun k_3=>
  jw Unit (fun k_4=>
  jw Unit (fun k_5=>
  xq (t24==2) (
  k_5 () w_6) (
  xq (t24==3) (
  k_5 () w_6) (
  R (.returned (Value.bool false)) w_6))) (fun _ w_7=>
  k_4 () w_7)) (fun _ w_8=>
  ld .str (⟨b5,0,none⟩:Addr) w_8 fun (t30:ByteArray)=>
  k_3 t30 w_8)) (fun s_4 w_9=>
  k_1 s_4 w_9))) (fun s_5 w_10=>
  zbl .i64 s.2 1 fun t31=>
  k (s_5,t31) w_10)) (
  R (.returned (Value.bool (decide ((items_l:Int)<=64)))) w_1)) ((ByteArray.mk #[]),0) w
theorem zwd {items:Option Addr}{items_l items_c:Nat}{R:Ending->World->Prop}{w:World}(hT:zo9 items items_l items_c R w):qc P zlj #[(Value.slice items items_l items_c)] w R:=
 fnT (.seq .leaf (.seq .leaf (.seq (.seq .leaf (.blk (.loop [(3,.str),(8,.int .i64)] (.seq .leaf (.seq (.cond .leaf .leaf) (.seq (.jblk [(3,.str)] (.seq .leaf (.join [] (.seq .leaf (.cond (.seq .leaf .leaf) .leaf)) (.seq .leaf (.jblk [(3,.str)] (.seq (.blk (.join [] (.jblk [] (.blk (.seq (.seq (.seq .leaf (.cond .leaf .leaf)) (.seq .leaf (.cond .leaf .leaf))) .leaf))) (.seq .leaf .leaf))) (.seq (.seq .leaf .leaf) .leaf))))))) .leaf)))))) (.seq .leaf .leaf)))) Tryz.func180 hT
def zsq (i:Option Addr) (e:Int) (R:Ending->World->Prop) (w:World):Prop:=
  zl i fun p=>
  stC (Addr.add p 2) (Value.int .i64 e) w fun w_1=>
  zl i fun p_1=>
  ld .slc p_1 w_1 fun (t12:(Option Addr×Nat×Nat))=>
  zl i fun p_2=>
  stC (Addr.add p_2 1) (Value.int .i64 (t12.2.1:Int)) w_1 fun w_2=>
  R (.returned (Value.tuple #[])) w_2
theorem zyq {i:Option Addr}{e:Int}{R:Ending->World->Prop}{w:World}(hT:zsq i e R w):qc P zcb #[(Value.pointer i),(Value.int .i64 e)] w R:=
 fnT (.seq .leaf .leaf) Tryz.func181 hT
def zn3 (i:Option Addr) (R:Ending->World->Prop) (w:World):Prop:=
  jw Unit (fun k=>
  xq (Option.isNone i) (
  R (.returned (Value.tuple #[(Value.int .u8 0),(Value.bool false)])) w) (
  zl i fun p=>
  ld (.int .i64) (Addr.add p 1) w fun (t11:Int)=>
  xq (t11 != 0) (
  R (.returned (Value.tuple #[(Value.int .u8 0),(Value.bool false)])) w) (
  k () w))) (fun _ w_1=>
  zl i fun p_1=>
  ld .slc p_1 w_1 fun (t17:(Option Addr×Nat×Nat))=>
  xq ((t17.2.1:Int)==0) (
  qw P zcq #[(Value.pointer i),(Value.int .i64 20)] [] true w_1 fun (_:Unit) w_2=>
  R (.returned (Value.tuple #[(Value.int .u8 0),(Value.bool false)])) w_2) (
  zl i fun p_2=>
  ld .slc p_2 w_1 fun (t25:(Option Addr×Nat×Nat))=>
  ixS t25.1 t25.2.1 1 0 fun t26=>
  ld (.int .u8) t26 w_1 fun (t27:Int)=>
  zl i fun p_3=>
  ld .slc p_3 w_1 fun (t32:(Option Addr×Nat×Nat))=>
  za7 P (Instr.sliceAt zi (Value.slice t32.1 t32.2.1 t32.2.2) (some (Value.int .i64 1)) none none) .slc w_1 fun (t33:(Option Addr×Nat×Nat))=>
  zl i fun p_4=>
  stC p_4 (Value.slice t33.1 t33.2.1 t33.2.2) w_1 fun w_3=>
  R (.returned (Value.tuple #[(Value.int .u8 t27),(Value.bool true)])) w_3))
theorem zu1 {i:Option Addr}{R:Ending->World->Prop}{w:World}(hT:zn3 i R w):qc P zjz #[(Value.pointer i)] w R:=
 fnT (.seq .leaf (.join [] (.seq .leaf (.cond (.seq .leaf .leaf) .leaf)) (.seq (.seq .leaf (.cond (.seq .leaf (.seq .leaf .leaf)) .leaf)) (.seq .leaf (.seq .leaf (.seq .leaf .leaf)))))) Tryz.func204 hT
def zoc (i:Option Addr) (e:Int) (R:Ending->World->Prop) (w:World):Prop:=
  zl i fun p=>
  stC p (Value.slice none 0 0) w fun w_1=>
  zl i fun p_1=>
  stC (Addr.add p_1 1) (Value.int .i64 e) w_1 fun w_2=>
  R (.returned (Value.tuple #[])) w_2
theorem zvh {i:Option Addr}{e:Int}{R:Ending->World->Prop}{w:World}(hT:zoc i e R w):qc P zcq #[(Value.pointer i),(Value.int .i64 e)] w R:=
 fnT .leaf Tryz.func205 hT
def zj6 (i:Option Addr) (n:Int) (R:Ending->World->Prop) (w:World):Prop:=
  jw Unit (fun k=>
  xq (Option.isNone i) (
  R (.returned (Value.slice none 0 0)) w) (
  zl i fun p=>
  ld (.int .i64) (Addr.add p 1) w fun (t12:Int)=>
  xq (t12 != 0) (
  R (.returned (Value.slice none 0 0)) w) (
  k () w))) (fun _ w_1=>
  zl i fun p_1=>
  ld .slc p_1 w_1 fun (t19:(Option Addr×Nat×Nat))=>
  xq (decide (n > (t19.2.1:Int))) (
  qw P zcq #[(Value.pointer i),(Value.int .i64 20)] [] true w_1 fun (_:Unit) w_2=>
  R (.returned (Value.slice none 0 0)) w_2) (
  zl i fun p_2=>
  ld .slc p_2 w_1 fun (t27:(Option Addr×Nat×Nat))=>
  za7 P (Instr.sliceAt zi (Value.slice t27.1 t27.2.1 t27.2.2) none (some (Value.int .i64 n)) none) .slc w_1 fun (t29:(Option Addr×Nat×Nat))=>
  zl i fun p_3=>
  ld .slc p_3 w_1 fun (t34:(Option Addr×Nat×Nat))=>
  za7 P (Instr.sliceAt zi (Value.slice t34.1 t34.2.1 t34.2.2) (some (Value.int .i64 n)) none none) .slc w_1 fun (t36:(Option Addr×Nat×Nat))=>
  zl i fun p_4=>
  stC p_4 (Value.slice t36.1 t36.2.1 t36.2.2) w_1 fun w_3=>
  R (.returned (Value.slice t29.1 t29.2.1 t29.2.2)) w_3))
theorem zmb {i:Option Addr}{n:Int}{R:Ending->World->Prop}{w:World}(hT:zj6 i n R w):qc P zf2 #[(Value.pointer i),(Value.int .i64 n)] w R:=
 fnT (.seq .leaf (.join [] (.seq .leaf (.cond (.seq .leaf .leaf) .leaf)) (.seq (.seq .leaf (.cond (.seq .leaf (.seq .leaf .leaf)) .leaf)) (.seq .leaf (.seq .leaf (.seq .leaf .leaf)))))) Tryz.func206 hT
set_option maxRecDepth 100000
def zsi (s:Option Addr) (list:Option Addr) (list_l list_c:Nat) (R:Ending->World->Prop) (w:World):Prop:=
  zbk (zc P zf) zf w fun b4 w_1=>
  xq (Option.isNone s) (
  za7 P (Instr.build zf #[]) .any w_1 fun (t15:Value)=>
  zbz P (storeVar zf (⟨b4,0,none⟩:Addr) t15) w_1 fun w_2=>
  ldA P 32 (⟨b4,0,none⟩:Addr) w_2 fun t4=>
  R (.returned (Value.tuple #[(Value.agg t4),(Value.int .i64 7)])) w_2) (
  qw P zmd #[(Value.slice list list_l list_c)] [.slc,.int .i64] true w_1 fun (t18:((Option Addr×Nat×Nat)×Int)) w_3=>
  xq (t18.2 != 0) (
  za7 P (Instr.build zf #[]) .any w_3 fun (t23:Value)=>
  zbz P (storeVar zf (⟨b4,0,none⟩:Addr) t23) w_3 fun w_4=>
  ldA P 32 (⟨b4,0,none⟩:Addr) w_4 fun t4_1=>
  R (.returned (Value.tuple #[(Value.agg t4_1),(Value.int .i64 t18.2)])) w_4) (
  qw P zmf #[(Value.slice t18.1.1 t18.1.2.1 t18.1.2.2)] [.map,.int .i64] true w_3 fun (t27:((Option Nat)×Int)) w_5=>
  zbk (zc P zac) zac w_5 fun b8 w_6=>
  stC (⟨b8,0,none⟩:Addr) (Value.map t27.1) w_6 fun w_7=>
  xq (t27.2 != 0) (
  za7 P (Instr.build zf #[]) .any w_7 fun (t32:Value)=>
  zbz P (storeVar zf (⟨b4,0,none⟩:Addr) t32) w_7 fun w_8=>
  ldA P 32 (⟨b4,0,none⟩:Addr) w_8 fun t4_2=>
  R (.returned (Value.tuple #[(Value.agg t4_2),(Value.int .i64 t27.2)])) w_8) (
  zbk (zc P jq) jq w_7 fun b9 w_9=>
  zbk (zc P zcr) zcr w_9 fun b10 w_10=>
  za7 P (Instr.makeFunc (Go.Fn.func zhs) #[] #[(Value.pointer (some (⟨b8,0,none⟩:Addr))),(Value.pointer (some (⟨b10,0,none⟩:Addr))),(Value.pointer (some (⟨b9,0,none⟩:Addr)))]) .any w_10 fun (t34:Value)=>
  zbz P (storeVar zcr (⟨b10,0,none⟩:Addr) t34) w_10 fun w_11=>
  ld .any (⟨b10,0,none⟩:Addr) w_11 fun (t35:Value)=>
  zrh P t35 #[(Value.string (ByteArray.mk #[47]))] [.any] false w_11 fun (t36:Value) w_12=>
  zbk (zc P zf) zf w_12 fun b11 w_13=>
  zbz P (storeVar zf (⟨b11,0,none⟩:Addr) t36) w_13 fun w_14=>
  ld .slc (⟨b9,0,none⟩:Addr) w_14 fun (t38:(Option Addr×Nat×Nat))=>
  qw P zeu #[(Value.pointer s),(Value.slice t38.1 t38.2.1 t38.2.2)] [.int .i64] false w_14 fun (t39:Int) w_15=>
  xq (t39 != 0) (
  za7 P (Instr.build zf #[]) .any w_15 fun (t42:Value)=>
  zbz P (storeVar zf (⟨b4,0,none⟩:Addr) t42) w_15 fun w_16=>
  ldA P 32 (⟨b4,0,none⟩:Addr) w_16 fun t4_3=>
  R (.returned (Value.tuple #[(Value.agg t4_3),(Value.int .i64 t39)])) w_16) (
  ldA P 32 (⟨b11,0,none⟩:Addr) w_15 fun t44=>
  zbz P (storeVar zf (⟨b4,0,none⟩:Addr) (Value.agg t44)) w_15 fun w_17=>
  ldA P 32 (⟨b4,0,none⟩:Addr) w_17 fun t4_4=>
  R (.returned (Value.tuple #[(Value.agg t4_4),(Value.int .i64 0)])) w_17))))
theorem zx8 {s:Option Addr}{list:Option Addr}{list_l list_c:Nat}{R:Ending->World->Prop}{w:World}(hT:zsi s list list_l list_c R w):qc P zl9 #[(Value.pointer s),(Value.slice list list_l list_c)] w R:=
 fnT (.seq .leaf (.seq (.seq .leaf (.cond (.seq .leaf .leaf) .leaf)) (.seq .leaf (.seq (.seq .leaf (.cond (.seq .leaf .leaf) .leaf)) (.seq .leaf (.seq (.seq .leaf (.cond (.seq .leaf .leaf) .leaf)) (.seq .leaf (.seq .leaf (.seq .leaf (.seq .leaf (.seq (.seq .leaf (.seq .leaf (.cond (.seq .leaf .leaf) .leaf))) (.seq .leaf .leaf)))))))))))) Tryz.func14 hT
def zsf (list:Option Addr) (list_l list_c:Nat) (R:Ending->World->Prop) (w:World):Prop:=
  za0 ((Option Addr×Nat×Nat)×Int) (fun s w_1 k=>
  xq (decide (s.2 < (list_l:Int))) (
  ixS list list_l 3 s.2 fun t13=>
  ldA P 3 t13 w_1 fun t14=>
  zbk (zc P zbd) zbd w_1 fun b6 w_2=>
  zbz P (storeVar zbd (⟨b6,0,none⟩:Addr) (Value.agg t14)) w_2 fun w_3=>
  ld .str (⟨b6,0,none⟩:Addr) w_3 fun (t17:ByteArray)=>
  qw P zlo #[(Value.string t17)] [.slc,.int .i64] true w_3 fun (t18:((Option Addr×Nat×Nat)×Int)) w_4=>
  xq (t18.2 != 0) (
  R (.returned (Value.tuple #[(Value.slice none 0 0),(Value.int .i64 t18.2)])) w_4) (
  ldA P 3 (⟨b6,0,none⟩:Addr) w_4 fun t26=>
  za7 P (Instr.build ql #[(0,(Value.slice t18.1.1 t18.1.2.1 t18.1.2.2)),(1,(Value.agg t26))]) .any w_4 fun (t27:Value)=>
  zas P (Instr.buildSlice za3 1 #[(0,t27)]) .slc w_4 fun (t28:(Option Addr×Nat×Nat)) w_5=>
  zas P (Builtin.append_ #[za3,za3] za3 #[(Value.slice s.1.1 s.1.2.1 s.1.2.2),(Value.slice t28.1 t28.2.1 t28.2.2)]) .slc w_5 fun (t29:(Option Addr×Nat×Nat)) w_6=>
  zbl .i64 s.2 1 fun t30=>
  k ((t29.1,t29.2.1,t29.2.2),t30) w_6)) (
  qw P zav #[(Value.slice list list_l list_c),(Value.func (.func zjv) #[] #[])] [.bool] false w_1 fun (t32:Bool) w_7=>
  xq t32 (
  R (.returned (Value.tuple #[(Value.slice none 0 0),(Value.int .i64 1)])) w_7) (
  qw P zav #[(Value.slice list list_l list_c),(Value.func (.func zjw) #[] #[])] [.bool] false w_7 fun (t34:Bool) w_8=>
  xq t34 (
  R (.returned (Value.tuple #[(Value.slice none 0 0),(Value.int .i64 134)])) w_8) (
  R (.returned (Value.tuple #[(Value.slice s.1.1 s.1.2.1 s.1.2.2),(Value.int .i64 0)])) w_8)))) ((none,0,0),0) w
theorem zy8 {list:Option Addr}{list_l list_c:Nat}{R:Ending->World->Prop}{w:World}(hT:zsf list list_l list_c R w):qc P zmd #[(Value.slice list list_l list_c)] w R:=
 fnT (.seq .leaf (.seq .leaf (.seq (.seq .leaf (.blk (.loop [(4,.slc),(11,.int .i64)] (.seq .leaf (.seq (.cond .leaf .leaf) (.seq (.blk (.seq .leaf (.seq .leaf (.seq (.seq .leaf (.cond (.seq .leaf .leaf) .leaf)) .leaf)))) .leaf)))))) (.seq (.seq .leaf (.cond (.seq .leaf .leaf) .leaf)) (.seq (.seq .leaf (.cond (.seq .leaf .leaf) .leaf)) (.seq .leaf .leaf)))))) Tryz.func54 hT
def zsa (list:Option Addr) (list_l list_c:Nat) (R:Ending->World->Prop) (w:World):Prop:=
  zas P (Instr.makeMap zb2 none) .map w fun (t18:(Option Nat)) w_1=>
  za7 P (Instr.build zbd #[(1,(Value.bool true))]) .any w_1 fun (t19:Value)=>
  za7 P (Instr.build ql #[(0,(Value.slice none 0 0)),(1,t19)]) .any w_1 fun (t20:Value)=>
  zbz P (Instr.mapUpdate zb2 (Value.map t18) (Value.string (ByteArray.mk #[47])) t20) w_1 fun w_2=>
  za0 Int (fun s w_3 k=>
  xq (decide (s < (list_l:Int))) (
  ixS list list_l 4 s fun t26=>
  ldA P 4 t26 w_3 fun t27=>
  zbk (zc P ql) ql w_3 fun b6 w_4=>
  zbz P (storeVar ql (⟨b6,0,none⟩:Addr) (Value.agg t27)) w_4 fun w_5=>
  ld .slc (⟨b6,0,none⟩:Addr) w_5 fun (t31:(Option Addr×Nat×Nat))=>
  qw P zgh #[(Value.slice t31.1 t31.2.1 t31.2.2)] [.str] false w_5 fun (t32:ByteArray) w_6=>
  z8d P (Instr.lookup zb2 (Value.map t18) (Value.string t32) true) [.any,.bool] w_6 fun (t33:(Value×Bool))=>
  zbk (zc P ql) ql w_6 fun b7 w_7=>
  zbz P (storeVar ql (⟨b7,0,none⟩:Addr) t33.1) w_7 fun w_8=>
  xq t33.2 (
  R (.returned (Value.tuple #[(Value.map none),(Value.int .i64 5)])) w_8) (
  za6 w_8 fun w_9=>
  ld .slc (⟨b6,0,none⟩:Addr) w_9 fun (t39:(Option Addr×Nat×Nat))=>
  ldA P 4 (⟨b6,0,none⟩:Addr) w_9 fun t41=>
  qw P zgh #[(Value.slice t39.1 t39.2.1 t39.2.2)] [.str] false w_9 fun (t40:ByteArray) w_10=>
  ((ldA P 4 (⟨b6,0,none⟩:Addr) w_10 fun t41_1=>
  (Value.agg t41_1)=(Value.agg t41)) /\
  zbz P (Instr.mapUpdate zb2 (Value.map t18) (Value.string t40) (Value.agg t41)) w_10 fun w_11=>
  zbl .i64 s 1 fun t42=>
  k t42 w_11))) (
  zas P (Instr.makeMap zac none) .map w_3 fun (t43:(Option Nat)) w_12=>
  za0 (Bool×Int) (fun s_1 w_13 k_1=>
  xq (decide (s_1.2 < (list_l:Int))) (
  ixS list list_l 4 s_1.2 fun t48=>
  ldA P 4 t48 w_13 fun t49=>
  zbk (zc P ql) ql w_13 fun b12 w_14=>
  zbz P (storeVar ql (⟨b12,0,none⟩:Addr) (Value.agg t49)) w_14 fun w_15=>
  ld .slc (⟨b12,0,none⟩:Addr) w_15 fun (t51:(Option Addr×Nat×Nat))=>
  ld .slc (⟨b12,0,none⟩:Addr) w_15 fun (t53:(Option Addr×Nat×Nat))=>
  zln .i64 (t53.2.1:Int) 1 fun t55=>
  za7 P (Instr.sliceAt zak (Value.slice t51.1 t51.2.1 t51.2.2) none (some (Value.int .i64 t55)) none) .slc w_15 fun (t56:(Option Addr×Nat×Nat))=>
  qw P zgh #[(Value.slice t56.1 t56.2.1 t56.2.2)] [.str] false w_15 fun (t57:ByteArray) w_16=>
  z8d P (Instr.lookup zb2 (Value.map t18) (Value.string t57) true) [.any,.bool] w_16 fun (t61:(Value×Bool))=>
  zbk (zc P ql) ql w_16 fun b14 w_17=>
  zbz P (storeVar ql (⟨b14,0,none⟩:Addr) t61.1) w_17 fun w_18=>
  xq (!t61.2) (
  R (.returned (Value.tuple #[(Value.map none),(Value.int .i64 4)])) w_18) (
  jw Bool (fun k_2=>
  xq s_1.1 (
  k_2 true w_18) (
  ld .bool (⟨b14,2,none⟩:Addr) w_18 fun (t70:Bool)=>
  k_2 (!t70) w_18)) (fun s_2 w_19=>
  za7 P (Instr.lookup zac (Value.map t43) (Value.string t57) false) .slc w_19 fun (t77:(Option Addr×Nat×Nat))=>
  ldA P 4 (⟨b12,0,none⟩:Addr) w_19 fun t78=>
  zas P (Instr.buildSlice za3 1 #[(0,(Value.agg t78))]) .slc w_19 fun (t79:(Option Addr×Nat×Nat)) w_20=>
  zas P (Builtin.append_ #[za3,za3] za3 #[(Value.slice t77.1 t77.2.1 t77.2.2),(Value.slice t79.1 t79.2.1 t79.2.2)]) .slc w_20 fun (t80:(Option Addr×Nat×Nat)) w_21=>
  zbz P (Instr.mapUpdate zac (Value.map t43) (Value.string t57) (Value.slice t80.1 t80.2.1 t80.2.2)) w_21 fun w_22=>
  zbl .i64 s_1.2 1 fun t81=>
  k_1 (s_2,t81) w_22))) (
  xq s_1.1 (
  R (.returned (Value.tuple #[(Value.map none),(Value.int .i64 70)])) w_13) (
  zas P (Instr.range zac (Value.map t43)) .ptr w_13 fun (t84:(Option Addr)) w_23=>
  za0 Unit (fun _ w_24 k_3=>
  zas P (Instr.next (Value.pointer t84) false zd0) .any w_24 fun (t85:Value) w_25=>
  exV t85 0 .bool fun (t86:Bool)=>
  xq t86 (
  za7 P (Instr.entry (Value.pointer t84)) .any w_25 fun (t87:Value)=>
  exV t87 1 .slc fun (t88:(Option Addr×Nat×Nat))=>
  xq (decide ((t88.2.1:Int) > 64)) (
  R (.returned (Value.tuple #[(Value.map none),(Value.int .i64 8)])) w_25) (
  qw P zck #[(Value.slice t88.1 t88.2.1 t88.2.2),(Value.func (.func zf0) #[] #[])] [] true w_25 fun (_:Unit) w_26=>
  k_3 () w_26)) (
  R (.returned (Value.tuple #[(Value.map t43),(Value.int .i64 0)])) w_25)) () w_23))) (false,0) w_12)) 0 w_2
theorem zyg {list:Option Addr}{list_l list_c:Nat}{R:Ending->World->Prop}{w:World}(hT:zsa list list_l list_c R w):qc P zmf #[(Value.slice list list_l list_c)] w R:=
 fnT (.seq .leaf (.seq .leaf (.seq (.seq .leaf (.blk (.loop [(24,.int .i64)] (.seq .leaf (.seq (.cond .leaf .leaf) (.seq (.blk (.seq .leaf (.seq (.seq .leaf (.seq .leaf (.cond (.seq .leaf .leaf) .leaf))) (.tree (.op 0 [] (.op 1 [] (.op 2 [] (.op 4 [] (.op 3 [4] (.op 5 [] .done)))))))))) .leaf)))))) (.seq .leaf (.seq .leaf (.seq (.seq .leaf (.blk (.loop [(10,.bool),(46,.int .i64)] (.seq .leaf (.seq (.cond .leaf .leaf) (.seq (.blk (.seq .leaf (.seq .leaf (.seq .leaf (.seq (.seq .leaf (.cond (.seq .leaf .leaf) .leaf)) (.join [(10,.bool)] .leaf .leaf)))))) .leaf)))))) (.seq (.seq .leaf (.cond (.seq .leaf .leaf) .leaf)) (.seq (.seq .leaf (.blk (.loop [] (.seq .leaf (.seq (.cond .leaf .leaf) (.blk (.seq .leaf (.seq (.seq .leaf (.cond (.seq .leaf .leaf) .leaf)) .leaf)))))))) (.seq .leaf .leaf))))))))) Tryz.func55 hT
def zn6 (atv:ByteArray) (c0:Option Addr) (c1:Option Addr) (c2:Option Addr) (R:Ending->World->Prop) (w:World):Prop:=
  zbk (zc P zf) zf w fun b5 w_1=>
  za7 P (Instr.build zh #[(0,(Value.int .i64 3))]) .any w_1 fun (t11:Value)=>
  zbk (zc P zh) zh w_1 fun b6 w_2=>
  zbz P (storeVar zh (⟨b6,0,none⟩:Addr) t11) w_2 fun w_3=>
  zl c0 fun p=>
  ld .map p w_3 fun (t12:(Option Nat))=>
  za7 P (Instr.lookup zac (Value.map t12) (Value.string atv) false) .slc w_3 fun (t14:(Option Addr×Nat×Nat))=>
  za0 Int (fun s w_4 k=>
  xq (decide (s < (t14.2.1:Int))) (
  jw Unit (fun k_1=>
  jw Unit (fun k_2=>
  ixS t14.1 t14.2.1 4 s fun t18=>
  ldA P 4 t18 w_4 fun t19=>
  zbk (zc P ql) ql w_4 fun b8 w_5=>
  zbz P (storeVar ql (⟨b8,0,none⟩:Addr) (Value.agg t19)) w_5 fun w_6=>
  ld .slc (⟨b8,0,none⟩:Addr) w_6 fun (t21:(Option Addr×Nat×Nat))=>
  ld .slc (⟨b8,0,none⟩:Addr) w_6 fun (t23:(Option Addr×Nat×Nat))=>
  zln .i64 (t23.2.1:Int) 1 fun t25=>
  ixS t21.1 t21.2.1 1 t25 fun t26=>
  ld .str t26 w_6 fun (t27:ByteArray)=>
  za7 P (Instr.build zx #[(0,(Value.string t27)),(1,(Value.int .i64 2))]) .any w_6 fun (t28:Value)=>
  zbk (zc P zx) zx w_6 fun b9 w_7=>
  zbz P (storeVar zx (⟨b9,0,none⟩:Addr) t28) w_7 fun w_8=>
  jw Unit (fun k_3=>
  ld .bool (⟨b8,2,none⟩:Addr) w_8 fun (t31:Bool)=>
  xq t31 (
  za6 w_8 fun w_9=>
  zl c1 fun p_1=>
  ld .any p_1 w_9 fun (t32:Value)=>
  ld .slc (⟨b8,0,none⟩:Addr) w_9 fun (t34:(Option Addr×Nat×Nat))=>
  qw P zgh #[(Value.slice t34.1 t34.2.1 t34.2.2)] [.str] false w_9 fun (t35:ByteArray) w_10=>
  ((zl c1 fun p_2=>
  ld .any p_2 w_10 fun (t32_1:Value)=>
  t32_1=t32) /\
  zrh P t32 #[(Value.string t35)] [.any] false w_10 fun (t36:Value) w_11=>
  stC (⟨b9,1,none⟩:Addr) (Value.int .i64 3) w_11 fun w_12=>
  zbz P (storeVar zf (⟨b9,2,none⟩:Addr) t36) w_12 fun w_13=>
  k_3 () w_13)) (
  zl c2 fun p_3=>
  ld .slc p_3 w_8 fun (t40:(Option Addr×Nat×Nat))=>
  ld .str (⟨b8,3,none⟩:Addr) w_8 fun (t43:ByteArray)=>
  qw P zou #[(Value.slice t40.1 t40.2.1 t40.2.2),(Value.string t43)] [.slc,.any] true w_8 fun (t44:((Option Addr×Nat×Nat)×Value)) w_14=>
  zl c2 fun p_4=>
  stC p_4 (Value.slice t44.1.1 t44.1.2.1 t44.1.2.2) w_14 fun w_15=>
  zbz P (storeVar zf (⟨b9,2,none⟩:Addr) t44.2) w_15 fun w_16=>
  k_3 () w_16)) (fun _ w_17=>
  ld .slc (⟨b6,4,none⟩:Addr) w_17 fun (t49:(Option Addr×Nat×Nat))=>
  ldA P 34 (⟨b9,0,none⟩:Addr) w_17 fun t50=>
  zas P (Instr.buildSlice jh 1 #[(0,(Value.agg t50))]) .slc w_17 fun (t51:(Option Addr×Nat×Nat)) w_18=>
  zas P (Builtin.append_ #[jh,jh] jh #[(Value.slice t49.1 t49.2.1 t49.2.2),(Value.slice t51.1 t51.2.1 t51.2.2)]) .slc w_18 fun (t52:(Option Addr×Nat×Nat)) w_19=>
  stC (⟨b6,4,none⟩:Addr) (Value.slice t52.1 t52.2.1 t52.2.2) w_19 fun w_20=>
  k_2 () w_20)) (fun _ w_21=>
  k_1 () w_21)) (fun _ w_22=>
  zbl .i64 s 1 fun t54=>
  k t54 w_22)) (
  zbk (zc P zf) zf w_4 fun b10 w_23=>
  zl c2 fun p_5=>
  ld .slc p_5 w_23 fun (t56:(Option Addr×Nat×Nat))=>
  ldA P 5 (⟨b6,0,none⟩:Addr) w_23 fun t57=>
  qw P zi1 #[(Value.slice t56.1 t56.2.1 t56.2.2),(Value.agg t57)] [.slc,.any] true w_23 fun (t58:((Option Addr×Nat×Nat)×Value)) w_24=>
  zl c2 fun p_6=>
  stC p_6 (Value.slice t58.1.1 t58.1.2.1 t58.1.2.2) w_24 fun w_25=>
  zbz P (storeVar zf (⟨b10,0,none⟩:Addr) t58.2) w_25 fun w_26=>
  ldA P 32 (⟨b10,0,none⟩:Addr) w_26 fun t61=>
  zbz P (storeVar zf (⟨b5,0,none⟩:Addr) (Value.agg t61)) w_26 fun w_27=>
  ldA P 32 (⟨b5,0,none⟩:Addr) w_27 fun t5=>
  R (.returned (Value.agg t5)) w_27)) 0 w_3
theorem zvr {atv:ByteArray}{c0:Option Addr}{c1:Option Addr}{c2:Option Addr}{R:Ending->World->Prop}{w:World}(hT:zn6 atv c0 c1 c2 R w):qc P zhs #[(Value.string atv),(Value.pointer c0),(Value.pointer c1),(Value.pointer c2)] w R:=
 fnT (.seq .leaf (.seq .leaf (.seq (.seq .leaf (.blk (.loop [(16,.int .i64)] (.seq .leaf (.seq (.cond .leaf .leaf) (.join [] (.jblk [] (.seq .leaf (.seq .leaf (.join [] (.seq .leaf (.cond (.tree (.op 1 [] (.op 5 [] (.op 0 [] (.op 2 [] (.op 3 [0] (.op 4 [] (.op 6 [] (.op 7 [] (.op 8 [] .done)))))))))) .leaf)) .leaf)))) .leaf)))))) (.seq .leaf (.seq .leaf (.seq .leaf .leaf)))))) Tryz.func56 hT
def zvm (list:Option Addr) (list_l list_c:Nat) (data:ByteArray) (R:Ending->World->Prop) (w:World):Prop:=
  zbk #[(Value.slice list list_l list_c)] jq w fun b2 w_1=>
  zbk (zc P zf) zf w_1 fun b5 w_2=>
  za7 P (Instr.build zh #[(0,(Value.int .i64 2)),(2,(Value.int .i64 (data.size:Int)))]) .any w_2 fun (t11:Value)=>
  zbk (zc P zh) zh w_2 fun b6 w_3=>
  zbz P (storeVar zh (⟨b6,0,none⟩:Addr) t11) w_3 fun w_4=>
  zas P (convert vg zi (Value.string data)) .slc w_4 fun (t13:(Option Addr×Nat×Nat)) w_5=>
  qw P zdp #[(Value.slice t13.1 t13.2.1 t13.2.2),(Value.int .i64 64)] [.any] false w_5 fun (t14:Value) w_6=>
  z1m P [.slc] t14 w_6 (fun (x:(Option Addr×Nat×Nat)) w_7 beg kc _ _=>
  beg w_7 fun w_8=>
  zbk (zc P zf) zf w_8 fun b8 w_9=>
  ld .slc (⟨b2,0,none⟩:Addr) w_9 fun (t17:(Option Addr×Nat×Nat))=>
  za7 P (convert zi vg (Value.slice x.1 x.2.1 x.2.2)) .str w_9 fun (t19:ByteArray)=>
  za7 P (Instr.build zh #[(0,(Value.int .i64 1)),(1,(Value.string t19))]) .any w_9 fun (t20:Value)=>
  qw P zi1 #[(Value.slice t17.1 t17.2.1 t17.2.2),t20] [.slc,.any] true w_9 fun (t21:((Option Addr×Nat×Nat)×Value)) w_10=>
  stC (⟨b2,0,none⟩:Addr) (Value.slice t21.1.1 t21.1.2.1 t21.1.2.2) w_10 fun w_11=>
  zbz P (storeVar zf (⟨b8,0,none⟩:Addr) t21.2) w_11 fun w_12=>
  ld .slc (⟨b6,3,none⟩:Addr) w_12 fun (t25:(Option Addr×Nat×Nat))=>
  ldA P 32 (⟨b8,0,none⟩:Addr) w_12 fun t26=>
  zas P (Instr.buildSlice jc 1 #[(0,(Value.agg t26))]) .slc w_12 fun (t27:(Option Addr×Nat×Nat)) w_13=>
  zas P (Builtin.append_ #[jc,jc] jc #[(Value.slice t25.1 t25.2.1 t25.2.2),(Value.slice t27.1 t27.2.1 t27.2.2)]) .slc w_13 fun (t28:(Option Addr×Nat×Nat)) w_14=>
  stC (⟨b6,3,none⟩:Addr) (Value.slice t28.1 t28.2.1 t28.2.2) w_14 fun w_15=>
  kc w_15) (fun D w_16=>
  ld .slc (⟨b2,0,none⟩:Addr) w_16 fun (t30:(Option Addr×Nat×Nat))=>
  ldA P 5 (⟨b6,0,none⟩:Addr) w_16 fun t31=>
  qw P zi1 #[(Value.slice t30.1 t30.2.1 t30.2.2),(Value.agg t31)] [.slc,.any] true w_16 fun (t32:((Option Addr×Nat×Nat)×Value)) w_17=>
  zbz P (storeVar zf (⟨b5,0,none⟩:Addr) t32.2) w_17 fun w_18=>
  (w_18.heap[D]?=some (.deferred (some []))/\∀ w_19,w_19=World.putObj w_18 D (.deferred none) ->
  ldA P 32 (⟨b5,0,none⟩:Addr) w_19 fun t5=>
  R (.returned (Value.tuple #[(Value.slice t32.1.1 t32.1.2.1 t32.1.2.2),(Value.agg t5)])) w_19)) (fun _D _w=>False) (fun _ _D _w=>False)
theorem z0e {list:Option Addr}{list_l list_c:Nat}{data:ByteArray}{R:Ending->World->Prop}{w:World}(hT:zvm list list_l list_c data R w):qc P zou #[(Value.slice list list_l list_c),(Value.string data)] w R:=
 fnU (.seq (.pure .leaf) (.seq (.pure .leaf) (.seq (.seq (.pure .leaf) (.blk (.rng [(15,.slc)] false [] .leaf (.blk (.seq .leaf (.seq .leaf .leaf)))))) (.pure (.seq .leaf .leaf))))) Tryz.func58 hT
def zu7 (list:Option Addr) (list_l list_c:Nat) (n:Value) (R:Ending->World->Prop) (w:World):Prop:=
  zbk (Value.cells n) zh w fun b3 w_1=>
  zbk (zc P zf) zf w_1 fun b5 w_2=>
  ldA P 5 (⟨b3,0,none⟩:Addr) w_2 fun t9=>
  qw P zla #[(Value.agg t9)] [.slc,.int .i64] true w_2 fun (t10:((Option Addr×Nat×Nat)×Int)) w_3=>
  zas P (Instr.buildSlice jq 1 #[(0,(Value.slice t10.1.1 t10.1.2.1 t10.1.2.2))]) .slc w_3 fun (t15:(Option Addr×Nat×Nat)) w_4=>
  zas P (Builtin.append_ #[jq,jq] jq #[(Value.slice list list_l list_c),(Value.slice t15.1 t15.2.1 t15.2.2)]) .slc w_4 fun (t16:(Option Addr×Nat×Nat)) w_5=>
  qw P zhu #[(Value.slice t10.1.1 t10.1.2.1 t10.1.2.2)] [.any] false w_5 fun (t18:Value) w_6=>
  zbz P (storeVar zf (⟨b5,0,none⟩:Addr) t18) w_6 fun w_7=>
  ldA P 32 (⟨b5,0,none⟩:Addr) w_7 fun t5=>
  R (.returned (Value.tuple #[(Value.slice t16.1 t16.2.1 t16.2.2),(Value.agg t5)])) w_7
theorem zz7 {list:Option Addr}{list_l list_c:Nat}{n:Value}{R:Ending->World->Prop}{w:World}(hT:zu7 list list_l list_c n R w):qc P zi1 #[(Value.slice list list_l list_c),n] w R:=
 fnT (.seq .leaf (.seq .leaf (.seq .leaf .leaf))) Tryz.func59 hT
def zw2 (s:Option Addr) (d:Value) (kind:Int) (R:Ending->World->Prop) (w:World):Prop:=
  zbk (Value.cells d) zf w fun b4 w_1=>
  zbk (zc P zh) zh w_1 fun b6 w_2=>
  ldA P 32 (⟨b4,0,none⟩:Addr) w_2 fun t13=>
  qw P zex #[(Value.pointer s),(Value.agg t13)] [.slc,.int .i64] true w_2 fun (t14:((Option Addr×Nat×Nat)×Int)) w_3=>
  xq (t14.2 != 0) (
  za7 P (Instr.build zh #[]) .any w_3 fun (t19:Value)=>
  zbz P (storeVar zh (⟨b6,0,none⟩:Addr) t19) w_3 fun w_4=>
  ldA P 5 (⟨b6,0,none⟩:Addr) w_4 fun t6=>
  R (.returned (Value.tuple #[(Value.agg t6),(Value.int .i64 t14.2)])) w_4) (
  qw P zg2 #[(Value.slice t14.1.1 t14.1.2.1 t14.1.2.2)] [.any,.int .i64] true w_3 fun (t23:(Value×Int)) w_5=>
  zbk (zc P zh) zh w_5 fun b10 w_6=>
  zbz P (storeVar zh (⟨b10,0,none⟩:Addr) t23.1) w_6 fun w_7=>
  jw Unit (fun k=>
  xq (t23.2 != 0) (
  za7 P (Instr.build zh #[]) .any w_7 fun (t34:Value)=>
  zbz P (storeVar zh (⟨b6,0,none⟩:Addr) t34) w_7 fun w_8=>
  ldA P 5 (⟨b6,0,none⟩:Addr) w_8 fun t6_1=>
  R (.returned (Value.tuple #[(Value.agg t6_1),(Value.int .i64 21)])) w_8) (
  ld (.int .i64) (⟨b10,0,none⟩:Addr) w_7 fun (t30:Int)=>
  xq (t30 != kind) (
  za7 P (Instr.build zh #[]) .any w_7 fun (t34_1:Value)=>
  zbz P (storeVar zh (⟨b6,0,none⟩:Addr) t34_1) w_7 fun w_9=>
  ldA P 5 (⟨b6,0,none⟩:Addr) w_9 fun t6_2=>
  R (.returned (Value.tuple #[(Value.agg t6_2),(Value.int .i64 21)])) w_9) (
  k () w_7))) (fun _ w_10=>
  ldA P 5 (⟨b10,0,none⟩:Addr) w_10 fun t35=>
  zbz P (storeVar zh (⟨b6,0,none⟩:Addr) (Value.agg t35)) w_10 fun w_11=>
  ldA P 5 (⟨b6,0,none⟩:Addr) w_11 fun t6_3=>
  R (.returned (Value.tuple #[(Value.agg t6_3),(Value.int .i64 0)])) w_11))
theorem z2v {s:Option Addr}{d:Value}{kind:Int}{R:Ending->World->Prop}{w:World}(hT:zw2 s d kind R w):qc P zxq #[(Value.pointer s),d,(Value.int .i64 kind)] w R:=
 fnT (.seq .leaf (.seq .leaf (.seq (.seq .leaf (.cond (.seq .leaf .leaf) .leaf)) (.seq .leaf (.join [] (.seq .leaf (.cond (.seq .leaf .leaf) .leaf)) (.seq .leaf .leaf)))))) Tryz.func103 hT
def zco (s:Option Addr) (s_l s_c:Nat) (f:Value) (R:Ending->World->Prop) (w:World):Prop:=
  qw P zbu #[(Value.slice s s_l s_c),f] [.int .i64] false w fun (t7:Int) w_1=>
  R (.returned (Value.bool (decide (t7>=0)))) w_1
theorem zez {s:Option Addr}{s_l s_c:Nat}{f:Value}{R:Ending->World->Prop}{w:World}(hT:zco s s_l s_c f R w):qc P zav #[(Value.slice s s_l s_c),f] w R:=
 fnT (.seq .leaf (.seq .leaf .leaf)) Tryz.func106 hT
def zoi (f:Value) (R:Ending->World->Prop) (w:World):Prop:=
  zbk (Value.cells f) zbd w fun b1 w_1=>
  ld .bool (⟨b1,1,none⟩:Addr) w_1 fun (t4:Bool)=>
  xq t4 (
  ld .str (⟨b1,2,none⟩:Addr) w_1 fun (t7:ByteArray)=>
  R (.returned (Value.bool (!(t7.toList==(ByteArray.mk #[]).toList)))) w_1) (
  R (.returned (Value.bool false)) w_1)
theorem zv2 {f:Value}{R:Ending->World->Prop}{w:World}(hT:zoi f R w):qc P zjv #[f] w R:=
 fnT (.seq .leaf (.seq .leaf .leaf)) Tryz.func107 hT
def zn5 (f:Value) (R:Ending->World->Prop) (w:World):Prop:=
  zbk (Value.cells f) zbd w fun b1 w_1=>
  ld .str (⟨b1,2,none⟩:Addr) w_1 fun (t4:ByteArray)=>
  R (.returned (Value.bool (decide ((t4.size:Int) > 1024)))) w_1
theorem zv1 {f:Value}{R:Ending->World->Prop}{w:World}(hT:zn5 f R w):qc P zjw #[f] w R:=
 fnT (.seq .leaf (.seq .leaf .leaf)) Tryz.func108 hT
def zod (a:Value) (b:Value) (R:Ending->World->Prop) (w:World):Prop:=
  zbk (Value.cells a) ql w fun b2 w_1=>
  zbk (Value.cells b) ql w_1 fun b3 w_2=>
  ld .slc (⟨b2,0,none⟩:Addr) w_2 fun (t6:(Option Addr×Nat×Nat))=>
  ld .slc (⟨b3,0,none⟩:Addr) w_2 fun (t8:(Option Addr×Nat×Nat))=>
  qw P zis #[(Value.slice t6.1 t6.2.1 t6.2.2),(Value.slice t8.1 t8.2.1 t8.2.2)] [.int .i64] false w_2 fun (t9:Int) w_3=>
  R (.returned (Value.int .i64 t9)) w_3
theorem zu6 {a:Value}{b:Value}{R:Ending->World->Prop}{w:World}(hT:zod a b R w):qc P zf0 #[a,b] w R:=
 fnT (.seq .leaf (.seq .leaf .leaf)) Tryz.func110 hT
def zft (s:Option Addr) (s_l s_c:Nat) (n:Int) (R:Ending->World->Prop) (w:World):Prop:=
  zbk #[(Value.slice s s_l s_c)] zi w fun b2 w_1=>
  zbk #[(Value.int .i64 n)] zbw w_1 fun b3 w_2=>
  jw Unit (fun k=>
  ld (.int .i64) (⟨b3,0,none⟩:Addr) w_2 fun (t5:Int)=>
  xq (decide (t5 < 1)) (
  za7 P (Instr.makeInterface vg (Value.string (ByteArray.mk #[99,97,110,110,111,116,32,98,101,32,108,101,115,115,32,116,104,97,110,32,49]))) .any w_2 fun (_:Value)=>
  False) (
  k () w_2)) (fun _ w_3=>
  za7 P (Instr.makeFunc (Go.Fn.func zb6) #[] #[(Value.pointer (some (⟨b2,0,none⟩:Addr))),(Value.pointer (some (⟨b3,0,none⟩:Addr)))]) .any w_3 fun (t8:Value)=>
  R (.returned t8) w_3)
theorem zi4 {s:Option Addr}{s_l s_c:Nat}{n:Int}{R:Ending->World->Prop}{w:World}(hT:zft s s_l s_c n R w):qc P zdp #[(Value.slice s s_l s_c),(Value.int .i64 n)] w R:=
 fnT (.seq .leaf (.join [] (.seq .leaf (.cond .leaf .leaf)) (.seq .leaf .leaf))) Tryz.func113 hT
def zc1 (s:Option Addr) (s_l s_c:Nat) (f:Value) (R:Ending->World->Prop) (w:World):Prop:=
  za0 Int (fun s_1 w_1 k=>
  xq (decide (s_1 < (s_l:Int))) (
  ixS s s_l 3 s_1 fun t14=>
  ldA P 3 t14 w_1 fun t15=>
  zrh P f #[(Value.agg t15)] [.bool] false w_1 fun (t16:Bool) w_2=>
  xq t16 (
  R (.returned (Value.int .i64 s_1)) w_2) (
  zbl .i64 s_1 1 fun t18=>
  k t18 w_2)) (
  R (.returned (Value.int .i64 (-1))) w_1)) 0 w
theorem zfi {s:Option Addr}{s_l s_c:Nat}{f:Value}{R:Ending->World->Prop}{w:World}(hT:zc1 s s_l s_c f R w):qc P zbu #[(Value.slice s s_l s_c),f] w R:=
 fnT (.seq .leaf (.seq (.seq .leaf (.blk (.loop [(8,.int .i64)] (.seq .leaf (.seq (.cond .leaf .leaf) (.seq (.blk (.seq .leaf (.seq .leaf (.cond (.seq .leaf .leaf) .leaf)))) .leaf)))))) (.seq .leaf .leaf))) Tryz.func159 hT
def zfa (yield:Value) (c0:Option Addr) (c1:Option Addr) (R:Ending->World->Prop) (w:World):Prop:=
  za0 Int (fun s w_1 k=>
  zl c0 fun p=>
  ld .slc p w_1 fun (t7:(Option Addr×Nat×Nat))=>
  xq (decide (s < (t7.2.1:Int))) (
  za6 w_1 fun w_2=>
  zl c1 fun p_1=>
  ld (.int .i64) p_1 w_2 fun (t13:Int)=>
  zl c0 fun p_2=>
  ld .slc p_2 w_2 fun (t14:(Option Addr×Nat×Nat))=>
  za7 P (Instr.sliceAt zi (Value.slice t14.1 t14.2.1 t14.2.2) (some (Value.int .i64 s)) none none) .slc w_2 fun (t16:(Option Addr×Nat×Nat))=>
  za7 P (Builtin.min_ #[zbw,zbw] zbw #[(Value.int .i64 t13),(Value.int .i64 (t16.2.1:Int))]) (.int .i64) w_2 fun (t18:Int)=>
  zl c0 fun p_3=>
  ld .slc p_3 w_2 fun (t20:(Option Addr×Nat×Nat))=>
  zbl .i64 s t18 fun t24=>
  zbl .i64 s t18 fun t27=>
  za7 P (Instr.sliceAt zi (Value.slice t20.1 t20.2.1 t20.2.2) (some (Value.int .i64 s)) (some (Value.int .i64 t24)) (some (Value.int .i64 t27))) .slc w_2 fun (t28:(Option Addr×Nat×Nat))=>
  zrh P yield #[(Value.slice t28.1 t28.2.1 t28.2.2)] [.bool] false w_2 fun (t29:Bool) w_3=>
  xq (!t29) (
  R (.returned (Value.tuple #[])) w_3) (
  zl c1 fun p_4=>
  ld (.int .i64) p_4 w_3 fun (t11:Int)=>
  zbl .i64 s t11 fun t12=>
  k t12 w_3)) (
  R (.returned (Value.tuple #[])) w_1)) 0 w
theorem zh5 {yield:Value}{c0:Option Addr}{c1:Option Addr}{R:Ending->World->Prop}{w:World}(hT:zfa yield c0 c1 R w):qc P zb6 #[yield,(Value.pointer c0),(Value.pointer c1)] w R:=
 fnT (.seq .leaf (.blk (.loop [(4,.int .i64)] (.seq (.seq .leaf (.cond .leaf .leaf)) (.seq (.blk (.seq (.tree (.op 2 [] (.op 0 [] (.op 1 [] (.op 3 [] (.op 4 [] (.op 5 [] (.op 6 [] .done)))))))) (.seq .leaf (.cond .leaf .leaf)))) .leaf))))) Tryz.func167 hT
set_option maxRecDepth 100000
set_option maxRecDepth 100000
def zl0 (x:Value) (havev:Option Addr) (havev_l havev_c:Nat) (kind:Int) (quota:Int) (moves:Option Addr) (moves_l moves_c:Nat) (R:Ending->World->Prop) (w:World):Prop:=
  zbk (Value.cells x) ze4 w fun b5 w_1=>
  qw P zop #[] [.bool] false w_1 fun (t30:Bool) w_2=>
  xq (!t30) (
  R (.returned (Value.bool false)) w_2) (
  ldA P 3 (⟨b5,0,none⟩:Addr) w_2 fun t33=>
  qw P zt0 #[(Value.agg t33)] [.ptr,.ptr,.slc] true w_2 fun (t34:((Option Addr)×(Option Addr)×(Option Addr×Nat×Nat))) w_3=>
  za7 P (Instr.build zf #[]) .any w_3 fun (t38:Value)=>
  zbk (zc P zf) zf w_3 fun b14 w_4=>
  zbz P (storeVar zf (⟨b14,0,none⟩:Addr) t38) w_4 fun w_5=>
  jw Unit (fun k=>
  xq (decide ((t34.2.2.2.1:Int) > 0)) (
  zln .i64 (t34.2.2.2.1:Int) 1 fun t45=>
  ixS t34.2.2.1 t34.2.2.2.1 32 t45 fun t46=>
  ldA P 32 t46 w_5 fun t47=>
  zbz P (storeVar zf (⟨b14,0,none⟩:Addr) (Value.agg t47)) w_5 fun w_6=>
  k () w_6) (
  k () w_5)) (fun _ w_7=>
  qw P ziq #[(Value.int .i64 quota)] [.ptr] false w_7 fun (t49:(Option Addr)) w_8=>
  qw P zp1 #[(Value.int .i64 quota)] [.ptr] false w_8 fun (t51:(Option Addr)) w_9=>
  jw Unit (fun k_1=>
  jw Unit (fun k_2=>
  za0 Int (fun s_1 w_10 k_3=>
  jw Unit (fun k_4=>
  xq (decide (s_1 < (havev_l:Int))) (
  xq (decide (s_1 < 20)) (
  zl t34.2.1 fun p=>
  ld .slc (Addr.add p 1) w_10 fun (t64:(Option Addr×Nat×Nat))=>
  xq (decide ((t64.2.1:Int) > 0)) (
  k_4 () w_10) (
  k_2 () w_10)) (
  k_2 () w_10)) (
  k_2 () w_10)) (fun _ w_11=>
  za6 w_11 fun w_12=>
  zl t34.2.1 fun p_1=>
  ixS havev havev_l 1 s_1 fun t76=>
  zl t34.2.1 fun p_2=>
  ld .slc (Addr.add p_1 1) w_12 fun (t73:(Option Addr×Nat×Nat))=>
  ld (.int .i64) t76 w_12 fun (t77:Int)=>
  cvI .u64 t77 fun t78=>
  ld .slc (Addr.add p_2 1) w_12 fun (t82:(Option Addr×Nat×Nat))=>
  cvI .u64 (t82.2.1:Int) fun t84=>
  z6d t78 t84 fun t85=>
  cvI .i64 t85 fun t86=>
  ixS t73.1 t73.2.1 33 t86 fun t87=>
  ld .slc (Addr.add t87 32) w_12 fun (t89:(Option Addr×Nat×Nat))=>
  qw P zdr #[(Value.pointer t49),(Value.slice t89.1 t89.2.1 t89.2.2)] [.any,.int .i64] true w_12 fun (_:(Value×Int)) w_13=>
  qw P zd8 #[(Value.pointer t51),(Value.slice t89.1 t89.2.1 t89.2.2)] [.any,.int .i64] true w_13 fun (_:(Value×Int)) w_14=>
  zbl .i64 s_1 1 fun t69=>
  k_3 t69 w_14)) 0 w_9) (fun _ w_15=>
  k_1 () w_15)) (fun _ w_16=>
  ldA P 32 (⟨b14,0,none⟩:Addr) w_16 fun t98=>
  qw P zix #[(Value.pointer t49),(Value.agg t98),(Value.int .i64 kind)] [.ptr,.int .i64] true w_16 fun (t100:((Option Addr)×Int)) w_17=>
  ldA P 32 (⟨b14,0,none⟩:Addr) w_17 fun t105=>
  qw P zp4 #[(Value.pointer t51),(Value.agg t105),(Value.int .i64 kind)] [.ptr,.int .i64] true w_17 fun (t107:((Option Addr)×Int)) w_18=>
  jw Unit (fun k_5=>
  xq (t100.2 != t107.2) (
  R (.returned (Value.bool false)) w_18) (
  za7 P (eqM .neq zlu (.tmp 115) (.tmp 117) (Value.bool (Option.isNone t100.1)) (Value.bool (t107.2 != 0))) .bool w_18 fun (t118:Bool)=>
  xq t118 (
  R (.returned (Value.bool false)) w_18) (
  k_5 () w_18))) (fun _ w_19=>
  xq (t107.2 != 0) (
  R (.returned (Value.bool true)) w_19) (
  jw Unit (fun k_6=>
  jw Unit (fun k_7=>
  za0 Int (fun s_6 w_20 k_8=>
  jw Unit (fun k_9=>
  xq (decide (s_6 < (moves_l:Int))) (
  xq (decide (s_6 < 60)) (
  k_9 () w_20) (
  k_7 () w_20)) (
  k_7 () w_20)) (fun _ w_21=>
  jw Unit (fun k_10=>
  jw Unit (fun k_11=>
  ixS moves moves_l 3 s_6 fun t134=>
  ldA P 3 t134 w_21 fun t135=>
  zbk (zc P zc5) zc5 w_21 fun b24 w_22=>
  zbz P (storeVar zc5 (⟨b24,0,none⟩:Addr) (Value.agg t135)) w_22 fun w_23=>
  ld .slc (⟨b24,2,none⟩:Addr) w_23 fun (t137:(Option Addr×Nat×Nat))=>
  jw (Option Addr×Nat×Nat) (fun k_12=>
  ld (.int .i64) (⟨b24,0,none⟩:Addr) w_23 fun (t139:Int)=>
  cvI .u64 t139 fun t140=>
  z6d t140 3 fun t141=>
  xq (t141==0) (
  zl t34.2.1 fun p_3=>
  ld .slc (Addr.add p_3 1) w_23 fun (t147:(Option Addr×Nat×Nat))=>
  xq (decide ((t147.2.1:Int) > 0)) (
  za6 w_23 fun w_24=>
  zl t34.2.1 fun p_4=>
  zl t34.2.1 fun p_5=>
  ld .slc (Addr.add p_4 1) w_24 fun (t154:(Option Addr×Nat×Nat))=>
  ld (.int .i64) (⟨b24,1,none⟩:Addr) w_24 fun (t156:Int)=>
  cvI .u64 t156 fun t157=>
  ld .slc (Addr.add p_5 1) w_24 fun (t161:(Option Addr×Nat×Nat))=>
  cvI .u64 (t161.2.1:Int) fun t163=>
  z6d t157 t163 fun t164=>
  cvI .i64 t164 fun t165=>
  ixS t154.1 t154.2.1 33 t165 fun t166=>
  ld .slc (Addr.add t166 32) w_24 fun (t168:(Option Addr×Nat×Nat))=>
  k_12 (t168.1,t168.2.1,t168.2.2) w_24) (
  k_12 (t137.1,t137.2.1,t137.2.2) w_23)) (
  k_12 (t137.1,t137.2.1,t137.2.2) w_23)) (fun s_8 w_25=>
  qw P zdv #[(Value.pointer t107.1),(Value.int .i64 1)] [.slc] false w_25 fun (t170:(Option Addr×Nat×Nat)) w_26=>
  jw (Option Addr×Nat×Nat) (fun k_13=>
  ld (.int .i64) (⟨b24,0,none⟩:Addr) w_26 fun (t172:Int)=>
  cvI .u64 t172 fun t173=>
  z6d t173 3 fun t174=>
  xq (t174==1) (
  xq (decide ((t170.2.1:Int) > 0)) (
  ixS t170.1 t170.2.1 32 0 fun t184=>
  ldA P 32 t184 w_26 fun t185=>
  qw P zg8 #[(Value.pointer t34.2.1),(Value.agg t185)] [.slc,.int .i64] true w_26 fun (t186:((Option Addr×Nat×Nat)×Int)) w_27=>
  xq (t186.2==0) (
  k_13 (t186.1.1,t186.1.2.1,t186.1.2.2) w_27) (
  k_13 (s_8.1,s_8.2.1,s_8.2.2) w_27)) (
  k_13 (s_8.1,s_8.2.1,s_8.2.2) w_26)) (
  k_13 (s_8.1,s_8.2.1,s_8.2.2) w_26)) (fun s_9 w_28=>
  xq (decide ((s_9.2.1:Int) > 4096)) (
  k_11 () w_28) (
  zas P (Instr.buildSlice zi 0 #[]) .slc w_28 fun (t195:(Option Addr×Nat×Nat)) w_29=>
  zas P (Builtin.append_ #[zi,zi] zi #[(Value.slice t195.1 t195.2.1 t195.2.2),(Value.slice s_9.1 s_9.2.1 s_9.2.2)]) .slc w_29 fun (t197:(Option Addr×Nat×Nat)) w_30=>
  qw P zb5 #[(Value.pointer t100.1),(Value.slice t197.1 t197.2.1 t197.2.2)] [.int .i64] false w_30 fun (t200:Int) w_31=>
  qw P zel #[(Value.pointer t107.1),(Value.slice s_9.1 s_9.2.1 s_9.2.2)] [.int .i64] false w_31 fun (t203:Int) w_32=>
  xq (t200 != t203) (
  R (.returned (Value.bool false)) w_32) (
  za7 P (convert zi vg (Value.slice t197.1 t197.2.1 t197.2.2)) .str w_32 fun (t207:ByteArray)=>
  za7 P (convert zi vg (Value.slice s_9.1 s_9.2.1 s_9.2.2)) .str w_32 fun (t209:ByteArray)=>
  xq (!(t207.toList==t209.toList)) (
  R (.returned (Value.bool false)) w_32) (
  ld (.int .i64) (⟨b24,1,none⟩:Addr) w_32 fun (t216:Int)=>
  qw P zk6 #[(Value.pointer t100.1),(Value.pointer t107.1),(Value.int .i64 t216)] [.bool] false w_32 fun (t217:Bool) w_33=>
  xq (!t217) (
  R (.returned (Value.bool false)) w_33) (
  k_11 () w_33))))))) (fun _ w_34=>
  k_10 () w_34)) (fun _ w_35=>
  zbl .i64 s_6 1 fun t131=>
  k_8 t131 w_35))) 0 w_19) (fun _ w_36=>
  k_6 () w_36)) (fun _ w_37=>
  za6 w_37 fun w_38=>
  qw P zk6 #[(Value.pointer t100.1),(Value.pointer t107.1),(Value.int .i64 3)] [.bool] false w_38 fun (t222:Bool) w_39=>
  xq t222 (
  zl t51 fun p_6=>
  ld .slc (Addr.add p_6 1) w_39 fun (t229:(Option Addr×Nat×Nat))=>
  qw P zg3 #[(Value.pointer t49)] [.int .i64] false w_39 fun (t225:Int) w_40=>
  ((ld .slc (Addr.add p_6 1) w_40 fun (t229_1:(Option Addr×Nat×Nat))=>
  (Value.slice t229_1.1 t229_1.2.1 t229_1.2.2)=(Value.slice t229.1 t229.2.1 t229.2.2)) /\
  xq (t225==(t229.2.1:Int)) (
  qw P zg0 #[(Value.pointer t49)] [.int .i64] false w_40 fun (t235:Int) w_41=>
  qw P zfn #[(Value.pointer t51)] [.int .i64] false w_41 fun (t237:Int) w_42=>
  R (.returned (Value.bool (t235==t237))) w_42) (
  R (.returned (Value.bool false)) w_40))) (
  ((undef=undef) /\
  R (.returned (Value.bool false)) w_39))))))))
theorem zq8 {x:Value}{havev:Option Addr}{havev_l havev_c:Nat}{kind:Int}{quota:Int}{moves:Option Addr}{moves_l moves_c:Nat}{R:Ending->World->Prop}{w:World}(hT:zl0 x havev havev_l havev_c kind quota moves moves_l moves_c R w):qc P zlx #[x,(Value.slice havev havev_l havev_c),(Value.int .i64 kind),(Value.int .i64 quota),(Value.slice moves moves_l moves_c)] w R:=
 fnT (.seq .leaf (.seq (.seq .leaf (.cond (.seq .leaf .leaf) .leaf)) (.seq .leaf (.seq .leaf (.join [] (.seq .leaf (.cond .leaf .leaf)) (.seq .leaf (.seq .leaf (.join [] (.seq .leaf (.jblk [] (.loop [(17,.int .i64)] (.join [] (.seq .leaf (.cond .leaf .leaf)) (.seq (.blk (.seq (.tree (.op 0 [] (.op 1 [] (.op 2 [] (.op 4 [] (.op 5 [] (.op 6 [] (.op 9 [] (.op 10 [] (.op 11 [] (.op 3 [] (.op 7 [] (.op 8 [] (.op 12 [] (.op 13 [] (.op 14 [] (.op 15 [] (.op 16 [] (.op 17 [] (.op 18 [] (.op 19 [] (.op 20 [] .done)))))))))))))))))))))) (.seq .leaf .leaf))) .leaf))))) (.seq .leaf (.seq .leaf (.join [] (.seq .leaf (.cond (.seq .leaf .leaf) .leaf)) (.seq (.seq .leaf (.cond (.seq .leaf .leaf) .leaf)) (.join [] (.seq .leaf (.jblk [] (.loop [(23,.int .i64)] (.join [] (.seq .leaf (.cond .leaf .leaf)) (.join [] (.jblk [] (.seq .leaf (.seq .leaf (.join [(25,.slc)] (.seq .leaf (.cond (.tree (.op 0 [] (.op 1 [] (.op 2 [] (.op 4 [] (.op 7 [] (.op 8 [] (.op 9 [] (.op 3 [] (.op 5 [] (.op 6 [] (.op 10 [] (.op 11 [] (.op 12 [] (.op 13 [] (.op 14 [] (.op 15 [] (.op 16 [] (.op 17 [] (.op 18 [] .done)))))))))))))))))))) .leaf)) (.seq .leaf (.join [(25,.slc)] (.seq .leaf (.cond (.seq .leaf (.seq .leaf (.cond .leaf .leaf))) .leaf)) (.seq (.seq .leaf (.cond .leaf .leaf)) (.seq .leaf (.seq .leaf (.cond (.seq .leaf .leaf) .leaf)))))))))) .leaf))))) (.seq (.tree (.op 0 [] (.op 1 [] (.op 2 [] (.op 3 [] (.op 4 [] (.op 6 [] (.op 7 [] (.op 8 [] (.op 9 [] (.op 10 [] (.op 5 [9] (.op 11 [] (.op 12 [] (.op 13 [] (.op 14 [] (.op 16 [] (.op 15 [] (.op 17 [] (.op 18 [] (.op 19 [] (.op 20 [] .done)))))))))))))))))))))) .leaf)))))))))))))) Tryz.func6 hT
def zvt  (R:Ending->World->Prop) (w:World):Prop:=
  qw P ziq #[(Value.int .i64 65536)] [.ptr] false w fun (t10:(Option Addr)) w_1=>
  za7 P (Instr.build zbd #[(0,(Value.string (ByteArray.mk #[47,102]))),(2,(Value.string (ByteArray.mk #[104,105])))]) .any w_1 fun (t13:Value)=>
  zas P (Instr.buildSlice zss 1 #[(0,t13)]) .slc w_1 fun (t14:(Option Addr×Nat×Nat)) w_2=>
  qw P zl9 #[(Value.pointer t10),(Value.slice t14.1 t14.2.1 t14.2.2)] [.any,.int .i64] true w_2 fun (t15:(Value×Int)) w_3=>
  zbk (zc P zf) zf w_3 fun b2 w_4=>
  zbz P (storeVar zf (⟨b2,0,none⟩:Addr) t15.1) w_4 fun w_5=>
  za6 w_5 fun w_6=>
  ldA P 32 (⟨b2,0,none⟩:Addr) w_6 fun t20=>
  qw P ziq #[(Value.int .i64 65536)] [.ptr] false w_6 fun (t19:(Option Addr)) w_7=>
  ((ldA P 32 (⟨b2,0,none⟩:Addr) w_7 fun t20_1=>
  (Value.agg t20_1)=(Value.agg t20)) /\
  qw P zix #[(Value.pointer t19),(Value.agg t20),(Value.int .i64 3)] [.ptr,.int .i64] true w_7 fun (t21:((Option Addr)×Int)) w_8=>
  jw Unit (fun k=>
  xq (t15.2 != 0) (
  R (.returned (Value.bool false)) w_8) (
  xq (t21.2 != 0) (
  R (.returned (Value.bool false)) w_8) (
  xq (Option.isNone t21.1) (
  R (.returned (Value.bool false)) w_8) (
  qw P zdb #[(Value.pointer t21.1)] [.bool] false w_8 fun (t36:Bool) w_9=>
  xq t36 (
  R (.returned (Value.bool false)) w_9) (
  zas P (Instr.buildSlice zi 1 #[(0,(Value.int .u8 120))]) .slc w_9 fun (t40:(Option Addr×Nat×Nat)) w_10=>
  zas P (convert zi zi (Value.slice t40.1 t40.2.1 t40.2.2)) .slc w_10 fun (t41:(Option Addr×Nat×Nat)) w_11=>
  qw P zb5 #[(Value.pointer t21.1),(Value.slice t41.1 t41.2.1 t41.2.2)] [.int .i64] false w_11 fun (t42:Int) w_12=>
  xq (t42 != 80) (
  R (.returned (Value.bool false)) w_12) (
  k () w_12)))))) (fun _ w_13=>
  jw Int (fun k_1=>
  za0 Int (fun s_1 w_14 k_2=>
  jw Unit (fun k_3=>
  xq (decide (s_1 < 9)) (
  qw P zdb #[(Value.pointer t21.1)] [.bool] false w_14 fun (t49:Bool) w_15=>
  xq (!t49) (
  k_3 () w_15) (
  k_1 s_1 w_15)) (
  k_1 s_1 w_14)) (fun _ w_16=>
  qw P zc9 #[(Value.pointer t21.1),(Value.int .i64 9)] [.slc] false w_16 fun (t55:(Option Addr×Nat×Nat)) w_17=>
  xq ((t55.2.1:Int) != 1) (
  R (.returned (Value.bool false)) w_17) (
  ixS t55.1 t55.2.1 32 0 fun t62=>
  ldA P 32 t62 w_17 fun t63=>
  qw P zex #[(Value.pointer t10),(Value.agg t63)] [.slc,.int .i64] true w_17 fun (t64:((Option Addr×Nat×Nat)×Int)) w_18=>
  qw P zb5 #[(Value.pointer t21.1),(Value.slice t64.1.1 t64.1.2.1 t64.1.2.2)] [.int .i64] false w_18 fun (t69:Int) w_19=>
  xq (t69 != 0) (
  R (.returned (Value.bool false)) w_19) (
  zbl .i64 s_1 1 fun t53=>
  k_2 t53 w_19)))) 0 w_13) (fun s_3 w_20=>
  R (.returned (Value.bool (s_3==3))) w_20)))
theorem z1x  {R:Ending->World->Prop}{w:World}(hT:zvt  R w):qc P zop #[] w R:=
 fnT (.seq .leaf (.seq .leaf (.seq .leaf (.seq (.tree (.op 1 [] (.op 0 [1] (.op 2 [] (.op 3 [] (.op 4 [] (.op 5 [] (.op 6 [] (.op 7 [] .done))))))))) (.join [] (.seq .leaf (.cond (.seq .leaf .leaf) .leaf)) (.seq .leaf (.seq (.jblk [(6,.int .i64)] (.loop [(6,.int .i64)] (.join [] (.seq .leaf (.cond .leaf .leaf)) (.seq (.blk (.seq .leaf (.seq (.seq .leaf (.cond (.seq .leaf .leaf) .leaf)) (.seq .leaf (.seq .leaf (.cond (.seq .leaf .leaf) .leaf)))))) .leaf)))) (.seq .leaf .leaf)))))))) Tryz.func28 hT
def zzk (x:Value) (R:Ending->World->Prop) (w:World):Prop:=
  zbk (Value.cells x) ze4 w fun b1 w_1=>
  qw P ziq #[(Value.int .i64 1048576)] [.ptr] false w_1 fun (t14:(Option Addr)) w_2=>
  qw P zp1 #[(Value.int .i64 1048576)] [.ptr] false w_2 fun (t15:(Option Addr)) w_3=>
  jw (Option Addr×Nat×Nat) (fun k=>
  za0 ((Option Addr×Nat×Nat)×Int) (fun s w_4 k_1=>
  jw Unit (fun k_2=>
  ld .slc (⟨b1,0,none⟩:Addr) w_4 fun (t18:(Option Addr×Nat×Nat))=>
  xq (decide (s.2 < (t18.2.1:Int))) (
  xq (decide (s.2 < 20)) (
  k_2 () w_4) (
  k (s.1.1,s.1.2.1,s.1.2.2) w_4)) (
  k (s.1.1,s.1.2.1,s.1.2.2) w_4)) (fun _ w_5=>
  ld .slc (⟨b1,0,none⟩:Addr) w_5 fun (t28:(Option Addr×Nat×Nat))=>
  ixS t28.1 t28.2.1 7 s.2 fun t30=>
  ldA P 7 t30 w_5 fun t31=>
  qw P zr2 #[(Value.agg t31)] [.any] false w_5 fun (t32:Value) w_6=>
  zbk (zc P zh) zh w_6 fun b9 w_7=>
  zbz P (storeVar zh (⟨b9,0,none⟩:Addr) t32) w_7 fun w_8=>
  za0 Int (fun s_2 w_9 k_3=>
  ld .slc (⟨b9,3,none⟩:Addr) w_9 fun (t35:(Option Addr×Nat×Nat))=>
  xq (decide (s_2 < (t35.2.1:Int))) (
  za6 w_9 fun w_10=>
  ld .slc (⟨b9,3,none⟩:Addr) w_10 fun (t41:(Option Addr×Nat×Nat))=>
  ld .slc (⟨b9,3,none⟩:Addr) w_10 fun (t44:(Option Addr×Nat×Nat))=>
  ixS t44.1 t44.2.1 32 s_2 fun t46=>
  ldA P 32 t46 w_10 fun t47=>
  qw P zlq #[(Value.agg t47),(Value.slice s.1.1 s.1.2.1 s.1.2.2)] [.any] false w_10 fun (t49:Value) w_11=>
  ((ld .slc (⟨b9,3,none⟩:Addr) w_11 fun (t41_1:(Option Addr×Nat×Nat))=>
  (Value.slice t41_1.1 t41_1.2.1 t41_1.2.2)=(Value.slice t41.1 t41.2.1 t41.2.2)) /\
  ixS t41.1 t41.2.1 32 s_2 fun t50=>
  zbz P (storeVar zf t50 t49) w_11 fun w_12=>
  zbl .i64 s_2 1 fun t39=>
  k_3 t39 w_12)) (
  za0 Int (fun s_3 w_13 k_4=>
  ld .slc (⟨b9,4,none⟩:Addr) w_13 fun (t53:(Option Addr×Nat×Nat))=>
  xq (decide (s_3 < (t53.2.1:Int))) (
  za6 w_13 fun w_14=>
  ld .slc (⟨b9,4,none⟩:Addr) w_14 fun (t59:(Option Addr×Nat×Nat))=>
  ld .slc (⟨b9,4,none⟩:Addr) w_14 fun (t62:(Option Addr×Nat×Nat))=>
  ixS t62.1 t62.2.1 34 s_3 fun t64=>
  ldA P 32 (Addr.add t64 2) w_14 fun t66=>
  qw P zlq #[(Value.agg t66),(Value.slice s.1.1 s.1.2.1 s.1.2.2)] [.any] false w_14 fun (t68:Value) w_15=>
  ((ld .slc (⟨b9,4,none⟩:Addr) w_15 fun (t59_1:(Option Addr×Nat×Nat))=>
  (Value.slice t59_1.1 t59_1.2.1 t59_1.2.2)=(Value.slice t59.1 t59.2.1 t59.2.2)) /\
  ixS t59.1 t59.2.1 34 s_3 fun t69=>
  zbz P (storeVar zf (Addr.add t69 2) t68) w_15 fun w_16=>
  zbl .i64 s_3 1 fun t57=>
  k_4 t57 w_16)) (
  ld .str (⟨b9,1,none⟩:Addr) w_13 fun (t72:ByteArray)=>
  zas P (convert vg zi (Value.string t72)) .slc w_13 fun (t73:(Option Addr×Nat×Nat)) w_17=>
  jw (Option Addr×Nat×Nat) (fun k_5=>
  ldA P 5 (⟨b9,0,none⟩:Addr) w_17 fun t74=>
  qw P zlg #[(Value.agg t74)] [.bool] false w_17 fun (t75:Bool) w_18=>
  xq t75 (
  ldA P 5 (⟨b9,0,none⟩:Addr) w_18 fun t76=>
  qw P zmk #[(Value.agg t76)] [.slc] false w_18 fun (t77:(Option Addr×Nat×Nat)) w_19=>
  k_5 (t77.1,t77.2.1,t77.2.2) w_19) (
  k_5 (t73.1,t73.2.1,t73.2.2) w_18)) (fun s_4 w_20=>
  jw (Option Addr×Nat×Nat) (fun k_6=>
  xq (decide ((s_4.2.1:Int) > 4096)) (
  za7 P (Instr.sliceAt zi (Value.slice s_4.1 s_4.2.1 s_4.2.2) none (some (Value.int .i64 4096)) none) .slc w_20 fun (t82:(Option Addr×Nat×Nat))=>
  k_6 (t82.1,t82.2.1,t82.2.2) w_20) (
  k_6 (s_4.1,s_4.2.1,s_4.2.2) w_20)) (fun s_5 w_21=>
  qw P zdr #[(Value.pointer t14),(Value.slice s_5.1 s_5.2.1 s_5.2.2)] [.any,.int .i64] true w_21 fun (_:(Value×Int)) w_22=>
  qw P zd8 #[(Value.pointer t15),(Value.slice s_5.1 s_5.2.1 s_5.2.2)] [.any,.int .i64] true w_22 fun (_:(Value×Int)) w_23=>
  qw P zhz #[(Value.slice s_5.1 s_5.2.1 s_5.2.2)] [.any] false w_23 fun (t91:Value) w_24=>
  zas P (Instr.buildSlice jc 1 #[(0,t91)]) .slc w_24 fun (t92:(Option Addr×Nat×Nat)) w_25=>
  zas P (Builtin.append_ #[jc,jc] jc #[(Value.slice s.1.1 s.1.2.1 s.1.2.2),(Value.slice t92.1 t92.2.1 t92.2.2)]) .slc w_25 fun (t93:(Option Addr×Nat×Nat)) w_26=>
  zbl .i64 s.2 1 fun t26=>
  k_1 ((t93.1,t93.2.1,t93.2.2),t26) w_26)))) 0 w_9)) 0 w_8)) ((none,0,0),0) w_3) (fun s_6 w_27=>
  ld (.int .i64) (⟨b1,1,none⟩:Addr) w_27 fun (t95:Int)=>
  cvI .u64 t95 fun t96=>
  zbl .i64 (s_6.2.1:Int) 1 fun t99=>
  cvI .u64 t99 fun t100=>
  z6d t96 t100 fun t101=>
  cvI .i64 t101 fun t102=>
  jw Unit (fun k_7=>
  xq (decide (t102 < (s_6.2.1:Int))) (
  ixS s_6.1 s_6.2.1 32 t102 fun t110=>
  ldA P 32 t110 w_27 fun t111=>
  qw P zhg #[(Value.pointer t14),(Value.agg t111)] [.int .i64] false w_27 fun (_:Int) w_28=>
  ixS s_6.1 s_6.2.1 32 t102 fun t116=>
  ldA P 32 t116 w_28 fun t117=>
  qw P zh1 #[(Value.pointer t15),(Value.agg t117)] [.int .i64] false w_28 fun (_:Int) w_29=>
  k_7 () w_29) (
  k_7 () w_27)) (fun _ w_30=>
  ld (.int .i64) (⟨b1,2,none⟩:Addr) w_30 fun (t120:Int)=>
  cvI .u64 t120 fun t121=>
  zbl .i64 (s_6.2.1:Int) 1 fun t124=>
  cvI .u64 t124 fun t125=>
  z6d t121 t125 fun t126=>
  cvI .i64 t126 fun t127=>
  jw Unit (fun k_8=>
  xq (decide (t127 < (s_6.2.1:Int))) (
  ixS s_6.1 s_6.2.1 32 t127 fun t135=>
  ldA P 32 t135 w_30 fun t136=>
  qw P zg4 #[(Value.pointer t14),(Value.agg t136),(Value.int .i64 0),(Value.int .u8 1)] [.int .i64] false w_30 fun (_:Int) w_31=>
  ixS s_6.1 s_6.2.1 32 t127 fun t141=>
  ldA P 32 t141 w_31 fun t142=>
  qw P zhm #[(Value.pointer t15),(Value.agg t142),(Value.int .i64 0),(Value.int .u8 1)] [.int .i64] false w_31 fun (_:Int) w_32=>
  k_8 () w_32) (
  k_8 () w_30)) (fun _ w_33=>
  R (.returned (Value.tuple #[(Value.pointer t14),(Value.pointer t15),(Value.slice s_6.1 s_6.2.1 s_6.2.2)])) w_33)))
theorem z6m {x:Value}{R:Ending->World->Prop}{w:World}(hT:zzk x R w):qc P zt0 #[x] w R:=
 fnT (.seq .leaf (.seq .leaf (.seq .leaf (.seq .leaf (.seq (.seq .leaf (.jblk [(7,.slc)] (.loop [(7,.slc),(8,.int .i64)] (.join [] (.seq .leaf (.cond .leaf .leaf)) (.seq (.blk (.seq .leaf (.seq (.seq .leaf (.blk (.loop [(10,.int .i64)] (.seq (.seq .leaf (.cond .leaf .leaf)) (.seq (.blk (.tree (.op 0 [] (.op 2 [] (.op 3 [] (.op 5 [] (.op 8 [] (.op 1 [] (.op 4 [] (.op 6 [] (.op 7 [] (.op 9 [1] (.op 10 [] (.op 11 [] .done)))))))))))))) .leaf))))) (.seq (.seq .leaf (.blk (.loop [(11,.int .i64)] (.seq (.seq .leaf (.cond .leaf .leaf)) (.seq (.blk (.tree (.op 0 [] (.op 2 [] (.op 3 [] (.op 5 [] (.op 9 [] (.op 1 [] (.op 4 [] (.op 6 [] (.op 7 [] (.op 8 [] (.op 10 [1] (.op 11 [] (.op 12 [] (.op 13 [] .done)))))))))))))))) .leaf))))) (.seq .leaf (.join [(12,.slc)] (.seq .leaf (.cond .leaf .leaf)) (.join [(12,.slc)] (.seq .leaf (.cond .leaf .leaf)) (.seq .leaf (.seq .leaf .leaf))))))))) .leaf))))) (.seq .leaf (.join [] (.seq .leaf (.cond (.seq .leaf .leaf) .leaf)) (.seq .leaf (.join [] (.seq .leaf (.cond (.seq .leaf .leaf) .leaf)) (.seq .leaf .leaf)))))))))) Tryz.func29 hT
def zt8 (c:Option Addr) (r:Option Addr) (most:Int) (R:Ending->World->Prop) (w:World):Prop:=
  za6 w fun w_1=>
  qw P zc9 #[(Value.pointer c),(Value.int .i64 most)] [.slc] false w_1 fun (t9:(Option Addr×Nat×Nat)) w_2=>
  qw P zdv #[(Value.pointer r),(Value.int .i64 most)] [.slc] false w_2 fun (t12:(Option Addr×Nat×Nat)) w_3=>
  qw P zio #[(Value.slice t9.1 t9.2.1 t9.2.2),(Value.slice t12.1 t12.2.1 t12.2.2)] [.bool] false w_3 fun (t13:Bool) w_4=>
  xq t13 (
  qw P zc9 #[(Value.pointer c),(Value.int .i64 1000)] [.slc] false w_4 fun (t16:(Option Addr×Nat×Nat)) w_5=>
  qw P zdv #[(Value.pointer r),(Value.int .i64 1000)] [.slc] false w_5 fun (t18:(Option Addr×Nat×Nat)) w_6=>
  qw P zio #[(Value.slice t16.1 t16.2.1 t16.2.2),(Value.slice t18.1 t18.2.1 t18.2.2)] [.bool] false w_6 fun (t19:Bool) w_7=>
  xq t19 (
  zl r fun p=>
  ld .slc (Addr.add p 2) w_7 fun (t27:(Option Addr×Nat×Nat))=>
  qw P zdb #[(Value.pointer c)] [.bool] false w_7 fun (t23:Bool) w_8=>
  ((ld .slc (Addr.add p 2) w_8 fun (t27_1:(Option Addr×Nat×Nat))=>
  (Value.slice t27_1.1 t27_1.2.1 t27_1.2.2)=(Value.slice t27.1 t27.2.1 t27.2.2)) /\
  xq ((t27.2.1:Int)==0) (
  zl r fun p_1=>
  ld .bool (Addr.add p_1 3) w_8 fun (t34:Bool)=>
  za7 P (eqM .eql zlu (.tmp 23) (.tmp 36) (Value.bool t23) (Value.bool (!t34))) .bool w_8 fun (t37:Bool)=>
  xq t37 (
  zl r fun p_2=>
  ld .bool (Addr.add p_2 3) w_8 fun (t45:Bool)=>
  qw P zdc #[(Value.pointer c)] [.bool] false w_8 fun (t41:Bool) w_9=>
  ((ld .bool (Addr.add p_2 3) w_9 fun (t45_1:Bool)=>
  (Value.bool t45_1)=(Value.bool t45)) /\
  za7 P (eqM .eql zlu (.tmp 41) (.tmp 45) (Value.bool t41) (Value.bool t45)) .bool w_9 fun (t46:Bool)=>
  R (.returned (Value.bool t46)) w_9)) (
  ((undef=undef) /\
  R (.returned (Value.bool false)) w_8))) (
  za7 P (eqM .eql zlu (.tmp 23) (.tmp 36) (Value.bool t23) (Value.bool false)) .bool w_8 fun (t37_1:Bool)=>
  xq t37_1 (
  zl r fun p_3=>
  ld .bool (Addr.add p_3 3) w_8 fun (t45_2:Bool)=>
  qw P zdc #[(Value.pointer c)] [.bool] false w_8 fun (t41_1:Bool) w_10=>
  ((ld .bool (Addr.add p_3 3) w_10 fun (t45_3:Bool)=>
  (Value.bool t45_3)=(Value.bool t45_2)) /\
  za7 P (eqM .eql zlu (.tmp 41) (.tmp 45) (Value.bool t41_1) (Value.bool t45_2)) .bool w_10 fun (t46_1:Bool)=>
  R (.returned (Value.bool t46_1)) w_10)) (
  ((undef=undef) /\
  R (.returned (Value.bool false)) w_8))))) (
  ((undef=undef) /\
  ((undef=undef) /\
  R (.returned (Value.bool false)) w_7)))) (
  ((undef=undef) /\
  ((undef=undef) /\
  R (.returned (Value.bool false)) w_4)))
theorem z0z {c:Option Addr}{r:Option Addr}{most:Int}{R:Ending->World->Prop}{w:World}(hT:zt8 c r most R w):qc P zk6 #[(Value.pointer c),(Value.pointer r),(Value.int .i64 most)] w R:=
 fnT (.seq .leaf (.seq (.tree (.op 0 [] (.op 1 [] (.op 3 [] (.op 4 [] (.op 2 [] (.op 5 [] (.op 6 [] (.op 7 [] (.op 8 [] (.op 10 [] (.op 9 [] (.op 11 [] (.op 12 [] (.op 13 [] (.op 14 [] (.op 15 [] (.op 17 [] (.op 18 [] (.op 19 [] (.op 20 [] (.op 21 [] (.op 22 [] (.op 16 [20] (.op 23 [] (.op 24 [] (.op 25 [] (.op 26 [] (.op 27 [] (.op 28 [] (.op 29 [] (.op 30 [] (.op 31 [] (.op 32 [] (.op 33 [] (.op 35 [] (.op 36 [] (.op 37 [] (.op 38 [] (.op 34 [38] (.op 39 [] (.op 40 [] (.op 41 [] .done))))))))))))))))))))))))))))))))))))))))))) .leaf)) Tryz.func38 hT
def zxy (r:Value) (R:Ending->World->Prop) (w:World):Prop:=
  zbk (Value.cells r) zgu w fun b1 w_1=>
  zbk (zc P zh) zh w_1 fun b2 w_2=>
  ld (.int .i64) (⟨b1,0,none⟩:Addr) w_2 fun (t8:Int)=>
  ld .str (⟨b1,1,none⟩:Addr) w_2 fun (t10:ByteArray)=>
  ld (.int .i64) (⟨b1,2,none⟩:Addr) w_2 fun (t12:Int)=>
  za7 P (Instr.build zh #[(0,(Value.int .i64 t8)),(1,(Value.string t10)),(2,(Value.int .i64 t12))]) .any w_2 fun (t13:Value)=>
  zbk (zc P zh) zh w_2 fun b3 w_3=>
  zbz P (storeVar zh (⟨b3,0,none⟩:Addr) t13) w_3 fun w_4=>
  za0 Int (fun s w_5 k=>
  ld .slc (⟨b1,3,none⟩:Addr) w_5 fun (t16:(Option Addr×Nat×Nat))=>
  xq (decide (s < (t16.2.1:Int))) (
  za6 w_5 fun w_6=>
  ld .slc (⟨b3,3,none⟩:Addr) w_6 fun (t22:(Option Addr×Nat×Nat))=>
  ld .slc (⟨b1,3,none⟩:Addr) w_6 fun (t24:(Option Addr×Nat×Nat))=>
  ixS t24.1 t24.2.1 1 s fun t26=>
  ld .slc t26 w_6 fun (t27:(Option Addr×Nat×Nat))=>
  qw P znm #[(Value.slice t27.1 t27.2.1 t27.2.2)] [.any] false w_6 fun (t28:Value) w_7=>
  ((ld .slc (⟨b3,3,none⟩:Addr) w_7 fun (t22_1:(Option Addr×Nat×Nat))=>
  (Value.slice t22_1.1 t22_1.2.1 t22_1.2.2)=(Value.slice t22.1 t22.2.1 t22.2.2)) /\
  zas P (Instr.buildSlice jc 1 #[(0,t28)]) .slc w_7 fun (t29:(Option Addr×Nat×Nat)) w_8=>
  ((ld .slc (⟨b3,3,none⟩:Addr) w_8 fun (t22_2:(Option Addr×Nat×Nat))=>
  (Value.slice t22_2.1 t22_2.2.1 t22_2.2.2)=(Value.slice t22.1 t22.2.1 t22.2.2)) /\
  zas P (Builtin.append_ #[jc,jc] jc #[(Value.slice t22.1 t22.2.1 t22.2.2),(Value.slice t29.1 t29.2.1 t29.2.2)]) .slc w_8 fun (t30:(Option Addr×Nat×Nat)) w_9=>
  stC (⟨b3,3,none⟩:Addr) (Value.slice t30.1 t30.2.1 t30.2.2) w_9 fun w_10=>
  zbl .i64 s 1 fun t20=>
  k t20 w_10))) (
  za0 Int (fun s_1 w_11 k_1=>
  ld .slc (⟨b1,4,none⟩:Addr) w_11 fun (t34:(Option Addr×Nat×Nat))=>
  xq (decide (s_1 < (t34.2.1:Int))) (
  jw Unit (fun k_2=>
  jw Unit (fun k_3=>
  ld .slc (⟨b1,4,none⟩:Addr) w_11 fun (t40:(Option Addr×Nat×Nat))=>
  ixS t40.1 t40.2.1 1 s_1 fun t42=>
  ld .str t42 w_11 fun (t43:ByteArray)=>
  za7 P (Instr.build zx #[(0,(Value.string t43))]) .any w_11 fun (t44:Value)=>
  zbk (zc P zx) zx w_11 fun b6 w_12=>
  zbz P (storeVar zx (⟨b6,0,none⟩:Addr) t44) w_12 fun w_13=>
  jw Unit (fun k_4=>
  ld .slc (⟨b1,5,none⟩:Addr) w_13 fun (t47:(Option Addr×Nat×Nat))=>
  xq (decide (s_1 < (t47.2.1:Int))) (
  ld .slc (⟨b1,5,none⟩:Addr) w_13 fun (t51:(Option Addr×Nat×Nat))=>
  ixS t51.1 t51.2.1 1 s_1 fun t53=>
  ld (.int .i64) t53 w_13 fun (t54:Int)=>
  stC (⟨b6,1,none⟩:Addr) (Value.int .i64 t54) w_13 fun w_14=>
  k_4 () w_14) (
  k_4 () w_13)) (fun _ w_15=>
  jw Unit (fun k_5=>
  ld .slc (⟨b1,6,none⟩:Addr) w_15 fun (t58:(Option Addr×Nat×Nat))=>
  xq (decide (s_1 < (t58.2.1:Int))) (
  ld .slc (⟨b1,6,none⟩:Addr) w_15 fun (t62:(Option Addr×Nat×Nat))=>
  ixS t62.1 t62.2.1 1 s_1 fun t64=>
  ld .slc t64 w_15 fun (t65:(Option Addr×Nat×Nat))=>
  qw P znm #[(Value.slice t65.1 t65.2.1 t65.2.2)] [.any] false w_15 fun (t66:Value) w_16=>
  zbz P (storeVar zf (⟨b6,2,none⟩:Addr) t66) w_16 fun w_17=>
  k_5 () w_17) (
  k_5 () w_15)) (fun _ w_18=>
  ld .slc (⟨b3,4,none⟩:Addr) w_18 fun (t69:(Option Addr×Nat×Nat))=>
  ldA P 34 (⟨b6,0,none⟩:Addr) w_18 fun t70=>
  zas P (Instr.buildSlice jh 1 #[(0,(Value.agg t70))]) .slc w_18 fun (t71:(Option Addr×Nat×Nat)) w_19=>
  zas P (Builtin.append_ #[jh,jh] jh #[(Value.slice t69.1 t69.2.1 t69.2.2),(Value.slice t71.1 t71.2.1 t71.2.2)]) .slc w_19 fun (t72:(Option Addr×Nat×Nat)) w_20=>
  stC (⟨b3,4,none⟩:Addr) (Value.slice t72.1 t72.2.1 t72.2.2) w_20 fun w_21=>
  k_3 () w_21))) (fun _ w_22=>
  k_2 () w_22)) (fun _ w_23=>
  zbl .i64 s_1 1 fun t38=>
  k_1 t38 w_23)) (
  ldA P 5 (⟨b3,0,none⟩:Addr) w_11 fun t74=>
  zbz P (storeVar zh (⟨b2,0,none⟩:Addr) (Value.agg t74)) w_11 fun w_24=>
  ldA P 5 (⟨b2,0,none⟩:Addr) w_24 fun t2=>
  R (.returned (Value.agg t2)) w_24)) 0 w_5)) 0 w_4
theorem z3v {r:Value}{R:Ending->World->Prop}{w:World}(hT:zxy r R w):qc P zr2 #[r] w R:=
 fnT (.seq .leaf (.seq .leaf (.seq (.seq .leaf (.blk (.loop [(4,.int .i64)] (.seq (.seq .leaf (.cond .leaf .leaf)) (.seq (.blk (.tree (.op 0 [] (.op 2 [] (.op 4 [] (.op 1 [] (.op 3 [] (.op 5 [] (.op 6 [] (.op 7 [1] (.op 8 [1] (.op 9 [] (.op 10 [] (.op 11 [] .done)))))))))))))) .leaf))))) (.seq (.seq .leaf (.blk (.loop [(5,.int .i64)] (.seq (.seq .leaf (.cond .leaf .leaf)) (.join [] (.jblk [] (.seq .leaf (.join [] (.seq .leaf (.cond .leaf .leaf)) (.join [] (.seq .leaf (.cond .leaf .leaf)) .leaf)))) .leaf))))) (.seq .leaf .leaf))))) Tryz.func70 hT
def zvj (d:Value) (sums:Option Addr) (sums_l sums_c:Nat) (R:Ending->World->Prop) (w:World):Prop:=
  zbk (Value.cells d) zf w fun b2 w_1=>
  zbk (zc P zf) zf w_1 fun b4 w_2=>
  ld (.int .u8) (⟨b2,0,none⟩:Addr) w_2 fun (t6:Int)=>
  cvI .i64 t6 fun t7=>
  xq (decide (t7 < (sums_l:Int))) (
  ld (.int .u8) (⟨b2,0,none⟩:Addr) w_2 fun (t13:Int)=>
  ixS sums sums_l 32 t13 fun t14=>
  ldA P 32 t14 w_2 fun t15=>
  zbz P (storeVar zf (⟨b4,0,none⟩:Addr) (Value.agg t15)) w_2 fun w_3=>
  ldA P 32 (⟨b4,0,none⟩:Addr) w_3 fun t4=>
  R (.returned (Value.agg t4)) w_3) (
  ldA P 32 (⟨b2,0,none⟩:Addr) w_2 fun t16=>
  zbz P (storeVar zf (⟨b4,0,none⟩:Addr) (Value.agg t16)) w_2 fun w_4=>
  ldA P 32 (⟨b4,0,none⟩:Addr) w_4 fun t4_1=>
  R (.returned (Value.agg t4_1)) w_4)
theorem z1h {d:Value}{sums:Option Addr}{sums_l sums_c:Nat}{R:Ending->World->Prop}{w:World}(hT:zvj d sums sums_l sums_c R w):qc P zlq #[d,(Value.slice sums sums_l sums_c)] w R:=
 fnT (.seq .leaf (.seq (.seq .leaf (.cond (.seq .leaf .leaf) .leaf)) (.seq .leaf .leaf))) Tryz.func71 hT
set_option maxRecDepth 100000
def zoy (s:Option Addr) (root:Value) (kind:Int) (R:Ending->World->Prop) (w:World):Prop:=
  zbk (Value.cells root) zf w fun b4 w_1=>
  jw Unit (fun k=>
  jw Unit (fun k_1=>
  xq (Option.isNone s) (
  R (.returned (Value.tuple #[(Value.pointer none),(Value.int .i64 7)])) w_1) (
  xq (kind != 2) (
  xq (kind != 3) (
  R (.returned (Value.tuple #[(Value.pointer none),(Value.int .i64 100)])) w_1) (
  k_1 () w_1)) (
  k_1 () w_1))) (fun _ w_2=>
  k () w_2)) (fun _ w_3=>
  zas P (Instr.makeMap zdu none) .map w_3 fun (t20:(Option Nat)) w_4=>
  za7 P (Instr.build zef #[(0,(Value.pointer s)),(1,(Value.map t20))]) .any w_4 fun (t21:Value)=>
  zbk (Value.cells t21) zef w_4 fun b22 w_5=>
  ldA P 32 (⟨b4,0,none⟩:Addr) w_5 fun t24=>
  za7 P (Instr.build zo #[(0,(Value.agg t24)),(1,(Value.int .i64 kind))]) .any w_5 fun (t26:Value)=>
  qw P zd6 #[(Value.pointer (some (⟨b22,0,none⟩:Addr))),t26] [] true w_5 fun (_:Unit) w_6=>
  R (.returned (Value.tuple #[(Value.pointer (some (⟨b22,0,none⟩:Addr))),(Value.int .i64 0)])) w_6)
theorem zr9 {s:Option Addr}{root:Value}{kind:Int}{R:Ending->World->Prop}{w:World}(hT:zoy s root kind R w):qc P zix #[(Value.pointer s),root,(Value.int .i64 kind)] w R:=
 fnT (.seq .leaf (.join [] (.jblk [] (.seq .leaf (.cond (.seq .leaf .leaf) (.seq .leaf (.cond (.seq .leaf .leaf) .leaf))))) (.seq .leaf (.seq .leaf (.seq .leaf .leaf))))) Tryz.func32 hT
def zua (s:Option Addr) (root:Value) (kind:Int) (R:Ending->World->Prop) (w:World):Prop:=
  zbk (Value.cells root) zf w fun b4 w_1=>
  jw Unit (fun k=>
  xq (kind != 2) (
  xq (kind != 3) (
  R (.returned (Value.tuple #[(Value.pointer none),(Value.int .i64 100)])) w_1) (
  k () w_1)) (
  k () w_1)) (fun _ w_2=>
  za7 P (Instr.build zdj #[(0,(Value.pointer s))]) .any w_2 fun (t16:Value)=>
  zbk (Value.cells t16) zdj w_2 fun b17 w_3=>
  ldA P 32 (⟨b4,0,none⟩:Addr) w_3 fun t19=>
  za7 P (Instr.build qm #[(0,(Value.agg t19)),(1,(Value.int .i64 kind))]) .any w_3 fun (t21:Value)=>
  zas P (Instr.buildSlice qy 1 #[(0,t21)]) .slc w_3 fun (t22:(Option Addr×Nat×Nat)) w_4=>
  qw P ze7 #[(Value.pointer (some (⟨b17,0,none⟩:Addr))),(Value.slice t22.1 t22.2.1 t22.2.2)] [] true w_4 fun (_:Unit) w_5=>
  R (.returned (Value.tuple #[(Value.pointer (some (⟨b17,0,none⟩:Addr))),(Value.int .i64 0)])) w_5)
theorem zxm {s:Option Addr}{root:Value}{kind:Int}{R:Ending->World->Prop}{w:World}(hT:zua s root kind R w):qc P zp4 #[(Value.pointer s),root,(Value.int .i64 kind)] w R:=
 fnT (.seq .leaf (.join [] (.seq .leaf (.cond (.seq .leaf .leaf) .leaf)) (.seq .leaf (.seq .leaf (.seq .leaf .leaf))))) Tryz.func33 hT
def zjt (c:Option Addr) (most:Int) (R:Ending->World->Prop) (w:World):Prop:=
  jw (Option Addr×Nat×Nat) (fun k=>
  za0 ((Option Addr×Nat×Nat)×Int) (fun s w_1 k_1=>
  jw Unit (fun k_2=>
  zl c fun p=>
  ld .slc (Addr.add p 2) w_1 fun (t11:(Option Addr×Nat×Nat))=>
  xq (decide (s.2 < (t11.2.1:Int))) (
  xq (decide ((s.1.2.1:Int) < most)) (
  k_2 () w_1) (
  k (s.1.1,s.1.2.1,s.1.2.2) w_1)) (
  k (s.1.1,s.1.2.1,s.1.2.2) w_1)) (fun _ w_2=>
  jw (Option Addr×Nat×Nat) (fun k_3=>
  zl c fun p_1=>
  ld .slc (Addr.add p_1 2) w_2 fun (t26:(Option Addr×Nat×Nat))=>
  ixS t26.1 t26.2.1 33 s.2 fun t28=>
  ldA P 32 t28 w_2 fun t30=>
  qw P zun #[(Value.slice s.1.1 s.1.2.1 s.1.2.2),(Value.agg t30)] [.bool] false w_2 fun (t31:Bool) w_3=>
  xq (!t31) (
  zl c fun p_2=>
  ld .slc (Addr.add p_2 2) w_3 fun (t37:(Option Addr×Nat×Nat))=>
  ixS t37.1 t37.2.1 33 s.2 fun t39=>
  ldA P 32 t39 w_3 fun t41=>
  zas P (Instr.buildSlice jc 1 #[(0,(Value.agg t41))]) .slc w_3 fun (t42:(Option Addr×Nat×Nat)) w_4=>
  zas P (Builtin.append_ #[jc,jc] jc #[(Value.slice s.1.1 s.1.2.1 s.1.2.2),(Value.slice t42.1 t42.2.1 t42.2.2)]) .slc w_4 fun (t43:(Option Addr×Nat×Nat)) w_5=>
  k_3 (t43.1,t43.2.1,t43.2.2) w_5) (
  k_3 (s.1.1,s.1.2.1,s.1.2.2) w_3)) (fun s_2 w_6=>
  zbl .i64 s.2 1 fun t21=>
  k_1 ((s_2.1,s_2.2.1,s_2.2.2),t21) w_6))) ((none,0,0),0) w) (fun s_3 w_7=>
  R (.returned (Value.slice s_3.1 s_3.2.1 s_3.2.2)) w_7)
theorem zo5 {c:Option Addr}{most:Int}{R:Ending->World->Prop}{w:World}(hT:zjt c most R w):qc P zdv #[(Value.pointer c),(Value.int .i64 most)] w R:=
 fnT (.seq .leaf (.seq .leaf (.seq (.seq .leaf (.jblk [(5,.slc)] (.loop [(5,.slc),(6,.int .i64)] (.join [] (.seq .leaf (.cond .leaf .leaf)) (.seq (.jblk [(5,.slc)] (.seq .leaf (.cond .leaf .leaf))) .leaf))))) (.seq .leaf .leaf)))) Tryz.func34 hT
def zh0 (c:Option Addr) (b:Option Addr) (b_l b_c:Nat) (R:Ending->World->Prop) (w:World):Prop:=
  xq (Option.isNone c) (
  R (.returned (Value.int .i64 7)) w) (
  qw P zhu #[(Value.slice b b_l b_c)] [.any] false w fun (t19:Value) w_1=>
  zbk (zc P zf) zf w_1 fun b5 w_2=>
  zbz P (storeVar zf (⟨b5,0,none⟩:Addr) t19) w_2 fun w_3=>
  za7 P (Instr.makeFunc (Go.Fn.func zdh) #[] #[(Value.pointer (some (⟨b5,0,none⟩:Addr)))]) .any w_3 fun (t20:Value)=>
  zl c fun p=>
  ld .slc (Addr.add p 2) w_3 fun (t24:(Option Addr×Nat×Nat))=>
  qw P za8 #[(Value.slice t24.1 t24.2.1 t24.2.2),t20] [.bool] false w_3 fun (t26:Bool) w_4=>
  xq (!t26) (
  R (.returned (Value.int .i64 80)) w_4) (
  qw P zg2 #[(Value.slice b b_l b_c)] [.any,.int .i64] true w_4 fun (t30:(Value×Int)) w_5=>
  zbk (zc P zh) zh w_5 fun b7 w_6=>
  zbz P (storeVar zh (⟨b7,0,none⟩:Addr) t30.1) w_6 fun w_7=>
  jw Unit (fun k=>
  za6 w_7 fun w_8=>
  xq (t30.2 != 0) (
  R (.returned (Value.int .i64 21)) w_8) (
  zl c fun p_1=>
  ld .slc (Addr.add p_1 2) w_8 fun (t39:(Option Addr×Nat×Nat))=>
  ldA P 32 (⟨b5,0,none⟩:Addr) w_8 fun t40=>
  ld (.int .i64) (⟨b7,0,none⟩:Addr) w_8 fun (t42:Int)=>
  za7 P (Instr.build zo #[(0,(Value.agg t40)),(1,(Value.int .i64 t42))]) .any w_8 fun (t43:Value)=>
  qw P zbi #[(Value.slice t39.1 t39.2.1 t39.2.2),t43] [.bool] false w_8 fun (t44:Bool) w_9=>
  xq (!t44) (
  R (.returned (Value.int .i64 21)) w_9) (
  k () w_9))) (fun _ w_10=>
  zl c fun p_2=>
  ld .ptr p_2 w_10 fun (t51:(Option Addr))=>
  qw P zdr #[(Value.pointer t51),(Value.slice b b_l b_c)] [.any,.int .i64] true w_10 fun (t53:(Value×Int)) w_11=>
  zbk (zc P zf) zf w_11 fun b9 w_12=>
  zbz P (storeVar zf (⟨b9,0,none⟩:Addr) t53.1) w_12 fun w_13=>
  xq (t53.2 != 0) (
  R (.returned (Value.int .i64 t53.2)) w_13) (
  zl c fun p_3=>
  ld .slc (Addr.add p_3 2) w_13 fun (t62:(Option Addr×Nat×Nat))=>
  za0 ((Option Addr×Nat×Nat)×Int) (fun s_1 w_14 k_1=>
  xq (decide (s_1.2 < (t62.2.1:Int))) (
  jw (Option Addr×Nat×Nat) (fun k_2=>
  ixS t62.1 t62.2.1 33 s_1.2 fun t66=>
  ldA P 33 t66 w_14 fun t67=>
  zbk (zc P zo) zo w_14 fun b13 w_15=>
  zbz P (storeVar zo (⟨b13,0,none⟩:Addr) (Value.agg t67)) w_15 fun w_16=>
  ldA P 33 (⟨b13,0,none⟩:Addr) w_16 fun t69=>
  zrh P t20 #[(Value.agg t69)] [.bool] false w_16 fun (t70:Bool) w_17=>
  xq t70 (
  ldA P 33 (⟨b13,0,none⟩:Addr) w_17 fun t72=>
  zas P (Instr.buildSlice vk 1 #[(0,(Value.agg t72))]) .slc w_17 fun (t73:(Option Addr×Nat×Nat)) w_18=>
  zas P (Builtin.append_ #[vk,vk] vk #[(Value.slice s_1.1.1 s_1.1.2.1 s_1.1.2.2),(Value.slice t73.1 t73.2.1 t73.2.2)]) .slc w_18 fun (t74:(Option Addr×Nat×Nat)) w_19=>
  k_2 (t74.1,t74.2.1,t74.2.2) w_19) (
  k_2 (s_1.1.1,s_1.1.2.1,s_1.1.2.2) w_17)) (fun s_2 w_20=>
  zbl .i64 s_1.2 1 fun t75=>
  k_1 ((s_2.1,s_2.2.1,s_2.2.2),t75) w_20)) (
  zl c fun p_4=>
  ld .slc (Addr.add p_4 2) w_14 fun (t80:(Option Addr×Nat×Nat))=>
  qw P zbe #[(Value.slice t80.1 t80.2.1 t80.2.2),t20] [.slc] false w_14 fun (t82:(Option Addr×Nat×Nat)) w_21=>
  zl c fun p_5=>
  stC (Addr.add p_5 2) (Value.slice t82.1 t82.2.1 t82.2.2) w_21 fun w_22=>
  za0 Int (fun s_3 w_23 k_3=>
  xq (decide (s_3 < (s_1.1.2.1:Int))) (
  jw Unit (fun k_4=>
  jw Unit (fun k_5=>
  ixS s_1.1.1 s_1.1.2.1 33 s_3 fun t89=>
  ldA P 33 t89 w_23 fun t90=>
  zbk (zc P zo) zo w_23 fun b15 w_24=>
  zbz P (storeVar zo (⟨b15,0,none⟩:Addr) (Value.agg t90)) w_24 fun w_25=>
  ld (.int .i64) (⟨b15,32,none⟩:Addr) w_25 fun (t92:Int)=>
  ld (.int .i64) (⟨b7,0,none⟩:Addr) w_25 fun (t94:Int)=>
  xq (t92==t94) (
  ldA P 5 (⟨b7,0,none⟩:Addr) w_25 fun t97=>
  qw P zda #[(Value.pointer c),(Value.agg t97)] [] true w_25 fun (_:Unit) w_26=>
  k_5 () w_26) (
  zl c fun p_6=>
  stC (Addr.add p_6 3) (Value.bool true) w_25 fun w_27=>
  k_5 () w_27)) (fun _ w_28=>
  k_4 () w_28)) (fun _ w_29=>
  zbl .i64 s_3 1 fun t102=>
  k_3 t102 w_29)) (
  R (.returned (Value.int .i64 0)) w_23)) 0 w_22)) ((none,0,0),0) w_13))))
theorem zl8 {c:Option Addr}{b:Option Addr}{b_l b_c:Nat}{R:Ending->World->Prop}{w:World}(hT:zh0 c b b_l b_c R w):qc P zb5 #[(Value.pointer c),(Value.slice b b_l b_c)] w R:=
 fnT (.seq .leaf (.seq (.seq .leaf (.cond (.seq .leaf .leaf) .leaf)) (.seq .leaf (.seq .leaf (.seq (.seq .leaf (.cond (.seq .leaf .leaf) .leaf)) (.seq .leaf (.join [] (.seq (.tree (.op 0 [] (.op 1 [] (.op 2 [] (.op 3 [] (.op 4 [] (.op 5 [] (.op 8 [] (.op 6 [] (.op 7 [] (.op 9 [] (.op 10 [] (.op 11 [] (.op 12 [] (.op 13 [] .done))))))))))))))) (.cond (.seq .leaf .leaf) .leaf)) (.seq (.seq .leaf (.seq .leaf (.cond (.seq .leaf .leaf) .leaf))) (.seq .leaf (.seq (.seq .leaf (.blk (.loop [(11,.slc),(64,.int .i64)] (.seq .leaf (.seq (.cond .leaf .leaf) (.seq (.jblk [(11,.slc)] (.seq .leaf (.seq .leaf (.cond .leaf .leaf)))) .leaf)))))) (.seq .leaf (.seq (.seq .leaf (.blk (.loop [(87,.int .i64)] (.seq .leaf (.seq (.cond .leaf .leaf) (.join [] (.jblk [] (.seq .leaf (.seq .leaf (.cond .leaf .leaf)))) .leaf)))))) (.seq .leaf .leaf))))))))))))) Tryz.func36 hT
def zja (c:Option Addr) (b:Option Addr) (b_l b_c:Nat) (R:Ending->World->Prop) (w:World):Prop:=
  qw P zhz #[(Value.slice b b_l b_c)] [.any] false w fun (t15:Value) w_1=>
  zbk (zc P zf) zf w_1 fun b5 w_2=>
  zbz P (storeVar zf (⟨b5,0,none⟩:Addr) t15) w_2 fun w_3=>
  za0 ((Option Addr×Nat×Nat)×(Option Addr×Nat×Nat)×Int) (fun s w_4 k=>
  zl c fun p=>
  ld .slc (Addr.add p 2) w_4 fun (t20:(Option Addr×Nat×Nat))=>
  xq (decide (s.2.2 < (t20.2.1:Int))) (
  jw ((Option Addr×Nat×Nat)×(Option Addr×Nat×Nat)) (fun k_1=>
  za6 w_4 fun w_5=>
  zl c fun p_1=>
  ld .slc (Addr.add p_1 2) w_5 fun (t28:(Option Addr×Nat×Nat))=>
  ixS t28.1 t28.2.1 33 s.2.2 fun t30=>
  ldA P 32 t30 w_5 fun t32=>
  ldA P 32 (⟨b5,0,none⟩:Addr) w_5 fun t33=>
  za7 P (eqM .eql zf (.tmp 32) (.tmp 33) (Value.agg t32) (Value.agg t33)) .bool w_5 fun (t34:Bool)=>
  xq t34 (
  zl c fun p_2=>
  ld .slc (Addr.add p_2 2) w_5 fun (t39:(Option Addr×Nat×Nat))=>
  ixS t39.1 t39.2.1 33 s.2.2 fun t41=>
  ldA P 33 t41 w_5 fun t42=>
  zas P (Instr.buildSlice qy 1 #[(0,(Value.agg t42))]) .slc w_5 fun (t43:(Option Addr×Nat×Nat)) w_6=>
  zas P (Builtin.append_ #[qy,qy] qy #[(Value.slice s.1.1 s.1.2.1 s.1.2.2),(Value.slice t43.1 t43.2.1 t43.2.2)]) .slc w_6 fun (t44:(Option Addr×Nat×Nat)) w_7=>
  k_1 ((t44.1,t44.2.1,t44.2.2),(s.2.1.1,s.2.1.2.1,s.2.1.2.2)) w_7) (
  zl c fun p_3=>
  ld .slc (Addr.add p_3 2) w_5 fun (t49:(Option Addr×Nat×Nat))=>
  ixS t49.1 t49.2.1 33 s.2.2 fun t51=>
  ldA P 33 t51 w_5 fun t52=>
  zas P (Instr.buildSlice qy 1 #[(0,(Value.agg t52))]) .slc w_5 fun (t53:(Option Addr×Nat×Nat)) w_8=>
  zas P (Builtin.append_ #[qy,qy] qy #[(Value.slice s.2.1.1 s.2.1.2.1 s.2.1.2.2),(Value.slice t53.1 t53.2.1 t53.2.2)]) .slc w_8 fun (t54:(Option Addr×Nat×Nat)) w_9=>
  k_1 ((s.1.1,s.1.2.1,s.1.2.2),(t54.1,t54.2.1,t54.2.2)) w_9)) (fun s_1 w_10=>
  zbl .i64 s.2.2 1 fun t24=>
  k ((s_1.1.1,s_1.1.2.1,s_1.1.2.2),(s_1.2.1,s_1.2.2.1,s_1.2.2.2),t24) w_10)) (
  xq ((s.1.2.1:Int)==0) (
  R (.returned (Value.int .i64 80)) w_4) (
  qw P zjl #[(Value.slice b b_l b_c)] [.any,.bool] true w_4 fun (t60:(Value×Bool)) w_11=>
  zbk (zc P zh) zh w_11 fun b9 w_12=>
  zbz P (storeVar zh (⟨b9,0,none⟩:Addr) t60.1) w_12 fun w_13=>
  jw Unit (fun k_2=>
  xq (!t60.2) (
  R (.returned (Value.int .i64 21)) w_13) (
  ldA P 32 (⟨b5,0,none⟩:Addr) w_13 fun t67=>
  ld (.int .i64) (⟨b9,0,none⟩:Addr) w_13 fun (t69:Int)=>
  za7 P (Instr.build qm #[(0,(Value.agg t67)),(1,(Value.int .i64 t69))]) .any w_13 fun (t70:Value)=>
  qw P zto #[(Value.slice s.1.1 s.1.2.1 s.1.2.2),t70] [.bool] false w_13 fun (t71:Bool) w_14=>
  xq (!t71) (
  R (.returned (Value.int .i64 21)) w_14) (
  k_2 () w_14))) (fun _ w_15=>
  zl c fun p_4=>
  ld .ptr p_4 w_15 fun (t78:(Option Addr))=>
  qw P zd8 #[(Value.pointer t78),(Value.slice b b_l b_c)] [.any,.int .i64] true w_15 fun (t80:(Value×Int)) w_16=>
  zbk (zc P zf) zf w_16 fun b11 w_17=>
  zbz P (storeVar zf (⟨b11,0,none⟩:Addr) t80.1) w_17 fun w_18=>
  xq (t80.2 != 0) (
  R (.returned (Value.int .i64 t80.2)) w_18) (
  zl c fun p_5=>
  stC (Addr.add p_5 2) (Value.slice s.2.1.1 s.2.1.2.1 s.2.1.2.2) w_18 fun w_19=>
  za0 Int (fun s_3 w_20 k_3=>
  xq (decide (s_3 < (s.1.2.1:Int))) (
  jw Unit (fun k_4=>
  jw Unit (fun k_5=>
  za6 w_20 fun w_21=>
  ixS s.1.1 s.1.2.1 33 s_3 fun t98=>
  ld (.int .i64) (Addr.add t98 32) w_21 fun (t100:Int)=>
  ld (.int .i64) (⟨b9,0,none⟩:Addr) w_21 fun (t102:Int)=>
  xq (t100==t102) (
  ldA P 5 (⟨b9,0,none⟩:Addr) w_21 fun t105=>
  qw P zk0 #[(Value.agg t105)] [.slc] false w_21 fun (t106:(Option Addr×Nat×Nat)) w_22=>
  qw P ze7 #[(Value.pointer c),(Value.slice t106.1 t106.2.1 t106.2.2)] [] true w_22 fun (_:Unit) w_23=>
  k_5 () w_23) (
  zl c fun p_6=>
  stC (Addr.add p_6 3) (Value.bool true) w_21 fun w_24=>
  k_5 () w_24)) (fun _ w_25=>
  k_4 () w_25)) (fun _ w_26=>
  zbl .i64 s_3 1 fun t95=>
  k_3 t95 w_26)) (
  R (.returned (Value.int .i64 0)) w_20)) 0 w_19))))) ((none,0,0),(none,0,0),0) w_3
theorem znq {c:Option Addr}{b:Option Addr}{b_l b_c:Nat}{R:Ending->World->Prop}{w:World}(hT:zja c b b_l b_c R w):qc P zel #[(Value.pointer c),(Value.slice b b_l b_c)] w R:=
 fnT (.seq .leaf (.seq .leaf (.seq .leaf (.seq .leaf (.seq (.seq .leaf (.blk (.loop [(6,.slc),(7,.slc),(8,.int .i64)] (.seq (.seq .leaf (.cond .leaf .leaf)) (.seq (.jblk [(6,.slc),(7,.slc)] (.seq (.tree (.op 0 [] (.op 1 [] (.op 2 [] (.op 4 [] (.op 3 [] (.op 5 [] (.op 6 [] (.op 7 [] (.op 8 [] (.op 9 [] .done))))))))))) (.cond .leaf .leaf))) .leaf))))) (.seq (.seq .leaf (.cond (.seq .leaf .leaf) .leaf)) (.seq .leaf (.join [] (.seq .leaf (.cond (.seq .leaf .leaf) .leaf)) (.seq .leaf (.seq (.seq .leaf (.cond (.seq .leaf .leaf) .leaf)) (.seq .leaf (.seq (.seq .leaf (.blk (.loop [(13,.int .i64)] (.seq (.seq .leaf (.cond .leaf .leaf)) (.join [] (.jblk [] (.seq (.tree (.op 0 [] (.op 1 [] (.op 2 [] (.op 3 [] (.op 5 [] (.op 4 [] (.op 6 [] (.op 7 [] .done))))))))) (.cond .leaf .leaf))) .leaf))))) (.seq .leaf .leaf))))))))))))) Tryz.func37 hT
def zii (c:Option Addr) (most:Int) (R:Ending->World->Prop) (w:World):Prop:=
  xq (Option.isNone c) (
  R (.returned (Value.slice none 0 0)) w) (
  zl c fun p=>
  ld .slc (Addr.add p 2) w fun (t13:(Option Addr×Nat×Nat))=>
  jw (Option Addr×Nat×Nat) (fun k=>
  za0 ((Option Addr×Nat×Nat)×Int) (fun s w_1 k_1=>
  xq (decide (s.2 < (t13.2.1:Int))) (
  jw (Option Addr×Nat×Nat) (fun k_2=>
  ixS t13.1 t13.2.1 33 s.2 fun t17=>
  ldA P 33 t17 w_1 fun t18=>
  zbk (zc P zo) zo w_1 fun b7 w_2=>
  zbz P (storeVar zo (⟨b7,0,none⟩:Addr) (Value.agg t18)) w_2 fun w_3=>
  xq (decide ((s.1.2.1:Int)>=most)) (
  k (s.1.1,s.1.2.1,s.1.2.2) w_3) (
  ldA P 32 (⟨b7,0,none⟩:Addr) w_3 fun t25=>
  qw P zbj #[(Value.slice s.1.1 s.1.2.1 s.1.2.2),(Value.agg t25)] [.bool] false w_3 fun (t26:Bool) w_4=>
  xq (!t26) (
  ldA P 32 (⟨b7,0,none⟩:Addr) w_4 fun t30=>
  zas P (Instr.buildSlice jc 1 #[(0,(Value.agg t30))]) .slc w_4 fun (t31:(Option Addr×Nat×Nat)) w_5=>
  zas P (Builtin.append_ #[jc,jc] jc #[(Value.slice s.1.1 s.1.2.1 s.1.2.2),(Value.slice t31.1 t31.2.1 t31.2.2)]) .slc w_5 fun (t32:(Option Addr×Nat×Nat)) w_6=>
  k_2 (t32.1,t32.2.1,t32.2.2) w_6) (
  k_2 (s.1.1,s.1.2.1,s.1.2.2) w_4))) (fun s_1 w_7=>
  zbl .i64 s.2 1 fun t33=>
  k_1 ((s_1.1,s_1.2.1,s_1.2.2),t33) w_7)) (
  k (s.1.1,s.1.2.1,s.1.2.2) w_1)) ((none,0,0),0) w) (fun s_2 w_8=>
  R (.returned (Value.slice s_2.1 s_2.2.1 s_2.2.2)) w_8))
theorem zm1 {c:Option Addr}{most:Int}{R:Ending->World->Prop}{w:World}(hT:zii c most R w):qc P zc9 #[(Value.pointer c),(Value.int .i64 most)] w R:=
 fnT (.seq .leaf (.seq .leaf (.seq (.seq .leaf (.cond (.seq .leaf .leaf) .leaf)) (.seq (.seq .leaf (.jblk [(5,.slc)] (.loop [(5,.slc),(15,.int .i64)] (.seq .leaf (.seq (.cond .leaf .leaf) (.seq (.jblk [(5,.slc)] (.seq .leaf (.seq (.seq .leaf (.cond .leaf .leaf)) (.seq .leaf (.cond .leaf .leaf))))) .leaf)))))) (.seq .leaf .leaf))))) Tryz.func39 hT
def zpe (a:Option Addr) (a_l a_c:Nat) (b:Option Addr) (b_l b_c:Nat) (R:Ending->World->Prop) (w:World):Prop:=
  xq ((a_l:Int) != (b_l:Int)) (
  R (.returned (Value.bool false)) w) (
  za0 Int (fun s w_1 k=>
  xq (decide (s < (a_l:Int))) (
  za6 w_1 fun w_2=>
  ixS a a_l 32 s fun t19=>
  ixS b b_l 32 s fun t23=>
  ldA P 32 t19 w_2 fun t20=>
  ldA P 32 t23 w_2 fun t24=>
  za7 P (eqM .neq zf (.tmp 20) (.tmp 24) (Value.agg t20) (Value.agg t24)) .bool w_2 fun (t25:Bool)=>
  xq t25 (
  R (.returned (Value.bool false)) w_2) (
  zbl .i64 s 1 fun t16=>
  k t16 w_2)) (
  R (.returned (Value.bool true)) w_1)) 0 w)
theorem zwn {a:Option Addr}{a_l a_c:Nat}{b:Option Addr}{b_l b_c:Nat}{R:Ending->World->Prop}{w:World}(hT:zpe a a_l a_c b b_l b_c R w):qc P zio #[(Value.slice a a_l a_c),(Value.slice b b_l b_c)] w R:=
 fnT (.seq .leaf (.seq (.seq .leaf (.cond (.seq .leaf .leaf) .leaf)) (.seq (.seq .leaf (.blk (.loop [(5,.int .i64)] (.seq (.seq .leaf (.cond .leaf .leaf)) (.seq (.blk (.seq (.tree (.op 0 [] (.op 1 [] (.op 2 [] (.op 4 [] (.op 5 [] (.op 6 [] (.op 3 [] (.op 7 [] (.op 8 [] .done)))))))))) (.cond (.seq .leaf .leaf) .leaf))) .leaf))))) (.seq .leaf .leaf)))) Tryz.func41 hT
def zie (c:Option Addr) (R:Ending->World->Prop) (w:World):Prop:=
  xq (!(Option.isNone c)) (
  zl c fun p=>
  ld .slc (Addr.add p 2) w fun (t9:(Option Addr×Nat×Nat))=>
  xq ((t9.2.1:Int)==0) (
  zl c fun p_1=>
  ld .bool (Addr.add p_1 3) w fun (t17:Bool)=>
  R (.returned (Value.bool (!t17))) w) (
  R (.returned (Value.bool false)) w)) (
  R (.returned (Value.bool false)) w)
theorem zm5 {c:Option Addr}{R:Ending->World->Prop}{w:World}(hT:zie c R w):qc P zdb #[(Value.pointer c)] w R:=
 fnT (.seq .leaf (.seq .leaf .leaf)) Tryz.func43 hT
def zid (c:Option Addr) (R:Ending->World->Prop) (w:World):Prop:=
  xq (!(Option.isNone c)) (
  zl c fun p=>
  ld .bool (Addr.add p 3) w fun (t9:Bool)=>
  R (.returned (Value.bool t9)) w) (
  R (.returned (Value.bool false)) w)
theorem zmi {c:Option Addr}{R:Ending->World->Prop}{w:World}(hT:zid c R w):qc P zdc #[(Value.pointer c)] w R:=
 fnT (.seq .leaf (.seq .leaf .leaf)) Tryz.func44 hT
def zib (c:Option Addr) (p:Value) (R:Ending->World->Prop) (w:World):Prop:=
  zbk (Value.cells p) zo w fun b3 w_1=>
  za6 w_1 fun w_2=>
  zl c fun p_1=>
  ld .map (Addr.add p_1 1) w_2 fun (t10:(Option Nat))=>
  ldA P 33 (⟨b3,0,none⟩:Addr) w_2 fun t11=>
  za7 P (Instr.lookup zdu (Value.map t10) (Value.agg t11) false) (.int .i64) w_2 fun (t12:Int)=>
  xq (decide (t12 > 0)) (
  R (.returned (Value.tuple #[])) w_2) (
  za6 w_2 fun w_3=>
  zl c fun p_2=>
  ld .map (Addr.add p_2 1) w_3 fun (t17:(Option Nat))=>
  ldA P 33 (⟨b3,0,none⟩:Addr) w_3 fun t18=>
  zbz P (Instr.mapUpdate zdu (Value.map t17) (Value.agg t18) (Value.int .i64 1)) w_3 fun w_4=>
  za6 w_4 fun w_5=>
  zl c fun p_3=>
  ld .ptr p_3 w_5 fun (t23:(Option Addr))=>
  ldA P 32 (⟨b3,0,none⟩:Addr) w_5 fun t25=>
  qw P zex #[(Value.pointer t23),(Value.agg t25)] [.slc,.int .i64] true w_5 fun (t26:((Option Addr×Nat×Nat)×Int)) w_6=>
  xq (t26.2 != 0) (
  za6 w_6 fun w_7=>
  zl c fun p_4=>
  ld .slc (Addr.add p_4 2) w_7 fun (t35:(Option Addr×Nat×Nat))=>
  ldA P 33 (⟨b3,0,none⟩:Addr) w_7 fun t36=>
  zas P (Instr.buildSlice vk 1 #[(0,(Value.agg t36))]) .slc w_7 fun (t37:(Option Addr×Nat×Nat)) w_8=>
  ((ld .slc (Addr.add p_4 2) w_8 fun (t35_1:(Option Addr×Nat×Nat))=>
  (Value.slice t35_1.1 t35_1.2.1 t35_1.2.2)=(Value.slice t35.1 t35.2.1 t35.2.2)) /\
  zas P (Builtin.append_ #[vk,vk] vk #[(Value.slice t35.1 t35.2.1 t35.2.2),(Value.slice t37.1 t37.2.1 t37.2.2)]) .slc w_8 fun (t38:(Option Addr×Nat×Nat)) w_9=>
  zl c fun p_5=>
  stC (Addr.add p_5 2) (Value.slice t38.1 t38.2.1 t38.2.2) w_9 fun w_10=>
  R (.returned (Value.tuple #[])) w_10)) (
  qw P zg2 #[(Value.slice t26.1.1 t26.1.2.1 t26.1.2.2)] [.any,.int .i64] true w_6 fun (t43:(Value×Int)) w_11=>
  zbk (zc P zh) zh w_11 fun b6 w_12=>
  zbz P (storeVar zh (⟨b6,0,none⟩:Addr) t43.1) w_12 fun w_13=>
  jw Unit (fun k=>
  xq (t43.2 != 0) (
  zl c fun p_6=>
  stC (Addr.add p_6 3) (Value.bool true) w_13 fun w_14=>
  R (.returned (Value.tuple #[])) w_14) (
  ld (.int .i64) (⟨b6,0,none⟩:Addr) w_13 fun (t50:Int)=>
  ld (.int .i64) (⟨b3,32,none⟩:Addr) w_13 fun (t52:Int)=>
  xq (t50 != t52) (
  zl c fun p_7=>
  stC (Addr.add p_7 3) (Value.bool true) w_13 fun w_15=>
  R (.returned (Value.tuple #[])) w_15) (
  k () w_13))) (fun _ w_16=>
  ldA P 5 (⟨b6,0,none⟩:Addr) w_16 fun t59=>
  qw P zda #[(Value.pointer c),(Value.agg t59)] [] true w_16 fun (_:Unit) w_17=>
  R (.returned (Value.tuple #[])) w_17)))
theorem zm2 {c:Option Addr}{p:Value}{R:Ending->World->Prop}{w:World}(hT:zib c p R w):qc P zd6 #[(Value.pointer c),p] w R:=
 fnT (.seq .leaf (.seq (.seq (.tree (.op 0 [] (.op 1 [] (.op 2 [] (.op 3 [] (.op 4 [] (.op 5 [] (.op 6 [] .done)))))))) (.cond .leaf .leaf)) (.seq (.tree (.op 0 [] (.op 1 [] (.op 2 [] (.op 3 [] (.op 4 [] (.op 5 [] .done))))))) (.seq (.tree (.op 0 [] (.op 1 [] (.op 2 [] (.op 4 [] (.op 3 [] (.op 5 [] (.op 6 [] (.op 7 [] (.op 8 [] (.op 9 [] (.op 10 [] (.op 11 [] .done))))))))))))) (.seq (.seq .leaf (.cond (.seq (.tree (.op 0 [] (.op 1 [] (.op 2 [] (.op 3 [] (.op 4 [] (.op 5 [] (.op 6 [4] (.op 7 [] (.op 8 [] (.op 9 [] (.op 10 [] .done)))))))))))) .leaf) .leaf)) (.seq .leaf (.join [] (.seq .leaf (.cond (.seq .leaf .leaf) .leaf)) .leaf))))))) Tryz.func79 hT
def zjg (c:Option Addr) (todo:Option Addr) (todo_l todo_c:Nat) (R:Ending->World->Prop) (w:World):Prop:=
  za0 (Option Addr×Nat×Nat) (fun s w_1 k=>
  xq (decide ((s.2.1:Int) > 0)) (
  jw (Option Addr×Nat×Nat) (fun k_1=>
  ixS s.1 s.2.1 33 0 fun t13=>
  ldA P 33 t13 w_1 fun t14=>
  zbk (zc P qm) qm w_1 fun b4 w_2=>
  zbz P (storeVar qm (⟨b4,0,none⟩:Addr) (Value.agg t14)) w_2 fun w_3=>
  zas P (Instr.buildSlice qy 0 #[]) .slc w_3 fun (t15:(Option Addr×Nat×Nat)) w_4=>
  za7 P (Instr.sliceAt qy (Value.slice s.1 s.2.1 s.2.2) (some (Value.int .i64 1)) none none) .slc w_4 fun (t17:(Option Addr×Nat×Nat))=>
  zas P (Builtin.append_ #[qy,qy] qy #[(Value.slice t15.1 t15.2.1 t15.2.2),(Value.slice t17.1 t17.2.1 t17.2.2)]) .slc w_4 fun (t18:(Option Addr×Nat×Nat)) w_5=>
  za6 w_5 fun w_6=>
  zl c fun p=>
  ld .slc (Addr.add p 1) w_6 fun (t22:(Option Addr×Nat×Nat))=>
  ldA P 33 (⟨b4,0,none⟩:Addr) w_6 fun t23=>
  qw P zto #[(Value.slice t22.1 t22.2.1 t22.2.2),(Value.agg t23)] [.bool] false w_6 fun (t24:Bool) w_7=>
  xq t24 (
  k_1 (t18.1,t18.2.1,t18.2.2) w_7) (
  za6 w_7 fun w_8=>
  zl c fun p_1=>
  ld .slc (Addr.add p_1 1) w_8 fun (t29:(Option Addr×Nat×Nat))=>
  ldA P 33 (⟨b4,0,none⟩:Addr) w_8 fun t30=>
  zas P (Instr.buildSlice qy 1 #[(0,(Value.agg t30))]) .slc w_8 fun (t31:(Option Addr×Nat×Nat)) w_9=>
  ((ld .slc (Addr.add p_1 1) w_9 fun (t29_1:(Option Addr×Nat×Nat))=>
  (Value.slice t29_1.1 t29_1.2.1 t29_1.2.2)=(Value.slice t29.1 t29.2.1 t29.2.2)) /\
  zas P (Builtin.append_ #[qy,qy] qy #[(Value.slice t29.1 t29.2.1 t29.2.2),(Value.slice t31.1 t31.2.1 t31.2.2)]) .slc w_9 fun (t32:(Option Addr×Nat×Nat)) w_10=>
  zl c fun p_2=>
  stC (Addr.add p_2 1) (Value.slice t32.1 t32.2.1 t32.2.2) w_10 fun w_11=>
  za6 w_11 fun w_12=>
  zl c fun p_3=>
  ld .ptr p_3 w_12 fun (t39:(Option Addr))=>
  ldA P 32 (⟨b4,0,none⟩:Addr) w_12 fun t41=>
  qw P zg8 #[(Value.pointer t39),(Value.agg t41)] [.slc,.int .i64] true w_12 fun (t42:((Option Addr×Nat×Nat)×Int)) w_13=>
  xq (t42.2 != 0) (
  za6 w_13 fun w_14=>
  zl c fun p_4=>
  ld .slc (Addr.add p_4 2) w_14 fun (t51:(Option Addr×Nat×Nat))=>
  ldA P 33 (⟨b4,0,none⟩:Addr) w_14 fun t52=>
  zas P (Instr.buildSlice qy 1 #[(0,(Value.agg t52))]) .slc w_14 fun (t53:(Option Addr×Nat×Nat)) w_15=>
  ((ld .slc (Addr.add p_4 2) w_15 fun (t51_1:(Option Addr×Nat×Nat))=>
  (Value.slice t51_1.1 t51_1.2.1 t51_1.2.2)=(Value.slice t51.1 t51.2.1 t51.2.2)) /\
  zas P (Builtin.append_ #[qy,qy] qy #[(Value.slice t51.1 t51.2.1 t51.2.2),(Value.slice t53.1 t53.2.1 t53.2.2)]) .slc w_15 fun (t54:(Option Addr×Nat×Nat)) w_16=>
  zl c fun p_5=>
  stC (Addr.add p_5 2) (Value.slice t54.1 t54.2.1 t54.2.2) w_16 fun w_17=>
  k_1 (t18.1,t18.2.1,t18.2.2) w_17)) (
  qw P zjl #[(Value.slice t42.1.1 t42.1.2.1 t42.1.2.2)] [.any,.bool] true w_13 fun (t59:(Value×Bool)) w_18=>
  zbk (zc P zh) zh w_18 fun b7 w_19=>
  zbz P (storeVar zh (⟨b7,0,none⟩:Addr) t59.1) w_19 fun w_20=>
  jw Unit (fun k_2=>
  xq (!t59.2) (
  zl c fun p_6=>
  stC (Addr.add p_6 3) (Value.bool true) w_20 fun w_21=>
  k_1 (t18.1,t18.2.1,t18.2.2) w_21) (
  ld (.int .i64) (⟨b7,0,none⟩:Addr) w_20 fun (t66:Int)=>
  ld (.int .i64) (⟨b4,32,none⟩:Addr) w_20 fun (t68:Int)=>
  xq (t66 != t68) (
  zl c fun p_7=>
  stC (Addr.add p_7 3) (Value.bool true) w_20 fun w_22=>
  k_1 (t18.1,t18.2.1,t18.2.2) w_22) (
  k_2 () w_20))) (fun _ w_23=>
  ldA P 5 (⟨b7,0,none⟩:Addr) w_23 fun t74=>
  qw P zk0 #[(Value.agg t74)] [.slc] false w_23 fun (t75:(Option Addr×Nat×Nat)) w_24=>
  zas P (Builtin.append_ #[qy,qy] qy #[(Value.slice t75.1 t75.2.1 t75.2.2),(Value.slice t18.1 t18.2.1 t18.2.2)]) .slc w_24 fun (t77:(Option Addr×Nat×Nat)) w_25=>
  k_1 (t77.1,t77.2.1,t77.2.2) w_25))))) (fun s_2 w_26=>
  k (s_2.1,s_2.2.1,s_2.2.2) w_26)) (
  R (.returned (Value.tuple #[])) w_1)) (todo,todo_l,todo_c) w
theorem zoo {c:Option Addr}{todo:Option Addr}{todo_l todo_c:Nat}{R:Ending->World->Prop}{w:World}(hT:zjg c todo todo_l todo_c R w):qc P ze7 #[(Value.pointer c),(Value.slice todo todo_l todo_c)] w R:=
 fnT (.blk (.loop [(1,.slc)] (.seq (.seq .leaf (.cond .leaf .leaf)) (.jblk [(1,.slc)] (.seq .leaf (.seq .leaf (.seq (.seq (.tree (.op 0 [] (.op 1 [] (.op 2 [] (.op 3 [] (.op 4 [] (.op 5 [] .done))))))) (.cond .leaf .leaf)) (.seq (.tree (.op 0 [] (.op 1 [] (.op 2 [] (.op 3 [] (.op 4 [] (.op 5 [] (.op 6 [4] (.op 7 [] (.op 8 [] (.op 9 [] (.op 10 [] .done)))))))))))) (.seq (.tree (.op 0 [] (.op 1 [] (.op 2 [] (.op 4 [] (.op 3 [] (.op 5 [] (.op 6 [] (.op 7 [] (.op 8 [] (.op 9 [] (.op 10 [] (.op 11 [] .done))))))))))))) (.seq (.seq .leaf (.cond (.seq (.tree (.op 0 [] (.op 1 [] (.op 2 [] (.op 3 [] (.op 4 [] (.op 5 [] (.op 6 [4] (.op 7 [] (.op 8 [] (.op 9 [] (.op 10 [] .done)))))))))))) .leaf) .leaf)) (.seq .leaf (.join [] (.seq .leaf (.cond (.seq .leaf .leaf) .leaf)) .leaf)))))))))))) Tryz.func80 hT
def zzu (l:Option Addr) (l_l l_c:Nat) (d:Value) (R:Ending->World->Prop) (w:World):Prop:=
  zbk (Value.cells d) zf w fun b3 w_1=>
  za0 Int (fun s w_2 k=>
  xq (decide (s < (l_l:Int))) (
  za6 w_2 fun w_3=>
  ixS l l_l 32 s fun t14=>
  ldA P 32 t14 w_3 fun t15=>
  ldA P 32 (⟨b3,0,none⟩:Addr) w_3 fun t16=>
  za7 P (eqM .eql zf (.tmp 15) (.tmp 16) (Value.agg t15) (Value.agg t16)) .bool w_3 fun (t17:Bool)=>
  xq t17 (
  R (.returned (Value.bool true)) w_3) (
  zbl .i64 s 1 fun t11=>
  k t11 w_3)) (
  R (.returned (Value.bool false)) w_2)) 0 w_1
theorem z7s {l:Option Addr}{l_l l_c:Nat}{d:Value}{R:Ending->World->Prop}{w:World}(hT:zzu l l_l l_c d R w):qc P zun #[(Value.slice l l_l l_c),d] w R:=
 fnT (.seq .leaf (.seq (.seq .leaf (.blk (.loop [(5,.int .i64)] (.seq (.seq .leaf (.cond .leaf .leaf)) (.seq (.blk (.seq (.tree (.op 0 [] (.op 1 [] (.op 2 [] (.op 3 [] (.op 4 [] (.op 5 [] .done))))))) (.cond (.seq .leaf .leaf) .leaf))) .leaf))))) (.seq .leaf .leaf))) Tryz.func81 hT
def zg1 (p:Value) (c0:Option Addr) (R:Ending->World->Prop) (w:World):Prop:=
  zbk (Value.cells p) zo w fun b2 w_1=>
  ldA P 32 (⟨b2,0,none⟩:Addr) w_1 fun t5=>
  zl c0 fun p_1=>
  ldA P 32 p_1 w_1 fun t6=>
  za7 P (eqM .eql zf (.tmp 5) (.tmp 6) (Value.agg t5) (Value.agg t6)) .bool w_1 fun (t7:Bool)=>
  R (.returned (Value.bool t7)) w_1
theorem zkf {p:Value}{c0:Option Addr}{R:Ending->World->Prop}{w:World}(hT:zg1 p c0 R w):qc P zdh #[p,(Value.pointer c0)] w R:=
 fnT (.seq .leaf (.seq .leaf .leaf)) Tryz.func83 hT
def zb1 (s:Option Addr) (s_l s_c:Nat) (f:Value) (R:Ending->World->Prop) (w:World):Prop:=
  qw P zau #[(Value.slice s s_l s_c),f] [.int .i64] false w fun (t7:Int) w_1=>
  R (.returned (Value.bool (decide (t7>=0)))) w_1
theorem zd4 {s:Option Addr}{s_l s_c:Nat}{f:Value}{R:Ending->World->Prop}{w:World}(hT:zb1 s s_l s_c f R w):qc P za8 #[(Value.slice s s_l s_c),f] w R:=
 fnT (.seq .leaf (.seq .leaf .leaf)) Tryz.func84 hT
def zcl (s:Option Addr) (s_l s_c:Nat) (v:Value) (R:Ending->World->Prop) (w:World):Prop:=
  zbk (Value.cells v) zo w fun b3 w_1=>
  ldA P 33 (⟨b3,0,none⟩:Addr) w_1 fun t6=>
  qw P zbt #[(Value.slice s s_l s_c),(Value.agg t6)] [.int .i64] false w_1 fun (t7:Int) w_2=>
  R (.returned (Value.bool (decide (t7>=0)))) w_2
theorem ze3 {s:Option Addr}{s_l s_c:Nat}{v:Value}{R:Ending->World->Prop}{w:World}(hT:zcl s s_l s_c v R w):qc P zbi #[(Value.slice s s_l s_c),v] w R:=
 fnT (.seq .leaf (.seq .leaf .leaf)) Tryz.func86 hT
def zb8 (s:Option Addr) (s_l s_c:Nat) (del:Value) (R:Ending->World->Prop) (w:World):Prop:=
  qw P zau #[(Value.slice s s_l s_c),del] [.int .i64] false w fun (t10:Int) w_1=>
  xq (t10==(-1)) (
  R (.returned (Value.slice s s_l s_c)) w_1) (
  zbl .i64 t10 1 fun t15=>
  za0 (Int×Int) (fun s_1 w_2 k=>
  xq (decide (s_1.2 < (s_l:Int))) (
  jw Int (fun k_1=>
  ixS s s_l 33 s_1.2 fun t24=>
  ldA P 33 t24 w_2 fun t25=>
  zbk (zc P zo) zo w_2 fun b7 w_3=>
  zbz P (storeVar zo (⟨b7,0,none⟩:Addr) (Value.agg t25)) w_3 fun w_4=>
  ldA P 33 (⟨b7,0,none⟩:Addr) w_4 fun t27=>
  zrh P del #[(Value.agg t27)] [.bool] false w_4 fun (t28:Bool) w_5=>
  xq (!t28) (
  ldA P 33 (⟨b7,0,none⟩:Addr) w_5 fun t32=>
  ixS s s_l 33 s_1.1 fun t33=>
  zbz P (storeVar zo t33 (Value.agg t32)) w_5 fun w_6=>
  zbl .i64 s_1.1 1 fun t35=>
  k_1 t35 w_6) (
  k_1 s_1.1 w_5)) (fun s_2 w_7=>
  zbl .i64 s_1.2 1 fun t21=>
  k (s_2,t21) w_7)) (
  za7 P (Instr.sliceAt vk (Value.slice s s_l s_c) (some (Value.int .i64 s_1.1)) none none) .slc w_2 fun (t38:(Option Addr×Nat×Nat))=>
  zas P (Builtin.clear_ #[vk] zd0 #[(Value.slice t38.1 t38.2.1 t38.2.2)]) .any w_2 fun (_:Value) w_8=>
  za7 P (Instr.sliceAt vk (Value.slice s s_l s_c) none (some (Value.int .i64 s_1.1)) none) .slc w_8 fun (t41:(Option Addr×Nat×Nat))=>
  R (.returned (Value.slice t41.1 t41.2.1 t41.2.2)) w_8)) (t10,t15) w_1)
theorem zeg {s:Option Addr}{s_l s_c:Nat}{del:Value}{R:Ending->World->Prop}{w:World}(hT:zb8 s s_l s_c del R w):qc P zbe #[(Value.slice s s_l s_c),del] w R:=
 fnT (.seq .leaf (.seq .leaf (.seq (.seq .leaf (.cond (.seq .leaf .leaf) .leaf)) (.seq (.seq .leaf (.blk (.loop [(5,.int .i64),(6,.int .i64)] (.seq (.seq .leaf (.cond .leaf .leaf)) (.seq (.jblk [(5,.int .i64)] (.seq .leaf (.seq .leaf (.cond (.seq .leaf .leaf) .leaf)))) .leaf))))) (.seq .leaf (.seq .leaf .leaf)))))) Tryz.func87 hT
def zih (c:Option Addr) (n:Value) (R:Ending->World->Prop) (w:World):Prop:=
  zbk (Value.cells n) zh w fun b3 w_1=>
  ldA P 5 (⟨b3,0,none⟩:Addr) w_1 fun t6=>
  qw P zo4 #[(Value.agg t6)] [.slc] false w_1 fun (t7:(Option Addr×Nat×Nat)) w_2=>
  za0 Int (fun s w_3 k=>
  xq (decide (s < (t7.2.1:Int))) (
  ixS t7.1 t7.2.1 34 s fun t11=>
  ldA P 34 t11 w_3 fun t12=>
  zbk (zc P zx) zx w_3 fun b5 w_4=>
  zbz P (storeVar zx (⟨b5,0,none⟩:Addr) (Value.agg t12)) w_4 fun w_5=>
  ldA P 32 (⟨b5,2,none⟩:Addr) w_5 fun t15=>
  ld (.int .i64) (⟨b5,1,none⟩:Addr) w_5 fun (t17:Int)=>
  za7 P (Instr.build zo #[(0,(Value.agg t15)),(1,(Value.int .i64 t17))]) .any w_5 fun (t18:Value)=>
  qw P zd6 #[(Value.pointer c),t18] [] true w_5 fun (_:Unit) w_6=>
  zbl .i64 s 1 fun t20=>
  k t20 w_6) (
  R (.returned (Value.tuple #[])) w_3)) 0 w_2
theorem zmj {c:Option Addr}{n:Value}{R:Ending->World->Prop}{w:World}(hT:zih c n R w):qc P zda #[(Value.pointer c),n] w R:=
 fnT (.seq .leaf (.seq .leaf (.blk (.loop [(9,.int .i64)] (.seq .leaf (.seq (.cond .leaf .leaf) (.seq (.blk (.seq .leaf .leaf)) .leaf))))))) Tryz.func88 hT
def z4f (l:Option Addr) (l_l l_c:Nat) (p:Value) (R:Ending->World->Prop) (w:World):Prop:=
  zbk (Value.cells p) qm w fun b3 w_1=>
  za0 Int (fun s w_2 k=>
  xq (decide (s < (l_l:Int))) (
  za6 w_2 fun w_3=>
  ixS l l_l 33 s fun t14=>
  ldA P 33 t14 w_3 fun t15=>
  ldA P 33 (⟨b3,0,none⟩:Addr) w_3 fun t16=>
  za7 P (eqM .eql qm (.tmp 15) (.tmp 16) (Value.agg t15) (Value.agg t16)) .bool w_3 fun (t17:Bool)=>
  xq t17 (
  R (.returned (Value.bool true)) w_3) (
  zbl .i64 s 1 fun t11=>
  k t11 w_3)) (
  R (.returned (Value.bool false)) w_2)) 0 w_1
theorem z99 {l:Option Addr}{l_l l_c:Nat}{p:Value}{R:Ending->World->Prop}{w:World}(hT:z4f l l_l l_c p R w):qc P zto #[(Value.slice l l_l l_c),p] w R:=
 fnT (.seq .leaf (.seq (.seq .leaf (.blk (.loop [(5,.int .i64)] (.seq (.seq .leaf (.cond .leaf .leaf)) (.seq (.blk (.seq (.tree (.op 0 [] (.op 1 [] (.op 2 [] (.op 3 [] (.op 4 [] (.op 5 [] .done))))))) (.cond (.seq .leaf .leaf) .leaf))) .leaf))))) (.seq .leaf .leaf))) Tryz.func90 hT
def ztz (n:Value) (R:Ending->World->Prop) (w:World):Prop:=
  zbk (Value.cells n) zh w fun b1 w_1=>
  ldA P 5 (⟨b1,0,none⟩:Addr) w_1 fun t6=>
  qw P zq3 #[(Value.agg t6)] [.slc] false w_1 fun (t7:(Option Addr×Nat×Nat)) w_2=>
  za0 ((Option Addr×Nat×Nat)×Int) (fun s w_3 k=>
  xq (decide (s.2 < (t7.2.1:Int))) (
  za6 w_3 fun w_4=>
  ixS t7.1 t7.2.1 34 s.2 fun t17=>
  ixS t7.1 t7.2.1 34 s.2 fun t22=>
  ldA P 32 (Addr.add t17 2) w_4 fun t19=>
  ld (.int .i64) (Addr.add t22 1) w_4 fun (t24:Int)=>
  za7 P (Instr.build qm #[(0,(Value.agg t19)),(1,(Value.int .i64 t24))]) .any w_4 fun (t25:Value)=>
  zas P (Instr.buildSlice qy 1 #[(0,t25)]) .slc w_4 fun (t26:(Option Addr×Nat×Nat)) w_5=>
  zas P (Builtin.append_ #[qy,qy] qy #[(Value.slice s.1.1 s.1.2.1 s.1.2.2),(Value.slice t26.1 t26.2.1 t26.2.2)]) .slc w_5 fun (t27:(Option Addr×Nat×Nat)) w_6=>
  zbl .i64 s.2 1 fun t13=>
  k ((t27.1,t27.2.1,t27.2.2),t13) w_6) (
  R (.returned (Value.slice s.1.1 s.1.2.1 s.1.2.2)) w_3)) ((none,0,0),0) w_2
theorem z0i {n:Value}{R:Ending->World->Prop}{w:World}(hT:ztz n R w):qc P zk0 #[n] w R:=
 fnT (.seq .leaf (.seq .leaf (.seq .leaf (.seq (.seq .leaf (.blk (.loop [(3,.slc),(5,.int .i64)] (.seq (.seq .leaf (.cond .leaf .leaf)) (.seq (.blk (.tree (.op 0 [] (.op 1 [] (.op 2 [] (.op 3 [] (.op 4 [] (.op 6 [] (.op 7 [] (.op 8 [] (.op 9 [] (.op 5 [] (.op 10 [] (.op 11 [] (.op 12 [] (.op 13 [] (.op 14 [] .done))))))))))))))))) .leaf))))) (.seq .leaf .leaf))))) Tryz.func91 hT
def zcc (s:Option Addr) (s_l s_c:Nat) (f:Value) (R:Ending->World->Prop) (w:World):Prop:=
  za0 Int (fun s_1 w_1 k=>
  xq (decide (s_1 < (s_l:Int))) (
  ixS s s_l 33 s_1 fun t14=>
  ldA P 33 t14 w_1 fun t15=>
  zrh P f #[(Value.agg t15)] [.bool] false w_1 fun (t16:Bool) w_2=>
  xq t16 (
  R (.returned (Value.int .i64 s_1)) w_2) (
  zbl .i64 s_1 1 fun t18=>
  k t18 w_2)) (
  R (.returned (Value.int .i64 (-1))) w_1)) 0 w
theorem zer {s:Option Addr}{s_l s_c:Nat}{f:Value}{R:Ending->World->Prop}{w:World}(hT:zcc s s_l s_c f R w):qc P zau #[(Value.slice s s_l s_c),f] w R:=
 fnT (.seq .leaf (.seq (.seq .leaf (.blk (.loop [(8,.int .i64)] (.seq .leaf (.seq (.cond .leaf .leaf) (.seq (.blk (.seq .leaf (.seq .leaf (.cond (.seq .leaf .leaf) .leaf)))) .leaf)))))) (.seq .leaf .leaf))) Tryz.func136 hT
def zc3 (s:Option Addr) (s_l s_c:Nat) (v:Value) (R:Ending->World->Prop) (w:World):Prop:=
  zbk (Value.cells v) zo w fun b3 w_1=>
  za0 Int (fun s_1 w_2 k=>
  xq (decide (s_1 < (s_l:Int))) (
  za6 w_2 fun w_3=>
  ixS s s_l 33 s_1 fun t14=>
  ldA P 33 (⟨b3,0,none⟩:Addr) w_3 fun t11=>
  ldA P 33 t14 w_3 fun t15=>
  za7 P (eqM .eql zo (.tmp 11) (.tmp 15) (Value.agg t11) (Value.agg t15)) .bool w_3 fun (t16:Bool)=>
  xq t16 (
  R (.returned (Value.int .i64 s_1)) w_3) (
  zbl .i64 s_1 1 fun t18=>
  k t18 w_3)) (
  R (.returned (Value.int .i64 (-1))) w_2)) 0 w_1
theorem zfe {s:Option Addr}{s_l s_c:Nat}{v:Value}{R:Ending->World->Prop}{w:World}(hT:zc3 s s_l s_c v R w):qc P zbt #[(Value.slice s s_l s_c),v] w R:=
 fnT (.seq .leaf (.seq (.seq .leaf (.blk (.loop [(8,.int .i64)] (.seq .leaf (.seq (.cond .leaf .leaf) (.seq (.blk (.seq .leaf (.seq (.tree (.op 1 [] (.op 2 [] (.op 3 [] (.op 0 [] (.op 4 [] (.op 5 [] .done))))))) (.cond (.seq .leaf .leaf) .leaf)))) .leaf)))))) (.seq .leaf .leaf))) Tryz.func141 hT
end Go.Proofs.YtbmegmbnlajbbaaGreatDoor
