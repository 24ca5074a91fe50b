/- Part 3 of the texts below the card, joined. -/
import Derived.Test.YtbmegmbnlajbbaaGreatDoorTCeb
import Derived.Test.YtbmegmbnlajbbaaGreatDoorTCea
namespace Go.Proofs.YtbmegmbnlajbbaaGreatDoor
open Go Go.Fw Go.Proofs
set_option maxRecDepth 100000
def zqv:Ann:=(.seq .leaf (.seq (.seq .leaf (.cond (.seq .leaf .leaf) .leaf)) (.seq (.seq .leaf (.cond (.seq .leaf .leaf) .leaf)) (.seq (.seq .leaf (.cond (.join [] (.seq .leaf (.cond (.seq .leaf .leaf) .leaf)) (.seq .leaf (.seq (.seq .leaf (.blk (.loop [(3,.int .i64),(4,.int .i64)] (.seq (.seq .leaf (.cond .leaf .leaf)) (.seq (.blk .leaf) .leaf))))) (.seq .leaf .leaf)))) .leaf)) (.join [] (.seq .leaf (.cond (.seq .leaf .leaf) .leaf)) (.seq (.seq .leaf (.blk (.loop [(5,.int .i64)] (.seq (.seq .leaf (.cond .leaf .leaf)) (.join [] (.jblk [] (.seq .leaf (.seq (.tree (.op 0 [] (.op 1 [] (.op 2 [] (.op 3 [] (.op 4 [] (.op 5 [] (.op 6 [] (.op 7 [] (.op 8 [] (.op 9 [] (.op 10 [] (.op 11 [] (.op 12 [] (.op 13 [] (.op 14 [] (.op 15 [] (.op 16 [] (.op 17 [] (.op 18 [] (.op 20 [] (.op 21 [] (.op 25 [] (.op 19 [] (.op 22 [] (.op 23 [] (.op 24 [] (.op 26 [] (.op 27 [] (.op 28 [] (.op 29 [] .done))))))))))))))))))))))))))))))) (.cond (.seq .leaf .leaf) .leaf)))) .leaf))))) (.seq .leaf .leaf)))))))
theorem qcf:okC P qs Tryz.f72.ntmps ((Tryz.f72.body).getD .skip) zqv=true:=by kernel_rfl
def zuw (n:Value) (R:Ending->World->Prop) (w:World):Prop:=
  zby (Value.cells n) zh w fun b1 w_1=>
  ld (.int .i64) (⟨b1,0,none⟩:Addr) w_1 fun (t8:Int)=>
  xq (t8==1) (
  ld .str (⟨b1,1,none⟩:Addr) w_1 fun (t11:ByteArray)=>
  xq (decide ((t11.size:Int)>=1)) (
  ld .str (⟨b1,1,none⟩:Addr) w_1 fun (t16:ByteArray)=>
  xq (decide ((t16.size:Int)<=64)) (
  ld (.int .i64) (⟨b1,2,none⟩:Addr) w_1 fun (t22:Int)=>
  xq (t22==0) (
  ld .slc (⟨b1,3,none⟩:Addr) w_1 fun (t27:(Option Addr×Nat×Nat))=>
  xq ((t27.2.1:Int)==0) (
  ld .slc (⟨b1,4,none⟩:Addr) w_1 fun (t33:(Option Addr×Nat×Nat))=>
  R (.returned (Value.bool ((t33.2.1:Int)==0))) w_1) (
  R (.returned (Value.bool false)) w_1)) (
  R (.returned (Value.bool false)) w_1)) (
  R (.returned (Value.bool false)) w_1)) (
  R (.returned (Value.bool false)) w_1)) (
  ld .str (⟨b1,1,none⟩:Addr) w_1 fun (t38:ByteArray)=>
  xq (!(t38.toList==(ByteArray.mk #[]).toList)) (
  R (.returned (Value.bool false)) w_1) (
  ld (.int .i64) (⟨b1,0,none⟩:Addr) w_1 fun (t41:Int)=>
  xq (t41==2) (
  ku Unit (fun k=>
  ld (.int .i64) (⟨b1,2,none⟩:Addr) w_1 fun (t44:Int)=>
  xq (decide (t44 < 0)) (
  R (.returned (Value.bool false)) w_1) (
  ld (.int .i64) (⟨b1,2,none⟩:Addr) w_1 fun (t48:Int)=>
  xq (decide (t48 > 1024)) (
  R (.returned (Value.bool false)) w_1) (
  ld .slc (⟨b1,4,none⟩:Addr) w_1 fun (t53:(Option Addr×Nat×Nat))=>
  xq ((t53.2.1:Int) != 0) (
  R (.returned (Value.bool false)) w_1) (
  k () w_1)))) (fun _ w_2=>
  ld (.int .i64) (⟨b1,2,none⟩:Addr) w_2 fun (t58:Int)=>
  za7 (Int×Int) (fun s_1 w_3 k_1=>
  xq (decide (s_1.2 > 0)) (
  zb6 .i64 s_1.1 1 fun t64=>
  zqa .i64 s_1.2 64 fun t62=>
  k_1 (t64,t62) w_3) (
  ld .slc (⟨b1,3,none⟩:Addr) w_3 fun (t66:(Option Addr×Nat×Nat))=>
  R (.returned (Value.bool ((t66.2.1:Int)==s_1.1))) w_3)) (0,t58) w_2)) (
  ku Unit (fun k_2=>
  ld (.int .i64) (⟨b1,0,none⟩:Addr) w_1 fun (t71:Int)=>
  xq (t71 != 3) (
  R (.returned (Value.bool false)) w_1) (
  ld (.int .i64) (⟨b1,2,none⟩:Addr) w_1 fun (t75:Int)=>
  xq (t75 != 0) (
  R (.returned (Value.bool false)) w_1) (
  ld .slc (⟨b1,3,none⟩:Addr) w_1 fun (t80:(Option Addr×Nat×Nat))=>
  xq ((t80.2.1:Int) != 0) (
  R (.returned (Value.bool false)) w_1) (
  ld .slc (⟨b1,4,none⟩:Addr) w_1 fun (t86:(Option Addr×Nat×Nat))=>
  xq (decide ((t86.2.1:Int) > 64)) (
  R (.returned (Value.bool false)) w_1) (
  k_2 () w_1))))) (fun _ w_4=>
  za7 Int (fun s_3 w_5 k_3=>
  ld .slc (⟨b1,4,none⟩:Addr) w_5 fun (t92:(Option Addr×Nat×Nat))=>
  xq (decide (s_3 < (t92.2.1:Int))) (
  ku Unit (fun k_4=>
  ku Unit (fun k_5=>
  ld .slc (⟨b1,4,none⟩:Addr) w_5 fun (t98:(Option Addr×Nat×Nat))=>
  ixS t98.1 t98.2.1 34 s_3 fun t100=>
  ldA P 34 t100 w_5 fun t101=>
  zby (zc P zy) zy w_5 fun b6 w_6=>
  zcj P (storeVar zy (⟨b6,0,none⟩:Addr) (Value.agg t101)) w_6 fun w_7=>
  zbs w_7 fun w_8=>
  ld .str (⟨b6,0,none⟩:Addr) w_8 fun (t103:ByteArray)=>
  xg P zyu #[(Value.string t103)] [.bool] false w_8 fun (t104:Bool) w_9=>
  xq (!t104) (
  R (.returned (Value.bool false)) w_9) (
  ld (.int .i64) (⟨b6,1,none⟩:Addr) w_9 fun (t108:Int)=>
  xq (t108 != 2) (
  ld (.int .i64) (⟨b6,1,none⟩:Addr) w_9 fun (t112:Int)=>
  xq (t112 != 3) (
  R (.returned (Value.bool false)) w_9) (
  xq (decide (s_3 > 0)) (
  zqa .i64 s_3 1 fun t123=>
  ld .slc (⟨b1,4,none⟩:Addr) w_9 fun (t121:(Option Addr×Nat×Nat))=>
  ixS t121.1 t121.2.1 34 t123 fun t124=>
  ld .str t124 w_9 fun (t126:ByteArray)=>
  ld .str (⟨b6,0,none⟩:Addr) w_9 fun (t128:ByteArray)=>
  xq (!(Op.bytesLess t126.toList t128.toList)) (
  R (.returned (Value.bool false)) w_9) (
  k_5 () w_9)) (
  k_5 () w_9))) (
  xq (decide (s_3 > 0)) (
  zqa .i64 s_3 1 fun t123_1=>
  ld .slc (⟨b1,4,none⟩:Addr) w_9 fun (t121_1:(Option Addr×Nat×Nat))=>
  ixS t121_1.1 t121_1.2.1 34 t123_1 fun t124_1=>
  ld .str t124_1 w_9 fun (t126_1:ByteArray)=>
  ld .str (⟨b6,0,none⟩:Addr) w_9 fun (t128_1:ByteArray)=>
  xq (!(Op.bytesLess t126_1.toList t128_1.toList)) (
  R (.returned (Value.bool false)) w_9) (
  k_5 () w_9)) (
  k_5 () w_9)))) (fun _ w_10=>
  k_4 () w_10)) (fun _ w_11=>
  zb6 .i64 s_3 1 fun t96=>
  k_3 t96 w_11)) (
  R (.returned (Value.bool true)) w_5)) 0 w_4))))
theorem qbn (n:Value) (R:Ending->World->Prop) (w:World):tr P qs ((Tryz.f72.body).getD .skip) zqv (zch 0 [(1,n)]) (zck P Tryz.f72.results.toList R) w=zuw n R w:=by kernel_rfl
theorem qbe {n:Value}{R:Ending->World->Prop}{w:World}(hT:zuw n R w):qg P zp2 #[n] w R:=
 zx (fn:=Tryz.f72) (c:=(Tryz.f72.body).getD .skip) (ann:=zqv) (args:=[(1,n)]) (qs:=qs) mixed Tryz.func72 rfl (by kernel_rfl) (by kernel_rfl) qcf ((qbn n R w).symm▸hT)
def znw:Ann:=(.seq .leaf (.seq .leaf (.seq (.seq .leaf (.cond (.seq .leaf .leaf) .leaf)) (.seq (.seq .leaf (.cond (.seq .leaf (.seq (.seq .leaf (.blk (.loop [(3,.slc),(4,.int .i64)] (.seq (.seq .leaf (.cond .leaf .leaf)) (.seq (.blk .leaf) .leaf))))) (.seq .leaf .leaf))) .leaf)) (.seq .leaf (.seq (.seq .leaf (.blk (.loop [(3,.slc),(5,.int .i64)] (.seq (.seq .leaf (.cond .leaf .leaf)) (.seq (.blk (.seq .leaf (.seq .leaf .leaf))) .leaf))))) (.seq .leaf .leaf)))))))
theorem z7z:okC P qs Tryz.f73.ntmps ((Tryz.f73.body).getD .skip) znw=true:=by kernel_rfl
def zrq (n:Value) (R:Ending->World->Prop) (w:World):Prop:=
  zby (Value.cells n) zh w fun b1 w_1=>
  ld (.int .i64) (⟨b1,0,none⟩:Addr) w_1 fun (t7:Int)=>
  cvI .u64 t7 fun t8=>
  xg P zm9 #[(Value.int .u64 t8)] [.slc] false w_1 fun (t9:(Option Addr×Nat×Nat)) w_2=>
  ld (.int .i64) (⟨b1,0,none⟩:Addr) w_2 fun (t11:Int)=>
  xq (t11==1) (
  ld .str (⟨b1,1,none⟩:Addr) w_2 fun (t15:ByteArray)=>
  xg P ztq #[(Value.string t15)] [.slc] false w_2 fun (t16:(Option Addr×Nat×Nat)) w_3=>
  za1 P (Builtin.append_ #[zi,zi] zi #[(Value.slice t9.1 t9.2.1 t9.2.2),(Value.slice t16.1 t16.2.1 t16.2.2)]) .slc w_3 fun (t17:(Option Addr×Nat×Nat)) w_4=>
  R (.returned (Value.slice t17.1 t17.2.1 t17.2.2)) w_4) (
  ld (.int .i64) (⟨b1,0,none⟩:Addr) w_2 fun (t19:Int)=>
  xq (t19==2) (
  ld (.int .i64) (⟨b1,2,none⟩:Addr) w_2 fun (t23:Int)=>
  cvI .u64 t23 fun t24=>
  xg P zm9 #[(Value.int .u64 t24)] [.slc] false w_2 fun (t25:(Option Addr×Nat×Nat)) w_5=>
  za1 P (Builtin.append_ #[zi,zi] zi #[(Value.slice t9.1 t9.2.1 t9.2.2),(Value.slice t25.1 t25.2.1 t25.2.2)]) .slc w_5 fun (t26:(Option Addr×Nat×Nat)) w_6=>
  za7 ((Option Addr×Nat×Nat)×Int) (fun s w_7 k=>
  ld .slc (⟨b1,3,none⟩:Addr) w_7 fun (t29:(Option Addr×Nat×Nat))=>
  xq (decide (s.2 < (t29.2.1:Int))) (
  ld .slc (⟨b1,3,none⟩:Addr) w_7 fun (t36:(Option Addr×Nat×Nat))=>
  ixS t36.1 t36.2.1 32 s.2 fun t38=>
  zbc P (Instr.sliceAt zf (Value.pointer (some t38)) none none none) .slc w_7 fun (t39:(Option Addr×Nat×Nat))=>
  za1 P (Builtin.append_ #[zi,zi] zi #[(Value.slice s.1.1 s.1.2.1 s.1.2.2),(Value.slice t39.1 t39.2.1 t39.2.2)]) .slc w_7 fun (t40:(Option Addr×Nat×Nat)) w_8=>
  zb6 .i64 s.2 1 fun t33=>
  k ((t40.1,t40.2.1,t40.2.2),t33) w_8) (
  R (.returned (Value.slice s.1.1 s.1.2.1 s.1.2.2)) w_7)) ((t26.1,t26.2.1,t26.2.2),0) w_6) (
  ld .slc (⟨b1,4,none⟩:Addr) w_2 fun (t44:(Option Addr×Nat×Nat))=>
  cvI .u64 (t44.2.1:Int) fun t46=>
  xg P zm9 #[(Value.int .u64 t46)] [.slc] false w_2 fun (t47:(Option Addr×Nat×Nat)) w_9=>
  za1 P (Builtin.append_ #[zi,zi] zi #[(Value.slice t9.1 t9.2.1 t9.2.2),(Value.slice t47.1 t47.2.1 t47.2.2)]) .slc w_9 fun (t48:(Option Addr×Nat×Nat)) w_10=>
  za7 ((Option Addr×Nat×Nat)×Int) (fun s_1 w_11 k_1=>
  ld .slc (⟨b1,4,none⟩:Addr) w_11 fun (t51:(Option Addr×Nat×Nat))=>
  xq (decide (s_1.2 < (t51.2.1:Int))) (
  ld .slc (⟨b1,4,none⟩:Addr) w_11 fun (t58:(Option Addr×Nat×Nat))=>
  ixS t58.1 t58.2.1 34 s_1.2 fun t60=>
  ld .str t60 w_11 fun (t62:ByteArray)=>
  xg P ztq #[(Value.string t62)] [.slc] false w_11 fun (t63:(Option Addr×Nat×Nat)) w_12=>
  za1 P (Builtin.append_ #[zi,zi] zi #[(Value.slice s_1.1.1 s_1.1.2.1 s_1.1.2.2),(Value.slice t63.1 t63.2.1 t63.2.2)]) .slc w_12 fun (t64:(Option Addr×Nat×Nat)) w_13=>
  ld .slc (⟨b1,4,none⟩:Addr) w_13 fun (t67:(Option Addr×Nat×Nat))=>
  ixS t67.1 t67.2.1 34 s_1.2 fun t69=>
  ld (.int .i64) (Addr.add t69 1) w_13 fun (t71:Int)=>
  cvI .u64 t71 fun t72=>
  xg P zm9 #[(Value.int .u64 t72)] [.slc] false w_13 fun (t73:(Option Addr×Nat×Nat)) w_14=>
  za1 P (Builtin.append_ #[zi,zi] zi #[(Value.slice t64.1 t64.2.1 t64.2.2),(Value.slice t73.1 t73.2.1 t73.2.2)]) .slc w_14 fun (t74:(Option Addr×Nat×Nat)) w_15=>
  ld .slc (⟨b1,4,none⟩:Addr) w_15 fun (t77:(Option Addr×Nat×Nat))=>
  ixS t77.1 t77.2.1 34 s_1.2 fun t79=>
  zbc P (Instr.sliceAt zf (Value.pointer (some (Addr.add t79 2))) none none none) .slc w_15 fun (t81:(Option Addr×Nat×Nat))=>
  za1 P (Builtin.append_ #[zi,zi] zi #[(Value.slice t74.1 t74.2.1 t74.2.2),(Value.slice t81.1 t81.2.1 t81.2.2)]) .slc w_15 fun (t82:(Option Addr×Nat×Nat)) w_16=>
  zb6 .i64 s_1.2 1 fun t55=>
  k_1 ((t82.1,t82.2.1,t82.2.2),t55) w_16) (
  R (.returned (Value.slice s_1.1.1 s_1.1.2.1 s_1.1.2.2)) w_11)) ((t48.1,t48.2.1,t48.2.2),0) w_10))
theorem z8s (n:Value) (R:Ending->World->Prop) (w:World):tr P qs ((Tryz.f73.body).getD .skip) znw (zch 0 [(1,n)]) (zck P Tryz.f73.results.toList R) w=zrq n R w:=by kernel_rfl
theorem z9x {n:Value}{R:Ending->World->Prop}{w:World}(hT:zrq n R w):qg P zsv #[n] w R:=
 zx (fn:=Tryz.f73) (c:=(Tryz.f73.body).getD .skip) (ann:=znw) (args:=[(1,n)]) (qs:=qs) mixed Tryz.func73 rfl (by kernel_rfl) (by kernel_rfl) z7z ((z8s n R w).symm▸hT)
def zmo:Ann:=(.seq .leaf (.seq .leaf (.seq .leaf (.join [] (.seq .leaf (.cond (.seq .leaf .leaf) .leaf)) (.seq .leaf .leaf)))))
theorem z4l:okC P qs Tryz.f85.ntmps ((Tryz.f85.body).getD .skip) zmo=true:=by kernel_rfl
def zpo (b:Option Addr) (b_l b_c:Nat) (R:Ending->World->Prop) (w:World):Prop:=
  zby (zc P zh) zh w fun b2 w_1=>
  xg P zu9 #[(Value.slice b b_l b_c)] [.ptr] false w_1 fun (t7:(Option Addr)) w_2=>
  xg P zuo #[(Value.pointer t7)] [.any] false w_2 fun (t9:Value) w_3=>
  zby (zc P zh) zh w_3 fun b5 w_4=>
  zcj P (storeVar zh (⟨b5,0,none⟩:Addr) t9) w_4 fun w_5=>
  ku Unit (fun k=>
  xg P zqd #[(Value.pointer t7)] [.bool] false w_5 fun (t11:Bool) w_6=>
  xq (!t11) (
  zbc P (Instr.build zh #[]) .any w_6 fun (t18:Value)=>
  zcj P (storeVar zh (⟨b2,0,none⟩:Addr) t18) w_6 fun w_7=>
  ldA P 5 (⟨b2,0,none⟩:Addr) w_7 fun t2=>
  R (.returned (Value.tuple #[(Value.agg t2),(Value.int .i64 21)])) w_7) (
  ldA P 5 (⟨b5,0,none⟩:Addr) w_6 fun t14=>
  xg P znq #[(Value.agg t14)] [.bool] false w_6 fun (t15:Bool) w_8=>
  xq (!t15) (
  zbc P (Instr.build zh #[]) .any w_8 fun (t18_1:Value)=>
  zcj P (storeVar zh (⟨b2,0,none⟩:Addr) t18_1) w_8 fun w_9=>
  ldA P 5 (⟨b2,0,none⟩:Addr) w_9 fun t2_1=>
  R (.returned (Value.tuple #[(Value.agg t2_1),(Value.int .i64 21)])) w_9) (
  k () w_8))) (fun _ w_10=>
  ldA P 5 (⟨b5,0,none⟩:Addr) w_10 fun t19=>
  zcj P (storeVar zh (⟨b2,0,none⟩:Addr) (Value.agg t19)) w_10 fun w_11=>
  ldA P 5 (⟨b2,0,none⟩:Addr) w_11 fun t2_2=>
  R (.returned (Value.tuple #[(Value.agg t2_2),(Value.int .i64 0)])) w_11)
theorem z5f (b:Option Addr) (b_l b_c:Nat) (R:Ending->World->Prop) (w:World):tr P qs ((Tryz.f85.body).getD .skip) zmo (zch 0 [(0,(Value.slice b b_l b_c))]) (zck P Tryz.f85.results.toList R) w=zpo b b_l b_c R w:=by kernel_rfl
theorem z4w {b:Option Addr}{b_l b_c:Nat}{R:Ending->World->Prop}{w:World}(hT:zpo b b_l b_c R w):qg P zg9 #[(Value.slice b b_l b_c)] w R:=
 zx (fn:=Tryz.f85) (c:=(Tryz.f85.body).getD .skip) (ann:=zmo) (args:=[(0,(Value.slice b b_l b_c))]) (qs:=qs) mixed Tryz.func85 rfl (by kernel_rfl) (by kernel_rfl) z4l ((z5f b b_l b_c R w).symm▸hT)
def zoh:Ann:=(.seq .leaf (.seq .leaf (.seq .leaf (.seq .leaf (.join [] (.seq .leaf (.jblk [] (.seq .leaf (.cond (.seq .leaf .leaf) (.seq .leaf (.cond (.seq .leaf (.seq .leaf (.seq (.seq .leaf (.cond (.seq .leaf .leaf) .leaf)) (.seq .leaf (.seq .leaf (.blk (.loop [(8,.int .i64)] (.seq (.seq .leaf (.cond .leaf .leaf)) (.seq (.blk (.tree (.op 0 [] (.op 2 [] (.op 1 [] (.op 3 [1] (.op 4 [1] (.op 5 [] (.op 6 [] (.op 7 [] .done)))))))))) .leaf))))))))) (.seq .leaf (.cond (.seq .leaf (.seq .leaf (.seq (.seq .leaf (.cond (.seq .leaf .leaf) .leaf)) (.seq .leaf (.blk (.loop [(10,.int .i64)] (.seq (.seq .leaf (.cond .leaf .leaf)) (.seq (.blk (.seq .leaf (.seq .leaf (.seq (.seq .leaf (.cond (.seq .leaf .leaf) .leaf)) (.tree (.op 0 [] (.op 2 [] (.op 3 [] (.op 4 [] (.op 5 [] (.op 1 [] (.op 6 [1] (.op 7 [] (.op 8 [1] (.op 9 [] (.op 10 [] (.op 11 [] .done))))))))))))))))) .leaf)))))))) .leaf)))))))) (.join [] (.seq .leaf (.cond (.seq .leaf .leaf) .leaf)) (.seq .leaf .leaf)))))))
theorem z8i:okC P qs Tryz.f89.ntmps ((Tryz.f89.body).getD .skip) zoh=true:=by kernel_rfl
def zsa (b:Option Addr) (b_l b_c:Nat) (R:Ending->World->Prop) (w:World):Prop:=
  zby (zc P zh) zh w fun b2 w_1=>
  zbc P (Instr.build zto #[(0,(Value.slice b b_l b_c))]) .any w_1 fun (t14:Value)=>
  zby (Value.cells t14) zto w_1 fun b15 w_2=>
  zbc P (Instr.build zh #[]) .any w_2 fun (t16:Value)=>
  zby (zc P zh) zh w_2 fun b5 w_3=>
  zcj P (storeVar zh (⟨b5,0,none⟩:Addr) t16) w_3 fun w_4=>
  xg P zgv #[(Value.pointer (some (⟨b15,0,none⟩:Addr)))] [.int .u64] false w_4 fun (t18:Int) w_5=>
  ku Unit (fun k=>
  ku Unit (fun k_1=>
  xq (t18==1) (
  stC (⟨b5,0,none⟩:Addr) (Value.int .i64 1) w_5 fun w_6=>
  xg P zlt #[(Value.pointer (some (⟨b15,0,none⟩:Addr))),(Value.int .i64 64)] [.str] false w_6 fun (t24:ByteArray) w_7=>
  stC (⟨b5,1,none⟩:Addr) (Value.string t24) w_7 fun w_8=>
  k_1 () w_8) (
  xq (t18==2) (
  stC (⟨b5,0,none⟩:Addr) (Value.int .i64 2) w_5 fun w_9=>
  xg P zgv #[(Value.pointer (some (⟨b15,0,none⟩:Addr)))] [.int .u64] false w_9 fun (t30:Int) w_10=>
  xq (decide (t30 > 1024)) (
  zbc P (Instr.build zh #[]) .any w_10 fun (t33:Value)=>
  zcj P (storeVar zh (⟨b2,0,none⟩:Addr) t33) w_10 fun w_11=>
  ldA P 5 (⟨b2,0,none⟩:Addr) w_11 fun t2=>
  R (.returned (Value.tuple #[(Value.agg t2),(Value.bool false)])) w_11) (
  cvI .i64 t30 fun t35=>
  stC (⟨b5,2,none⟩:Addr) (Value.int .i64 t35) w_10 fun w_12=>
  ld (.int .i64) (⟨b5,2,none⟩:Addr) w_12 fun (t38:Int)=>
  za7 Int (fun s w_13 k_2=>
  xq (decide (s > 0)) (
  zbs w_13 fun w_14=>
  ld .slc (⟨b5,3,none⟩:Addr) w_14 fun (t44:(Option Addr×Nat×Nat))=>
  xg P zi0 #[(Value.pointer (some (⟨b15,0,none⟩:Addr)))] [.any] false w_14 fun (t46:Value) w_15=>
  ((ld .slc (⟨b5,3,none⟩:Addr) w_15 fun (t44_1:(Option Addr×Nat×Nat))=>
  (Value.slice t44_1.1 t44_1.2.1 t44_1.2.2)=(Value.slice t44.1 t44.2.1 t44.2.2)) /\
  za1 P (Instr.buildSlice qj 1 #[(0,t46)]) .slc w_15 fun (t47:(Option Addr×Nat×Nat)) w_16=>
  ((ld .slc (⟨b5,3,none⟩:Addr) w_16 fun (t44_2:(Option Addr×Nat×Nat))=>
  (Value.slice t44_2.1 t44_2.2.1 t44_2.2.2)=(Value.slice t44.1 t44.2.1 t44.2.2)) /\
  za1 P (Builtin.append_ #[qj,qj] qj #[(Value.slice t44.1 t44.2.1 t44.2.2),(Value.slice t47.1 t47.2.1 t47.2.2)]) .slc w_16 fun (t48:(Option Addr×Nat×Nat)) w_17=>
  stC (⟨b5,3,none⟩:Addr) (Value.slice t48.1 t48.2.1 t48.2.2) w_17 fun w_18=>
  zqa .i64 s 64 fun t42=>
  k_2 t42 w_18))) (
  k_1 () w_13)) t38 w_12)) (
  xq (t18==3) (
  stC (⟨b5,0,none⟩:Addr) (Value.int .i64 3) w_5 fun w_19=>
  xg P zgv #[(Value.pointer (some (⟨b15,0,none⟩:Addr)))] [.int .u64] false w_19 fun (t54:Int) w_20=>
  xq (decide (t54 > 64)) (
  zbc P (Instr.build zh #[]) .any w_20 fun (t57:Value)=>
  zcj P (storeVar zh (⟨b2,0,none⟩:Addr) t57) w_20 fun w_21=>
  ldA P 5 (⟨b2,0,none⟩:Addr) w_21 fun t2_1=>
  R (.returned (Value.tuple #[(Value.agg t2_1),(Value.bool false)])) w_21) (
  za7 Int (fun s_1 w_22 k_3=>
  cvI .i64 t54 fun t60=>
  xq (decide (s_1 < t60)) (
  xg P zlt #[(Value.pointer (some (⟨b15,0,none⟩:Addr))),(Value.int .i64 16)] [.str] false w_22 fun (t65:ByteArray) w_23=>
  xg P zgv #[(Value.pointer (some (⟨b15,0,none⟩:Addr)))] [.int .u64] false w_23 fun (t67:Int) w_24=>
  xq (decide (t67 > 3)) (
  zbc P (Instr.build zh #[]) .any w_24 fun (t70:Value)=>
  zcj P (storeVar zh (⟨b2,0,none⟩:Addr) t70) w_24 fun w_25=>
  ldA P 5 (⟨b2,0,none⟩:Addr) w_25 fun t2_2=>
  R (.returned (Value.tuple #[(Value.agg t2_2),(Value.bool false)])) w_25) (
  zbs w_24 fun w_26=>
  cvI .i64 t67 fun t75=>
  ld .slc (⟨b5,4,none⟩:Addr) w_26 fun (t72:(Option Addr×Nat×Nat))=>
  xg P zi0 #[(Value.pointer (some (⟨b15,0,none⟩:Addr)))] [.any] false w_26 fun (t77:Value) w_27=>
  ((ld .slc (⟨b5,4,none⟩:Addr) w_27 fun (t72_1:(Option Addr×Nat×Nat))=>
  (Value.slice t72_1.1 t72_1.2.1 t72_1.2.2)=(Value.slice t72.1 t72.2.1 t72.2.2)) /\
  zbc P (Instr.build zy #[(0,(Value.string t65)),(1,(Value.int .i64 t75)),(2,t77)]) .any w_27 fun (t78:Value)=>
  za1 P (Instr.buildSlice jg 1 #[(0,t78)]) .slc w_27 fun (t79:(Option Addr×Nat×Nat)) w_28=>
  ((ld .slc (⟨b5,4,none⟩:Addr) w_28 fun (t72_2:(Option Addr×Nat×Nat))=>
  (Value.slice t72_2.1 t72_2.2.1 t72_2.2.2)=(Value.slice t72.1 t72.2.1 t72.2.2)) /\
  za1 P (Builtin.append_ #[jg,jg] jg #[(Value.slice t72.1 t72.2.1 t72.2.2),(Value.slice t79.1 t79.2.1 t79.2.2)]) .slc w_28 fun (t80:(Option Addr×Nat×Nat)) w_29=>
  stC (⟨b5,4,none⟩:Addr) (Value.slice t80.1 t80.2.1 t80.2.2) w_29 fun w_30=>
  zb6 .i64 s_1 1 fun t63=>
  k_3 t63 w_30)))) (
  k_1 () w_22)) 0 w_20)) (
  k_1 () w_5)))) (fun _ w_31=>
  k () w_31)) (fun _ w_32=>
  ku Unit (fun k_4=>
  ld (.int .i64) (⟨b15,2,none⟩:Addr) w_32 fun (t85:Int)=>
  xq (t85 != 0) (
  zbc P (Instr.build zh #[]) .any w_32 fun (t97:Value)=>
  zcj P (storeVar zh (⟨b2,0,none⟩:Addr) t97) w_32 fun w_33=>
  ldA P 5 (⟨b2,0,none⟩:Addr) w_33 fun t2_3=>
  R (.returned (Value.tuple #[(Value.agg t2_3),(Value.bool false)])) w_33) (
  xg P zje #[(Value.pointer (some (⟨b15,0,none⟩:Addr)))] [.int .i64] false w_32 fun (t89:Int) w_34=>
  xq (t89 != 0) (
  zbc P (Instr.build zh #[]) .any w_34 fun (t97_1:Value)=>
  zcj P (storeVar zh (⟨b2,0,none⟩:Addr) t97_1) w_34 fun w_35=>
  ldA P 5 (⟨b2,0,none⟩:Addr) w_35 fun t2_4=>
  R (.returned (Value.tuple #[(Value.agg t2_4),(Value.bool false)])) w_35) (
  ldA P 5 (⟨b5,0,none⟩:Addr) w_34 fun t93=>
  xg P zp2 #[(Value.agg t93)] [.bool] false w_34 fun (t94:Bool) w_36=>
  xq (!t94) (
  zbc P (Instr.build zh #[]) .any w_36 fun (t97_2:Value)=>
  zcj P (storeVar zh (⟨b2,0,none⟩:Addr) t97_2) w_36 fun w_37=>
  ldA P 5 (⟨b2,0,none⟩:Addr) w_37 fun t2_5=>
  R (.returned (Value.tuple #[(Value.agg t2_5),(Value.bool false)])) w_37) (
  k_4 () w_36)))) (fun _ w_38=>
  ldA P 5 (⟨b5,0,none⟩:Addr) w_38 fun t98=>
  zcj P (storeVar zh (⟨b2,0,none⟩:Addr) (Value.agg t98)) w_38 fun w_39=>
  ldA P 5 (⟨b2,0,none⟩:Addr) w_39 fun t2_6=>
  R (.returned (Value.tuple #[(Value.agg t2_6),(Value.bool true)])) w_39))
theorem z7u (b:Option Addr) (b_l b_c:Nat) (R:Ending->World->Prop) (w:World):tr P qs ((Tryz.f89.body).getD .skip) zoh (zch 0 [(0,(Value.slice b b_l b_c))]) (zck P Tryz.f89.results.toList R) w=zsa b b_l b_c R w:=by kernel_rfl
theorem z7j {b:Option Addr}{b_l b_c:Nat}{R:Ending->World->Prop}{w:World}(hT:zsa b b_l b_c R w):qg P zsp #[(Value.slice b b_l b_c)] w R:=
 zx (fn:=Tryz.f89) (c:=(Tryz.f89.body).getD .skip) (ann:=zoh) (args:=[(0,(Value.slice b b_l b_c))]) (qs:=qs) mixed Tryz.func89 rfl (by kernel_rfl) (by kernel_rfl) z8i ((z7u b b_l b_c R w).symm▸hT)
def zqx:Ann:=(.seq .leaf (.seq .leaf (.seq (.seq .leaf (.blk (.loop [(3,.slc),(9,.int .i64)] (.seq .leaf (.seq (.cond .leaf .leaf) (.seq (.blk (.seq .leaf .leaf)) .leaf)))))) (.seq .leaf .leaf))))
theorem qcu:okC P qs Tryz.f96.ntmps ((Tryz.f96.body).getD .skip) zqx=true:=by kernel_rfl
def zvq (n:Value) (R:Ending->World->Prop) (w:World):Prop:=
  zby (Value.cells n) zh w fun b1 w_1=>
  ld .slc (⟨b1,3,none⟩:Addr) w_1 fun (t7:(Option Addr×Nat×Nat))=>
  za7 ((Option Addr×Nat×Nat)×Int) (fun s w_2 k=>
  xq (decide (s.2 < (t7.2.1:Int))) (
  ixS t7.1 t7.2.1 32 s.2 fun t11=>
  ldA P 32 t11 w_2 fun t12=>
  zby (zc P zf) zf w_2 fun b5 w_3=>
  zcj P (storeVar zf (⟨b5,0,none⟩:Addr) (Value.agg t12)) w_3 fun w_4=>
  ldA P 32 (⟨b5,0,none⟩:Addr) w_4 fun t14=>
  zbc P (Instr.build zy #[(1,(Value.int .i64 1)),(2,(Value.agg t14))]) .any w_4 fun (t15:Value)=>
  za1 P (Instr.buildSlice jg 1 #[(0,t15)]) .slc w_4 fun (t16:(Option Addr×Nat×Nat)) w_5=>
  za1 P (Builtin.append_ #[jg,jg] jg #[(Value.slice s.1.1 s.1.2.1 s.1.2.2),(Value.slice t16.1 t16.2.1 t16.2.2)]) .slc w_5 fun (t17:(Option Addr×Nat×Nat)) w_6=>
  zb6 .i64 s.2 1 fun t18=>
  k ((t17.1,t17.2.1,t17.2.2),t18) w_6) (
  ld .slc (⟨b1,4,none⟩:Addr) w_2 fun (t21:(Option Addr×Nat×Nat))=>
  za1 P (Builtin.append_ #[jg,jg] jg #[(Value.slice s.1.1 s.1.2.1 s.1.2.2),(Value.slice t21.1 t21.2.1 t21.2.2)]) .slc w_2 fun (t22:(Option Addr×Nat×Nat)) w_7=>
  R (.returned (Value.slice t22.1 t22.2.1 t22.2.2)) w_7)) ((none,0,0),0) w_1
theorem qb4 (n:Value) (R:Ending->World->Prop) (w:World):tr P qs ((Tryz.f96.body).getD .skip) zqx (zch 0 [(1,n)]) (zck P Tryz.f96.results.toList R) w=zvq n R w:=by kernel_rfl
theorem qbo {n:Value}{R:Ending->World->Prop}{w:World}(hT:zvq n R w):qg P zqi #[n] w R:=
 zx (fn:=Tryz.f96) (c:=(Tryz.f96.body).getD .skip) (ann:=zqx) (args:=[(1,n)]) (qs:=qs) mixed Tryz.func96 rfl (by kernel_rfl) (by kernel_rfl) qcu ((qb4 n R w).symm▸hT)
def zl9:Ann:=(.seq .leaf (.seq (.seq .leaf (.cond (.seq .leaf .leaf) .leaf)) (.seq .leaf (.seq .leaf (.join [] (.seq .leaf (.jblk [] (.seq .leaf (.cond .leaf (.seq .leaf (.cond (.seq .leaf (.seq .leaf (.blk (.loop [(55,.int .i64)] (.seq .leaf (.seq (.cond .leaf .leaf) (.seq (.blk (.seq .leaf .leaf)) .leaf))))))) (.seq .leaf (.seq .leaf (.blk (.loop [(26,.int .i64)] (.seq .leaf (.seq (.cond .leaf .leaf) (.seq (.blk (.seq .leaf (.seq .leaf (.seq .leaf .leaf)))) .leaf))))))))))))) (.seq .leaf .leaf))))))
theorem z4p:okC P qs Tryz.f114.ntmps ((Tryz.f114.body).getD .skip) zl9=true:=by kernel_rfl
def zrb (n:Value) (R:Ending->World->Prop) (w:World):Prop:=
  zby (Value.cells n) zh w fun b1 w_1=>
  ldA P 5 (⟨b1,0,none⟩:Addr) w_1 fun t9=>
  xg P znq #[(Value.agg t9)] [.bool] false w_1 fun (t10:Bool) w_2=>
  xq (!t10) (
  R (.returned (Value.tuple #[(Value.slice none 0 0),(Value.int .i64 21)])) w_2) (
  zby (zc P zik) zik w_2 fun b4 w_3=>
  ld (.int .i64) (⟨b1,0,none⟩:Addr) w_3 fun (t13:Int)=>
  cvI .u64 t13 fun t14=>
  xg P zeq #[(Value.pointer (some (⟨b4,0,none⟩:Addr))),(Value.int .u64 t14)] [] true w_3 fun (_:Unit) w_4=>
  ku Unit (fun k=>
  ld (.int .i64) (⟨b1,0,none⟩:Addr) w_4 fun (t17:Int)=>
  ku Unit (fun k_1=>
  xq (t17==1) (
  ld .str (⟨b1,1,none⟩:Addr) w_4 fun (t44:ByteArray)=>
  xg P zjc #[(Value.pointer (some (⟨b4,0,none⟩:Addr))),(Value.string t44)] [] true w_4 fun (_:Unit) w_5=>
  k_1 () w_5) (
  xq (t17==2) (
  ld (.int .i64) (⟨b1,2,none⟩:Addr) w_4 fun (t49:Int)=>
  cvI .u64 t49 fun t50=>
  xg P zeq #[(Value.pointer (some (⟨b4,0,none⟩:Addr))),(Value.int .u64 t50)] [] true w_4 fun (_:Unit) w_6=>
  ld .slc (⟨b1,3,none⟩:Addr) w_6 fun (t53:(Option Addr×Nat×Nat))=>
  za7 Int (fun s w_7 k_2=>
  xq (decide (s < (t53.2.1:Int))) (
  ixS t53.1 t53.2.1 32 s fun t57=>
  ldA P 32 t57 w_7 fun t58=>
  zby (zc P zf) zf w_7 fun b6 w_8=>
  zcj P (storeVar zf (⟨b6,0,none⟩:Addr) (Value.agg t58)) w_8 fun w_9=>
  ldA P 32 (⟨b6,0,none⟩:Addr) w_9 fun t59=>
  xg P zha #[(Value.pointer (some (⟨b4,0,none⟩:Addr))),(Value.agg t59)] [] true w_9 fun (_:Unit) w_10=>
  zb6 .i64 s 1 fun t61=>
  k_2 t61 w_10) (
  k_1 () w_7)) 0 w_6) (
  ld .slc (⟨b1,4,none⟩:Addr) w_4 fun (t19:(Option Addr×Nat×Nat))=>
  cvI .u64 (t19.2.1:Int) fun t21=>
  xg P zeq #[(Value.pointer (some (⟨b4,0,none⟩:Addr))),(Value.int .u64 t21)] [] true w_4 fun (_:Unit) w_11=>
  ld .slc (⟨b1,4,none⟩:Addr) w_11 fun (t24:(Option Addr×Nat×Nat))=>
  za7 Int (fun s_1 w_12 k_3=>
  xq (decide (s_1 < (t24.2.1:Int))) (
  ixS t24.1 t24.2.1 34 s_1 fun t28=>
  ldA P 34 t28 w_12 fun t29=>
  zby (zc P zy) zy w_12 fun b8 w_13=>
  zcj P (storeVar zy (⟨b8,0,none⟩:Addr) (Value.agg t29)) w_13 fun w_14=>
  ld .str (⟨b8,0,none⟩:Addr) w_14 fun (t31:ByteArray)=>
  xg P zjc #[(Value.pointer (some (⟨b4,0,none⟩:Addr))),(Value.string t31)] [] true w_14 fun (_:Unit) w_15=>
  ld (.int .i64) (⟨b8,1,none⟩:Addr) w_15 fun (t34:Int)=>
  cvI .u64 t34 fun t35=>
  xg P zeq #[(Value.pointer (some (⟨b4,0,none⟩:Addr))),(Value.int .u64 t35)] [] true w_15 fun (_:Unit) w_16=>
  ldA P 32 (⟨b8,2,none⟩:Addr) w_16 fun t38=>
  xg P zha #[(Value.pointer (some (⟨b4,0,none⟩:Addr))),(Value.agg t38)] [] true w_16 fun (_:Unit) w_17=>
  zb6 .i64 s_1 1 fun t40=>
  k_3 t40 w_17) (
  k_1 () w_12)) 0 w_11))) (fun _ w_18=>
  k () w_18)) (fun _ w_19=>
  xg P zk7 #[(Value.pointer (some (⟨b4,0,none⟩:Addr)))] [.slc] false w_19 fun (t62:(Option Addr×Nat×Nat)) w_20=>
  R (.returned (Value.tuple #[(Value.slice t62.1 t62.2.1 t62.2.2),(Value.int .i64 0)])) w_20))
theorem z4i (n:Value) (R:Ending->World->Prop) (w:World):tr P qs ((Tryz.f114.body).getD .skip) zl9 (zch 0 [(1,n)]) (zck P Tryz.f114.results.toList R) w=zrb n R w:=by kernel_rfl
theorem z5g {n:Value}{R:Ending->World->Prop}{w:World}(hT:zrb n R w):qg P zq3 #[n] w R:=
 zx (fn:=Tryz.f114) (c:=(Tryz.f114.body).getD .skip) (ann:=zl9) (args:=[(1,n)]) (qs:=qs) mixed Tryz.func114 rfl (by kernel_rfl) (by kernel_rfl) z4p ((z4i n R w).symm▸hT)
def zvo:Ann:=(.seq .leaf (.seq .leaf (.seq (.blk (.loop [(0,.int .u64),(3,.slc)] (.seq (.seq .leaf (.cond .leaf .leaf)) (.blk (.seq .leaf .leaf))))) (.seq .leaf .leaf))))
theorem qhj:okC P qs Tryz.f130.ntmps ((Tryz.f130.body).getD .skip) zvo=true:=by kernel_rfl
def z3i (n:Int) (R:Ending->World->Prop) (w:World):Prop:=
  za7 (Int×(Option Addr×Nat×Nat)) (fun s w_1 k=>
  xq (decide (s.1>=128)) (
  qlr s.1 128 fun t8=>
  zb6 .u64 t8 128 fun t9=>
  cvI .u8 t9 fun t10=>
  za1 P (Instr.buildSlice zi 1 #[(0,(Value.int .u8 t10))]) .slc w_1 fun (t11:(Option Addr×Nat×Nat)) w_2=>
  za1 P (Builtin.append_ #[zi,zi] zi #[(Value.slice s.2.1 s.2.2.1 s.2.2.2),(Value.slice t11.1 t11.2.1 t11.2.2)]) .slc w_2 fun (t12:(Option Addr×Nat×Nat)) w_3=>
  qom .u64 s.1 128 fun t14=>
  k (t14,(t12.1,t12.2.1,t12.2.2)) w_3) (
  cvI .u8 s.1 fun t17=>
  za1 P (Instr.buildSlice zi 1 #[(0,(Value.int .u8 t17))]) .slc w_1 fun (t18:(Option Addr×Nat×Nat)) w_4=>
  za1 P (Builtin.append_ #[zi,zi] zi #[(Value.slice s.2.1 s.2.2.1 s.2.2.2),(Value.slice t18.1 t18.2.1 t18.2.2)]) .slc w_4 fun (t19:(Option Addr×Nat×Nat)) w_5=>
  R (.returned (Value.slice t19.1 t19.2.1 t19.2.2)) w_5)) (n,(none,0,0)) w
theorem qh9 (n:Int) (R:Ending->World->Prop) (w:World):tr P qs ((Tryz.f130.body).getD .skip) zvo (zch 0 [(0,(Value.int .u64 n))]) (zck P Tryz.f130.results.toList R) w=z3i n R w:=by kernel_rfl
theorem qhf {n:Int}{R:Ending->World->Prop}{w:World}(hT:z3i n R w):qg P zm9 #[(Value.int .u64 n)] w R:=
 zx (fn:=Tryz.f130) (c:=(Tryz.f130.body).getD .skip) (ann:=zvo) (args:=[(0,(Value.int .u64 n))]) (qs:=qs) mixed Tryz.func130 rfl (by kernel_rfl) (by kernel_rfl) qhj ((qh9 n R w).symm▸hT)
def zry:Ann:=(.seq .leaf (.seq .leaf .leaf))
theorem qeq:okC P qs Tryz.f131.ntmps ((Tryz.f131.body).getD .skip) zry=true:=by kernel_rfl
def zyv (s:ByteArray) (R:Ending->World->Prop) (w:World):Prop:=
  cvI .u64 (s.size:Int) fun t5=>
  xg P zm9 #[(Value.int .u64 t5)] [.slc] false w fun (t6:(Option Addr×Nat×Nat)) w_1=>
  za1 P (Builtin.append_ #[zi,jy] zi #[(Value.slice t6.1 t6.2.1 t6.2.2),(Value.string s)]) .slc w_1 fun (t8:(Option Addr×Nat×Nat)) w_2=>
  R (.returned (Value.slice t8.1 t8.2.1 t8.2.2)) w_2
theorem qe0 (s:ByteArray) (R:Ending->World->Prop) (w:World):tr P qs ((Tryz.f131.body).getD .skip) zry (zch 0 [(0,(Value.string s))]) (zck P Tryz.f131.results.toList R) w=zyv s R w:=by kernel_rfl
theorem qez {s:ByteArray}{R:Ending->World->Prop}{w:World}(hT:zyv s R w):qg P ztq #[(Value.string s)] w R:=
 zx (fn:=Tryz.f131) (c:=(Tryz.f131.body).getD .skip) (ann:=zry) (args:=[(0,(Value.string s))]) (qs:=qs) mixed Tryz.func131 rfl (by kernel_rfl) (by kernel_rfl) qeq ((qe0 s R w).symm▸hT)
def zpp:Ann:=(.seq .leaf (.seq .leaf .leaf))
theorem qb5:okC P qs Tryz.f137.ntmps ((Tryz.f137.body).getD .skip) zpp=true:=by kernel_rfl
def zvp (b:Option Addr) (b_l b_c:Nat) (R:Ending->World->Prop) (w:World):Prop:=
  za1 P (Builtin.append_ #[zi,zi] zi #[(Value.slice none 0 0),(Value.slice b b_l b_c)]) .slc w fun (t4:(Option Addr×Nat×Nat)) w_1=>
  zbc P (Instr.build zo3 #[(0,(Value.slice t4.1 t4.2.1 t4.2.2))]) .any w_1 fun (t5:Value)=>
  zby (Value.cells t5) zo3 w_1 fun b6 w_2=>
  R (.returned (Value.pointer (some (⟨b6,0,none⟩:Addr)))) w_2
theorem qbb (b:Option Addr) (b_l b_c:Nat) (R:Ending->World->Prop) (w:World):tr P qs ((Tryz.f137.body).getD .skip) zpp (zch 0 [(0,(Value.slice b b_l b_c))]) (zck P Tryz.f137.results.toList R) w=zvp b b_l b_c R w:=by kernel_rfl
theorem qc0 {b:Option Addr}{b_l b_c:Nat}{R:Ending->World->Prop}{w:World}(hT:zvp b b_l b_c R w):qg P zu9 #[(Value.slice b b_l b_c)] w R:=
 zx (fn:=Tryz.f137) (c:=(Tryz.f137.body).getD .skip) (ann:=zpp) (args:=[(0,(Value.slice b b_l b_c))]) (qs:=qs) mixed Tryz.func137 rfl (by kernel_rfl) (by kernel_rfl) qb5 ((qbb b b_l b_c R w).symm▸hT)
def zre:Ann:=(.seq .leaf (.seq .leaf (.join [] (.seq .leaf (.jblk [] (.seq .leaf (.cond .leaf (.seq .leaf (.cond (.seq .leaf (.seq .leaf (.blk (.loop [(26,.int .i64)] (.seq .leaf (.seq (.cond .leaf .leaf) (.seq (.blk (.tree (.op 0 [] (.op 2 [] (.op 1 [] (.op 3 [1] (.op 4 [1] (.op 5 [] (.op 6 [] (.op 7 [] .done)))))))))) .leaf))))))) (.seq .leaf (.cond (.seq .leaf (.blk (.loop [(41,.int .u64)] (.seq .leaf (.seq (.cond .leaf .leaf) (.seq (.blk (.tree (.op 0 [] (.op 2 [] (.op 4 [] (.op 8 [] (.op 1 [] (.op 3 [1] (.op 5 [1] (.op 6 [] (.op 7 [] (.op 9 [1,6] (.op 10 [] (.op 11 [1] (.op 12 [] (.op 13 [] (.op 14 [] .done))))))))))))))))) .leaf)))))) .leaf)))))))) (.seq .leaf .leaf))))
theorem qb3:okC P qs Tryz.f138.ntmps ((Tryz.f138.body).getD .skip) zre=true:=by kernel_rfl
def zu7 (inv:Option Addr) (R:Ending->World->Prop) (w:World):Prop:=
  zby (zc P zh) zh w fun b2 w_1=>
  xg P zfv #[(Value.pointer inv)] [.int .u64] false w_1 fun (t5:Int) w_2=>
  zbc P (Builtin.min_ #[zd8,zd8] zd8 #[(Value.int .u64 t5),(Value.int .u64 9)]) (.int .u64) w_2 fun (t6:Int)=>
  cvI .i64 t6 fun t7=>
  zbc P (Instr.build zh #[(0,(Value.int .i64 t7))]) .any w_2 fun (t8:Value)=>
  zby (zc P zh) zh w_2 fun b3 w_3=>
  zcj P (storeVar zh (⟨b3,0,none⟩:Addr) t8) w_3 fun w_4=>
  ku Unit (fun k=>
  ld (.int .i64) (⟨b3,0,none⟩:Addr) w_4 fun (t10:Int)=>
  ku Unit (fun k_1=>
  xq (t10==1) (
  xg P zkh #[(Value.pointer inv),(Value.int .i64 64)] [.str] false w_4 fun (t14:ByteArray) w_5=>
  stC (⟨b3,1,none⟩:Addr) (Value.string t14) w_5 fun w_6=>
  k_1 () w_6) (
  xq (t10==2) (
  xg P zfv #[(Value.pointer inv)] [.int .u64] false w_4 fun (t19:Int) w_7=>
  zbc P (Builtin.min_ #[zd8,zd8] zd8 #[(Value.int .u64 t19),(Value.int .u64 1025)]) (.int .u64) w_7 fun (t20:Int)=>
  cvI .i64 t20 fun t21=>
  stC (⟨b3,2,none⟩:Addr) (Value.int .i64 t21) w_7 fun w_8=>
  ld (.int .i64) (⟨b3,2,none⟩:Addr) w_8 fun (t24:Int)=>
  xg P zkp #[(Value.int .i64 t24)] [.int .i64] false w_8 fun (t25:Int) w_9=>
  za7 Int (fun s w_10 k_2=>
  xq (decide (s < t25)) (
  zbs w_10 fun w_11=>
  ld .slc (⟨b3,3,none⟩:Addr) w_11 fun (t29:(Option Addr×Nat×Nat))=>
  xg P zhy #[(Value.pointer inv)] [.any] false w_11 fun (t31:Value) w_12=>
  ((ld .slc (⟨b3,3,none⟩:Addr) w_12 fun (t29_1:(Option Addr×Nat×Nat))=>
  (Value.slice t29_1.1 t29_1.2.1 t29_1.2.2)=(Value.slice t29.1 t29.2.1 t29.2.2)) /\
  za1 P (Instr.buildSlice qj 1 #[(0,t31)]) .slc w_12 fun (t32:(Option Addr×Nat×Nat)) w_13=>
  ((ld .slc (⟨b3,3,none⟩:Addr) w_13 fun (t29_2:(Option Addr×Nat×Nat))=>
  (Value.slice t29_2.1 t29_2.2.1 t29_2.2.2)=(Value.slice t29.1 t29.2.1 t29.2.2)) /\
  za1 P (Builtin.append_ #[qj,qj] qj #[(Value.slice t29.1 t29.2.1 t29.2.2),(Value.slice t32.1 t32.2.1 t32.2.2)]) .slc w_13 fun (t33:(Option Addr×Nat×Nat)) w_14=>
  stC (⟨b3,3,none⟩:Addr) (Value.slice t33.1 t33.2.1 t33.2.2) w_14 fun w_15=>
  zb6 .i64 s 1 fun t35=>
  k_2 t35 w_15))) (
  k_1 () w_10)) 0 w_9) (
  xq (t10==3) (
  xg P zfv #[(Value.pointer inv)] [.int .u64] false w_4 fun (t39:Int) w_16=>
  zbc P (Builtin.min_ #[zd8,zd8] zd8 #[(Value.int .u64 t39),(Value.int .u64 65)]) (.int .u64) w_16 fun (t40:Int)=>
  za7 Int (fun s_1 w_17 k_3=>
  xq (decide (s_1 < t40)) (
  zbs w_17 fun w_18=>
  ld .slc (⟨b3,4,none⟩:Addr) w_18 fun (t44:(Option Addr×Nat×Nat))=>
  xg P zkh #[(Value.pointer inv),(Value.int .i64 16)] [.str] false w_18 fun (t46:ByteArray) w_19=>
  ((ld .slc (⟨b3,4,none⟩:Addr) w_19 fun (t44_1:(Option Addr×Nat×Nat))=>
  (Value.slice t44_1.1 t44_1.2.1 t44_1.2.2)=(Value.slice t44.1 t44.2.1 t44.2.2)) /\
  xg P zfv #[(Value.pointer inv)] [.int .u64] false w_19 fun (t48:Int) w_20=>
  ((ld .slc (⟨b3,4,none⟩:Addr) w_20 fun (t44_2:(Option Addr×Nat×Nat))=>
  (Value.slice t44_2.1 t44_2.2.1 t44_2.2.2)=(Value.slice t44.1 t44.2.1 t44.2.2)) /\
  zbc P (Builtin.min_ #[zd8,zd8] zd8 #[(Value.int .u64 t48),(Value.int .u64 9)]) (.int .u64) w_20 fun (t49:Int)=>
  cvI .i64 t49 fun t50=>
  xg P zhy #[(Value.pointer inv)] [.any] false w_20 fun (t52:Value) w_21=>
  ((zbc P (Builtin.min_ #[zd8,zd8] zd8 #[(Value.int .u64 t48),(Value.int .u64 9)]) (.int .u64) w_21 fun (t49_1:Int)=>
  (Value.int .u64 t49_1)=(Value.int .u64 t49)) /\
  ((ld .slc (⟨b3,4,none⟩:Addr) w_21 fun (t44_3:(Option Addr×Nat×Nat))=>
  (Value.slice t44_3.1 t44_3.2.1 t44_3.2.2)=(Value.slice t44.1 t44.2.1 t44.2.2)) /\
  zbc P (Instr.build zy #[(0,(Value.string t46)),(1,(Value.int .i64 t50)),(2,t52)]) .any w_21 fun (t53:Value)=>
  za1 P (Instr.buildSlice jg 1 #[(0,t53)]) .slc w_21 fun (t54:(Option Addr×Nat×Nat)) w_22=>
  ((ld .slc (⟨b3,4,none⟩:Addr) w_22 fun (t44_4:(Option Addr×Nat×Nat))=>
  (Value.slice t44_4.1 t44_4.2.1 t44_4.2.2)=(Value.slice t44.1 t44.2.1 t44.2.2)) /\
  za1 P (Builtin.append_ #[jg,jg] jg #[(Value.slice t44.1 t44.2.1 t44.2.2),(Value.slice t54.1 t54.2.1 t54.2.2)]) .slc w_22 fun (t55:(Option Addr×Nat×Nat)) w_23=>
  stC (⟨b3,4,none⟩:Addr) (Value.slice t55.1 t55.2.1 t55.2.2) w_23 fun w_24=>
  zb6 .u64 s_1 1 fun t57=>
  k_3 t57 w_24)))))) (
  k_1 () w_17)) 0 w_16) (
  k_1 () w_4)))) (fun _ w_25=>
  k () w_25)) (fun _ w_26=>
  ldA P 5 (⟨b3,0,none⟩:Addr) w_26 fun t58=>
  zcj P (storeVar zh (⟨b2,0,none⟩:Addr) (Value.agg t58)) w_26 fun w_27=>
  ldA P 5 (⟨b2,0,none⟩:Addr) w_27 fun t2=>
  R (.returned (Value.agg t2)) w_27)
theorem z95 (inv:Option Addr) (R:Ending->World->Prop) (w:World):tr P qs ((Tryz.f138.body).getD .skip) zre (zch 0 [(0,(Value.pointer inv))]) (zck P Tryz.f138.results.toList R) w=zu7 inv R w:=by kernel_rfl
theorem qck {inv:Option Addr}{R:Ending->World->Prop}{w:World}(hT:zu7 inv R w):qg P zuo #[(Value.pointer inv)] w R:=
 zx (fn:=Tryz.f138) (c:=(Tryz.f138.body).getD .skip) (ann:=zre) (args:=[(0,(Value.pointer inv))]) (qs:=qs) mixed Tryz.func138 rfl (by kernel_rfl) (by kernel_rfl) qb3 ((z95 inv R w).symm▸hT)
def zl5:Ann:=(.seq .leaf (.seq .leaf .leaf))
theorem z4v:okC P qs Tryz.f139.ntmps ((Tryz.f139.body).getD .skip) zl5=true:=by kernel_rfl
def zq1 (i:Option Addr) (R:Ending->World->Prop) (w:World):Prop:=
  xq (!(Option.isNone i)) (
  zn i fun p=>
  ld (.int .i64) (Addr.add p 1) w fun (t9:Int)=>
  xq (t9==0) (
  zn i fun p_1=>
  ld .slc p_1 w fun (t16:(Option Addr×Nat×Nat))=>
  R (.returned (Value.bool ((t16.2.1:Int)==0))) w) (
  R (.returned (Value.bool false)) w)) (
  R (.returned (Value.bool false)) w)
theorem z5j (i:Option Addr) (R:Ending->World->Prop) (w:World):tr P qs ((Tryz.f139.body).getD .skip) zl5 (zch 0 [(0,(Value.pointer i))]) (zck P Tryz.f139.results.toList R) w=zq1 i R w:=by kernel_rfl
theorem z5n {i:Option Addr}{R:Ending->World->Prop}{w:World}(hT:zq1 i R w):qg P zqd #[(Value.pointer i)] w R:=
 zx (fn:=Tryz.f139) (c:=(Tryz.f139.body).getD .skip) (ann:=zl5) (args:=[(0,(Value.pointer i))]) (qs:=qs) mixed Tryz.func139 rfl (by kernel_rfl) (by kernel_rfl) z4v ((z5j i R w).symm▸hT)
def zor:Ann:=(.seq .leaf (.seq (.seq .leaf (.blk (.seq .leaf (.cond (.seq .leaf .leaf) (.seq .leaf (.cond (.seq (.tree (.op 0 [] (.op 1 [] (.op 2 [] (.op 3 [] (.op 4 [] (.op 5 [] (.op 6 [] (.op 7 [] (.op 8 [] (.op 9 [] (.op 10 [] (.op 11 [] (.op 12 [] (.op 13 [] (.op 14 [] (.op 17 [] (.op 15 [] (.op 16 [] (.op 18 [] (.op 19 [15] (.op 20 [] (.op 21 [] (.op 22 [] (.op 23 [] (.op 24 [] (.op 25 [] (.op 26 [] (.op 27 [] (.op 28 [] .done)))))))))))))))))))))))))))))) .leaf) (.seq .leaf (.cond (.seq .leaf .leaf) .leaf)))))))) (.seq .leaf .leaf)))
theorem z8a:okC P qs Tryz.f140.ntmps ((Tryz.f140.body).getD .skip) zor=true:=by kernel_rfl
def zta (n:Value) (R:Ending->World->Prop) (w:World):Prop:=
  zby (Value.cells n) zh w fun b1 w_1=>
  ld (.int .i64) (⟨b1,0,none⟩:Addr) w_1 fun (t4:Int)=>
  xq (t4==1) (
  ld .str (⟨b1,1,none⟩:Addr) w_1 fun (t8:ByteArray)=>
  xq (decide ((t8.size:Int) > 0)) (
  ld .str (⟨b1,1,none⟩:Addr) w_1 fun (t13:ByteArray)=>
  xq (decide ((t13.size:Int)<=64)) (
  ld (.int .i64) (⟨b1,2,none⟩:Addr) w_1 fun (t19:Int)=>
  xq (t19==0) (
  ld .slc (⟨b1,3,none⟩:Addr) w_1 fun (t24:(Option Addr×Nat×Nat))=>
  xq ((t24.2.1:Int)==0) (
  ld .slc (⟨b1,4,none⟩:Addr) w_1 fun (t30:(Option Addr×Nat×Nat))=>
  R (.returned (Value.bool ((t30.2.1:Int)==0))) w_1) (
  R (.returned (Value.bool false)) w_1)) (
  R (.returned (Value.bool false)) w_1)) (
  R (.returned (Value.bool false)) w_1)) (
  R (.returned (Value.bool false)) w_1)) (
  xq (t4==2) (
  zbs w_1 fun w_2=>
  ld .str (⟨b1,1,none⟩:Addr) w_2 fun (t37:ByteArray)=>
  xq (t37.toList==(ByteArray.mk #[]).toList) (
  ld (.int .i64) (⟨b1,2,none⟩:Addr) w_2 fun (t41:Int)=>
  xq (decide (t41>=0)) (
  ld (.int .i64) (⟨b1,2,none⟩:Addr) w_2 fun (t46:Int)=>
  xq (decide (t46<=1024)) (
  ld .slc (⟨b1,3,none⟩:Addr) w_2 fun (t51:(Option Addr×Nat×Nat))=>
  ld (.int .i64) (⟨b1,2,none⟩:Addr) w_2 fun (t54:Int)=>
  xg P zkp #[(Value.int .i64 t54)] [.int .i64] false w_2 fun (t55:Int) w_3=>
  ((ld .slc (⟨b1,3,none⟩:Addr) w_3 fun (t51_1:(Option Addr×Nat×Nat))=>
  (Value.slice t51_1.1 t51_1.2.1 t51_1.2.2)=(Value.slice t51.1 t51.2.1 t51.2.2)) /\
  xq ((t51.2.1:Int)==t55) (
  ld .slc (⟨b1,4,none⟩:Addr) w_3 fun (t60:(Option Addr×Nat×Nat))=>
  R (.returned (Value.bool ((t60.2.1:Int)==0))) w_3) (
  R (.returned (Value.bool false)) w_3))) (
  ((undef=undef) /\
  R (.returned (Value.bool false)) w_2))) (
  ((undef=undef) /\
  R (.returned (Value.bool false)) w_2))) (
  ((undef=undef) /\
  R (.returned (Value.bool false)) w_2))) (
  xq (t4==3) (
  ld .str (⟨b1,1,none⟩:Addr) w_1 fun (t67:ByteArray)=>
  xq (t67.toList==(ByteArray.mk #[]).toList) (
  ld (.int .i64) (⟨b1,2,none⟩:Addr) w_1 fun (t71:Int)=>
  xq (t71==0) (
  ld .slc (⟨b1,3,none⟩:Addr) w_1 fun (t76:(Option Addr×Nat×Nat))=>
  xq ((t76.2.1:Int)==0) (
  ld .slc (⟨b1,4,none⟩:Addr) w_1 fun (t82:(Option Addr×Nat×Nat))=>
  xg P zpr #[(Value.slice t82.1 t82.2.1 t82.2.2)] [.bool] false w_1 fun (t83:Bool) w_4=>
  R (.returned (Value.bool t83)) w_4) (
  R (.returned (Value.bool false)) w_1)) (
  R (.returned (Value.bool false)) w_1)) (
  R (.returned (Value.bool false)) w_1)) (
  R (.returned (Value.bool false)) w_1)))
theorem z9l (n:Value) (R:Ending->World->Prop) (w:World):tr P qs ((Tryz.f140.body).getD .skip) zor (zch 0 [(1,n)]) (zck P Tryz.f140.results.toList R) w=zta n R w:=by kernel_rfl
theorem z7q {n:Value}{R:Ending->World->Prop}{w:World}(hT:zta n R w):qg P znq #[n] w R:=
 zx (fn:=Tryz.f140) (c:=(Tryz.f140.body).getD .skip) (ann:=zor) (args:=[(1,n)]) (qs:=qs) mixed Tryz.func140 rfl (by kernel_rfl) (by kernel_rfl) z8a ((z9l n R w).symm▸hT)
def zn2:Ann:=(.seq .leaf (.seq (.seq .leaf (.cond (.seq .leaf .leaf) .leaf)) (.seq .leaf (.seq (.seq .leaf (.blk (.loop [(3,.int .u64),(4,.int .i64)] (.seq (.seq .leaf (.cond .leaf .leaf)) (.seq (.jblk [(3,.int .u64)] (.seq (.seq (.tree (.op 0 [] (.op 1 [] (.op 2 [] (.op 4 [] (.op 5 [] (.op 6 [] (.op 3 [] (.op 7 [] (.op 8 [] (.op 9 [] .done))))))))))) (.cond (.seq .leaf (.seq .leaf .leaf)) .leaf)) (.seq (.tree (.op 0 [] (.op 1 [] (.op 2 [] (.op 4 [] (.op 5 [] (.op 6 [] (.op 3 [] (.op 7 [] (.op 8 [] (.op 9 [] (.op 10 [] .done)))))))))))) (.seq .leaf (.join [] (.seq .leaf (.cond (.seq .leaf (.seq .leaf .leaf)) .leaf)) (.seq .leaf (.seq .leaf (.cond (.seq .leaf .leaf) .leaf)))))))) .leaf))))) (.seq .leaf .leaf)))))
theorem z7g:okC P qs Tryz.f142.ntmps ((Tryz.f142.body).getD .skip) zn2=true:=by kernel_rfl
def zsz (i:Option Addr) (R:Ending->World->Prop) (w:World):Prop:=
  zn i fun p=>
  ld (.int .i64) (Addr.add p 2) w fun (t9:Int)=>
  xq (t9 != 0) (
  R (.returned (Value.int .u64 0)) w) (
  za7 (Int×Int) (fun s w_1 k=>
  xq (decide (s.2 < 10)) (
  ku Int (fun k_1=>
  zbs w_1 fun w_2=>
  zn i fun p_1=>
  zn i fun p_2=>
  ld (.int .i64) (Addr.add p_1 1) w_2 fun (t18:Int)=>
  ld .slc p_2 w_2 fun (t22:(Option Addr×Nat×Nat))=>
  xq (decide (t18>=(t22.2.1:Int))) (
  xg P zcx #[(Value.pointer i),(Value.int .i64 20)] [] true w_2 fun (_:Unit) w_3=>
  R (.returned (Value.int .u64 0)) w_3) (
  zbs w_2 fun w_4=>
  zn i fun p_3=>
  zn i fun p_4=>
  ld .slc p_3 w_4 fun (t30:(Option Addr×Nat×Nat))=>
  ld (.int .i64) (Addr.add p_4 1) w_4 fun (t34:Int)=>
  ixS t30.1 t30.2.1 1 t34 fun t35=>
  ld (.int .u8) t35 w_4 fun (t36:Int)=>
  zn i fun p_5=>
  ld (.int .i64) (Addr.add p_5 1) w_4 fun (t40:Int)=>
  zb6 .i64 t40 1 fun t41=>
  zn i fun p_6=>
  stC (Addr.add p_6 1) (Value.int .i64 t41) w_4 fun w_5=>
  ku Unit (fun k_2=>
  xq (s.2==9) (
  xq (decide (t36 > 1)) (
  xg P zcx #[(Value.pointer i),(Value.int .i64 21)] [] true w_5 fun (_:Unit) w_6=>
  R (.returned (Value.int .u64 0)) w_6) (
  xq (decide (s.2 > 0)) (
  xq (t36==0) (
  xg P zcx #[(Value.pointer i),(Value.int .i64 21)] [] true w_5 fun (_:Unit) w_7=>
  R (.returned (Value.int .u64 0)) w_7) (
  k_2 () w_5)) (
  k_2 () w_5))) (
  xq (decide (s.2 > 0)) (
  xq (t36==0) (
  xg P zcx #[(Value.pointer i),(Value.int .i64 21)] [] true w_5 fun (_:Unit) w_8=>
  R (.returned (Value.int .u64 0)) w_8) (
  k_2 () w_5)) (
  k_2 () w_5))) (fun _ w_9=>
  qlr t36 128 fun t62=>
  cvI .u64 t62 fun t63=>
  z3y .i64 7 s.2 fun t65=>
  cvI .u64 t65 fun t66=>
  qj7 .u64 t63 t66 fun t67=>
  orI .u64 s.1 t67 fun t68=>
  xq (decide (t36 < 128)) (
  R (.returned (Value.int .u64 t68)) w_9) (
  k_1 t68 w_9)))) (fun s_2 w_10=>
  zb6 .i64 s.2 1 fun t14=>
  k (s_2,t14) w_10)) (
  R (.returned (Value.int .u64 0)) w_1)) (0,0) w)
theorem z9s (i:Option Addr) (R:Ending->World->Prop) (w:World):tr P qs ((Tryz.f142.body).getD .skip) zn2 (zch 0 [(0,(Value.pointer i))]) (zck P Tryz.f142.results.toList R) w=zsz i R w:=by kernel_rfl
theorem z9a {i:Option Addr}{R:Ending->World->Prop}{w:World}(hT:zsz i R w):qg P zgv #[(Value.pointer i)] w R:=
 zx (fn:=Tryz.f142) (c:=(Tryz.f142.body).getD .skip) (ann:=zn2) (args:=[(0,(Value.pointer i))]) (qs:=qs) mixed Tryz.func142 rfl (by kernel_rfl) (by kernel_rfl) z7g ((z9s i R w).symm▸hT)
def zmt:Ann:=(.seq .leaf (.seq .leaf (.seq (.seq .leaf (.cond (.seq .leaf .leaf) .leaf)) (.join [] (.seq .leaf (.cond (.seq .leaf (.seq .leaf .leaf)) .leaf)) (.seq (.seq .leaf (.cond (.seq .leaf (.seq .leaf .leaf)) .leaf)) (.seq (.tree (.op 0 [] (.op 1 [] (.op 2 [] (.op 4 [] (.op 5 [] (.op 6 [] (.op 8 [] (.op 9 [] (.op 10 [] (.op 12 [] (.op 13 [] (.op 3 [] (.op 7 [] (.op 11 [] (.op 14 [] (.op 15 [] (.op 16 [] (.op 17 [] .done))))))))))))))))))) (.seq .leaf (.seq .leaf .leaf))))))))
theorem z5c:okC P qs Tryz.f143.ntmps ((Tryz.f143.body).getD .skip) zmt=true:=by kernel_rfl
def zp0 (i:Option Addr) (most:Int) (R:Ending->World->Prop) (w:World):Prop:=
  xg P zgv #[(Value.pointer i)] [.int .u64] false w fun (t8:Int) w_1=>
  zn i fun p=>
  ld (.int .i64) (Addr.add p 2) w_1 fun (t12:Int)=>
  xq (t12 != 0) (
  R (.returned (Value.string (ByteArray.mk #[]))) w_1) (
  ku Unit (fun k=>
  xq (decide (most < 0)) (
  xq (decide (t8 > 0)) (
  xg P zcx #[(Value.pointer i),(Value.int .i64 2)] [] true w_1 fun (_:Unit) w_2=>
  R (.returned (Value.string (ByteArray.mk #[]))) w_2) (
  xq (decide (most>=0)) (
  cvI .u64 most fun t26=>
  xq (decide (t8 > t26)) (
  xg P zcx #[(Value.pointer i),(Value.int .i64 2)] [] true w_1 fun (_:Unit) w_3=>
  R (.returned (Value.string (ByteArray.mk #[]))) w_3) (
  k () w_1)) (
  k () w_1))) (
  xq (decide (most>=0)) (
  cvI .u64 most fun t26_1=>
  xq (decide (t8 > t26_1)) (
  xg P zcx #[(Value.pointer i),(Value.int .i64 2)] [] true w_1 fun (_:Unit) w_4=>
  R (.returned (Value.string (ByteArray.mk #[]))) w_4) (
  k () w_1)) (
  k () w_1))) (fun _ w_5=>
  xg P zje #[(Value.pointer i)] [.int .i64] false w_5 fun (t34:Int) w_6=>
  cvI .u64 t34 fun t35=>
  xq (decide (t8 > t35)) (
  xg P zcx #[(Value.pointer i),(Value.int .i64 20)] [] true w_6 fun (_:Unit) w_7=>
  R (.returned (Value.string (ByteArray.mk #[]))) w_7) (
  zbs w_6 fun w_8=>
  zn i fun p_1=>
  zn i fun p_2=>
  zn i fun p_3=>
  cvI .i64 t8 fun t52=>
  ld .slc p_1 w_8 fun (t42:(Option Addr×Nat×Nat))=>
  ld (.int .i64) (Addr.add p_2 1) w_8 fun (t46:Int)=>
  ld (.int .i64) (Addr.add p_3 1) w_8 fun (t50:Int)=>
  zb6 .i64 t50 t52 fun t53=>
  zbc P (Instr.sliceAt zi (Value.slice t42.1 t42.2.1 t42.2.2) (some (Value.int .i64 t46)) (some (Value.int .i64 t53)) none) .slc w_8 fun (t54:(Option Addr×Nat×Nat))=>
  zbc P (convert zi jy (Value.slice t54.1 t54.2.1 t54.2.2)) .str w_8 fun (t55:ByteArray)=>
  zn i fun p_4=>
  ld (.int .i64) (Addr.add p_4 1) w_8 fun (t59:Int)=>
  cvI .i64 t8 fun t61=>
  zb6 .i64 t59 t61 fun t62=>
  zn i fun p_5=>
  stC (Addr.add p_5 1) (Value.int .i64 t62) w_8 fun w_9=>
  R (.returned (Value.string t55)) w_9)))
theorem z5i (i:Option Addr) (most:Int) (R:Ending->World->Prop) (w:World):tr P qs ((Tryz.f143.body).getD .skip) zmt (zch 0 [(0,(Value.pointer i)),(0,(Value.int .i64 most))]) (zck P Tryz.f143.results.toList R) w=zp0 i most R w:=by kernel_rfl
theorem z4g {i:Option Addr}{most:Int}{R:Ending->World->Prop}{w:World}(hT:zp0 i most R w):qg P zlt #[(Value.pointer i),(Value.int .i64 most)] w R:=
 zx (fn:=Tryz.f143) (c:=(Tryz.f143.body).getD .skip) (ann:=zmt) (args:=[(0,(Value.pointer i)),(0,(Value.int .i64 most))]) (qs:=qs) mixed Tryz.func143 rfl (by kernel_rfl) (by kernel_rfl) z5c ((z5i i most R w).symm▸hT)
def zj0:Ann:=(.seq .leaf (.seq .leaf (.seq (.seq .leaf (.cond (.seq .leaf .leaf) .leaf)) (.seq (.seq .leaf (.cond (.seq .leaf (.seq .leaf .leaf)) .leaf)) (.seq (.seq .leaf (.blk (.loop [(4,.int .i64)] (.seq (.seq .leaf (.cond .leaf .leaf)) (.seq (.blk (.tree (.op 0 [] (.op 1 [] (.op 2 [] (.op 3 [] (.op 5 [] (.op 6 [] (.op 7 [] (.op 9 [] (.op 4 [] (.op 8 [] (.op 10 [] (.op 11 [] (.op 12 [] (.op 13 [] (.op 14 [] .done))))))))))))))))) .leaf))))) (.seq .leaf (.seq .leaf .leaf)))))))
theorem zzi:okC P qs Tryz.f144.ntmps ((Tryz.f144.body).getD .skip) zj0=true:=by kernel_rfl
def zme (i:Option Addr) (R:Ending->World->Prop) (w:World):Prop:=
  zby (zc P zf) zf w fun b2 w_1=>
  zby (zc P zf) zf w_1 fun b3 w_2=>
  zn i fun p=>
  ld (.int .i64) (Addr.add p 2) w_2 fun (t8:Int)=>
  xq (t8 != 0) (
  ldA P 32 (⟨b3,0,none⟩:Addr) w_2 fun t10=>
  zcj P (storeVar zf (⟨b2,0,none⟩:Addr) (Value.agg t10)) w_2 fun w_3=>
  ldA P 32 (⟨b2,0,none⟩:Addr) w_3 fun t2=>
  R (.returned (Value.agg t2)) w_3) (
  xg P zje #[(Value.pointer i)] [.int .i64] false w_2 fun (t12:Int) w_4=>
  xq (decide (t12 < 32)) (
  xg P zcx #[(Value.pointer i),(Value.int .i64 20)] [] true w_4 fun (_:Unit) w_5=>
  ldA P 32 (⟨b3,0,none⟩:Addr) w_5 fun t16=>
  zcj P (storeVar zf (⟨b2,0,none⟩:Addr) (Value.agg t16)) w_5 fun w_6=>
  ldA P 32 (⟨b2,0,none⟩:Addr) w_6 fun t2_1=>
  R (.returned (Value.agg t2_1)) w_6) (
  za7 Int (fun s w_7 k=>
  xq (decide (s < 32)) (
  zbs w_7 fun w_8=>
  zn i fun p_1=>
  zn i fun p_2=>
  ld .slc p_1 w_8 fun (t25:(Option Addr×Nat×Nat))=>
  ld (.int .i64) (Addr.add p_2 1) w_8 fun (t29:Int)=>
  zb6 .i64 t29 s fun t31=>
  ixS t25.1 t25.2.1 1 t31 fun t32=>
  ld (.int .u8) t32 w_8 fun (t33:Int)=>
  ixR (⟨b3,0,none⟩:Addr) 32 1 s fun t34=>
  stC t34 (Value.int .u8 t33) w_8 fun w_9=>
  zb6 .i64 s 1 fun t20=>
  k t20 w_9) (
  zn i fun p_3=>
  ld (.int .i64) (Addr.add p_3 1) w_7 fun (t38:Int)=>
  zb6 .i64 t38 32 fun t39=>
  zn i fun p_4=>
  stC (Addr.add p_4 1) (Value.int .i64 t39) w_7 fun w_10=>
  ldA P 32 (⟨b3,0,none⟩:Addr) w_10 fun t42=>
  zcj P (storeVar zf (⟨b2,0,none⟩:Addr) (Value.agg t42)) w_10 fun w_11=>
  ldA P 32 (⟨b2,0,none⟩:Addr) w_11 fun t2_2=>
  R (.returned (Value.agg t2_2)) w_11)) 0 w_4))
theorem zzt (i:Option Addr) (R:Ending->World->Prop) (w:World):tr P qs ((Tryz.f144.body).getD .skip) zj0 (zch 0 [(0,(Value.pointer i))]) (zck P Tryz.f144.results.toList R) w=zme i R w:=by kernel_rfl
theorem zzr {i:Option Addr}{R:Ending->World->Prop}{w:World}(hT:zme i R w):qg P zi0 #[(Value.pointer i)] w R:=
 zx (fn:=Tryz.f144) (c:=(Tryz.f144.body).getD .skip) (ann:=zj0) (args:=[(0,(Value.pointer i))]) (qs:=qs) mixed Tryz.func144 rfl (by kernel_rfl) (by kernel_rfl) zzi ((zzt i R w).symm▸hT)
def zl8:Ann:=(.seq .leaf (.seq (.tree (.op 0 [] (.op 1 [] (.op 2 [] (.op 5 [] (.op 6 [] (.op 7 [] (.op 3 [] (.op 4 [] (.op 8 [] (.op 9 [] (.op 10 [] .done)))))))))))) .leaf))
theorem z4u:okC P qs Tryz.f145.ntmps ((Tryz.f145.body).getD .skip) zl8=true:=by kernel_rfl
def zpu (i:Option Addr) (R:Ending->World->Prop) (w:World):Prop:=
  zbs w fun w_1=>
  zn i fun p=>
  zn i fun p_1=>
  ld .slc p w_1 fun (t6:(Option Addr×Nat×Nat))=>
  ld (.int .i64) (Addr.add p_1 1) w_1 fun (t11:Int)=>
  zqa .i64 (t6.2.1:Int) t11 fun t12=>
  R (.returned (Value.int .i64 t12)) w_1
theorem z4s (i:Option Addr) (R:Ending->World->Prop) (w:World):tr P qs ((Tryz.f145.body).getD .skip) zl8 (zch 0 [(0,(Value.pointer i))]) (zck P Tryz.f145.results.toList R) w=zpu i R w:=by kernel_rfl
theorem z5k {i:Option Addr}{R:Ending->World->Prop}{w:World}(hT:zpu i R w):qg P zje #[(Value.pointer i)] w R:=
 zx (fn:=Tryz.f145) (c:=(Tryz.f145.body).getD .skip) (ann:=zl8) (args:=[(0,(Value.pointer i))]) (qs:=qs) mixed Tryz.func145 rfl (by kernel_rfl) (by kernel_rfl) z4u ((z4s i R w).symm▸hT)
def zs6:Ann:=(.seq .leaf (.seq .leaf (.seq (.seq .leaf (.blk (.loop [(3,.slc),(4,.int .i64)] (.seq (.seq .leaf (.cond .leaf .leaf)) (.seq (.blk .leaf) .leaf))))) (.seq (.seq .leaf (.blk (.loop [(3,.slc),(5,.int .i64)] (.seq (.seq .leaf (.cond .leaf .leaf)) (.seq (.blk .leaf) .leaf))))) (.seq .leaf .leaf)))))
theorem qdl:okC P qs Tryz.f146.ntmps ((Tryz.f146.body).getD .skip) zs6=true:=by kernel_rfl
def zx3 (n:Value) (R:Ending->World->Prop) (w:World):Prop:=
  zby (Value.cells n) zh w fun b1 w_1=>
  za7 ((Option Addr×Nat×Nat)×Int) (fun s w_2 k=>
  ld .slc (⟨b1,3,none⟩:Addr) w_2 fun (t8:(Option Addr×Nat×Nat))=>
  xq (decide (s.2 < (t8.2.1:Int))) (
  ld .slc (⟨b1,3,none⟩:Addr) w_2 fun (t15:(Option Addr×Nat×Nat))=>
  ixS t15.1 t15.2.1 32 s.2 fun t17=>
  ldA P 32 t17 w_2 fun t18=>
  zbc P (Instr.build zy #[(1,(Value.int .i64 1)),(2,(Value.agg t18))]) .any w_2 fun (t19:Value)=>
  za1 P (Instr.buildSlice jg 1 #[(0,t19)]) .slc w_2 fun (t20:(Option Addr×Nat×Nat)) w_3=>
  za1 P (Builtin.append_ #[jg,jg] jg #[(Value.slice s.1.1 s.1.2.1 s.1.2.2),(Value.slice t20.1 t20.2.1 t20.2.2)]) .slc w_3 fun (t21:(Option Addr×Nat×Nat)) w_4=>
  zb6 .i64 s.2 1 fun t12=>
  k ((t21.1,t21.2.1,t21.2.2),t12) w_4) (
  za7 ((Option Addr×Nat×Nat)×Int) (fun s_1 w_5 k_1=>
  ld .slc (⟨b1,4,none⟩:Addr) w_5 fun (t24:(Option Addr×Nat×Nat))=>
  xq (decide (s_1.2 < (t24.2.1:Int))) (
  ld .slc (⟨b1,4,none⟩:Addr) w_5 fun (t31:(Option Addr×Nat×Nat))=>
  ixS t31.1 t31.2.1 34 s_1.2 fun t33=>
  ldA P 34 t33 w_5 fun t34=>
  za1 P (Instr.buildSlice jg 1 #[(0,(Value.agg t34))]) .slc w_5 fun (t35:(Option Addr×Nat×Nat)) w_6=>
  za1 P (Builtin.append_ #[jg,jg] jg #[(Value.slice s_1.1.1 s_1.1.2.1 s_1.1.2.2),(Value.slice t35.1 t35.2.1 t35.2.2)]) .slc w_6 fun (t36:(Option Addr×Nat×Nat)) w_7=>
  zb6 .i64 s_1.2 1 fun t28=>
  k_1 ((t36.1,t36.2.1,t36.2.2),t28) w_7) (
  R (.returned (Value.slice s_1.1.1 s_1.1.2.1 s_1.1.2.2)) w_5)) ((s.1.1,s.1.2.1,s.1.2.2),0) w_2)) ((none,0,0),0) w_1
theorem qdz (n:Value) (R:Ending->World->Prop) (w:World):tr P qs ((Tryz.f146.body).getD .skip) zs6 (zch 0 [(1,n)]) (zck P Tryz.f146.results.toList R) w=zx3 n R w:=by kernel_rfl
theorem qew {n:Value}{R:Ending->World->Prop}{w:World}(hT:zx3 n R w):qg P zxt #[n] w R:=
 zx (fn:=Tryz.f146) (c:=(Tryz.f146.body).getD .skip) (ann:=zs6) (args:=[(1,n)]) (qs:=qs) mixed Tryz.func146 rfl (by kernel_rfl) (by kernel_rfl) qdl ((qdz n R w).symm▸hT)
def zm1:Ann:=(.seq .leaf (.seq .leaf (.seq .leaf (.blk (.loop [(3,.int .u64),(4,.int .i64)] (.seq (.jblk [(3,.int .u64)] (.seq .leaf (.seq (.seq .leaf (.cond (.seq .leaf .leaf) .leaf)) (.join [] (.seq .leaf (.cond (.seq .leaf (.seq .leaf .leaf)) .leaf)) (.seq .leaf (.seq .leaf (.cond (.seq .leaf .leaf) .leaf))))))) .leaf))))))
theorem z4z:okC P qs Tryz.f176.ntmps ((Tryz.f176.body).getD .skip) zm1=true:=by kernel_rfl
def zpt (i:Option Addr) (R:Ending->World->Prop) (w:World):Prop:=
  za7 (Int×Int) (fun s w_1 k=>
  ku Int (fun k_1=>
  xg P zod #[(Value.pointer i)] [.int .u8,.bool] true w_1 fun (t11:(Int×Bool)) w_2=>
  xq (!t11.2) (
  R (.returned (Value.int .u64 0)) w_2) (
  ku Unit (fun k_2=>
  xq (s.2==9) (
  xq (decide (t11.1 > 1)) (
  xg P zc9 #[(Value.pointer i),(Value.int .i64 21)] [] true w_2 fun (_:Unit) w_3=>
  R (.returned (Value.int .u64 0)) w_3) (
  xq (decide (s.2 > 0)) (
  xq (t11.1==0) (
  xg P zc9 #[(Value.pointer i),(Value.int .i64 21)] [] true w_2 fun (_:Unit) w_4=>
  R (.returned (Value.int .u64 0)) w_4) (
  k_2 () w_2)) (
  k_2 () w_2))) (
  xq (decide (s.2 > 0)) (
  xq (t11.1==0) (
  xg P zc9 #[(Value.pointer i),(Value.int .i64 21)] [] true w_2 fun (_:Unit) w_5=>
  R (.returned (Value.int .u64 0)) w_5) (
  k_2 () w_2)) (
  k_2 () w_2))) (fun _ w_6=>
  qel .u8 t11.1 127 fun t34=>
  cvI .u64 t34 fun t35=>
  z3y .i64 7 s.2 fun t37=>
  qj7 .u64 t35 t37 fun t38=>
  orI .u64 s.1 t38 fun t39=>
  xq (decide (t11.1 < 128)) (
  R (.returned (Value.int .u64 t39)) w_6) (
  k_1 t39 w_6)))) (fun s_2 w_7=>
  zb6 .i64 s.2 1 fun t8=>
  k (s_2,t8) w_7)) (0,0) w
theorem z4y (i:Option Addr) (R:Ending->World->Prop) (w:World):tr P qs ((Tryz.f176.body).getD .skip) zm1 (zch 0 [(0,(Value.pointer i))]) (zck P Tryz.f176.results.toList R) w=zpt i R w:=by kernel_rfl
theorem z4a {i:Option Addr}{R:Ending->World->Prop}{w:World}(hT:zpt i R w):qg P zfv #[(Value.pointer i)] w R:=
 zx (fn:=Tryz.f176) (c:=(Tryz.f176.body).getD .skip) (ann:=zm1) (args:=[(0,(Value.pointer i))]) (qs:=qs) mixed Tryz.func176 rfl (by kernel_rfl) (by kernel_rfl) z4z ((z4y i R w).symm▸hT)
def zk1:Ann:=(.seq .leaf (.seq .leaf (.join [] (.seq .leaf (.cond (.seq .leaf .leaf) .leaf)) (.seq (.seq .leaf (.cond (.seq .leaf (.seq .leaf .leaf)) .leaf)) (.seq .leaf .leaf)))))
theorem z1w:okC P qs Tryz.f177.ntmps ((Tryz.f177.body).getD .skip) zk1=true:=by kernel_rfl
def zny (i:Option Addr) (most:Int) (R:Ending->World->Prop) (w:World):Prop:=
  xg P zfv #[(Value.pointer i)] [.int .u64] false w fun (t7:Int) w_1=>
  ku Unit (fun k=>
  xq (Option.isNone i) (
  R (.returned (Value.string (ByteArray.mk #[]))) w_1) (
  zn i fun p=>
  ld (.int .i64) (Addr.add p 1) w_1 fun (t14:Int)=>
  xq (t14 != 0) (
  R (.returned (Value.string (ByteArray.mk #[]))) w_1) (
  k () w_1))) (fun _ w_2=>
  zbc P (Builtin.max_ #[zco,zco] zco #[(Value.int .i64 most),(Value.int .i64 0)]) (.int .i64) w_2 fun (t19:Int)=>
  cvI .u64 t19 fun t20=>
  xq (decide (t7 > t20)) (
  xg P zc9 #[(Value.pointer i),(Value.int .i64 2)] [] true w_2 fun (_:Unit) w_3=>
  R (.returned (Value.string (ByteArray.mk #[]))) w_3) (
  cvI .i64 t7 fun t26=>
  xg P zhr #[(Value.pointer i),(Value.int .i64 t26)] [.slc] false w_2 fun (t27:(Option Addr×Nat×Nat)) w_4=>
  zbc P (convert zi jy (Value.slice t27.1 t27.2.1 t27.2.2)) .str w_4 fun (t28:ByteArray)=>
  R (.returned (Value.string t28)) w_4))
theorem z14 (i:Option Addr) (most:Int) (R:Ending->World->Prop) (w:World):tr P qs ((Tryz.f177.body).getD .skip) zk1 (zch 0 [(0,(Value.pointer i)),(0,(Value.int .i64 most))]) (zck P Tryz.f177.results.toList R) w=zny i most R w:=by kernel_rfl
theorem z2a {i:Option Addr}{most:Int}{R:Ending->World->Prop}{w:World}(hT:zny i most R w):qg P zkh #[(Value.pointer i),(Value.int .i64 most)] w R:=
 zx (fn:=Tryz.f177) (c:=(Tryz.f177.body).getD .skip) (ann:=zk1) (args:=[(0,(Value.pointer i)),(0,(Value.int .i64 most))]) (qs:=qs) mixed Tryz.func177 rfl (by kernel_rfl) (by kernel_rfl) z1w ((z14 i most R w).symm▸hT)
def zn6:Ann:=(.seq .leaf (.seq .leaf .leaf))
theorem z8o:okC P qs Tryz.f178.ntmps ((Tryz.f178.body).getD .skip) zn6=true:=by kernel_rfl
def znp (size:Int) (R:Ending->World->Prop) (w:World):Prop:=
  zb6 .i64 size 64 fun t4=>
  zqa .i64 t4 1 fun t5=>
  qom .i64 t5 64 fun t6=>
  R (.returned (Value.int .i64 t6)) w
theorem z9b (size:Int) (R:Ending->World->Prop) (w:World):tr P qs ((Tryz.f178.body).getD .skip) zn6 (zch 0 [(0,(Value.int .i64 size))]) (zck P Tryz.f178.results.toList R) w=znp size R w:=by kernel_rfl
theorem zwd {size:Int}{R:Ending->World->Prop}{w:World}(hT:znp size R w):qg P zkp #[(Value.int .i64 size)] w R:=
 zx (fn:=Tryz.f178) (c:=(Tryz.f178.body).getD .skip) (ann:=zn6) (args:=[(0,(Value.int .i64 size))]) (qs:=qs) mixed Tryz.func178 rfl (by kernel_rfl) (by kernel_rfl) z8o ((z9b size R w).symm▸hT)
def zix:Ann:=(.seq .leaf (.seq .leaf (.seq (.tree (.op 1 [] (.op 0 [] (.op 2 [0] (.op 3 [] .done))))) (.seq .leaf .leaf))))
theorem zxp:okC P qs Tryz.f179.ntmps ((Tryz.f179.body).getD .skip) zix=true:=by kernel_rfl
def zk9 (i:Option Addr) (R:Ending->World->Prop) (w:World):Prop:=
  zby (zc P zf) zf w fun b2 w_1=>
  zby (zc P zf) zf w_1 fun b3 w_2=>
  zbs w_2 fun w_3=>
  zbc P (Instr.sliceAt zf (Value.pointer (some (⟨b3,0,none⟩:Addr))) none none none) .slc w_3 fun (t4:(Option Addr×Nat×Nat))=>
  xg P zhr #[(Value.pointer i),(Value.int .i64 32)] [.slc] false w_3 fun (t6:(Option Addr×Nat×Nat)) w_4=>
  ((zbc P (Instr.sliceAt zf (Value.pointer (some (⟨b3,0,none⟩:Addr))) none none none) .slc w_4 fun (t4_1:(Option Addr×Nat×Nat))=>
  (Value.slice t4_1.1 t4_1.2.1 t4_1.2.2)=(Value.slice t4.1 t4.2.1 t4.2.2)) /\
  za1 P (Builtin.copy_ #[zi,zi] zco #[(Value.slice t4.1 t4.2.1 t4.2.2),(Value.slice t6.1 t6.2.1 t6.2.2)]) (.int .i64) w_4 fun (_:Int) w_5=>
  ldA P 32 (⟨b3,0,none⟩:Addr) w_5 fun t8=>
  zcj P (storeVar zf (⟨b2,0,none⟩:Addr) (Value.agg t8)) w_5 fun w_6=>
  ldA P 32 (⟨b2,0,none⟩:Addr) w_6 fun t2=>
  R (.returned (Value.agg t2)) w_6)
theorem zyp (i:Option Addr) (R:Ending->World->Prop) (w:World):tr P qs ((Tryz.f179.body).getD .skip) zix (zch 0 [(0,(Value.pointer i))]) (zck P Tryz.f179.results.toList R) w=zk9 i R w:=by kernel_rfl
theorem zx5 {i:Option Addr}{R:Ending->World->Prop}{w:World}(hT:zk9 i R w):qg P zhy #[(Value.pointer i)] w R:=
 zx (fn:=Tryz.f179) (c:=(Tryz.f179.body).getD .skip) (ann:=zix) (args:=[(0,(Value.pointer i))]) (qs:=qs) mixed Tryz.func179 rfl (by kernel_rfl) (by kernel_rfl) zxp ((zyp i R w).symm▸hT)
def zmy:Ann:=(.seq .leaf (.seq .leaf (.seq (.seq .leaf (.blk (.loop [(3,.str),(8,.int .i64)] (.seq .leaf (.seq (.cond .leaf .leaf) (.seq (.jblk [(3,.str)] (.seq .leaf (.join [] (.seq .leaf (.cond (.seq .leaf .leaf) .leaf)) (.seq .leaf (.jblk [(3,.str)] (.seq (.blk (.join [] (.jblk [] (.blk (.seq (.seq (.seq .leaf (.cond .leaf .leaf)) (.seq .leaf (.cond .leaf .leaf))) .leaf))) (.seq .leaf .leaf))) (.seq (.seq .leaf .leaf) .leaf))))))) .leaf)))))) (.seq .leaf .leaf))))
theorem z4b:okC P qs Tryz.f180.ntmps ((Tryz.f180.body).getD .skip) zmy=true:=by kernel_rfl
def zqp (items:Option Addr) (items_l items_c:Nat) (R:Ending->World->Prop) (w:World):Prop:=
  za7 (ByteArray×Int) (fun s w_1 k=>
  xq (decide (s.2 < (items_l:Int))) (
  ku ByteArray (fun k_1=>
  ixS items items_l 34 s.2 fun t10=>
  ldA P 34 t10 w_1 fun t11=>
  zby (zc P zy) zy w_1 fun b5 w_2=>
  zcj P (storeVar zy (⟨b5,0,none⟩:Addr) (Value.agg t11)) w_2 fun w_3=>
  ku Unit (fun k_2=>
  ld .str (⟨b5,0,none⟩:Addr) w_3 fun (t13:ByteArray)=>
  xq ((Op.bytesLess t13.toList s.1.toList) || (t13.toList==s.1.toList)) (
  R (.returned (Value.bool false)) w_3) (
  ld .str (⟨b5,0,none⟩:Addr) w_3 fun (t18:ByteArray)=>
  za1 P (Instr.buildSlice zai 1 #[(0,(Value.string t18))]) .slc w_3 fun (t19:(Option Addr×Nat×Nat)) w_4=>
  xg P zqh #[(Value.slice t19.1 t19.2.1 t19.2.2)] [.int .i64] false w_4 fun (t20:Int) w_5=>
  xq (t20 != 0) (
  R (.returned (Value.bool false)) w_5) (
  k_2 () w_5))) (fun _ w_6=>
  ld (.int .i64) (⟨b5,1,none⟩:Addr) w_6 fun (t24:Int)=>
  ku ByteArray (fun k_3=>
  ku Unit (fun k_4=>
  ku Unit (fun k_5=>
  xq (t24==2) (
  k_5 () w_6) (
  xq (t24==3) (
  k_5 () w_6) (
  R (.returned (Value.bool false)) w_6))) (fun _ w_7=>
  k_4 () w_7)) (fun _ w_8=>
  ld .str (⟨b5,0,none⟩:Addr) w_8 fun (t30:ByteArray)=>
  k_3 t30 w_8)) (fun s_4 w_9=>
  k_1 s_4 w_9))) (fun s_5 w_10=>
  zb6 .i64 s.2 1 fun t31=>
  k (s_5,t31) w_10)) (
  R (.returned (Value.bool (decide ((items_l:Int)<=64)))) w_1)) ((ByteArray.mk #[]),0) w
theorem z5m (items:Option Addr) (items_l items_c:Nat) (R:Ending->World->Prop) (w:World):tr P qs ((Tryz.f180.body).getD .skip) zmy (zch 0 [(0,(Value.slice items items_l items_c))]) (zck P Tryz.f180.results.toList R) w=zqp items items_l items_c R w:=by kernel_rfl
theorem z4c {items:Option Addr}{items_l items_c:Nat}{R:Ending->World->Prop}{w:World}(hT:zqp items items_l items_c R w):qg P zpr #[(Value.slice items items_l items_c)] w R:=
 zx (fn:=Tryz.f180) (c:=(Tryz.f180.body).getD .skip) (ann:=zmy) (args:=[(0,(Value.slice items items_l items_c))]) (qs:=qs) mixed Tryz.func180 rfl (by kernel_rfl) (by kernel_rfl) z4b ((z5m items items_l items_c R w).symm▸hT)
def zoa:Ann:=(.seq .leaf .leaf)
theorem z8w:okC P qs Tryz.f181.ntmps ((Tryz.f181.body).getD .skip) zoa=true:=by kernel_rfl
def zr3 (i:Option Addr) (e:Int) (R:Ending->World->Prop) (w:World):Prop:=
  zn i fun p=>
  stC (Addr.add p 2) (Value.int .i64 e) w fun w_1=>
  zn i fun p_1=>
  ld .slc p_1 w_1 fun (t12:(Option Addr×Nat×Nat))=>
  zn i fun p_2=>
  stC (Addr.add p_2 1) (Value.int .i64 (t12.2.1:Int)) w_1 fun w_2=>
  R (.returned (Value.tuple #[])) w_2
theorem z8r (i:Option Addr) (e:Int) (R:Ending->World->Prop) (w:World):tr P qs ((Tryz.f181.body).getD .skip) zoa (zch 0 [(0,(Value.pointer i)),(0,(Value.int .i64 e))]) (zck P Tryz.f181.results.toList R) w=zr3 i e R w:=by kernel_rfl
theorem z7w {i:Option Addr}{e:Int}{R:Ending->World->Prop}{w:World}(hT:zr3 i e R w):qg P zcx #[(Value.pointer i),(Value.int .i64 e)] w R:=
 zx (fn:=Tryz.f181) (c:=(Tryz.f181.body).getD .skip) (ann:=zoa) (args:=[(0,(Value.pointer i)),(0,(Value.int .i64 e))]) (qs:=qs) mixed Tryz.func181 rfl (by kernel_rfl) (by kernel_rfl) z8w ((z8r i e R w).symm▸hT)
def zlr:Ann:=(.seq .leaf (.join [] (.seq .leaf (.cond (.seq .leaf .leaf) .leaf)) (.seq (.seq .leaf (.cond (.seq .leaf (.seq .leaf .leaf)) .leaf)) (.seq .leaf (.seq .leaf (.seq .leaf .leaf))))))
theorem z3c:okC P qs Tryz.f204.ntmps ((Tryz.f204.body).getD .skip) zlr=true:=by kernel_rfl
def znx (i:Option Addr) (R:Ending->World->Prop) (w:World):Prop:=
  ku Unit (fun k=>
  xq (Option.isNone i) (
  R (.returned (Value.tuple #[(Value.int .u8 0),(Value.bool false)])) w) (
  zn i fun p=>
  ld (.int .i64) (Addr.add p 1) w fun (t11:Int)=>
  xq (t11 != 0) (
  R (.returned (Value.tuple #[(Value.int .u8 0),(Value.bool false)])) w) (
  k () w))) (fun _ w_1=>
  zn i fun p_1=>
  ld .slc p_1 w_1 fun (t17:(Option Addr×Nat×Nat))=>
  xq ((t17.2.1:Int)==0) (
  xg P zc9 #[(Value.pointer i),(Value.int .i64 20)] [] true w_1 fun (_:Unit) w_2=>
  R (.returned (Value.tuple #[(Value.int .u8 0),(Value.bool false)])) w_2) (
  zn i fun p_2=>
  ld .slc p_2 w_1 fun (t25:(Option Addr×Nat×Nat))=>
  ixS t25.1 t25.2.1 1 0 fun t26=>
  ld (.int .u8) t26 w_1 fun (t27:Int)=>
  zn i fun p_3=>
  ld .slc p_3 w_1 fun (t32:(Option Addr×Nat×Nat))=>
  zbc P (Instr.sliceAt zi (Value.slice t32.1 t32.2.1 t32.2.2) (some (Value.int .i64 1)) none none) .slc w_1 fun (t33:(Option Addr×Nat×Nat))=>
  zn i fun p_4=>
  stC p_4 (Value.slice t33.1 t33.2.1 t33.2.2) w_1 fun w_3=>
  R (.returned (Value.tuple #[(Value.int .u8 t27),(Value.bool true)])) w_3))
theorem z3g (i:Option Addr) (R:Ending->World->Prop) (w:World):tr P qs ((Tryz.f204.body).getD .skip) zlr (zch 0 [(0,(Value.pointer i))]) (zck P Tryz.f204.results.toList R) w=znx i R w:=by kernel_rfl
theorem z2z {i:Option Addr}{R:Ending->World->Prop}{w:World}(hT:znx i R w):qg P zod #[(Value.pointer i)] w R:=
 zx (fn:=Tryz.f204) (c:=(Tryz.f204.body).getD .skip) (ann:=zlr) (args:=[(0,(Value.pointer i))]) (qs:=qs) mixed Tryz.func204 rfl (by kernel_rfl) (by kernel_rfl) z3c ((z3g i R w).symm▸hT)
def zlh:Ann:=.leaf
theorem z0x:okC P qs Tryz.f205.ntmps ((Tryz.f205.body).getD .skip) zlh=true:=by kernel_rfl
def zoy (i:Option Addr) (e:Int) (R:Ending->World->Prop) (w:World):Prop:=
  zn i fun p=>
  stC p (Value.slice none 0 0) w fun w_1=>
  zn i fun p_1=>
  stC (Addr.add p_1 1) (Value.int .i64 e) w_1 fun w_2=>
  R (.returned (Value.tuple #[])) w_2
theorem z2k (i:Option Addr) (e:Int) (R:Ending->World->Prop) (w:World):tr P qs ((Tryz.f205.body).getD .skip) zlh (zch 0 [(0,(Value.pointer i)),(0,(Value.int .i64 e))]) (zck P Tryz.f205.results.toList R) w=zoy i e R w:=by kernel_rfl
theorem z09 {i:Option Addr}{e:Int}{R:Ending->World->Prop}{w:World}(hT:zoy i e R w):qg P zc9 #[(Value.pointer i),(Value.int .i64 e)] w R:=
 zx (fn:=Tryz.f205) (c:=(Tryz.f205.body).getD .skip) (ann:=zlh) (args:=[(0,(Value.pointer i)),(0,(Value.int .i64 e))]) (qs:=qs) mixed Tryz.func205 rfl (by kernel_rfl) (by kernel_rfl) z0x ((z2k i e R w).symm▸hT)
def zlo:Ann:=(.seq .leaf (.join [] (.seq .leaf (.cond (.seq .leaf .leaf) .leaf)) (.seq (.seq .leaf (.cond (.seq .leaf (.seq .leaf .leaf)) .leaf)) (.seq .leaf (.seq .leaf (.seq .leaf .leaf))))))
theorem z3d:okC P qs Tryz.f206.ntmps ((Tryz.f206.body).getD .skip) zlo=true:=by kernel_rfl
def zki (i:Option Addr) (n:Int) (R:Ending->World->Prop) (w:World):Prop:=
  ku Unit (fun k=>
  xq (Option.isNone i) (
  R (.returned (Value.slice none 0 0)) w) (
  zn i fun p=>
  ld (.int .i64) (Addr.add p 1) w fun (t12:Int)=>
  xq (t12 != 0) (
  R (.returned (Value.slice none 0 0)) w) (
  k () w))) (fun _ w_1=>
  zn i fun p_1=>
  ld .slc p_1 w_1 fun (t19:(Option Addr×Nat×Nat))=>
  xq (decide (n > (t19.2.1:Int))) (
  xg P zc9 #[(Value.pointer i),(Value.int .i64 20)] [] true w_1 fun (_:Unit) w_2=>
  R (.returned (Value.slice none 0 0)) w_2) (
  zn i fun p_2=>
  ld .slc p_2 w_1 fun (t27:(Option Addr×Nat×Nat))=>
  zbc P (Instr.sliceAt zi (Value.slice t27.1 t27.2.1 t27.2.2) none (some (Value.int .i64 n)) none) .slc w_1 fun (t29:(Option Addr×Nat×Nat))=>
  zn i fun p_3=>
  ld .slc p_3 w_1 fun (t34:(Option Addr×Nat×Nat))=>
  zbc P (Instr.sliceAt zi (Value.slice t34.1 t34.2.1 t34.2.2) (some (Value.int .i64 n)) none none) .slc w_1 fun (t36:(Option Addr×Nat×Nat))=>
  zn i fun p_4=>
  stC p_4 (Value.slice t36.1 t36.2.1 t36.2.2) w_1 fun w_3=>
  R (.returned (Value.slice t29.1 t29.2.1 t29.2.2)) w_3))
theorem z00 (i:Option Addr) (n:Int) (R:Ending->World->Prop) (w:World):tr P qs ((Tryz.f206.body).getD .skip) zlo (zch 0 [(0,(Value.pointer i)),(0,(Value.int .i64 n))]) (zck P Tryz.f206.results.toList R) w=zki i n R w:=by kernel_rfl
theorem zsl {i:Option Addr}{n:Int}{R:Ending->World->Prop}{w:World}(hT:zki i n R w):qg P zhr #[(Value.pointer i),(Value.int .i64 n)] w R:=
 zx (fn:=Tryz.f206) (c:=(Tryz.f206.body).getD .skip) (ann:=zlo) (args:=[(0,(Value.pointer i)),(0,(Value.int .i64 n))]) (qs:=qs) mixed Tryz.func206 rfl (by kernel_rfl) (by kernel_rfl) z3d ((z00 i n R w).symm▸hT)
set_option maxRecDepth 100000
def zog:Ann:=(.seq .leaf (.seq (.seq .leaf (.cond (.seq .leaf .leaf) .leaf)) (.seq .leaf (.seq (.seq .leaf (.cond (.seq .leaf .leaf) .leaf)) (.seq .leaf (.seq (.seq .leaf (.cond (.seq .leaf .leaf) .leaf)) (.seq .leaf (.seq .leaf (.seq .leaf (.seq .leaf (.seq (.seq .leaf (.seq .leaf (.cond (.seq .leaf .leaf) .leaf))) (.seq .leaf .leaf))))))))))))
theorem z8f:okC P qs Tryz.f14.ntmps ((Tryz.f14.body).getD .skip) zog=true:=by kernel_rfl
def zsm (s:Option Addr) (list:Option Addr) (list_l list_c:Nat) (R:Ending->World->Prop) (w:World):Prop:=
  zby (zc P zf) zf w fun b4 w_1=>
  xq (Option.isNone s) (
  zbc P (Instr.build zf #[]) .any w_1 fun (t15:Value)=>
  zcj P (storeVar zf (⟨b4,0,none⟩:Addr) t15) w_1 fun w_2=>
  ldA P 32 (⟨b4,0,none⟩:Addr) w_2 fun t4=>
  R (.returned (Value.tuple #[(Value.agg t4),(Value.int .i64 7)])) w_2) (
  xg P zrp #[(Value.slice list list_l list_c)] [.slc,.int .i64] true w_1 fun (t18:((Option Addr×Nat×Nat)×Int)) w_3=>
  xq (t18.2 != 0) (
  zbc P (Instr.build zf #[]) .any w_3 fun (t23:Value)=>
  zcj P (storeVar zf (⟨b4,0,none⟩:Addr) t23) w_3 fun w_4=>
  ldA P 32 (⟨b4,0,none⟩:Addr) w_4 fun t4_1=>
  R (.returned (Value.tuple #[(Value.agg t4_1),(Value.int .i64 t18.2)])) w_4) (
  xg P zsg #[(Value.slice t18.1.1 t18.1.2.1 t18.1.2.2)] [.map,.int .i64] true w_3 fun (t27:((Option Nat)×Int)) w_5=>
  zby (zc P zab) zab w_5 fun b8 w_6=>
  stC (⟨b8,0,none⟩:Addr) (Value.map t27.1) w_6 fun w_7=>
  xq (t27.2 != 0) (
  zbc P (Instr.build zf #[]) .any w_7 fun (t32:Value)=>
  zcj P (storeVar zf (⟨b4,0,none⟩:Addr) t32) w_7 fun w_8=>
  ldA P 32 (⟨b4,0,none⟩:Addr) w_8 fun t4_2=>
  R (.returned (Value.tuple #[(Value.agg t4_2),(Value.int .i64 t27.2)])) w_8) (
  zby (zc P jl) jl w_7 fun b9 w_9=>
  zby (zc P zdc) zdc w_9 fun b10 w_10=>
  zbc P (Instr.makeFunc (Go.Fn.func zkg) #[] #[(Value.pointer (some (⟨b8,0,none⟩:Addr))),(Value.pointer (some (⟨b10,0,none⟩:Addr))),(Value.pointer (some (⟨b9,0,none⟩:Addr)))]) .any w_10 fun (t34:Value)=>
  zcj P (storeVar zdc (⟨b10,0,none⟩:Addr) t34) w_10 fun w_11=>
  ld .any (⟨b10,0,none⟩:Addr) w_11 fun (t35:Value)=>
  zuk P t35 #[(Value.string (ByteArray.mk #[47]))] [.any] false w_11 fun (t36:Value) w_12=>
  zby (zc P zf) zf w_12 fun b11 w_13=>
  zcj P (storeVar zf (⟨b11,0,none⟩:Addr) t36) w_13 fun w_14=>
  ld .slc (⟨b9,0,none⟩:Addr) w_14 fun (t38:(Option Addr×Nat×Nat))=>
  xg P zfp #[(Value.pointer s),(Value.slice t38.1 t38.2.1 t38.2.2)] [.int .i64] false w_14 fun (t39:Int) w_15=>
  xq (t39 != 0) (
  zbc P (Instr.build zf #[]) .any w_15 fun (t42:Value)=>
  zcj P (storeVar zf (⟨b4,0,none⟩:Addr) t42) w_15 fun w_16=>
  ldA P 32 (⟨b4,0,none⟩:Addr) w_16 fun t4_3=>
  R (.returned (Value.tuple #[(Value.agg t4_3),(Value.int .i64 t39)])) w_16) (
  ldA P 32 (⟨b11,0,none⟩:Addr) w_15 fun t44=>
  zcj P (storeVar zf (⟨b4,0,none⟩:Addr) (Value.agg t44)) w_15 fun w_17=>
  ldA P 32 (⟨b4,0,none⟩:Addr) w_17 fun t4_4=>
  R (.returned (Value.tuple #[(Value.agg t4_4),(Value.int .i64 0)])) w_17))))
theorem z7s (s:Option Addr) (list:Option Addr) (list_l list_c:Nat) (R:Ending->World->Prop) (w:World):tr P qs ((Tryz.f14.body).getD .skip) zog (zch 0 [(0,(Value.pointer s)),(0,(Value.slice list list_l list_c))]) (zck P Tryz.f14.results.toList R) w=zsm s list list_l list_c R w:=by kernel_rfl
theorem z8j {s:Option Addr}{list:Option Addr}{list_l list_c:Nat}{R:Ending->World->Prop}{w:World}(hT:zsm s list list_l list_c R w):qg P zr1 #[(Value.pointer s),(Value.slice list list_l list_c)] w R:=
 zx (fn:=Tryz.f14) (c:=(Tryz.f14.body).getD .skip) (ann:=zog) (args:=[(0,(Value.pointer s)),(0,(Value.slice list list_l list_c))]) (qs:=qs) mixed Tryz.func14 rfl (by kernel_rfl) (by kernel_rfl) z8f ((z7s s list list_l list_c R w).symm▸hT)
def zn7:Ann:=(.seq .leaf (.seq .leaf (.seq (.seq .leaf (.blk (.loop [(4,.slc),(11,.int .i64)] (.seq .leaf (.seq (.cond .leaf .leaf) (.seq (.blk (.seq .leaf (.seq .leaf (.seq (.seq .leaf (.cond (.seq .leaf .leaf) .leaf)) .leaf)))) .leaf)))))) (.seq (.seq .leaf (.cond (.seq .leaf .leaf) .leaf)) (.seq (.seq .leaf (.cond (.seq .leaf .leaf) .leaf)) (.seq .leaf .leaf))))))
theorem z8h:okC P qs Tryz.f54.ntmps ((Tryz.f54.body).getD .skip) zn7=true:=by kernel_rfl
def zsr (list:Option Addr) (list_l list_c:Nat) (R:Ending->World->Prop) (w:World):Prop:=
  za7 ((Option Addr×Nat×Nat)×Int) (fun s w_1 k=>
  xq (decide (s.2 < (list_l:Int))) (
  ixS list list_l 3 s.2 fun t13=>
  ldA P 3 t13 w_1 fun t14=>
  zby (zc P zbh) zbh w_1 fun b6 w_2=>
  zcj P (storeVar zbh (⟨b6,0,none⟩:Addr) (Value.agg t14)) w_2 fun w_3=>
  ld .str (⟨b6,0,none⟩:Addr) w_3 fun (t17:ByteArray)=>
  xg P zp6 #[(Value.string t17)] [.slc,.int .i64] true w_3 fun (t18:((Option Addr×Nat×Nat)×Int)) w_4=>
  xq (t18.2 != 0) (
  R (.returned (Value.tuple #[(Value.slice none 0 0),(Value.int .i64 t18.2)])) w_4) (
  ldA P 3 (⟨b6,0,none⟩:Addr) w_4 fun t26=>
  zbc P (Instr.build qm #[(0,(Value.slice t18.1.1 t18.1.2.1 t18.1.2.2)),(1,(Value.agg t26))]) .any w_4 fun (t27:Value)=>
  za1 P (Instr.buildSlice za5 1 #[(0,t27)]) .slc w_4 fun (t28:(Option Addr×Nat×Nat)) w_5=>
  za1 P (Builtin.append_ #[za5,za5] za5 #[(Value.slice s.1.1 s.1.2.1 s.1.2.2),(Value.slice t28.1 t28.2.1 t28.2.2)]) .slc w_5 fun (t29:(Option Addr×Nat×Nat)) w_6=>
  zb6 .i64 s.2 1 fun t30=>
  k ((t29.1,t29.2.1,t29.2.2),t30) w_6)) (
  xg P zay #[(Value.slice list list_l list_c),(Value.func (.func zn1) #[] #[])] [.bool] false w_1 fun (t32:Bool) w_7=>
  xq t32 (
  R (.returned (Value.tuple #[(Value.slice none 0 0),(Value.int .i64 1)])) w_7) (
  xg P zay #[(Value.slice list list_l list_c),(Value.func (.func zn8) #[] #[])] [.bool] false w_7 fun (t34:Bool) w_8=>
  xq t34 (
  R (.returned (Value.tuple #[(Value.slice none 0 0),(Value.int .i64 134)])) w_8) (
  R (.returned (Value.tuple #[(Value.slice s.1.1 s.1.2.1 s.1.2.2),(Value.int .i64 0)])) w_8)))) ((none,0,0),0) w
theorem z8g (list:Option Addr) (list_l list_c:Nat) (R:Ending->World->Prop) (w:World):tr P qs ((Tryz.f54.body).getD .skip) zn7 (zch 0 [(0,(Value.slice list list_l list_c))]) (zck P Tryz.f54.results.toList R) w=zsr list list_l list_c R w:=by kernel_rfl
theorem z9g {list:Option Addr}{list_l list_c:Nat}{R:Ending->World->Prop}{w:World}(hT:zsr list list_l list_c R w):qg P zrp #[(Value.slice list list_l list_c)] w R:=
 zx (fn:=Tryz.f54) (c:=(Tryz.f54.body).getD .skip) (ann:=zn7) (args:=[(0,(Value.slice list list_l list_c))]) (qs:=qs) mixed Tryz.func54 rfl (by kernel_rfl) (by kernel_rfl) z8h ((z8g list list_l list_c R w).symm▸hT)
def zn4:Ann:=(.seq .leaf (.seq .leaf (.seq (.seq .leaf (.blk (.loop [(24,.int .i64)] (.seq .leaf (.seq (.cond .leaf .leaf) (.seq (.blk (.seq .leaf (.seq (.seq .leaf (.seq .leaf (.cond (.seq .leaf .leaf) .leaf))) (.tree (.op 0 [] (.op 1 [] (.op 2 [] (.op 4 [] (.op 3 [4] (.op 5 [] .done)))))))))) .leaf)))))) (.seq .leaf (.seq .leaf (.seq (.seq .leaf (.blk (.loop [(10,.bool),(46,.int .i64)] (.seq .leaf (.seq (.cond .leaf .leaf) (.seq (.blk (.seq .leaf (.seq .leaf (.seq .leaf (.seq (.seq .leaf (.cond (.seq .leaf .leaf) .leaf)) (.join [(10,.bool)] .leaf .leaf)))))) .leaf)))))) (.seq (.seq .leaf (.cond (.seq .leaf .leaf) .leaf)) (.seq (.seq .leaf (.blk (.loop [] (.seq .leaf (.seq (.cond .leaf .leaf) (.blk (.seq .leaf (.seq (.seq .leaf (.cond (.seq .leaf .leaf) .leaf)) .leaf)))))))) (.seq .leaf .leaf)))))))))
theorem z9f:okC P qs Tryz.f55.ntmps ((Tryz.f55.body).getD .skip) zn4=true:=by kernel_rfl
def zrx (list:Option Addr) (list_l list_c:Nat) (R:Ending->World->Prop) (w:World):Prop:=
  za1 P (Instr.makeMap zcn none) .map w fun (t18:(Option Nat)) w_1=>
  zbc P (Instr.build zbh #[(1,(Value.bool true))]) .any w_1 fun (t19:Value)=>
  zbc P (Instr.build qm #[(0,(Value.slice none 0 0)),(1,t19)]) .any w_1 fun (t20:Value)=>
  zcj P (Instr.mapUpdate zcn (Value.map t18) (Value.string (ByteArray.mk #[47])) t20) w_1 fun w_2=>
  za7 Int (fun s w_3 k=>
  xq (decide (s < (list_l:Int))) (
  ixS list list_l 4 s fun t26=>
  ldA P 4 t26 w_3 fun t27=>
  zby (zc P qm) qm w_3 fun b6 w_4=>
  zcj P (storeVar qm (⟨b6,0,none⟩:Addr) (Value.agg t27)) w_4 fun w_5=>
  ld .slc (⟨b6,0,none⟩:Addr) w_5 fun (t31:(Option Addr×Nat×Nat))=>
  xg P zij #[(Value.slice t31.1 t31.2.1 t31.2.2)] [.str] false w_5 fun (t32:ByteArray) w_6=>
  qil P (Instr.lookup zcn (Value.map t18) (Value.string t32) true) [.any,.bool] w_6 fun (t33:(Value×Bool))=>
  zby (zc P qm) qm w_6 fun b7 w_7=>
  zcj P (storeVar qm (⟨b7,0,none⟩:Addr) t33.1) w_7 fun w_8=>
  xq t33.2 (
  R (.returned (Value.tuple #[(Value.map none),(Value.int .i64 5)])) w_8) (
  zbs w_8 fun w_9=>
  ld .slc (⟨b6,0,none⟩:Addr) w_9 fun (t39:(Option Addr×Nat×Nat))=>
  ldA P 4 (⟨b6,0,none⟩:Addr) w_9 fun t41=>
  xg P zij #[(Value.slice t39.1 t39.2.1 t39.2.2)] [.str] false w_9 fun (t40:ByteArray) w_10=>
  ((ldA P 4 (⟨b6,0,none⟩:Addr) w_10 fun t41_1=>
  (Value.agg t41_1)=(Value.agg t41)) /\
  zcj P (Instr.mapUpdate zcn (Value.map t18) (Value.string t40) (Value.agg t41)) w_10 fun w_11=>
  zb6 .i64 s 1 fun t42=>
  k t42 w_11))) (
  za1 P (Instr.makeMap zab none) .map w_3 fun (t43:(Option Nat)) w_12=>
  za7 (Bool×Int) (fun s_1 w_13 k_1=>
  xq (decide (s_1.2 < (list_l:Int))) (
  ixS list list_l 4 s_1.2 fun t48=>
  ldA P 4 t48 w_13 fun t49=>
  zby (zc P qm) qm w_13 fun b12 w_14=>
  zcj P (storeVar qm (⟨b12,0,none⟩:Addr) (Value.agg t49)) w_14 fun w_15=>
  ld .slc (⟨b12,0,none⟩:Addr) w_15 fun (t51:(Option Addr×Nat×Nat))=>
  ld .slc (⟨b12,0,none⟩:Addr) w_15 fun (t53:(Option Addr×Nat×Nat))=>
  zqa .i64 (t53.2.1:Int) 1 fun t55=>
  zbc P (Instr.sliceAt zai (Value.slice t51.1 t51.2.1 t51.2.2) none (some (Value.int .i64 t55)) none) .slc w_15 fun (t56:(Option Addr×Nat×Nat))=>
  xg P zij #[(Value.slice t56.1 t56.2.1 t56.2.2)] [.str] false w_15 fun (t57:ByteArray) w_16=>
  qil P (Instr.lookup zcn (Value.map t18) (Value.string t57) true) [.any,.bool] w_16 fun (t61:(Value×Bool))=>
  zby (zc P qm) qm w_16 fun b14 w_17=>
  zcj P (storeVar qm (⟨b14,0,none⟩:Addr) t61.1) w_17 fun w_18=>
  xq (!t61.2) (
  R (.returned (Value.tuple #[(Value.map none),(Value.int .i64 4)])) w_18) (
  ku Bool (fun k_2=>
  xq s_1.1 (
  k_2 true w_18) (
  ld .bool (⟨b14,2,none⟩:Addr) w_18 fun (t70:Bool)=>
  k_2 (!t70) w_18)) (fun s_2 w_19=>
  zbc P (Instr.lookup zab (Value.map t43) (Value.string t57) false) .slc w_19 fun (t77:(Option Addr×Nat×Nat))=>
  ldA P 4 (⟨b12,0,none⟩:Addr) w_19 fun t78=>
  za1 P (Instr.buildSlice za5 1 #[(0,(Value.agg t78))]) .slc w_19 fun (t79:(Option Addr×Nat×Nat)) w_20=>
  za1 P (Builtin.append_ #[za5,za5] za5 #[(Value.slice t77.1 t77.2.1 t77.2.2),(Value.slice t79.1 t79.2.1 t79.2.2)]) .slc w_20 fun (t80:(Option Addr×Nat×Nat)) w_21=>
  zcj P (Instr.mapUpdate zab (Value.map t43) (Value.string t57) (Value.slice t80.1 t80.2.1 t80.2.2)) w_21 fun w_22=>
  zb6 .i64 s_1.2 1 fun t81=>
  k_1 (s_2,t81) w_22))) (
  xq s_1.1 (
  R (.returned (Value.tuple #[(Value.map none),(Value.int .i64 70)])) w_13) (
  za1 P (Instr.range zab (Value.map t43)) .ptr w_13 fun (t84:(Option Addr)) w_23=>
  za7 Unit (fun _ w_24 k_3=>
  za1 P (Instr.next (Value.pointer t84) false zep) .any w_24 fun (t85:Value) w_25=>
  exV t85 0 .bool fun (t86:Bool)=>
  xq t86 (
  zbc P (Instr.entry (Value.pointer t84)) .any w_25 fun (t87:Value)=>
  exV t87 1 .slc fun (t88:(Option Addr×Nat×Nat))=>
  xq (decide ((t88.2.1:Int) > 64)) (
  R (.returned (Value.tuple #[(Value.map none),(Value.int .i64 8)])) w_25) (
  xg P zc3 #[(Value.slice t88.1 t88.2.1 t88.2.2),(Value.func (.func zhv) #[] #[])] [] true w_25 fun (_:Unit) w_26=>
  k_3 () w_26)) (
  R (.returned (Value.tuple #[(Value.map t43),(Value.int .i64 0)])) w_25)) () w_23))) (false,0) w_12)) 0 w_2
theorem z9c (list:Option Addr) (list_l list_c:Nat) (R:Ending->World->Prop) (w:World):tr P qs ((Tryz.f55.body).getD .skip) zn4 (zch 0 [(0,(Value.slice list list_l list_c))]) (zck P Tryz.f55.results.toList R) w=zrx list list_l list_c R w:=by kernel_rfl
theorem z8c {list:Option Addr}{list_l list_c:Nat}{R:Ending->World->Prop}{w:World}(hT:zrx list list_l list_c R w):qg P zsg #[(Value.slice list list_l list_c)] w R:=
 zx (fn:=Tryz.f55) (c:=(Tryz.f55.body).getD .skip) (ann:=zn4) (args:=[(0,(Value.slice list list_l list_c))]) (qs:=qs) mixed Tryz.func55 rfl (by kernel_rfl) (by kernel_rfl) z9f ((z9c list list_l list_c R w).symm▸hT)
def zlm:Ann:=(.seq .leaf (.seq .leaf (.seq (.seq .leaf (.blk (.loop [(16,.int .i64)] (.seq .leaf (.seq (.cond .leaf .leaf) (.join [] (.jblk [] (.seq .leaf (.seq .leaf (.join [] (.seq .leaf (.cond (.tree (.op 1 [] (.op 5 [] (.op 0 [] (.op 2 [] (.op 3 [0] (.op 4 [] (.op 6 [] (.op 7 [] (.op 8 [] .done)))))))))) .leaf)) .leaf)))) .leaf)))))) (.seq .leaf (.seq .leaf (.seq .leaf .leaf))))))
theorem z2w:okC P qs Tryz.f56.ntmps ((Tryz.f56.body).getD .skip) zlm=true:=by kernel_rfl
def zom (atv:ByteArray) (c0:Option Addr) (c1:Option Addr) (c2:Option Addr) (R:Ending->World->Prop) (w:World):Prop:=
  zby (zc P zf) zf w fun b5 w_1=>
  zbc P (Instr.build zh #[(0,(Value.int .i64 3))]) .any w_1 fun (t11:Value)=>
  zby (zc P zh) zh w_1 fun b6 w_2=>
  zcj P (storeVar zh (⟨b6,0,none⟩:Addr) t11) w_2 fun w_3=>
  zn c0 fun p=>
  ld .map p w_3 fun (t12:(Option Nat))=>
  zbc P (Instr.lookup zab (Value.map t12) (Value.string atv) false) .slc w_3 fun (t14:(Option Addr×Nat×Nat))=>
  za7 Int (fun s w_4 k=>
  xq (decide (s < (t14.2.1:Int))) (
  ku Unit (fun k_1=>
  ku Unit (fun k_2=>
  ixS t14.1 t14.2.1 4 s fun t18=>
  ldA P 4 t18 w_4 fun t19=>
  zby (zc P qm) qm w_4 fun b8 w_5=>
  zcj P (storeVar qm (⟨b8,0,none⟩:Addr) (Value.agg t19)) w_5 fun w_6=>
  ld .slc (⟨b8,0,none⟩:Addr) w_6 fun (t21:(Option Addr×Nat×Nat))=>
  ld .slc (⟨b8,0,none⟩:Addr) w_6 fun (t23:(Option Addr×Nat×Nat))=>
  zqa .i64 (t23.2.1:Int) 1 fun t25=>
  ixS t21.1 t21.2.1 1 t25 fun t26=>
  ld .str t26 w_6 fun (t27:ByteArray)=>
  zbc P (Instr.build zy #[(0,(Value.string t27)),(1,(Value.int .i64 2))]) .any w_6 fun (t28:Value)=>
  zby (zc P zy) zy w_6 fun b9 w_7=>
  zcj P (storeVar zy (⟨b9,0,none⟩:Addr) t28) w_7 fun w_8=>
  ku Unit (fun k_3=>
  ld .bool (⟨b8,2,none⟩:Addr) w_8 fun (t31:Bool)=>
  xq t31 (
  zbs w_8 fun w_9=>
  zn c1 fun p_1=>
  ld .any p_1 w_9 fun (t32:Value)=>
  ld .slc (⟨b8,0,none⟩:Addr) w_9 fun (t34:(Option Addr×Nat×Nat))=>
  xg P zij #[(Value.slice t34.1 t34.2.1 t34.2.2)] [.str] false w_9 fun (t35:ByteArray) w_10=>
  ((zn c1 fun p_2=>
  ld .any p_2 w_10 fun (t32_1:Value)=>
  t32_1=t32) /\
  zuk P t32 #[(Value.string t35)] [.any] false w_10 fun (t36:Value) w_11=>
  stC (⟨b9,1,none⟩:Addr) (Value.int .i64 3) w_11 fun w_12=>
  zcj P (storeVar zf (⟨b9,2,none⟩:Addr) t36) w_12 fun w_13=>
  k_3 () w_13)) (
  zn c2 fun p_3=>
  ld .slc p_3 w_8 fun (t40:(Option Addr×Nat×Nat))=>
  ld .str (⟨b8,3,none⟩:Addr) w_8 fun (t43:ByteArray)=>
  xg P zvb #[(Value.slice t40.1 t40.2.1 t40.2.2),(Value.string t43)] [.slc,.any] true w_8 fun (t44:((Option Addr×Nat×Nat)×Value)) w_14=>
  zn c2 fun p_4=>
  stC p_4 (Value.slice t44.1.1 t44.1.2.1 t44.1.2.2) w_14 fun w_15=>
  zcj P (storeVar zf (⟨b9,2,none⟩:Addr) t44.2) w_15 fun w_16=>
  k_3 () w_16)) (fun _ w_17=>
  ld .slc (⟨b6,4,none⟩:Addr) w_17 fun (t49:(Option Addr×Nat×Nat))=>
  ldA P 34 (⟨b9,0,none⟩:Addr) w_17 fun t50=>
  za1 P (Instr.buildSlice jg 1 #[(0,(Value.agg t50))]) .slc w_17 fun (t51:(Option Addr×Nat×Nat)) w_18=>
  za1 P (Builtin.append_ #[jg,jg] jg #[(Value.slice t49.1 t49.2.1 t49.2.2),(Value.slice t51.1 t51.2.1 t51.2.2)]) .slc w_18 fun (t52:(Option Addr×Nat×Nat)) w_19=>
  stC (⟨b6,4,none⟩:Addr) (Value.slice t52.1 t52.2.1 t52.2.2) w_19 fun w_20=>
  k_2 () w_20)) (fun _ w_21=>
  k_1 () w_21)) (fun _ w_22=>
  zb6 .i64 s 1 fun t54=>
  k t54 w_22)) (
  zby (zc P zf) zf w_4 fun b10 w_23=>
  zn c2 fun p_5=>
  ld .slc p_5 w_23 fun (t56:(Option Addr×Nat×Nat))=>
  ldA P 5 (⟨b6,0,none⟩:Addr) w_23 fun t57=>
  xg P zmc #[(Value.slice t56.1 t56.2.1 t56.2.2),(Value.agg t57)] [.slc,.any] true w_23 fun (t58:((Option Addr×Nat×Nat)×Value)) w_24=>
  zn c2 fun p_6=>
  stC p_6 (Value.slice t58.1.1 t58.1.2.1 t58.1.2.2) w_24 fun w_25=>
  zcj P (storeVar zf (⟨b10,0,none⟩:Addr) t58.2) w_25 fun w_26=>
  ldA P 32 (⟨b10,0,none⟩:Addr) w_26 fun t61=>
  zcj P (storeVar zf (⟨b5,0,none⟩:Addr) (Value.agg t61)) w_26 fun w_27=>
  ldA P 32 (⟨b5,0,none⟩:Addr) w_27 fun t5=>
  R (.returned (Value.agg t5)) w_27)) 0 w_3
theorem z1b (atv:ByteArray) (c0:Option Addr) (c1:Option Addr) (c2:Option Addr) (R:Ending->World->Prop) (w:World):tr P qs ((Tryz.f56.body).getD .skip) zlm (zch 0 [(0,(Value.string atv)),(0,(Value.pointer c0)),(0,(Value.pointer c1)),(0,(Value.pointer c2))]) (zck P Tryz.f56.results.toList R) w=zom atv c0 c1 c2 R w:=by kernel_rfl
theorem z1y {atv:ByteArray}{c0:Option Addr}{c1:Option Addr}{c2:Option Addr}{R:Ending->World->Prop}{w:World}(hT:zom atv c0 c1 c2 R w):qg P zkg #[(Value.string atv),(Value.pointer c0),(Value.pointer c1),(Value.pointer c2)] w R:=
 zx (fn:=Tryz.f56) (c:=(Tryz.f56.body).getD .skip) (ann:=zlm) (args:=[(0,(Value.string atv)),(0,(Value.pointer c0)),(0,(Value.pointer c1)),(0,(Value.pointer c2))]) (qs:=qs) mixed Tryz.func56 rfl (by kernel_rfl) (by kernel_rfl) z2w ((z1b atv c0 c1 c2 R w).symm▸hT)
def zq4:Ann2:=(.seq (.pure .leaf) (.seq (.pure .leaf) (.seq (.seq (.pure .leaf) (.blk (.rng [(15,.slc)] false [] .leaf (.blk (.seq .leaf (.seq .leaf .leaf)))))) (.pure (.seq .leaf .leaf)))))
theorem qaz:qf2 P qs Tryz.f58.ntmps ((Tryz.f58.body).getD .skip) zq4=true:=by kernel_rfl
def zvc (list:Option Addr) (list_l list_c:Nat) (data:ByteArray) (R:Ending->World->Prop) (w:World):Prop:=
  zby #[(Value.slice list list_l list_c)] jl w fun b2 w_1=>
  zby (zc P zf) zf w_1 fun b5 w_2=>
  zbc P (Instr.build zh #[(0,(Value.int .i64 2)),(2,(Value.int .i64 (data.size:Int)))]) .any w_2 fun (t11:Value)=>
  zby (zc P zh) zh w_2 fun b6 w_3=>
  zcj P (storeVar zh (⟨b6,0,none⟩:Addr) t11) w_3 fun w_4=>
  za1 P (convert jy zi (Value.string data)) .slc w_4 fun (t13:(Option Addr×Nat×Nat)) w_5=>
  xg P zeb #[(Value.slice t13.1 t13.2.1 t13.2.2),(Value.int .i64 64)] [.any] false w_5 fun (t14:Value) w_6=>
  z90 P [.slc] t14 w_6 (fun (x:(Option Addr×Nat×Nat)) w_7 beg kc _ _=>
  beg w_7 fun w_8=>
  zby (zc P zf) zf w_8 fun b8 w_9=>
  ld .slc (⟨b2,0,none⟩:Addr) w_9 fun (t17:(Option Addr×Nat×Nat))=>
  zbc P (convert zi jy (Value.slice x.1 x.2.1 x.2.2)) .str w_9 fun (t19:ByteArray)=>
  zbc P (Instr.build zh #[(0,(Value.int .i64 1)),(1,(Value.string t19))]) .any w_9 fun (t20:Value)=>
  xg P zmc #[(Value.slice t17.1 t17.2.1 t17.2.2),t20] [.slc,.any] true w_9 fun (t21:((Option Addr×Nat×Nat)×Value)) w_10=>
  stC (⟨b2,0,none⟩:Addr) (Value.slice t21.1.1 t21.1.2.1 t21.1.2.2) w_10 fun w_11=>
  zcj P (storeVar zf (⟨b8,0,none⟩:Addr) t21.2) w_11 fun w_12=>
  ld .slc (⟨b6,3,none⟩:Addr) w_12 fun (t25:(Option Addr×Nat×Nat))=>
  ldA P 32 (⟨b8,0,none⟩:Addr) w_12 fun t26=>
  za1 P (Instr.buildSlice qj 1 #[(0,(Value.agg t26))]) .slc w_12 fun (t27:(Option Addr×Nat×Nat)) w_13=>
  za1 P (Builtin.append_ #[qj,qj] qj #[(Value.slice t25.1 t25.2.1 t25.2.2),(Value.slice t27.1 t27.2.1 t27.2.2)]) .slc w_13 fun (t28:(Option Addr×Nat×Nat)) w_14=>
  stC (⟨b6,3,none⟩:Addr) (Value.slice t28.1 t28.2.1 t28.2.2) w_14 fun w_15=>
  kc w_15) (fun D w_16=>
  ld .slc (⟨b2,0,none⟩:Addr) w_16 fun (t30:(Option Addr×Nat×Nat))=>
  ldA P 5 (⟨b6,0,none⟩:Addr) w_16 fun t31=>
  xg P zmc #[(Value.slice t30.1 t30.2.1 t30.2.2),(Value.agg t31)] [.slc,.any] true w_16 fun (t32:((Option Addr×Nat×Nat)×Value)) w_17=>
  zcj P (storeVar zf (⟨b5,0,none⟩:Addr) t32.2) w_17 fun w_18=>
  (w_18.heap[D]?=some (.deferred (some []))/\∀ w_19,w_19=World.putObj w_18 D (.deferred none) ->
  ldA P 32 (⟨b5,0,none⟩:Addr) w_19 fun t5=>
  R (.returned (Value.tuple #[(Value.slice t32.1.1 t32.1.2.1 t32.1.2.2),(Value.agg t5)])) w_19)) (fun _D _w=>False) (fun _ _D _w=>False)
theorem qbf (list:Option Addr) (list_l list_c:Nat) (data:ByteArray) (R:Ending->World->Prop) (w:World):tr2 P qs ((Tryz.f58.body).getD .skip) zq4 [] (zch 0 [(0,(Value.slice list list_l list_c)),(0,(Value.string data))]) (qju P Tryz.f58.results.toList R) w=zvc list list_l list_c data R w:=by kernel_rfl
theorem qax {list:Option Addr}{list_l list_c:Nat}{data:ByteArray}{R:Ending->World->Prop}{w:World}(hT:zvc list list_l list_c data R w):qg P zvb #[(Value.slice list list_l list_c),(Value.string data)] w R:=
 qch (fn:=Tryz.f58) (c:=(Tryz.f58.body).getD .skip) (ann:=zq4) (args:=[(0,(Value.slice list list_l list_c)),(0,(Value.string data))]) (qs:=qs) mixed Tryz.func58 rfl (by kernel_rfl) (by kernel_rfl) qaz ((qbf list list_l list_c data R w).symm▸hT)
def zq7:Ann:=(.seq .leaf (.seq .leaf (.seq .leaf .leaf)))
theorem qca:okC P qs Tryz.f59.ntmps ((Tryz.f59.body).getD .skip) zq7=true:=by kernel_rfl
def zu5 (list:Option Addr) (list_l list_c:Nat) (n:Value) (R:Ending->World->Prop) (w:World):Prop:=
  zby (Value.cells n) zh w fun b3 w_1=>
  zby (zc P zf) zf w_1 fun b5 w_2=>
  ldA P 5 (⟨b3,0,none⟩:Addr) w_2 fun t9=>
  xg P zq3 #[(Value.agg t9)] [.slc,.int .i64] true w_2 fun (t10:((Option Addr×Nat×Nat)×Int)) w_3=>
  za1 P (Instr.buildSlice jl 1 #[(0,(Value.slice t10.1.1 t10.1.2.1 t10.1.2.2))]) .slc w_3 fun (t15:(Option Addr×Nat×Nat)) w_4=>
  za1 P (Builtin.append_ #[jl,jl] jl #[(Value.slice list list_l list_c),(Value.slice t15.1 t15.2.1 t15.2.2)]) .slc w_4 fun (t16:(Option Addr×Nat×Nat)) w_5=>
  xg P zkk #[(Value.slice t10.1.1 t10.1.2.1 t10.1.2.2)] [.any] false w_5 fun (t18:Value) w_6=>
  zcj P (storeVar zf (⟨b5,0,none⟩:Addr) t18) w_6 fun w_7=>
  ldA P 32 (⟨b5,0,none⟩:Addr) w_7 fun t5=>
  R (.returned (Value.tuple #[(Value.slice t16.1 t16.2.1 t16.2.2),(Value.agg t5)])) w_7
theorem qah (list:Option Addr) (list_l list_c:Nat) (n:Value) (R:Ending->World->Prop) (w:World):tr P qs ((Tryz.f59.body).getD .skip) zq7 (zch 0 [(0,(Value.slice list list_l list_c)),(1,n)]) (zck P Tryz.f59.results.toList R) w=zu5 list list_l list_c n R w:=by kernel_rfl
theorem qbr {list:Option Addr}{list_l list_c:Nat}{n:Value}{R:Ending->World->Prop}{w:World}(hT:zu5 list list_l list_c n R w):qg P zmc #[(Value.slice list list_l list_c),n] w R:=
 zx (fn:=Tryz.f59) (c:=(Tryz.f59.body).getD .skip) (ann:=zq7) (args:=[(0,(Value.slice list list_l list_c)),(1,n)]) (qs:=qs) mixed Tryz.func59 rfl (by kernel_rfl) (by kernel_rfl) qca ((qah list list_l list_c n R w).symm▸hT)
def zrv:Ann:=(.seq .leaf (.seq .leaf (.seq (.seq .leaf (.cond (.seq .leaf .leaf) .leaf)) (.seq .leaf (.join [] (.seq .leaf (.cond (.seq .leaf .leaf) .leaf)) (.seq .leaf .leaf))))))
theorem qek:okC P qs Tryz.f103.ntmps ((Tryz.f103.body).getD .skip) zrv=true:=by kernel_rfl
def zyz (s:Option Addr) (d:Value) (kind:Int) (R:Ending->World->Prop) (w:World):Prop:=
  zby (Value.cells d) zf w fun b4 w_1=>
  zby (zc P zh) zh w_1 fun b6 w_2=>
  ldA P 32 (⟨b4,0,none⟩:Addr) w_2 fun t13=>
  xg P zei #[(Value.pointer s),(Value.agg t13)] [.slc,.int .i64] true w_2 fun (t14:((Option Addr×Nat×Nat)×Int)) w_3=>
  xq (t14.2 != 0) (
  zbc P (Instr.build zh #[]) .any w_3 fun (t19:Value)=>
  zcj P (storeVar zh (⟨b6,0,none⟩:Addr) t19) w_3 fun w_4=>
  ldA P 5 (⟨b6,0,none⟩:Addr) w_4 fun t6=>
  R (.returned (Value.tuple #[(Value.agg t6),(Value.int .i64 t14.2)])) w_4) (
  xg P zg9 #[(Value.slice t14.1.1 t14.1.2.1 t14.1.2.2)] [.any,.int .i64] true w_3 fun (t23:(Value×Int)) w_5=>
  zby (zc P zh) zh w_5 fun b10 w_6=>
  zcj P (storeVar zh (⟨b10,0,none⟩:Addr) t23.1) w_6 fun w_7=>
  ku Unit (fun k=>
  xq (t23.2 != 0) (
  zbc P (Instr.build zh #[]) .any w_7 fun (t34:Value)=>
  zcj P (storeVar zh (⟨b6,0,none⟩:Addr) t34) w_7 fun w_8=>
  ldA P 5 (⟨b6,0,none⟩:Addr) w_8 fun t6_1=>
  R (.returned (Value.tuple #[(Value.agg t6_1),(Value.int .i64 21)])) w_8) (
  ld (.int .i64) (⟨b10,0,none⟩:Addr) w_7 fun (t30:Int)=>
  xq (t30 != kind) (
  zbc P (Instr.build zh #[]) .any w_7 fun (t34_1:Value)=>
  zcj P (storeVar zh (⟨b6,0,none⟩:Addr) t34_1) w_7 fun w_9=>
  ldA P 5 (⟨b6,0,none⟩:Addr) w_9 fun t6_2=>
  R (.returned (Value.tuple #[(Value.agg t6_2),(Value.int .i64 21)])) w_9) (
  k () w_7))) (fun _ w_10=>
  ldA P 5 (⟨b10,0,none⟩:Addr) w_10 fun t35=>
  zcj P (storeVar zh (⟨b6,0,none⟩:Addr) (Value.agg t35)) w_10 fun w_11=>
  ldA P 5 (⟨b6,0,none⟩:Addr) w_11 fun t6_3=>
  R (.returned (Value.tuple #[(Value.agg t6_3),(Value.int .i64 0)])) w_11))
theorem qd1 (s:Option Addr) (d:Value) (kind:Int) (R:Ending->World->Prop) (w:World):tr P qs ((Tryz.f103.body).getD .skip) zrv (zch 0 [(0,(Value.pointer s)),(1,d),(0,(Value.int .i64 kind))]) (zck P Tryz.f103.results.toList R) w=zyz s d kind R w:=by kernel_rfl
theorem qej {s:Option Addr}{d:Value}{kind:Int}{R:Ending->World->Prop}{w:World}(hT:zyz s d kind R w):qg P z6e #[(Value.pointer s),d,(Value.int .i64 kind)] w R:=
 zx (fn:=Tryz.f103) (c:=(Tryz.f103.body).getD .skip) (ann:=zrv) (args:=[(0,(Value.pointer s)),(1,d),(0,(Value.int .i64 kind))]) (qs:=qs) mixed Tryz.func103 rfl (by kernel_rfl) (by kernel_rfl) qek ((qd1 s d kind R w).symm▸hT)
def zbl:Ann:=(.seq .leaf (.seq .leaf .leaf))
theorem zf1:okC P qs Tryz.f106.ntmps ((Tryz.f106.body).getD .skip) zbl=true:=by kernel_rfl
def zbt (s:Option Addr) (s_l s_c:Nat) (f:Value) (R:Ending->World->Prop) (w:World):Prop:=
  xg P zb7 #[(Value.slice s s_l s_c),f] [.int .i64] false w fun (t7:Int) w_1=>
  R (.returned (Value.bool (decide (t7>=0)))) w_1
theorem zf5 (s:Option Addr) (s_l s_c:Nat) (f:Value) (R:Ending->World->Prop) (w:World):tr P qs ((Tryz.f106.body).getD .skip) zbl (zch 0 [(0,(Value.slice s s_l s_c)),(1,f)]) (zck P Tryz.f106.results.toList R) w=zbt s s_l s_c f R w:=by kernel_rfl
theorem zgc {s:Option Addr}{s_l s_c:Nat}{f:Value}{R:Ending->World->Prop}{w:World}(hT:zbt s s_l s_c f R w):qg P zay #[(Value.slice s s_l s_c),f] w R:=
 zx (fn:=Tryz.f106) (c:=(Tryz.f106.body).getD .skip) (ann:=zbl) (args:=[(0,(Value.slice s s_l s_c)),(1,f)]) (qs:=qs) mixed Tryz.func106 rfl (by kernel_rfl) (by kernel_rfl) zf1 ((zf5 s s_l s_c f R w).symm▸hT)
def zk6:Ann:=(.seq .leaf (.seq .leaf .leaf))
theorem z2e:okC P qs Tryz.f107.ntmps ((Tryz.f107.body).getD .skip) zk6=true:=by kernel_rfl
def zoo (f:Value) (R:Ending->World->Prop) (w:World):Prop:=
  zby (Value.cells f) zbh w fun b1 w_1=>
  ld .bool (⟨b1,1,none⟩:Addr) w_1 fun (t4:Bool)=>
  xq t4 (
  ld .str (⟨b1,2,none⟩:Addr) w_1 fun (t7:ByteArray)=>
  R (.returned (Value.bool (!(t7.toList==(ByteArray.mk #[]).toList)))) w_1) (
  R (.returned (Value.bool false)) w_1)
theorem z04 (f:Value) (R:Ending->World->Prop) (w:World):tr P qs ((Tryz.f107.body).getD .skip) zk6 (zch 0 [(1,f)]) (zck P Tryz.f107.results.toList R) w=zoo f R w:=by kernel_rfl
theorem z1j {f:Value}{R:Ending->World->Prop}{w:World}(hT:zoo f R w):qg P zn1 #[f] w R:=
 zx (fn:=Tryz.f107) (c:=(Tryz.f107.body).getD .skip) (ann:=zk6) (args:=[(1,f)]) (qs:=qs) mixed Tryz.func107 rfl (by kernel_rfl) (by kernel_rfl) z2e ((z04 f R w).symm▸hT)
def zla:Ann:=(.seq .leaf (.seq .leaf .leaf))
theorem z3p:okC P qs Tryz.f108.ntmps ((Tryz.f108.body).getD .skip) zla=true:=by kernel_rfl
def zob (f:Value) (R:Ending->World->Prop) (w:World):Prop:=
  zby (Value.cells f) zbh w fun b1 w_1=>
  ld .str (⟨b1,2,none⟩:Addr) w_1 fun (t4:ByteArray)=>
  R (.returned (Value.bool (decide ((t4.size:Int) > 1024)))) w_1
theorem z2g (f:Value) (R:Ending->World->Prop) (w:World):tr P qs ((Tryz.f108.body).getD .skip) zla (zch 0 [(1,f)]) (zck P Tryz.f108.results.toList R) w=zob f R w:=by kernel_rfl
theorem z3r {f:Value}{R:Ending->World->Prop}{w:World}(hT:zob f R w):qg P zn8 #[f] w R:=
 zx (fn:=Tryz.f108) (c:=(Tryz.f108.body).getD .skip) (ann:=zla) (args:=[(1,f)]) (qs:=qs) mixed Tryz.func108 rfl (by kernel_rfl) (by kernel_rfl) z3p ((z2g f R w).symm▸hT)
def zld:Ann:=(.seq .leaf (.seq .leaf .leaf))
theorem z0n:okC P qs Tryz.f110.ntmps ((Tryz.f110.body).getD .skip) zld=true:=by kernel_rfl
def zo1 (a:Value) (b:Value) (R:Ending->World->Prop) (w:World):Prop:=
  zby (Value.cells a) qm w fun b2 w_1=>
  zby (Value.cells b) qm w_1 fun b3 w_2=>
  ld .slc (⟨b2,0,none⟩:Addr) w_2 fun (t6:(Option Addr×Nat×Nat))=>
  ld .slc (⟨b3,0,none⟩:Addr) w_2 fun (t8:(Option Addr×Nat×Nat))=>
  xg P zm3 #[(Value.slice t6.1 t6.2.1 t6.2.2),(Value.slice t8.1 t8.2.1 t8.2.2)] [.int .i64] false w_2 fun (t9:Int) w_3=>
  R (.returned (Value.int .i64 t9)) w_3
theorem z3f (a:Value) (b:Value) (R:Ending->World->Prop) (w:World):tr P qs ((Tryz.f110.body).getD .skip) zld (zch 0 [(1,a),(1,b)]) (zck P Tryz.f110.results.toList R) w=zo1 a b R w:=by kernel_rfl
theorem z1u {a:Value}{b:Value}{R:Ending->World->Prop}{w:World}(hT:zo1 a b R w):qg P zhv #[a,b] w R:=
 zx (fn:=Tryz.f110) (c:=(Tryz.f110.body).getD .skip) (ann:=zld) (args:=[(1,a),(1,b)]) (qs:=qs) mixed Tryz.func110 rfl (by kernel_rfl) (by kernel_rfl) z0n ((z3f a b R w).symm▸hT)
def zd1:Ann:=(.seq .leaf (.join [] (.seq .leaf (.cond .leaf .leaf)) (.seq .leaf .leaf)))
theorem zmq:okC P qs Tryz.f113.ntmps ((Tryz.f113.body).getD .skip) zd1=true:=by kernel_rfl
def zeh (s:Option Addr) (s_l s_c:Nat) (n:Int) (R:Ending->World->Prop) (w:World):Prop:=
  zby #[(Value.slice s s_l s_c)] zi w fun b2 w_1=>
  zby #[(Value.int .i64 n)] zco w_1 fun b3 w_2=>
  ku Unit (fun k=>
  ld (.int .i64) (⟨b3,0,none⟩:Addr) w_2 fun (t5:Int)=>
  xq (decide (t5 < 1)) (
  zbc P (Instr.makeInterface jy (Value.string (ByteArray.mk #[99,97,110,110,111,116,32,98,101,32,108,101,115,115,32,116,104,97,110,32,49]))) .any w_2 fun (_:Value)=>
  False) (
  k () w_2)) (fun _ w_3=>
  zbc P (Instr.makeFunc (Go.Fn.func zcr) #[] #[(Value.pointer (some (⟨b2,0,none⟩:Addr))),(Value.pointer (some (⟨b3,0,none⟩:Addr)))]) .any w_3 fun (t8:Value)=>
  R (.returned t8) w_3)
theorem znc (s:Option Addr) (s_l s_c:Nat) (n:Int) (R:Ending->World->Prop) (w:World):tr P qs ((Tryz.f113.body).getD .skip) zd1 (zch 0 [(0,(Value.slice s s_l s_c)),(0,(Value.int .i64 n))]) (zck P Tryz.f113.results.toList R) w=zeh s s_l s_c n R w:=by kernel_rfl
theorem znf {s:Option Addr}{s_l s_c:Nat}{n:Int}{R:Ending->World->Prop}{w:World}(hT:zeh s s_l s_c n R w):qg P zeb #[(Value.slice s s_l s_c),(Value.int .i64 n)] w R:=
 zx (fn:=Tryz.f113) (c:=(Tryz.f113.body).getD .skip) (ann:=zd1) (args:=[(0,(Value.slice s s_l s_c)),(0,(Value.int .i64 n))]) (qs:=qs) mixed Tryz.func113 rfl (by kernel_rfl) (by kernel_rfl) zmq ((znc s s_l s_c n R w).symm▸hT)
def zb1:Ann:=(.seq .leaf (.seq (.seq .leaf (.blk (.loop [(8,.int .i64)] (.seq .leaf (.seq (.cond .leaf .leaf) (.seq (.blk (.seq .leaf (.seq .leaf (.cond (.seq .leaf .leaf) .leaf)))) .leaf)))))) (.seq .leaf .leaf)))
theorem zgy:okC P qs Tryz.f159.ntmps ((Tryz.f159.body).getD .skip) zb1=true:=by kernel_rfl
def zcf (s:Option Addr) (s_l s_c:Nat) (f:Value) (R:Ending->World->Prop) (w:World):Prop:=
  za7 Int (fun s_1 w_1 k=>
  xq (decide (s_1 < (s_l:Int))) (
  ixS s s_l 3 s_1 fun t14=>
  ldA P 3 t14 w_1 fun t15=>
  zuk P f #[(Value.agg t15)] [.bool] false w_1 fun (t16:Bool) w_2=>
  xq t16 (
  R (.returned (Value.int .i64 s_1)) w_2) (
  zb6 .i64 s_1 1 fun t18=>
  k t18 w_2)) (
  R (.returned (Value.int .i64 (-1))) w_1)) 0 w
theorem zgs (s:Option Addr) (s_l s_c:Nat) (f:Value) (R:Ending->World->Prop) (w:World):tr P qs ((Tryz.f159.body).getD .skip) zb1 (zch 0 [(0,(Value.slice s s_l s_c)),(1,f)]) (zck P Tryz.f159.results.toList R) w=zcf s s_l s_c f R w:=by kernel_rfl
theorem zg2 {s:Option Addr}{s_l s_c:Nat}{f:Value}{R:Ending->World->Prop}{w:World}(hT:zcf s s_l s_c f R w):qg P zb7 #[(Value.slice s s_l s_c),f] w R:=
 zx (fn:=Tryz.f159) (c:=(Tryz.f159.body).getD .skip) (ann:=zb1) (args:=[(0,(Value.slice s s_l s_c)),(1,f)]) (qs:=qs) mixed Tryz.func159 rfl (by kernel_rfl) (by kernel_rfl) zgy ((zgs s s_l s_c f R w).symm▸hT)
def zdf:Ann:=(.seq .leaf (.blk (.loop [(4,.int .i64)] (.seq (.seq .leaf (.cond .leaf .leaf)) (.seq (.blk (.seq (.tree (.op 2 [] (.op 0 [] (.op 1 [] (.op 3 [] (.op 4 [] (.op 5 [] (.op 6 [] .done)))))))) (.seq .leaf (.cond .leaf .leaf)))) .leaf)))))
theorem zlf:okC P qs Tryz.f167.ntmps ((Tryz.f167.body).getD .skip) zdf=true:=by kernel_rfl
def zd3 (yield:Value) (c0:Option Addr) (c1:Option Addr) (R:Ending->World->Prop) (w:World):Prop:=
  za7 Int (fun s w_1 k=>
  zn c0 fun p=>
  ld .slc p w_1 fun (t7:(Option Addr×Nat×Nat))=>
  xq (decide (s < (t7.2.1:Int))) (
  zbs w_1 fun w_2=>
  zn c1 fun p_1=>
  ld (.int .i64) p_1 w_2 fun (t13:Int)=>
  zn c0 fun p_2=>
  ld .slc p_2 w_2 fun (t14:(Option Addr×Nat×Nat))=>
  zbc P (Instr.sliceAt zi (Value.slice t14.1 t14.2.1 t14.2.2) (some (Value.int .i64 s)) none none) .slc w_2 fun (t16:(Option Addr×Nat×Nat))=>
  zbc P (Builtin.min_ #[zco,zco] zco #[(Value.int .i64 t13),(Value.int .i64 (t16.2.1:Int))]) (.int .i64) w_2 fun (t18:Int)=>
  zn c0 fun p_3=>
  ld .slc p_3 w_2 fun (t20:(Option Addr×Nat×Nat))=>
  zb6 .i64 s t18 fun t24=>
  zb6 .i64 s t18 fun t27=>
  zbc P (Instr.sliceAt zi (Value.slice t20.1 t20.2.1 t20.2.2) (some (Value.int .i64 s)) (some (Value.int .i64 t24)) (some (Value.int .i64 t27))) .slc w_2 fun (t28:(Option Addr×Nat×Nat))=>
  zuk P yield #[(Value.slice t28.1 t28.2.1 t28.2.2)] [.bool] false w_2 fun (t29:Bool) w_3=>
  xq (!t29) (
  R (.returned (Value.tuple #[])) w_3) (
  zn c1 fun p_4=>
  ld (.int .i64) p_4 w_3 fun (t11:Int)=>
  zb6 .i64 s t11 fun t12=>
  k t12 w_3)) (
  R (.returned (Value.tuple #[])) w_1)) 0 w
theorem zk0 (yield:Value) (c0:Option Addr) (c1:Option Addr) (R:Ending->World->Prop) (w:World):tr P qs ((Tryz.f167.body).getD .skip) zdf (zch 0 [(1,yield),(0,(Value.pointer c0)),(0,(Value.pointer c1))]) (zck P Tryz.f167.results.toList R) w=zd3 yield c0 c1 R w:=by kernel_rfl
theorem zlk {yield:Value}{c0:Option Addr}{c1:Option Addr}{R:Ending->World->Prop}{w:World}(hT:zd3 yield c0 c1 R w):qg P zcr #[yield,(Value.pointer c0),(Value.pointer c1)] w R:=
 zx (fn:=Tryz.f167) (c:=(Tryz.f167.body).getD .skip) (ann:=zdf) (args:=[(1,yield),(0,(Value.pointer c0)),(0,(Value.pointer c1))]) (qs:=qs) mixed Tryz.func167 rfl (by kernel_rfl) (by kernel_rfl) zlf ((zk0 yield c0 c1 R w).symm▸hT)
set_option maxRecDepth 100000
set_option maxRecDepth 100000
def zhm:Ann:=(.seq .leaf (.seq (.seq .leaf (.cond (.seq .leaf .leaf) .leaf)) (.seq .leaf (.seq .leaf (.join [] (.seq .leaf (.cond .leaf .leaf)) (.seq .leaf (.seq .leaf (.seq .leaf .leaf))))))))
theorem zum:okC P qs Tryz.f9.ntmps ((Tryz.f9.body).getD .skip) zhm=true:=by kernel_rfl
def zjb (x:Value) (kind:Int) (R:Ending->World->Prop) (w:World):Prop:=
  zby (Value.cells x) zgd w fun b2 w_1=>
  xg P zu4 #[] [.bool] false w_1 fun (t13:Bool) w_2=>
  xq (!t13) (
  R (.returned (Value.bool false)) w_2) (
  ldA P 3 (⟨b2,0,none⟩:Addr) w_2 fun t16=>
  xg P z2x #[(Value.agg t16)] [.ptr,.ptr,.slc] true w_2 fun (t17:((Option Addr)×(Option Addr)×(Option Addr×Nat×Nat))) w_3=>
  zbc P (Instr.build zf #[]) .any w_3 fun (t21:Value)=>
  zby (zc P zf) zf w_3 fun b8 w_4=>
  zcj P (storeVar zf (⟨b8,0,none⟩:Addr) t21) w_4 fun w_5=>
  ku Unit (fun k=>
  xq (decide ((t17.2.2.2.1:Int) > 0)) (
  zqa .i64 (t17.2.2.2.1:Int) 1 fun t28=>
  ixS t17.2.2.1 t17.2.2.2.1 32 t28 fun t29=>
  ldA P 32 t29 w_5 fun t30=>
  zcj P (storeVar zf (⟨b8,0,none⟩:Addr) (Value.agg t30)) w_5 fun w_6=>
  k () w_6) (
  k () w_5)) (fun _ w_7=>
  ldA P 32 (⟨b8,0,none⟩:Addr) w_7 fun t33=>
  xg P zlv #[(Value.pointer t17.1),(Value.agg t33),(Value.int .i64 kind)] [.slc,.int .i64] true w_7 fun (t35:((Option Addr×Nat×Nat)×Int)) w_8=>
  ldA P 32 (⟨b8,0,none⟩:Addr) w_8 fun t40=>
  xg P zpy #[(Value.pointer t17.2.1),(Value.agg t40),(Value.int .i64 kind)] [.slc,.int .i64] true w_8 fun (t42:((Option Addr×Nat×Nat)×Int)) w_9=>
  xq (t35.2==t42.2) (
  xg P zlu #[(Value.slice t35.1.1 t35.1.2.1 t35.1.2.2),(Value.slice t42.1.1 t42.1.2.1 t42.1.2.2)] [.bool] false w_9 fun (t51:Bool) w_10=>
  R (.returned (Value.bool t51)) w_10) (
  R (.returned (Value.bool false)) w_9)))
theorem zus (x:Value) (kind:Int) (R:Ending->World->Prop) (w:World):tr P qs ((Tryz.f9.body).getD .skip) zhm (zch 0 [(1,x),(0,(Value.int .i64 kind))]) (zck P Tryz.f9.results.toList R) w=zjb x kind R w:=by kernel_rfl
theorem zup {x:Value}{kind:Int}{R:Ending->World->Prop}{w:World}(hT:zjb x kind R w):qg P znl #[x,(Value.int .i64 kind)] w R:=
 zx (fn:=Tryz.f9) (c:=(Tryz.f9.body).getD .skip) (ann:=zhm) (args:=[(1,x),(0,(Value.int .i64 kind))]) (qs:=qs) mixed Tryz.func9 rfl (by kernel_rfl) (by kernel_rfl) zum ((zus x kind R w).symm▸hT)
def zqf:Ann:=(.seq .leaf (.seq .leaf (.seq .leaf (.seq (.tree (.op 1 [] (.op 0 [1] (.op 2 [] (.op 3 [] (.op 4 [] (.op 5 [] (.op 6 [] (.op 7 [] .done))))))))) (.join [] (.seq .leaf (.cond (.seq .leaf .leaf) .leaf)) (.seq .leaf (.seq (.jblk [(6,.int .i64)] (.loop [(6,.int .i64)] (.join [] (.seq .leaf (.cond .leaf .leaf)) (.seq (.blk (.seq .leaf (.seq (.seq .leaf (.cond (.seq .leaf .leaf) .leaf)) (.seq .leaf (.seq .leaf (.cond (.seq .leaf .leaf) .leaf)))))) .leaf)))) (.seq .leaf .leaf))))))))
theorem qas:okC P qs Tryz.f28.ntmps ((Tryz.f28.body).getD .skip) zqf=true:=by kernel_rfl
def zuy  (R:Ending->World->Prop) (w:World):Prop:=
  xg P zo2 #[(Value.int .i64 65536)] [.ptr] false w fun (t10:(Option Addr)) w_1=>
  zbc P (Instr.build zbh #[(0,(Value.string (ByteArray.mk #[47,102]))),(2,(Value.string (ByteArray.mk #[104,105])))]) .any w_1 fun (t13:Value)=>
  za1 P (Instr.buildSlice zzd 1 #[(0,t13)]) .slc w_1 fun (t14:(Option Addr×Nat×Nat)) w_2=>
  xg P zr1 #[(Value.pointer t10),(Value.slice t14.1 t14.2.1 t14.2.2)] [.any,.int .i64] true w_2 fun (t15:(Value×Int)) w_3=>
  zby (zc P zf) zf w_3 fun b2 w_4=>
  zcj P (storeVar zf (⟨b2,0,none⟩:Addr) t15.1) w_4 fun w_5=>
  zbs w_5 fun w_6=>
  ldA P 32 (⟨b2,0,none⟩:Addr) w_6 fun t20=>
  xg P zo2 #[(Value.int .i64 65536)] [.ptr] false w_6 fun (t19:(Option Addr)) w_7=>
  ((ldA P 32 (⟨b2,0,none⟩:Addr) w_7 fun t20_1=>
  (Value.agg t20_1)=(Value.agg t20)) /\
  xg P zuh #[(Value.pointer t19),(Value.agg t20),(Value.int .i64 3)] [.ptr,.int .i64] true w_7 fun (t21:((Option Addr)×Int)) w_8=>
  ku Unit (fun k=>
  xq (t15.2 != 0) (
  R (.returned (Value.bool false)) w_8) (
  xq (t21.2 != 0) (
  R (.returned (Value.bool false)) w_8) (
  xq (Option.isNone t21.1) (
  R (.returned (Value.bool false)) w_8) (
  xg P ze1 #[(Value.pointer t21.1)] [.bool] false w_8 fun (t36:Bool) w_9=>
  xq t36 (
  R (.returned (Value.bool false)) w_9) (
  za1 P (Instr.buildSlice zi 1 #[(0,(Value.int .u8 120))]) .slc w_9 fun (t40:(Option Addr×Nat×Nat)) w_10=>
  za1 P (convert zi zi (Value.slice t40.1 t40.2.1 t40.2.2)) .slc w_10 fun (t41:(Option Addr×Nat×Nat)) w_11=>
  xg P zem #[(Value.pointer t21.1),(Value.slice t41.1 t41.2.1 t41.2.2)] [.int .i64] false w_11 fun (t42:Int) w_12=>
  xq (t42 != 80) (
  R (.returned (Value.bool false)) w_12) (
  k () w_12)))))) (fun _ w_13=>
  ku Int (fun k_1=>
  za7 Int (fun s_1 w_14 k_2=>
  ku Unit (fun k_3=>
  xq (decide (s_1 < 9)) (
  xg P ze1 #[(Value.pointer t21.1)] [.bool] false w_14 fun (t49:Bool) w_15=>
  xq (!t49) (
  k_3 () w_15) (
  k_1 s_1 w_15)) (
  k_1 s_1 w_14)) (fun _ w_16=>
  xg P zhn #[(Value.pointer t21.1),(Value.int .i64 9)] [.slc] false w_16 fun (t55:(Option Addr×Nat×Nat)) w_17=>
  xq ((t55.2.1:Int) != 1) (
  R (.returned (Value.bool false)) w_17) (
  ixS t55.1 t55.2.1 32 0 fun t62=>
  ldA P 32 t62 w_17 fun t63=>
  xg P zei #[(Value.pointer t10),(Value.agg t63)] [.slc,.int .i64] true w_17 fun (t64:((Option Addr×Nat×Nat)×Int)) w_18=>
  xg P zem #[(Value.pointer t21.1),(Value.slice t64.1.1 t64.1.2.1 t64.1.2.2)] [.int .i64] false w_18 fun (t69:Int) w_19=>
  xq (t69 != 0) (
  R (.returned (Value.bool false)) w_19) (
  zb6 .i64 s_1 1 fun t53=>
  k_2 t53 w_19)))) 0 w_13) (fun s_3 w_20=>
  R (.returned (Value.bool (s_3==3))) w_20)))
theorem qbj  (R:Ending->World->Prop) (w:World):tr P qs ((Tryz.f28.body).getD .skip) zqf (zch 0 []) (zck P Tryz.f28.results.toList R) w=zuy  R w:=by kernel_rfl
theorem qda  {R:Ending->World->Prop}{w:World}(hT:zuy  R w):qg P zu4 #[] w R:=
 zx (fn:=Tryz.f28) (c:=(Tryz.f28.body).getD .skip) (ann:=zqf) (args:=[]) (qs:=qs) mixed Tryz.func28 rfl (by kernel_rfl) (by kernel_rfl) qas ((qbj  R w).symm▸hT)
def zvh:Ann:=(.seq .leaf (.seq .leaf (.seq .leaf (.seq .leaf (.seq (.seq .leaf (.jblk [(7,.slc)] (.loop [(7,.slc),(8,.int .i64)] (.join [] (.seq .leaf (.cond .leaf .leaf)) (.seq (.blk (.seq .leaf (.seq (.seq .leaf (.blk (.loop [(10,.int .i64)] (.seq (.seq .leaf (.cond .leaf .leaf)) (.seq (.blk (.tree (.op 0 [] (.op 2 [] (.op 3 [] (.op 5 [] (.op 8 [] (.op 1 [] (.op 4 [] (.op 6 [] (.op 7 [] (.op 9 [1] (.op 10 [] (.op 11 [] .done)))))))))))))) .leaf))))) (.seq (.seq .leaf (.blk (.loop [(11,.int .i64)] (.seq (.seq .leaf (.cond .leaf .leaf)) (.seq (.blk (.tree (.op 0 [] (.op 2 [] (.op 3 [] (.op 5 [] (.op 9 [] (.op 1 [] (.op 4 [] (.op 6 [] (.op 7 [] (.op 8 [] (.op 10 [1] (.op 11 [] (.op 12 [] (.op 13 [] .done)))))))))))))))) .leaf))))) (.seq .leaf (.join [(12,.slc)] (.seq .leaf (.cond .leaf .leaf)) (.join [(12,.slc)] (.seq .leaf (.cond .leaf .leaf)) (.seq .leaf (.seq .leaf .leaf))))))))) .leaf))))) (.seq .leaf (.join [] (.seq .leaf (.cond (.seq .leaf .leaf) .leaf)) (.seq .leaf (.join [] (.seq .leaf (.cond (.seq .leaf .leaf) .leaf)) (.seq .leaf .leaf))))))))))
theorem qg9:okC P qs Tryz.f29.ntmps ((Tryz.f29.body).getD .skip) zvh=true:=by kernel_rfl
def z1q (x:Value) (R:Ending->World->Prop) (w:World):Prop:=
  zby (Value.cells x) zgd w fun b1 w_1=>
  xg P zo2 #[(Value.int .i64 1048576)] [.ptr] false w_1 fun (t14:(Option Addr)) w_2=>
  xg P z2l #[(Value.int .i64 1048576)] [.ptr] false w_2 fun (t15:(Option Addr)) w_3=>
  ku (Option Addr×Nat×Nat) (fun k=>
  za7 ((Option Addr×Nat×Nat)×Int) (fun s w_4 k_1=>
  ku Unit (fun k_2=>
  ld .slc (⟨b1,0,none⟩:Addr) w_4 fun (t18:(Option Addr×Nat×Nat))=>
  xq (decide (s.2 < (t18.2.1:Int))) (
  xq (decide (s.2 < 20)) (
  k_2 () w_4) (
  k (s.1.1,s.1.2.1,s.1.2.2) w_4)) (
  k (s.1.1,s.1.2.1,s.1.2.2) w_4)) (fun _ w_5=>
  ld .slc (⟨b1,0,none⟩:Addr) w_5 fun (t28:(Option Addr×Nat×Nat))=>
  ixS t28.1 t28.2.1 7 s.2 fun t30=>
  ldA P 7 t30 w_5 fun t31=>
  xg P zxz #[(Value.agg t31)] [.any] false w_5 fun (t32:Value) w_6=>
  zby (zc P zh) zh w_6 fun b9 w_7=>
  zcj P (storeVar zh (⟨b9,0,none⟩:Addr) t32) w_7 fun w_8=>
  za7 Int (fun s_2 w_9 k_3=>
  ld .slc (⟨b9,3,none⟩:Addr) w_9 fun (t35:(Option Addr×Nat×Nat))=>
  xq (decide (s_2 < (t35.2.1:Int))) (
  zbs w_9 fun w_10=>
  ld .slc (⟨b9,3,none⟩:Addr) w_10 fun (t41:(Option Addr×Nat×Nat))=>
  ld .slc (⟨b9,3,none⟩:Addr) w_10 fun (t44:(Option Addr×Nat×Nat))=>
  ixS t44.1 t44.2.1 32 s_2 fun t46=>
  ldA P 32 t46 w_10 fun t47=>
  xg P zqj #[(Value.agg t47),(Value.slice s.1.1 s.1.2.1 s.1.2.2)] [.any] false w_10 fun (t49:Value) w_11=>
  ((ld .slc (⟨b9,3,none⟩:Addr) w_11 fun (t41_1:(Option Addr×Nat×Nat))=>
  (Value.slice t41_1.1 t41_1.2.1 t41_1.2.2)=(Value.slice t41.1 t41.2.1 t41.2.2)) /\
  ixS t41.1 t41.2.1 32 s_2 fun t50=>
  zcj P (storeVar zf t50 t49) w_11 fun w_12=>
  zb6 .i64 s_2 1 fun t39=>
  k_3 t39 w_12)) (
  za7 Int (fun s_3 w_13 k_4=>
  ld .slc (⟨b9,4,none⟩:Addr) w_13 fun (t53:(Option Addr×Nat×Nat))=>
  xq (decide (s_3 < (t53.2.1:Int))) (
  zbs w_13 fun w_14=>
  ld .slc (⟨b9,4,none⟩:Addr) w_14 fun (t59:(Option Addr×Nat×Nat))=>
  ld .slc (⟨b9,4,none⟩:Addr) w_14 fun (t62:(Option Addr×Nat×Nat))=>
  ixS t62.1 t62.2.1 34 s_3 fun t64=>
  ldA P 32 (Addr.add t64 2) w_14 fun t66=>
  xg P zqj #[(Value.agg t66),(Value.slice s.1.1 s.1.2.1 s.1.2.2)] [.any] false w_14 fun (t68:Value) w_15=>
  ((ld .slc (⟨b9,4,none⟩:Addr) w_15 fun (t59_1:(Option Addr×Nat×Nat))=>
  (Value.slice t59_1.1 t59_1.2.1 t59_1.2.2)=(Value.slice t59.1 t59.2.1 t59.2.2)) /\
  ixS t59.1 t59.2.1 34 s_3 fun t69=>
  zcj P (storeVar zf (Addr.add t69 2) t68) w_15 fun w_16=>
  zb6 .i64 s_3 1 fun t57=>
  k_4 t57 w_16)) (
  ld .str (⟨b9,1,none⟩:Addr) w_13 fun (t72:ByteArray)=>
  za1 P (convert jy zi (Value.string t72)) .slc w_13 fun (t73:(Option Addr×Nat×Nat)) w_17=>
  ku (Option Addr×Nat×Nat) (fun k_5=>
  ldA P 5 (⟨b9,0,none⟩:Addr) w_17 fun t74=>
  xg P zp2 #[(Value.agg t74)] [.bool] false w_17 fun (t75:Bool) w_18=>
  xq t75 (
  ldA P 5 (⟨b9,0,none⟩:Addr) w_18 fun t76=>
  xg P zsv #[(Value.agg t76)] [.slc] false w_18 fun (t77:(Option Addr×Nat×Nat)) w_19=>
  k_5 (t77.1,t77.2.1,t77.2.2) w_19) (
  k_5 (t73.1,t73.2.1,t73.2.2) w_18)) (fun s_4 w_20=>
  ku (Option Addr×Nat×Nat) (fun k_6=>
  xq (decide ((s_4.2.1:Int) > 4096)) (
  zbc P (Instr.sliceAt zi (Value.slice s_4.1 s_4.2.1 s_4.2.2) none (some (Value.int .i64 4096)) none) .slc w_20 fun (t82:(Option Addr×Nat×Nat))=>
  k_6 (t82.1,t82.2.1,t82.2.2) w_20) (
  k_6 (s_4.1,s_4.2.1,s_4.2.2) w_20)) (fun s_5 w_21=>
  xg P zh0 #[(Value.pointer t14),(Value.slice s_5.1 s_5.2.1 s_5.2.2)] [.any,.int .i64] true w_21 fun (_:(Value×Int)) w_22=>
  xg P zne #[(Value.pointer t15),(Value.slice s_5.1 s_5.2.1 s_5.2.2)] [.any,.int .i64] true w_22 fun (_:(Value×Int)) w_23=>
  xg P zmp #[(Value.slice s_5.1 s_5.2.1 s_5.2.2)] [.any] false w_23 fun (t91:Value) w_24=>
  za1 P (Instr.buildSlice qj 1 #[(0,t91)]) .slc w_24 fun (t92:(Option Addr×Nat×Nat)) w_25=>
  za1 P (Builtin.append_ #[qj,qj] qj #[(Value.slice s.1.1 s.1.2.1 s.1.2.2),(Value.slice t92.1 t92.2.1 t92.2.2)]) .slc w_25 fun (t93:(Option Addr×Nat×Nat)) w_26=>
  zb6 .i64 s.2 1 fun t26=>
  k_1 ((t93.1,t93.2.1,t93.2.2),t26) w_26)))) 0 w_9)) 0 w_8)) ((none,0,0),0) w_3) (fun s_6 w_27=>
  ld (.int .i64) (⟨b1,1,none⟩:Addr) w_27 fun (t95:Int)=>
  cvI .u64 t95 fun t96=>
  zb6 .i64 (s_6.2.1:Int) 1 fun t99=>
  cvI .u64 t99 fun t100=>
  qlr t96 t100 fun t101=>
  cvI .i64 t101 fun t102=>
  ku Unit (fun k_7=>
  xq (decide (t102 < (s_6.2.1:Int))) (
  ixS s_6.1 s_6.2.1 32 t102 fun t110=>
  ldA P 32 t110 w_27 fun t111=>
  xg P zj7 #[(Value.pointer t14),(Value.agg t111)] [.int .i64] false w_27 fun (_:Int) w_28=>
  ixS s_6.1 s_6.2.1 32 t102 fun t116=>
  ldA P 32 t116 w_28 fun t117=>
  xg P zks #[(Value.pointer t15),(Value.agg t117)] [.int .i64] false w_28 fun (_:Int) w_29=>
  k_7 () w_29) (
  k_7 () w_27)) (fun _ w_30=>
  ld (.int .i64) (⟨b1,2,none⟩:Addr) w_30 fun (t120:Int)=>
  cvI .u64 t120 fun t121=>
  zb6 .i64 (s_6.2.1:Int) 1 fun t124=>
  cvI .u64 t124 fun t125=>
  qlr t121 t125 fun t126=>
  cvI .i64 t126 fun t127=>
  ku Unit (fun k_8=>
  xq (decide (t127 < (s_6.2.1:Int))) (
  ixS s_6.1 s_6.2.1 32 t127 fun t135=>
  ldA P 32 t135 w_30 fun t136=>
  xg P zi8 #[(Value.pointer t14),(Value.agg t136),(Value.int .i64 0),(Value.int .u8 1)] [.int .i64] false w_30 fun (_:Int) w_31=>
  ixS s_6.1 s_6.2.1 32 t127 fun t141=>
  ldA P 32 t141 w_31 fun t142=>
  xg P zjo #[(Value.pointer t15),(Value.agg t142),(Value.int .i64 0),(Value.int .u8 1)] [.int .i64] false w_31 fun (_:Int) w_32=>
  k_8 () w_32) (
  k_8 () w_30)) (fun _ w_33=>
  R (.returned (Value.tuple #[(Value.pointer t14),(Value.pointer t15),(Value.slice s_6.1 s_6.2.1 s_6.2.2)])) w_33)))
theorem qig (x:Value) (R:Ending->World->Prop) (w:World):tr P qs ((Tryz.f29.body).getD .skip) zvh (zch 0 [(1,x)]) (zck P Tryz.f29.results.toList R) w=z1q x R w:=by kernel_rfl
theorem qg6 {x:Value}{R:Ending->World->Prop}{w:World}(hT:z1q x R w):qg P z2x #[x] w R:=
 zx (fn:=Tryz.f29) (c:=(Tryz.f29.body).getD .skip) (ann:=zvh) (args:=[(1,x)]) (qs:=qs) mixed Tryz.func29 rfl (by kernel_rfl) (by kernel_rfl) qg9 ((qig x R w).symm▸hT)
def zs4:Ann:=(.seq .leaf (.seq .leaf (.seq (.seq .leaf (.blk (.loop [(4,.int .i64)] (.seq (.seq .leaf (.cond .leaf .leaf)) (.seq (.blk (.tree (.op 0 [] (.op 2 [] (.op 4 [] (.op 1 [] (.op 3 [] (.op 5 [] (.op 6 [] (.op 7 [1] (.op 8 [1] (.op 9 [] (.op 10 [] (.op 11 [] .done)))))))))))))) .leaf))))) (.seq (.seq .leaf (.blk (.loop [(5,.int .i64)] (.seq (.seq .leaf (.cond .leaf .leaf)) (.join [] (.jblk [] (.seq .leaf (.join [] (.seq .leaf (.cond .leaf .leaf)) (.join [] (.seq .leaf (.cond .leaf .leaf)) .leaf)))) .leaf))))) (.seq .leaf .leaf)))))
theorem qdn:okC P qs Tryz.f70.ntmps ((Tryz.f70.body).getD .skip) zs4=true:=by kernel_rfl
def zxx (r:Value) (R:Ending->World->Prop) (w:World):Prop:=
  zby (Value.cells r) zi7 w fun b1 w_1=>
  zby (zc P zh) zh w_1 fun b2 w_2=>
  ld (.int .i64) (⟨b1,0,none⟩:Addr) w_2 fun (t8:Int)=>
  ld .str (⟨b1,1,none⟩:Addr) w_2 fun (t10:ByteArray)=>
  ld (.int .i64) (⟨b1,2,none⟩:Addr) w_2 fun (t12:Int)=>
  zbc P (Instr.build zh #[(0,(Value.int .i64 t8)),(1,(Value.string t10)),(2,(Value.int .i64 t12))]) .any w_2 fun (t13:Value)=>
  zby (zc P zh) zh w_2 fun b3 w_3=>
  zcj P (storeVar zh (⟨b3,0,none⟩:Addr) t13) w_3 fun w_4=>
  za7 Int (fun s w_5 k=>
  ld .slc (⟨b1,3,none⟩:Addr) w_5 fun (t16:(Option Addr×Nat×Nat))=>
  xq (decide (s < (t16.2.1:Int))) (
  zbs w_5 fun w_6=>
  ld .slc (⟨b3,3,none⟩:Addr) w_6 fun (t22:(Option Addr×Nat×Nat))=>
  ld .slc (⟨b1,3,none⟩:Addr) w_6 fun (t24:(Option Addr×Nat×Nat))=>
  ixS t24.1 t24.2.1 1 s fun t26=>
  ld .slc t26 w_6 fun (t27:(Option Addr×Nat×Nat))=>
  xg P ztc #[(Value.slice t27.1 t27.2.1 t27.2.2)] [.any] false w_6 fun (t28:Value) w_7=>
  ((ld .slc (⟨b3,3,none⟩:Addr) w_7 fun (t22_1:(Option Addr×Nat×Nat))=>
  (Value.slice t22_1.1 t22_1.2.1 t22_1.2.2)=(Value.slice t22.1 t22.2.1 t22.2.2)) /\
  za1 P (Instr.buildSlice qj 1 #[(0,t28)]) .slc w_7 fun (t29:(Option Addr×Nat×Nat)) w_8=>
  ((ld .slc (⟨b3,3,none⟩:Addr) w_8 fun (t22_2:(Option Addr×Nat×Nat))=>
  (Value.slice t22_2.1 t22_2.2.1 t22_2.2.2)=(Value.slice t22.1 t22.2.1 t22.2.2)) /\
  za1 P (Builtin.append_ #[qj,qj] qj #[(Value.slice t22.1 t22.2.1 t22.2.2),(Value.slice t29.1 t29.2.1 t29.2.2)]) .slc w_8 fun (t30:(Option Addr×Nat×Nat)) w_9=>
  stC (⟨b3,3,none⟩:Addr) (Value.slice t30.1 t30.2.1 t30.2.2) w_9 fun w_10=>
  zb6 .i64 s 1 fun t20=>
  k t20 w_10))) (
  za7 Int (fun s_1 w_11 k_1=>
  ld .slc (⟨b1,4,none⟩:Addr) w_11 fun (t34:(Option Addr×Nat×Nat))=>
  xq (decide (s_1 < (t34.2.1:Int))) (
  ku Unit (fun k_2=>
  ku Unit (fun k_3=>
  ld .slc (⟨b1,4,none⟩:Addr) w_11 fun (t40:(Option Addr×Nat×Nat))=>
  ixS t40.1 t40.2.1 1 s_1 fun t42=>
  ld .str t42 w_11 fun (t43:ByteArray)=>
  zbc P (Instr.build zy #[(0,(Value.string t43))]) .any w_11 fun (t44:Value)=>
  zby (zc P zy) zy w_11 fun b6 w_12=>
  zcj P (storeVar zy (⟨b6,0,none⟩:Addr) t44) w_12 fun w_13=>
  ku Unit (fun k_4=>
  ld .slc (⟨b1,5,none⟩:Addr) w_13 fun (t47:(Option Addr×Nat×Nat))=>
  xq (decide (s_1 < (t47.2.1:Int))) (
  ld .slc (⟨b1,5,none⟩:Addr) w_13 fun (t51:(Option Addr×Nat×Nat))=>
  ixS t51.1 t51.2.1 1 s_1 fun t53=>
  ld (.int .i64) t53 w_13 fun (t54:Int)=>
  stC (⟨b6,1,none⟩:Addr) (Value.int .i64 t54) w_13 fun w_14=>
  k_4 () w_14) (
  k_4 () w_13)) (fun _ w_15=>
  ku Unit (fun k_5=>
  ld .slc (⟨b1,6,none⟩:Addr) w_15 fun (t58:(Option Addr×Nat×Nat))=>
  xq (decide (s_1 < (t58.2.1:Int))) (
  ld .slc (⟨b1,6,none⟩:Addr) w_15 fun (t62:(Option Addr×Nat×Nat))=>
  ixS t62.1 t62.2.1 1 s_1 fun t64=>
  ld .slc t64 w_15 fun (t65:(Option Addr×Nat×Nat))=>
  xg P ztc #[(Value.slice t65.1 t65.2.1 t65.2.2)] [.any] false w_15 fun (t66:Value) w_16=>
  zcj P (storeVar zf (⟨b6,2,none⟩:Addr) t66) w_16 fun w_17=>
  k_5 () w_17) (
  k_5 () w_15)) (fun _ w_18=>
  ld .slc (⟨b3,4,none⟩:Addr) w_18 fun (t69:(Option Addr×Nat×Nat))=>
  ldA P 34 (⟨b6,0,none⟩:Addr) w_18 fun t70=>
  za1 P (Instr.buildSlice jg 1 #[(0,(Value.agg t70))]) .slc w_18 fun (t71:(Option Addr×Nat×Nat)) w_19=>
  za1 P (Builtin.append_ #[jg,jg] jg #[(Value.slice t69.1 t69.2.1 t69.2.2),(Value.slice t71.1 t71.2.1 t71.2.2)]) .slc w_19 fun (t72:(Option Addr×Nat×Nat)) w_20=>
  stC (⟨b3,4,none⟩:Addr) (Value.slice t72.1 t72.2.1 t72.2.2) w_20 fun w_21=>
  k_3 () w_21))) (fun _ w_22=>
  k_2 () w_22)) (fun _ w_23=>
  zb6 .i64 s_1 1 fun t38=>
  k_1 t38 w_23)) (
  ldA P 5 (⟨b3,0,none⟩:Addr) w_11 fun t74=>
  zcj P (storeVar zh (⟨b2,0,none⟩:Addr) (Value.agg t74)) w_11 fun w_24=>
  ldA P 5 (⟨b2,0,none⟩:Addr) w_24 fun t2=>
  R (.returned (Value.agg t2)) w_24)) 0 w_5)) 0 w_4
theorem qds (r:Value) (R:Ending->World->Prop) (w:World):tr P qs ((Tryz.f70.body).getD .skip) zs4 (zch 0 [(1,r)]) (zck P Tryz.f70.results.toList R) w=zxx r R w:=by kernel_rfl
theorem qef {r:Value}{R:Ending->World->Prop}{w:World}(hT:zxx r R w):qg P zxz #[r] w R:=
 zx (fn:=Tryz.f70) (c:=(Tryz.f70.body).getD .skip) (ann:=zs4) (args:=[(1,r)]) (qs:=qs) mixed Tryz.func70 rfl (by kernel_rfl) (by kernel_rfl) qdn ((qds r R w).symm▸hT)
def zq8:Ann:=(.seq .leaf (.seq (.seq .leaf (.cond (.seq .leaf .leaf) .leaf)) (.seq .leaf .leaf)))
theorem qby:okC P qs Tryz.f71.ntmps ((Tryz.f71.body).getD .skip) zq8=true:=by kernel_rfl
def zvd (d:Value) (sums:Option Addr) (sums_l sums_c:Nat) (R:Ending->World->Prop) (w:World):Prop:=
  zby (Value.cells d) zf w fun b2 w_1=>
  zby (zc P zf) zf w_1 fun b4 w_2=>
  ld (.int .u8) (⟨b2,0,none⟩:Addr) w_2 fun (t6:Int)=>
  cvI .i64 t6 fun t7=>
  xq (decide (t7 < (sums_l:Int))) (
  ld (.int .u8) (⟨b2,0,none⟩:Addr) w_2 fun (t13:Int)=>
  ixS sums sums_l 32 t13 fun t14=>
  ldA P 32 t14 w_2 fun t15=>
  zcj P (storeVar zf (⟨b4,0,none⟩:Addr) (Value.agg t15)) w_2 fun w_3=>
  ldA P 32 (⟨b4,0,none⟩:Addr) w_3 fun t4=>
  R (.returned (Value.agg t4)) w_3) (
  ldA P 32 (⟨b2,0,none⟩:Addr) w_2 fun t16=>
  zcj P (storeVar zf (⟨b4,0,none⟩:Addr) (Value.agg t16)) w_2 fun w_4=>
  ldA P 32 (⟨b4,0,none⟩:Addr) w_4 fun t4_1=>
  R (.returned (Value.agg t4_1)) w_4)
theorem qa8 (d:Value) (sums:Option Addr) (sums_l sums_c:Nat) (R:Ending->World->Prop) (w:World):tr P qs ((Tryz.f71.body).getD .skip) zq8 (zch 0 [(1,d),(0,(Value.slice sums sums_l sums_c))]) (zck P Tryz.f71.results.toList R) w=zvd d sums sums_l sums_c R w:=by kernel_rfl
theorem qaq {d:Value}{sums:Option Addr}{sums_l sums_c:Nat}{R:Ending->World->Prop}{w:World}(hT:zvd d sums sums_l sums_c R w):qg P zqj #[d,(Value.slice sums sums_l sums_c)] w R:=
 zx (fn:=Tryz.f71) (c:=(Tryz.f71.body).getD .skip) (ann:=zq8) (args:=[(1,d),(0,(Value.slice sums sums_l sums_c))]) (qs:=qs) mixed Tryz.func71 rfl (by kernel_rfl) (by kernel_rfl) qby ((qa8 d sums sums_l sums_c R w).symm▸hT)
set_option maxRecDepth 100000
def zqm:Ann:=(.seq .leaf (.join [] (.jblk [] (.seq .leaf (.cond (.seq .leaf .leaf) (.seq .leaf (.cond (.seq .leaf .leaf) .leaf))))) (.seq .leaf (.seq .leaf (.seq .leaf .leaf)))))
theorem qai:okC P qs Tryz.f32.ntmps ((Tryz.f32.body).getD .skip) zqm=true:=by kernel_rfl
def zur (s:Option Addr) (root:Value) (kind:Int) (R:Ending->World->Prop) (w:World):Prop:=
  zby (Value.cells root) zf w fun b4 w_1=>
  ku Unit (fun k=>
  ku Unit (fun k_1=>
  xq (Option.isNone s) (
  R (.returned (Value.tuple #[(Value.pointer none),(Value.int .i64 7)])) w_1) (
  xq (kind != 2) (
  xq (kind != 3) (
  R (.returned (Value.tuple #[(Value.pointer none),(Value.int .i64 100)])) w_1) (
  k_1 () w_1)) (
  k_1 () w_1))) (fun _ w_2=>
  k () w_2)) (fun _ w_3=>
  za1 P (Instr.makeMap zan none) .map w_3 fun (t20:(Option Nat)) w_4=>
  zbc P (Instr.build ze5 #[(0,(Value.pointer s)),(1,(Value.map t20))]) .any w_4 fun (t21:Value)=>
  zby (Value.cells t21) ze5 w_4 fun b22 w_5=>
  ldA P 32 (⟨b4,0,none⟩:Addr) w_5 fun t24=>
  zbc P (Instr.build zo #[(0,(Value.agg t24)),(1,(Value.int .i64 kind))]) .any w_5 fun (t26:Value)=>
  xg P zez #[(Value.pointer (some (⟨b22,0,none⟩:Addr))),t26] [] true w_5 fun (_:Unit) w_6=>
  R (.returned (Value.tuple #[(Value.pointer (some (⟨b22,0,none⟩:Addr))),(Value.int .i64 0)])) w_6)
theorem qcj (s:Option Addr) (root:Value) (kind:Int) (R:Ending->World->Prop) (w:World):tr P qs ((Tryz.f32.body).getD .skip) zqm (zch 0 [(0,(Value.pointer s)),(1,root),(0,(Value.int .i64 kind))]) (zck P Tryz.f32.results.toList R) w=zur s root kind R w:=by kernel_rfl
theorem qcm {s:Option Addr}{root:Value}{kind:Int}{R:Ending->World->Prop}{w:World}(hT:zur s root kind R w):qg P zuh #[(Value.pointer s),root,(Value.int .i64 kind)] w R:=
 zx (fn:=Tryz.f32) (c:=(Tryz.f32.body).getD .skip) (ann:=zqm) (args:=[(0,(Value.pointer s)),(1,root),(0,(Value.int .i64 kind))]) (qs:=qs) mixed Tryz.func32 rfl (by kernel_rfl) (by kernel_rfl) qai ((qcj s root kind R w).symm▸hT)
def zft:Ann:=(.seq .leaf (.seq (.seq .leaf (.cond (.seq .leaf .leaf) .leaf)) (.seq .leaf (.seq .leaf (.seq (.seq .leaf (.cond (.seq .leaf .leaf) .leaf)) (.seq .leaf (.join [] (.seq (.tree (.op 0 [] (.op 1 [] (.op 2 [] (.op 3 [] (.op 4 [] (.op 5 [] (.op 8 [] (.op 6 [] (.op 7 [] (.op 9 [] (.op 10 [] (.op 11 [] (.op 12 [] (.op 13 [] .done))))))))))))))) (.cond (.seq .leaf .leaf) .leaf)) (.seq (.seq .leaf (.seq .leaf (.cond (.seq .leaf .leaf) .leaf))) (.seq .leaf (.seq (.seq .leaf (.blk (.loop [(11,.slc),(64,.int .i64)] (.seq .leaf (.seq (.cond .leaf .leaf) (.seq (.jblk [(11,.slc)] (.seq .leaf (.seq .leaf (.cond .leaf .leaf)))) .leaf)))))) (.seq .leaf (.seq (.seq .leaf (.blk (.loop [(87,.int .i64)] (.seq .leaf (.seq (.cond .leaf .leaf) (.join [] (.jblk [] (.seq .leaf (.seq .leaf (.cond .leaf .leaf)))) .leaf)))))) (.seq .leaf .leaf)))))))))))))
theorem zrl:okC P qs Tryz.f36.ntmps ((Tryz.f36.body).getD .skip) zft=true:=by kernel_rfl
def zg4 (c:Option Addr) (b:Option Addr) (b_l b_c:Nat) (R:Ending->World->Prop) (w:World):Prop:=
  xq (Option.isNone c) (
  R (.returned (Value.int .i64 7)) w) (
  xg P zkk #[(Value.slice b b_l b_c)] [.any] false w fun (t19:Value) w_1=>
  zby (zc P zf) zf w_1 fun b5 w_2=>
  zcj P (storeVar zf (⟨b5,0,none⟩:Addr) t19) w_2 fun w_3=>
  zbc P (Instr.makeFunc (Go.Fn.func zd5) #[] #[(Value.pointer (some (⟨b5,0,none⟩:Addr)))]) .any w_3 fun (t20:Value)=>
  zn c fun p=>
  ld .slc (Addr.add p 2) w_3 fun (t24:(Option Addr×Nat×Nat))=>
  xg P zbb #[(Value.slice t24.1 t24.2.1 t24.2.2),t20] [.bool] false w_3 fun (t26:Bool) w_4=>
  xq (!t26) (
  R (.returned (Value.int .i64 80)) w_4) (
  xg P zg9 #[(Value.slice b b_l b_c)] [.any,.int .i64] true w_4 fun (t30:(Value×Int)) w_5=>
  zby (zc P zh) zh w_5 fun b7 w_6=>
  zcj P (storeVar zh (⟨b7,0,none⟩:Addr) t30.1) w_6 fun w_7=>
  ku Unit (fun k=>
  zbs w_7 fun w_8=>
  xq (t30.2 != 0) (
  R (.returned (Value.int .i64 21)) w_8) (
  zn c fun p_1=>
  ld .slc (Addr.add p_1 2) w_8 fun (t39:(Option Addr×Nat×Nat))=>
  ldA P 32 (⟨b5,0,none⟩:Addr) w_8 fun t40=>
  ld (.int .i64) (⟨b7,0,none⟩:Addr) w_8 fun (t42:Int)=>
  zbc P (Instr.build zo #[(0,(Value.agg t40)),(1,(Value.int .i64 t42))]) .any w_8 fun (t43:Value)=>
  xg P zbx #[(Value.slice t39.1 t39.2.1 t39.2.2),t43] [.bool] false w_8 fun (t44:Bool) w_9=>
  xq (!t44) (
  R (.returned (Value.int .i64 21)) w_9) (
  k () w_9))) (fun _ w_10=>
  zn c fun p_2=>
  ld .ptr p_2 w_10 fun (t51:(Option Addr))=>
  xg P zh0 #[(Value.pointer t51),(Value.slice b b_l b_c)] [.any,.int .i64] true w_10 fun (t53:(Value×Int)) w_11=>
  zby (zc P zf) zf w_11 fun b9 w_12=>
  zcj P (storeVar zf (⟨b9,0,none⟩:Addr) t53.1) w_12 fun w_13=>
  xq (t53.2 != 0) (
  R (.returned (Value.int .i64 t53.2)) w_13) (
  zn c fun p_3=>
  ld .slc (Addr.add p_3 2) w_13 fun (t62:(Option Addr×Nat×Nat))=>
  za7 ((Option Addr×Nat×Nat)×Int) (fun s_1 w_14 k_1=>
  xq (decide (s_1.2 < (t62.2.1:Int))) (
  ku (Option Addr×Nat×Nat) (fun k_2=>
  ixS t62.1 t62.2.1 33 s_1.2 fun t66=>
  ldA P 33 t66 w_14 fun t67=>
  zby (zc P zo) zo w_14 fun b13 w_15=>
  zcj P (storeVar zo (⟨b13,0,none⟩:Addr) (Value.agg t67)) w_15 fun w_16=>
  ldA P 33 (⟨b13,0,none⟩:Addr) w_16 fun t69=>
  zuk P t20 #[(Value.agg t69)] [.bool] false w_16 fun (t70:Bool) w_17=>
  xq t70 (
  ldA P 33 (⟨b13,0,none⟩:Addr) w_17 fun t72=>
  za1 P (Instr.buildSlice jw 1 #[(0,(Value.agg t72))]) .slc w_17 fun (t73:(Option Addr×Nat×Nat)) w_18=>
  za1 P (Builtin.append_ #[jw,jw] jw #[(Value.slice s_1.1.1 s_1.1.2.1 s_1.1.2.2),(Value.slice t73.1 t73.2.1 t73.2.2)]) .slc w_18 fun (t74:(Option Addr×Nat×Nat)) w_19=>
  k_2 (t74.1,t74.2.1,t74.2.2) w_19) (
  k_2 (s_1.1.1,s_1.1.2.1,s_1.1.2.2) w_17)) (fun s_2 w_20=>
  zb6 .i64 s_1.2 1 fun t75=>
  k_1 ((s_2.1,s_2.2.1,s_2.2.2),t75) w_20)) (
  zn c fun p_4=>
  ld .slc (Addr.add p_4 2) w_14 fun (t80:(Option Addr×Nat×Nat))=>
  xg P zbk #[(Value.slice t80.1 t80.2.1 t80.2.2),t20] [.slc] false w_14 fun (t82:(Option Addr×Nat×Nat)) w_21=>
  zn c fun p_5=>
  stC (Addr.add p_5 2) (Value.slice t82.1 t82.2.1 t82.2.2) w_21 fun w_22=>
  za7 Int (fun s_3 w_23 k_3=>
  xq (decide (s_3 < (s_1.1.2.1:Int))) (
  ku Unit (fun k_4=>
  ku Unit (fun k_5=>
  ixS s_1.1.1 s_1.1.2.1 33 s_3 fun t89=>
  ldA P 33 t89 w_23 fun t90=>
  zby (zc P zo) zo w_23 fun b15 w_24=>
  zcj P (storeVar zo (⟨b15,0,none⟩:Addr) (Value.agg t90)) w_24 fun w_25=>
  ld (.int .i64) (⟨b15,32,none⟩:Addr) w_25 fun (t92:Int)=>
  ld (.int .i64) (⟨b7,0,none⟩:Addr) w_25 fun (t94:Int)=>
  xq (t92==t94) (
  ldA P 5 (⟨b7,0,none⟩:Addr) w_25 fun t97=>
  xg P zdq #[(Value.pointer c),(Value.agg t97)] [] true w_25 fun (_:Unit) w_26=>
  k_5 () w_26) (
  zn c fun p_6=>
  stC (Addr.add p_6 3) (Value.bool true) w_25 fun w_27=>
  k_5 () w_27)) (fun _ w_28=>
  k_4 () w_28)) (fun _ w_29=>
  zb6 .i64 s_3 1 fun t102=>
  k_3 t102 w_29)) (
  R (.returned (Value.int .i64 0)) w_23)) 0 w_22)) ((none,0,0),0) w_13))))
theorem zri (c:Option Addr) (b:Option Addr) (b_l b_c:Nat) (R:Ending->World->Prop) (w:World):tr P qs ((Tryz.f36.body).getD .skip) zft (zch 0 [(0,(Value.pointer c)),(0,(Value.slice b b_l b_c))]) (zck P Tryz.f36.results.toList R) w=zg4 c b b_l b_c R w:=by kernel_rfl
theorem zrm {c:Option Addr}{b:Option Addr}{b_l b_c:Nat}{R:Ending->World->Prop}{w:World}(hT:zg4 c b b_l b_c R w):qg P zem #[(Value.pointer c),(Value.slice b b_l b_c)] w R:=
 zx (fn:=Tryz.f36) (c:=(Tryz.f36.body).getD .skip) (ann:=zft) (args:=[(0,(Value.pointer c)),(0,(Value.slice b b_l b_c))]) (qs:=qs) mixed Tryz.func36 rfl (by kernel_rfl) (by kernel_rfl) zrl ((zri c b b_l b_c R w).symm▸hT)
def zgh:Ann:=(.seq .leaf (.seq .leaf (.seq (.seq .leaf (.cond (.seq .leaf .leaf) .leaf)) (.seq (.seq .leaf (.jblk [(5,.slc)] (.loop [(5,.slc),(15,.int .i64)] (.seq .leaf (.seq (.cond .leaf .leaf) (.seq (.jblk [(5,.slc)] (.seq .leaf (.seq (.seq .leaf (.cond .leaf .leaf)) (.seq .leaf (.cond .leaf .leaf))))) .leaf)))))) (.seq .leaf .leaf)))))
theorem zs7:okC P qs Tryz.f39.ntmps ((Tryz.f39.body).getD .skip) zgh=true:=by kernel_rfl
def zhj (c:Option Addr) (most:Int) (R:Ending->World->Prop) (w:World):Prop:=
  xq (Option.isNone c) (
  R (.returned (Value.slice none 0 0)) w) (
  zn c fun p=>
  ld .slc (Addr.add p 2) w fun (t13:(Option Addr×Nat×Nat))=>
  ku (Option Addr×Nat×Nat) (fun k=>
  za7 ((Option Addr×Nat×Nat)×Int) (fun s w_1 k_1=>
  xq (decide (s.2 < (t13.2.1:Int))) (
  ku (Option Addr×Nat×Nat) (fun k_2=>
  ixS t13.1 t13.2.1 33 s.2 fun t17=>
  ldA P 33 t17 w_1 fun t18=>
  zby (zc P zo) zo w_1 fun b7 w_2=>
  zcj P (storeVar zo (⟨b7,0,none⟩:Addr) (Value.agg t18)) w_2 fun w_3=>
  xq (decide ((s.1.2.1:Int)>=most)) (
  k (s.1.1,s.1.2.1,s.1.2.2) w_3) (
  ldA P 32 (⟨b7,0,none⟩:Addr) w_3 fun t25=>
  xg P zbw #[(Value.slice s.1.1 s.1.2.1 s.1.2.2),(Value.agg t25)] [.bool] false w_3 fun (t26:Bool) w_4=>
  xq (!t26) (
  ldA P 32 (⟨b7,0,none⟩:Addr) w_4 fun t30=>
  za1 P (Instr.buildSlice qj 1 #[(0,(Value.agg t30))]) .slc w_4 fun (t31:(Option Addr×Nat×Nat)) w_5=>
  za1 P (Builtin.append_ #[qj,qj] qj #[(Value.slice s.1.1 s.1.2.1 s.1.2.2),(Value.slice t31.1 t31.2.1 t31.2.2)]) .slc w_5 fun (t32:(Option Addr×Nat×Nat)) w_6=>
  k_2 (t32.1,t32.2.1,t32.2.2) w_6) (
  k_2 (s.1.1,s.1.2.1,s.1.2.2) w_4))) (fun s_1 w_7=>
  zb6 .i64 s.2 1 fun t33=>
  k_1 ((s_1.1,s_1.2.1,s_1.2.2),t33) w_7)) (
  k (s.1.1,s.1.2.1,s.1.2.2) w_1)) ((none,0,0),0) w) (fun s_2 w_8=>
  R (.returned (Value.slice s_2.1 s_2.2.1 s_2.2.2)) w_8))
theorem zr2 (c:Option Addr) (most:Int) (R:Ending->World->Prop) (w:World):tr P qs ((Tryz.f39.body).getD .skip) zgh (zch 0 [(0,(Value.pointer c)),(0,(Value.int .i64 most))]) (zck P Tryz.f39.results.toList R) w=zhj c most R w:=by kernel_rfl
theorem zsk {c:Option Addr}{most:Int}{R:Ending->World->Prop}{w:World}(hT:zhj c most R w):qg P zhn #[(Value.pointer c),(Value.int .i64 most)] w R:=
 zx (fn:=Tryz.f39) (c:=(Tryz.f39.body).getD .skip) (ann:=zgh) (args:=[(0,(Value.pointer c)),(0,(Value.int .i64 most))]) (qs:=qs) mixed Tryz.func39 rfl (by kernel_rfl) (by kernel_rfl) zs7 ((zr2 c most R w).symm▸hT)
def zmu:Ann:=(.seq .leaf (.seq (.seq .leaf (.cond (.seq .leaf .leaf) .leaf)) (.seq (.seq .leaf (.blk (.loop [(5,.int .i64)] (.seq (.seq .leaf (.cond .leaf .leaf)) (.seq (.blk (.seq (.tree (.op 0 [] (.op 1 [] (.op 2 [] (.op 4 [] (.op 5 [] (.op 6 [] (.op 3 [] (.op 7 [] (.op 8 [] .done)))))))))) (.cond (.seq .leaf .leaf) .leaf))) .leaf))))) (.seq .leaf .leaf))))
theorem z5l:okC P qs Tryz.f41.ntmps ((Tryz.f41.body).getD .skip) zmu=true:=by kernel_rfl
def zqy (a:Option Addr) (a_l a_c:Nat) (b:Option Addr) (b_l b_c:Nat) (R:Ending->World->Prop) (w:World):Prop:=
  xq ((a_l:Int) != (b_l:Int)) (
  R (.returned (Value.bool false)) w) (
  za7 Int (fun s w_1 k=>
  xq (decide (s < (a_l:Int))) (
  zbs w_1 fun w_2=>
  ixS a a_l 32 s fun t19=>
  ixS b b_l 32 s fun t23=>
  ldA P 32 t19 w_2 fun t20=>
  ldA P 32 t23 w_2 fun t24=>
  zbc P (eqM .neq zf (.tmp 20) (.tmp 24) (Value.agg t20) (Value.agg t24)) .bool w_2 fun (t25:Bool)=>
  xq t25 (
  R (.returned (Value.bool false)) w_2) (
  zb6 .i64 s 1 fun t16=>
  k t16 w_2)) (
  R (.returned (Value.bool true)) w_1)) 0 w)
theorem z3z (a:Option Addr) (a_l a_c:Nat) (b:Option Addr) (b_l b_c:Nat) (R:Ending->World->Prop) (w:World):tr P qs ((Tryz.f41.body).getD .skip) zmu (zch 0 [(0,(Value.slice a a_l a_c)),(0,(Value.slice b b_l b_c))]) (zck P Tryz.f41.results.toList R) w=zqy a a_l a_c b b_l b_c R w:=by kernel_rfl
theorem z5b {a:Option Addr}{a_l a_c:Nat}{b:Option Addr}{b_l b_c:Nat}{R:Ending->World->Prop}{w:World}(hT:zqy a a_l a_c b b_l b_c R w):qg P zlu #[(Value.slice a a_l a_c),(Value.slice b b_l b_c)] w R:=
 zx (fn:=Tryz.f41) (c:=(Tryz.f41.body).getD .skip) (ann:=zmu) (args:=[(0,(Value.slice a a_l a_c)),(0,(Value.slice b b_l b_c))]) (qs:=qs) mixed Tryz.func41 rfl (by kernel_rfl) (by kernel_rfl) z5l ((z3z a a_l a_c b b_l b_c R w).symm▸hT)
def zm2:Ann:=(.seq .leaf (.join [] (.jblk [] (.seq .leaf (.cond (.seq .leaf .leaf) (.seq .leaf (.cond (.seq .leaf .leaf) .leaf))))) (.seq .leaf (.seq .leaf (.seq .leaf (.seq .leaf (.seq .leaf (.seq (.seq .leaf (.seq .leaf (.cond (.seq .leaf .leaf) .leaf))) (.seq .leaf .leaf)))))))))
theorem z4q:okC P qs Tryz.f42.ntmps ((Tryz.f42.body).getD .skip) zm2=true:=by kernel_rfl
def zlz (s:Option Addr) (root:Value) (kind:Int) (R:Ending->World->Prop) (w:World):Prop:=
  zby #[(Value.pointer s)] zka w fun b3 w_1=>
  zby (Value.cells root) zf w_1 fun b4 w_2=>
  ku Unit (fun k=>
  ku Unit (fun k_1=>
  ld .ptr (⟨b3,0,none⟩:Addr) w_2 fun (t14:(Option Addr))=>
  xq (Option.isNone t14) (
  R (.returned (Value.tuple #[(Value.slice none 0 0),(Value.int .i64 7)])) w_2) (
  xq (kind != 2) (
  xq (kind != 3) (
  R (.returned (Value.tuple #[(Value.slice none 0 0),(Value.int .i64 100)])) w_2) (
  k_1 () w_2)) (
  k_1 () w_2))) (fun _ w_3=>
  k () w_3)) (fun _ w_4=>
  za1 P (Instr.makeMap zan none) .map w_4 fun (t23:(Option Nat)) w_5=>
  zby (zc P zan) zan w_5 fun b8 w_6=>
  stC (⟨b8,0,none⟩:Addr) (Value.map t23) w_6 fun w_7=>
  za1 P (Instr.makeMap zbd none) .map w_7 fun (t24:(Option Nat)) w_8=>
  zby (zc P zbd) zbd w_8 fun b9 w_9=>
  stC (⟨b9,0,none⟩:Addr) (Value.map t24) w_9 fun w_10=>
  zby (zc P qj) qj w_10 fun b10 w_11=>
  zby (zc P zdw) zdw w_11 fun b11 w_12=>
  zbc P (Instr.makeFunc (Go.Fn.func zgz) #[] #[(Value.pointer (some (⟨b8,0,none⟩:Addr))),(Value.pointer (some (⟨b3,0,none⟩:Addr))),(Value.pointer (some (⟨b9,0,none⟩:Addr))),(Value.pointer (some (⟨b10,0,none⟩:Addr))),(Value.pointer (some (⟨b11,0,none⟩:Addr)))]) .any w_12 fun (t25:Value)=>
  zcj P (storeVar zdw (⟨b11,0,none⟩:Addr) t25) w_12 fun w_13=>
  ld .any (⟨b11,0,none⟩:Addr) w_13 fun (t26:Value)=>
  ldA P 32 (⟨b4,0,none⟩:Addr) w_13 fun t27=>
  zbc P (Instr.build zo #[(0,(Value.agg t27)),(1,(Value.int .i64 kind))]) .any w_13 fun (t29:Value)=>
  zuk P t26 #[t29] [.int .i64] false w_13 fun (t30:Int) w_14=>
  xq (t30 != 0) (
  R (.returned (Value.tuple #[(Value.slice none 0 0),(Value.int .i64 t30)])) w_14) (
  ld .slc (⟨b10,0,none⟩:Addr) w_14 fun (t34:(Option Addr×Nat×Nat))=>
  R (.returned (Value.tuple #[(Value.slice t34.1 t34.2.1 t34.2.2),(Value.int .i64 0)])) w_14))
theorem z5o (s:Option Addr) (root:Value) (kind:Int) (R:Ending->World->Prop) (w:World):tr P qs ((Tryz.f42.body).getD .skip) zm2 (zch 0 [(0,(Value.pointer s)),(1,root),(0,(Value.int .i64 kind))]) (zck P Tryz.f42.results.toList R) w=zlz s root kind R w:=by kernel_rfl
theorem zua {s:Option Addr}{root:Value}{kind:Int}{R:Ending->World->Prop}{w:World}(hT:zlz s root kind R w):qg P zlv #[(Value.pointer s),root,(Value.int .i64 kind)] w R:=
 zx (fn:=Tryz.f42) (c:=(Tryz.f42.body).getD .skip) (ann:=zm2) (args:=[(0,(Value.pointer s)),(1,root),(0,(Value.int .i64 kind))]) (qs:=qs) mixed Tryz.func42 rfl (by kernel_rfl) (by kernel_rfl) z4q ((z5o s root kind R w).symm▸hT)
def zgf:Ann:=(.seq .leaf (.seq .leaf .leaf))
theorem zr9:okC P qs Tryz.f43.ntmps ((Tryz.f43.body).getD .skip) zgf=true:=by kernel_rfl
def zhc (c:Option Addr) (R:Ending->World->Prop) (w:World):Prop:=
  xq (!(Option.isNone c)) (
  zn c fun p=>
  ld .slc (Addr.add p 2) w fun (t9:(Option Addr×Nat×Nat))=>
  xq ((t9.2.1:Int)==0) (
  zn c fun p_1=>
  ld .bool (Addr.add p_1 3) w fun (t17:Bool)=>
  R (.returned (Value.bool (!t17))) w) (
  R (.returned (Value.bool false)) w)) (
  R (.returned (Value.bool false)) w)
theorem zrt (c:Option Addr) (R:Ending->World->Prop) (w:World):tr P qs ((Tryz.f43.body).getD .skip) zgf (zch 0 [(0,(Value.pointer c))]) (zck P Tryz.f43.results.toList R) w=zhc c R w:=by kernel_rfl
theorem zsx {c:Option Addr}{R:Ending->World->Prop}{w:World}(hT:zhc c R w):qg P ze1 #[(Value.pointer c)] w R:=
 zx (fn:=Tryz.f43) (c:=(Tryz.f43.body).getD .skip) (ann:=zgf) (args:=[(0,(Value.pointer c))]) (qs:=qs) mixed Tryz.func43 rfl (by kernel_rfl) (by kernel_rfl) zr9 ((zrt c R w).symm▸hT)
def zp9:Ann:=(.seq .leaf (.join [] (.seq .leaf (.cond (.seq .leaf .leaf) .leaf)) (.seq .leaf (.seq .leaf (.seq .leaf (.seq (.blk (.loop [(8,.slc),(9,.slc),(10,.slc)] (.seq (.seq .leaf (.cond .leaf .leaf)) (.jblk [(8,.slc),(9,.slc),(10,.slc)] (.seq .leaf (.seq .leaf (.seq (.seq .leaf (.cond .leaf .leaf)) (.seq .leaf (.seq .leaf (.seq (.seq .leaf (.cond (.seq .leaf .leaf) .leaf)) (.seq .leaf (.join [] (.seq .leaf (.cond (.seq .leaf .leaf) .leaf)) (.join [(9,.slc)] (.seq .leaf (.cond .leaf .leaf)) .leaf))))))))))))) (.seq .leaf .leaf)))))))
theorem qc9:okC P qs Tryz.f51.ntmps ((Tryz.f51.body).getD .skip) zp9=true:=by kernel_rfl
def zqe (s:Option Addr) (root:Value) (kind:Int) (R:Ending->World->Prop) (w:World):Prop:=
  zby (Value.cells root) zf w fun b4 w_1=>
  ku Unit (fun k=>
  xq (kind != 2) (
  xq (kind != 3) (
  R (.returned (Value.tuple #[(Value.slice none 0 0),(Value.int .i64 100)])) w_1) (
  k () w_1)) (
  k () w_1)) (fun _ w_2=>
  ldA P 32 (⟨b4,0,none⟩:Addr) w_2 fun t22=>
  zbc P (Instr.build jf #[(0,(Value.agg t22)),(1,(Value.int .i64 kind))]) .any w_2 fun (t24:Value)=>
  za1 P (Instr.buildSlice zac 1 #[(0,t24)]) .slc w_2 fun (t25:(Option Addr×Nat×Nat)) w_3=>
  za7 ((Option Addr×Nat×Nat)×(Option Addr×Nat×Nat)×(Option Addr×Nat×Nat)) (fun s_2 w_4 k_1=>
  xq (decide ((s_2.2.2.2.1:Int) > 0)) (
  ku ((Option Addr×Nat×Nat)×(Option Addr×Nat×Nat)×(Option Addr×Nat×Nat)) (fun k_2=>
  ixS s_2.2.2.1 s_2.2.2.2.1 33 0 fun t30=>
  ldA P 33 t30 w_4 fun t31=>
  zby (zc P jf) jf w_4 fun b11 w_5=>
  zcj P (storeVar jf (⟨b11,0,none⟩:Addr) (Value.agg t31)) w_5 fun w_6=>
  za1 P (Instr.buildSlice zac 0 #[]) .slc w_6 fun (t32:(Option Addr×Nat×Nat)) w_7=>
  zbc P (Instr.sliceAt zac (Value.slice s_2.2.2.1 s_2.2.2.2.1 s_2.2.2.2.2) (some (Value.int .i64 1)) none none) .slc w_7 fun (t34:(Option Addr×Nat×Nat))=>
  za1 P (Builtin.append_ #[zac,zac] zac #[(Value.slice t32.1 t32.2.1 t32.2.2),(Value.slice t34.1 t34.2.1 t34.2.2)]) .slc w_7 fun (t35:(Option Addr×Nat×Nat)) w_8=>
  ldA P 33 (⟨b11,0,none⟩:Addr) w_8 fun t37=>
  xg P z7t #[(Value.slice s_2.1.1 s_2.1.2.1 s_2.1.2.2),(Value.agg t37)] [.bool] false w_8 fun (t38:Bool) w_9=>
  xq t38 (
  k_2 ((s_2.1.1,s_2.1.2.1,s_2.1.2.2),(s_2.2.1.1,s_2.2.1.2.1,s_2.2.1.2.2),(t35.1,t35.2.1,t35.2.2)) w_9) (
  ldA P 33 (⟨b11,0,none⟩:Addr) w_9 fun t40=>
  za1 P (Instr.buildSlice zac 1 #[(0,(Value.agg t40))]) .slc w_9 fun (t41:(Option Addr×Nat×Nat)) w_10=>
  za1 P (Builtin.append_ #[zac,zac] zac #[(Value.slice s_2.1.1 s_2.1.2.1 s_2.1.2.2),(Value.slice t41.1 t41.2.1 t41.2.2)]) .slc w_10 fun (t42:(Option Addr×Nat×Nat)) w_11=>
  ldA P 32 (⟨b11,0,none⟩:Addr) w_11 fun t46=>
  xg P znd #[(Value.pointer s),(Value.agg t46)] [.slc,.int .i64] true w_11 fun (t47:((Option Addr×Nat×Nat)×Int)) w_12=>
  xq (t47.2 != 0) (
  R (.returned (Value.tuple #[(Value.slice none 0 0),(Value.int .i64 t47.2)])) w_12) (
  xg P zsp #[(Value.slice t47.1.1 t47.1.2.1 t47.1.2.2)] [.any,.bool] true w_12 fun (t55:(Value×Bool)) w_13=>
  zby (zc P zh) zh w_13 fun b14 w_14=>
  zcj P (storeVar zh (⟨b14,0,none⟩:Addr) t55.1) w_14 fun w_15=>
  ku Unit (fun k_3=>
  xq (!t55.2) (
  R (.returned (Value.tuple #[(Value.slice none 0 0),(Value.int .i64 21)])) w_15) (
  ld (.int .i64) (⟨b14,0,none⟩:Addr) w_15 fun (t62:Int)=>
  ld (.int .i64) (⟨b11,32,none⟩:Addr) w_15 fun (t64:Int)=>
  xq (t62 != t64) (
  R (.returned (Value.tuple #[(Value.slice none 0 0),(Value.int .i64 21)])) w_15) (
  k_3 () w_15))) (fun _ w_16=>
  ku (Option Addr×Nat×Nat) (fun k_4=>
  ldA P 32 (⟨b11,0,none⟩:Addr) w_16 fun t69=>
  xg P z0t #[(Value.slice s_2.2.1.1 s_2.2.1.2.1 s_2.2.1.2.2),(Value.agg t69)] [.bool] false w_16 fun (t70:Bool) w_17=>
  xq (!t70) (
  ldA P 32 (⟨b11,0,none⟩:Addr) w_17 fun t74=>
  za1 P (Instr.buildSlice qj 1 #[(0,(Value.agg t74))]) .slc w_17 fun (t75:(Option Addr×Nat×Nat)) w_18=>
  za1 P (Builtin.append_ #[qj,qj] qj #[(Value.slice s_2.2.1.1 s_2.2.1.2.1 s_2.2.1.2.2),(Value.slice t75.1 t75.2.1 t75.2.2)]) .slc w_18 fun (t76:(Option Addr×Nat×Nat)) w_19=>
  k_4 (t76.1,t76.2.1,t76.2.2) w_19) (
  k_4 (s_2.2.1.1,s_2.2.1.2.1,s_2.2.1.2.2) w_17)) (fun s_4 w_20=>
  ldA P 5 (⟨b14,0,none⟩:Addr) w_20 fun t77=>
  xg P zvl #[(Value.agg t77)] [.slc] false w_20 fun (t78:(Option Addr×Nat×Nat)) w_21=>
  za1 P (Builtin.append_ #[zac,zac] zac #[(Value.slice t78.1 t78.2.1 t78.2.2),(Value.slice t35.1 t35.2.1 t35.2.2)]) .slc w_21 fun (t80:(Option Addr×Nat×Nat)) w_22=>
  k_2 ((t42.1,t42.2.1,t42.2.2),(s_4.1,s_4.2.1,s_4.2.2),(t80.1,t80.2.1,t80.2.2)) w_22))))) (fun s_5 w_23=>
  k_1 ((s_5.1.1,s_5.1.2.1,s_5.1.2.2),(s_5.2.1.1,s_5.2.1.2.1,s_5.2.1.2.2),(s_5.2.2.1,s_5.2.2.2.1,s_5.2.2.2.2)) w_23)) (
  R (.returned (Value.tuple #[(Value.slice s_2.2.1.1 s_2.2.1.2.1 s_2.2.1.2.2),(Value.int .i64 0)])) w_4)) ((none,0,0),(none,0,0),(t25.1,t25.2.1,t25.2.2)) w_3)
theorem qcn (s:Option Addr) (root:Value) (kind:Int) (R:Ending->World->Prop) (w:World):tr P qs ((Tryz.f51.body).getD .skip) zp9 (zch 0 [(0,(Value.pointer s)),(1,root),(0,(Value.int .i64 kind))]) (zck P Tryz.f51.results.toList R) w=zqe s root kind R w:=by kernel_rfl
theorem zy5 {s:Option Addr}{root:Value}{kind:Int}{R:Ending->World->Prop}{w:World}(hT:zqe s root kind R w):qg P zpy #[(Value.pointer s),root,(Value.int .i64 kind)] w R:=
 zx (fn:=Tryz.f51) (c:=(Tryz.f51.body).getD .skip) (ann:=zp9) (args:=[(0,(Value.pointer s)),(1,root),(0,(Value.int .i64 kind))]) (qs:=qs) mixed Tryz.func51 rfl (by kernel_rfl) (by kernel_rfl) qc9 ((qcn s root kind R w).symm▸hT)
def zgm:Ann:=(.seq .leaf (.seq (.seq (.tree (.op 0 [] (.op 1 [] (.op 2 [] (.op 3 [] (.op 4 [] (.op 5 [] (.op 6 [] .done)))))))) (.cond .leaf .leaf)) (.seq (.tree (.op 0 [] (.op 1 [] (.op 2 [] (.op 3 [] (.op 4 [] (.op 5 [] .done))))))) (.seq (.tree (.op 0 [] (.op 1 [] (.op 2 [] (.op 4 [] (.op 3 [] (.op 5 [] (.op 6 [] (.op 7 [] (.op 8 [] (.op 9 [] (.op 10 [] (.op 11 [] .done))))))))))))) (.seq (.seq .leaf (.cond (.seq (.tree (.op 0 [] (.op 1 [] (.op 2 [] (.op 3 [] (.op 4 [] (.op 5 [] (.op 6 [4] (.op 7 [] (.op 8 [] (.op 9 [] (.op 10 [] .done)))))))))))) .leaf) .leaf)) (.seq .leaf (.join [] (.seq .leaf (.cond (.seq .leaf .leaf) .leaf)) .leaf)))))))
theorem zsy:okC P qs Tryz.f79.ntmps ((Tryz.f79.body).getD .skip) zgm=true:=by kernel_rfl
def zhh (c:Option Addr) (p:Value) (R:Ending->World->Prop) (w:World):Prop:=
  zby (Value.cells p) zo w fun b3 w_1=>
  zbs w_1 fun w_2=>
  zn c fun p_1=>
  ld .map (Addr.add p_1 1) w_2 fun (t10:(Option Nat))=>
  ldA P 33 (⟨b3,0,none⟩:Addr) w_2 fun t11=>
  zbc P (Instr.lookup zan (Value.map t10) (Value.agg t11) false) (.int .i64) w_2 fun (t12:Int)=>
  xq (decide (t12 > 0)) (
  R (.returned (Value.tuple #[])) w_2) (
  zbs w_2 fun w_3=>
  zn c fun p_2=>
  ld .map (Addr.add p_2 1) w_3 fun (t17:(Option Nat))=>
  ldA P 33 (⟨b3,0,none⟩:Addr) w_3 fun t18=>
  zcj P (Instr.mapUpdate zan (Value.map t17) (Value.agg t18) (Value.int .i64 1)) w_3 fun w_4=>
  zbs w_4 fun w_5=>
  zn c fun p_3=>
  ld .ptr p_3 w_5 fun (t23:(Option Addr))=>
  ldA P 32 (⟨b3,0,none⟩:Addr) w_5 fun t25=>
  xg P zei #[(Value.pointer t23),(Value.agg t25)] [.slc,.int .i64] true w_5 fun (t26:((Option Addr×Nat×Nat)×Int)) w_6=>
  xq (t26.2 != 0) (
  zbs w_6 fun w_7=>
  zn c fun p_4=>
  ld .slc (Addr.add p_4 2) w_7 fun (t35:(Option Addr×Nat×Nat))=>
  ldA P 33 (⟨b3,0,none⟩:Addr) w_7 fun t36=>
  za1 P (Instr.buildSlice jw 1 #[(0,(Value.agg t36))]) .slc w_7 fun (t37:(Option Addr×Nat×Nat)) w_8=>
  ((ld .slc (Addr.add p_4 2) w_8 fun (t35_1:(Option Addr×Nat×Nat))=>
  (Value.slice t35_1.1 t35_1.2.1 t35_1.2.2)=(Value.slice t35.1 t35.2.1 t35.2.2)) /\
  za1 P (Builtin.append_ #[jw,jw] jw #[(Value.slice t35.1 t35.2.1 t35.2.2),(Value.slice t37.1 t37.2.1 t37.2.2)]) .slc w_8 fun (t38:(Option Addr×Nat×Nat)) w_9=>
  zn c fun p_5=>
  stC (Addr.add p_5 2) (Value.slice t38.1 t38.2.1 t38.2.2) w_9 fun w_10=>
  R (.returned (Value.tuple #[])) w_10)) (
  xg P zg9 #[(Value.slice t26.1.1 t26.1.2.1 t26.1.2.2)] [.any,.int .i64] true w_6 fun (t43:(Value×Int)) w_11=>
  zby (zc P zh) zh w_11 fun b6 w_12=>
  zcj P (storeVar zh (⟨b6,0,none⟩:Addr) t43.1) w_12 fun w_13=>
  ku Unit (fun k=>
  xq (t43.2 != 0) (
  zn c fun p_6=>
  stC (Addr.add p_6 3) (Value.bool true) w_13 fun w_14=>
  R (.returned (Value.tuple #[])) w_14) (
  ld (.int .i64) (⟨b6,0,none⟩:Addr) w_13 fun (t50:Int)=>
  ld (.int .i64) (⟨b3,32,none⟩:Addr) w_13 fun (t52:Int)=>
  xq (t50 != t52) (
  zn c fun p_7=>
  stC (Addr.add p_7 3) (Value.bool true) w_13 fun w_15=>
  R (.returned (Value.tuple #[])) w_15) (
  k () w_13))) (fun _ w_16=>
  ldA P 5 (⟨b6,0,none⟩:Addr) w_16 fun t59=>
  xg P zdq #[(Value.pointer c),(Value.agg t59)] [] true w_16 fun (_:Unit) w_17=>
  R (.returned (Value.tuple #[])) w_17)))
theorem zse (c:Option Addr) (p:Value) (R:Ending->World->Prop) (w:World):tr P qs ((Tryz.f79.body).getD .skip) zgm (zch 0 [(0,(Value.pointer c)),(1,p)]) (zck P Tryz.f79.results.toList R) w=zhh c p R w:=by kernel_rfl
theorem zsn {c:Option Addr}{p:Value}{R:Ending->World->Prop}{w:World}(hT:zhh c p R w):qg P zez #[(Value.pointer c),p] w R:=
 zx (fn:=Tryz.f79) (c:=(Tryz.f79.body).getD .skip) (ann:=zgm) (args:=[(0,(Value.pointer c)),(1,p)]) (qs:=qs) mixed Tryz.func79 rfl (by kernel_rfl) (by kernel_rfl) zsy ((zse c p R w).symm▸hT)
def zu1:Ann:=(.seq .leaf (.seq (.seq .leaf (.blk (.loop [(5,.int .i64)] (.seq (.seq .leaf (.cond .leaf .leaf)) (.seq (.blk (.seq (.tree (.op 0 [] (.op 1 [] (.op 2 [] (.op 3 [] (.op 4 [] (.op 5 [] .done))))))) (.cond (.seq .leaf .leaf) .leaf))) .leaf))))) (.seq .leaf .leaf)))
theorem qh6:okC P qs Tryz.f81.ntmps ((Tryz.f81.body).getD .skip) zu1=true:=by kernel_rfl
def z1i (l:Option Addr) (l_l l_c:Nat) (d:Value) (R:Ending->World->Prop) (w:World):Prop:=
  zby (Value.cells d) zf w fun b3 w_1=>
  za7 Int (fun s w_2 k=>
  xq (decide (s < (l_l:Int))) (
  zbs w_2 fun w_3=>
  ixS l l_l 32 s fun t14=>
  ldA P 32 t14 w_3 fun t15=>
  ldA P 32 (⟨b3,0,none⟩:Addr) w_3 fun t16=>
  zbc P (eqM .eql zf (.tmp 15) (.tmp 16) (Value.agg t15) (Value.agg t16)) .bool w_3 fun (t17:Bool)=>
  xq t17 (
  R (.returned (Value.bool true)) w_3) (
  zb6 .i64 s 1 fun t11=>
  k t11 w_3)) (
  R (.returned (Value.bool false)) w_2)) 0 w_1
theorem qhb (l:Option Addr) (l_l l_c:Nat) (d:Value) (R:Ending->World->Prop) (w:World):tr P qs ((Tryz.f81.body).getD .skip) zu1 (zch 0 [(0,(Value.slice l l_l l_c)),(1,d)]) (zck P Tryz.f81.results.toList R) w=z1i l l_l l_c d R w:=by kernel_rfl
theorem qgw {l:Option Addr}{l_l l_c:Nat}{d:Value}{R:Ending->World->Prop}{w:World}(hT:z1i l l_l l_c d R w):qg P z0t #[(Value.slice l l_l l_c),d] w R:=
 zx (fn:=Tryz.f81) (c:=(Tryz.f81.body).getD .skip) (ann:=zu1) (args:=[(0,(Value.slice l l_l l_c)),(1,d)]) (qs:=qs) mixed Tryz.func81 rfl (by kernel_rfl) (by kernel_rfl) qh6 ((qhb l l_l l_c d R w).symm▸hT)
def zes:Ann:=(.seq .leaf (.seq .leaf .leaf))
theorem zpa:okC P qs Tryz.f83.ntmps ((Tryz.f83.body).getD .skip) zes=true:=by kernel_rfl
def zfs (p:Value) (c0:Option Addr) (R:Ending->World->Prop) (w:World):Prop:=
  zby (Value.cells p) zo w fun b2 w_1=>
  ldA P 32 (⟨b2,0,none⟩:Addr) w_1 fun t5=>
  zn c0 fun p_1=>
  ldA P 32 p_1 w_1 fun t6=>
  zbc P (eqM .eql zf (.tmp 5) (.tmp 6) (Value.agg t5) (Value.agg t6)) .bool w_1 fun (t7:Bool)=>
  R (.returned (Value.bool t7)) w_1
theorem zpb (p:Value) (c0:Option Addr) (R:Ending->World->Prop) (w:World):tr P qs ((Tryz.f83.body).getD .skip) zes (zch 0 [(1,p),(0,(Value.pointer c0))]) (zck P Tryz.f83.results.toList R) w=zfs p c0 R w:=by kernel_rfl
theorem zpe {p:Value}{c0:Option Addr}{R:Ending->World->Prop}{w:World}(hT:zfs p c0 R w):qg P zd5 #[p,(Value.pointer c0)] w R:=
 zx (fn:=Tryz.f83) (c:=(Tryz.f83.body).getD .skip) (ann:=zes) (args:=[(1,p),(0,(Value.pointer c0))]) (qs:=qs) mixed Tryz.func83 rfl (by kernel_rfl) (by kernel_rfl) zpa ((zpb p c0 R w).symm▸hT)
def za4:Ann:=(.seq .leaf (.seq .leaf .leaf))
theorem zew:okC P qs Tryz.f84.ntmps ((Tryz.f84.body).getD .skip) za4=true:=by kernel_rfl
def zba (s:Option Addr) (s_l s_c:Nat) (f:Value) (R:Ending->World->Prop) (w:World):Prop:=
  xg P zax #[(Value.slice s s_l s_c),f] [.int .i64] false w fun (t7:Int) w_1=>
  R (.returned (Value.bool (decide (t7>=0)))) w_1
theorem zex (s:Option Addr) (s_l s_c:Nat) (f:Value) (R:Ending->World->Prop) (w:World):tr P qs ((Tryz.f84.body).getD .skip) za4 (zch 0 [(0,(Value.slice s s_l s_c)),(1,f)]) (zck P Tryz.f84.results.toList R) w=zba s s_l s_c f R w:=by kernel_rfl
theorem zey {s:Option Addr}{s_l s_c:Nat}{f:Value}{R:Ending->World->Prop}{w:World}(hT:zba s s_l s_c f R w):qg P zbb #[(Value.slice s s_l s_c),f] w R:=
 zx (fn:=Tryz.f84) (c:=(Tryz.f84.body).getD .skip) (ann:=za4) (args:=[(0,(Value.slice s s_l s_c)),(1,f)]) (qs:=qs) mixed Tryz.func84 rfl (by kernel_rfl) (by kernel_rfl) zew ((zex s s_l s_c f R w).symm▸hT)
def zbj:Ann:=(.seq .leaf (.seq .leaf .leaf))
theorem zf2:okC P qs Tryz.f86.ntmps ((Tryz.f86.body).getD .skip) zbj=true:=by kernel_rfl
def zbz (s:Option Addr) (s_l s_c:Nat) (v:Value) (R:Ending->World->Prop) (w:World):Prop:=
  zby (Value.cells v) zo w fun b3 w_1=>
  ldA P 33 (⟨b3,0,none⟩:Addr) w_1 fun t6=>
  xg P zb9 #[(Value.slice s s_l s_c),(Value.agg t6)] [.int .i64] false w_1 fun (t7:Int) w_2=>
  R (.returned (Value.bool (decide (t7>=0)))) w_2
theorem zf6 (s:Option Addr) (s_l s_c:Nat) (v:Value) (R:Ending->World->Prop) (w:World):tr P qs ((Tryz.f86.body).getD .skip) zbj (zch 0 [(0,(Value.slice s s_l s_c)),(1,v)]) (zck P Tryz.f86.results.toList R) w=zbz s s_l s_c v R w:=by kernel_rfl
theorem zf3 {s:Option Addr}{s_l s_c:Nat}{v:Value}{R:Ending->World->Prop}{w:World}(hT:zbz s s_l s_c v R w):qg P zbx #[(Value.slice s s_l s_c),v] w R:=
 zx (fn:=Tryz.f86) (c:=(Tryz.f86.body).getD .skip) (ann:=zbj) (args:=[(0,(Value.slice s s_l s_c)),(1,v)]) (qs:=qs) mixed Tryz.func86 rfl (by kernel_rfl) (by kernel_rfl) zf2 ((zf6 s s_l s_c v R w).symm▸hT)
def za8:Ann:=(.seq .leaf (.seq .leaf (.seq (.seq .leaf (.cond (.seq .leaf .leaf) .leaf)) (.seq (.seq .leaf (.blk (.loop [(5,.int .i64),(6,.int .i64)] (.seq (.seq .leaf (.cond .leaf .leaf)) (.seq (.jblk [(5,.int .i64)] (.seq .leaf (.seq .leaf (.cond (.seq .leaf .leaf) .leaf)))) .leaf))))) (.seq .leaf (.seq .leaf .leaf))))))
theorem zfe:okC P qs Tryz.f87.ntmps ((Tryz.f87.body).getD .skip) za8=true:=by kernel_rfl
def zbn (s:Option Addr) (s_l s_c:Nat) (del:Value) (R:Ending->World->Prop) (w:World):Prop:=
  xg P zax #[(Value.slice s s_l s_c),del] [.int .i64] false w fun (t10:Int) w_1=>
  xq (t10==(-1)) (
  R (.returned (Value.slice s s_l s_c)) w_1) (
  zb6 .i64 t10 1 fun t15=>
  za7 (Int×Int) (fun s_1 w_2 k=>
  xq (decide (s_1.2 < (s_l:Int))) (
  ku Int (fun k_1=>
  ixS s s_l 33 s_1.2 fun t24=>
  ldA P 33 t24 w_2 fun t25=>
  zby (zc P zo) zo w_2 fun b7 w_3=>
  zcj P (storeVar zo (⟨b7,0,none⟩:Addr) (Value.agg t25)) w_3 fun w_4=>
  ldA P 33 (⟨b7,0,none⟩:Addr) w_4 fun t27=>
  zuk P del #[(Value.agg t27)] [.bool] false w_4 fun (t28:Bool) w_5=>
  xq (!t28) (
  ldA P 33 (⟨b7,0,none⟩:Addr) w_5 fun t32=>
  ixS s s_l 33 s_1.1 fun t33=>
  zcj P (storeVar zo t33 (Value.agg t32)) w_5 fun w_6=>
  zb6 .i64 s_1.1 1 fun t35=>
  k_1 t35 w_6) (
  k_1 s_1.1 w_5)) (fun s_2 w_7=>
  zb6 .i64 s_1.2 1 fun t21=>
  k (s_2,t21) w_7)) (
  zbc P (Instr.sliceAt jw (Value.slice s s_l s_c) (some (Value.int .i64 s_1.1)) none none) .slc w_2 fun (t38:(Option Addr×Nat×Nat))=>
  za1 P (Builtin.clear_ #[jw] zep #[(Value.slice t38.1 t38.2.1 t38.2.2)]) .any w_2 fun (_:Value) w_8=>
  zbc P (Instr.sliceAt jw (Value.slice s s_l s_c) none (some (Value.int .i64 s_1.1)) none) .slc w_8 fun (t41:(Option Addr×Nat×Nat))=>
  R (.returned (Value.slice t41.1 t41.2.1 t41.2.2)) w_8)) (t10,t15) w_1)
theorem zfd (s:Option Addr) (s_l s_c:Nat) (del:Value) (R:Ending->World->Prop) (w:World):tr P qs ((Tryz.f87.body).getD .skip) za8 (zch 0 [(0,(Value.slice s s_l s_c)),(1,del)]) (zck P Tryz.f87.results.toList R) w=zbn s s_l s_c del R w:=by kernel_rfl
theorem zff {s:Option Addr}{s_l s_c:Nat}{del:Value}{R:Ending->World->Prop}{w:World}(hT:zbn s s_l s_c del R w):qg P zbk #[(Value.slice s s_l s_c),del] w R:=
 zx (fn:=Tryz.f87) (c:=(Tryz.f87.body).getD .skip) (ann:=za8) (args:=[(0,(Value.slice s s_l s_c)),(1,del)]) (qs:=qs) mixed Tryz.func87 rfl (by kernel_rfl) (by kernel_rfl) zfe ((zfd s s_l s_c del R w).symm▸hT)
def zgi:Ann:=(.seq .leaf (.seq .leaf (.blk (.loop [(9,.int .i64)] (.seq .leaf (.seq (.cond .leaf .leaf) (.seq (.blk (.seq .leaf .leaf)) .leaf)))))))
theorem zr0:okC P qs Tryz.f88.ntmps ((Tryz.f88.body).getD .skip) zgi=true:=by kernel_rfl
def zhp (c:Option Addr) (n:Value) (R:Ending->World->Prop) (w:World):Prop:=
  zby (Value.cells n) zh w fun b3 w_1=>
  ldA P 5 (⟨b3,0,none⟩:Addr) w_1 fun t6=>
  xg P zqi #[(Value.agg t6)] [.slc] false w_1 fun (t7:(Option Addr×Nat×Nat)) w_2=>
  za7 Int (fun s w_3 k=>
  xq (decide (s < (t7.2.1:Int))) (
  ixS t7.1 t7.2.1 34 s fun t11=>
  ldA P 34 t11 w_3 fun t12=>
  zby (zc P zy) zy w_3 fun b5 w_4=>
  zcj P (storeVar zy (⟨b5,0,none⟩:Addr) (Value.agg t12)) w_4 fun w_5=>
  ldA P 32 (⟨b5,2,none⟩:Addr) w_5 fun t15=>
  ld (.int .i64) (⟨b5,1,none⟩:Addr) w_5 fun (t17:Int)=>
  zbc P (Instr.build zo #[(0,(Value.agg t15)),(1,(Value.int .i64 t17))]) .any w_5 fun (t18:Value)=>
  xg P zez #[(Value.pointer c),t18] [] true w_5 fun (_:Unit) w_6=>
  zb6 .i64 s 1 fun t20=>
  k t20 w_6) (
  R (.returned (Value.tuple #[])) w_3)) 0 w_2
theorem zsu (c:Option Addr) (n:Value) (R:Ending->World->Prop) (w:World):tr P qs ((Tryz.f88.body).getD .skip) zgi (zch 0 [(0,(Value.pointer c)),(1,n)]) (zck P Tryz.f88.results.toList R) w=zhp c n R w:=by kernel_rfl
theorem zs5 {c:Option Addr}{n:Value}{R:Ending->World->Prop}{w:World}(hT:zhp c n R w):qg P zdq #[(Value.pointer c),n] w R:=
 zx (fn:=Tryz.f88) (c:=(Tryz.f88.body).getD .skip) (ann:=zgi) (args:=[(0,(Value.pointer c)),(1,n)]) (qs:=qs) mixed Tryz.func88 rfl (by kernel_rfl) (by kernel_rfl) zr0 ((zsu c n R w).symm▸hT)
def zye:Ann:=(.seq .leaf (.seq (.seq .leaf (.blk (.loop [(5,.int .i64)] (.seq (.seq .leaf (.cond .leaf .leaf)) (.seq (.blk (.seq (.tree (.op 0 [] (.op 1 [] (.op 2 [] (.op 3 [] (.op 4 [] (.op 5 [] .done))))))) (.cond (.seq .leaf .leaf) .leaf))) .leaf))))) (.seq .leaf .leaf)))
theorem qk2:okC P qs Tryz.f90.ntmps ((Tryz.f90.body).getD .skip) zye=true:=by kernel_rfl
def z8d (l:Option Addr) (l_l l_c:Nat) (p:Value) (R:Ending->World->Prop) (w:World):Prop:=
  zby (Value.cells p) jf w fun b3 w_1=>
  za7 Int (fun s w_2 k=>
  xq (decide (s < (l_l:Int))) (
  zbs w_2 fun w_3=>
  ixS l l_l 33 s fun t14=>
  ldA P 33 t14 w_3 fun t15=>
  ldA P 33 (⟨b3,0,none⟩:Addr) w_3 fun t16=>
  zbc P (eqM .eql jf (.tmp 15) (.tmp 16) (Value.agg t15) (Value.agg t16)) .bool w_3 fun (t17:Bool)=>
  xq t17 (
  R (.returned (Value.bool true)) w_3) (
  zb6 .i64 s 1 fun t11=>
  k t11 w_3)) (
  R (.returned (Value.bool false)) w_2)) 0 w_1
theorem qi1 (l:Option Addr) (l_l l_c:Nat) (p:Value) (R:Ending->World->Prop) (w:World):tr P qs ((Tryz.f90.body).getD .skip) zye (zch 0 [(0,(Value.slice l l_l l_c)),(1,p)]) (zck P Tryz.f90.results.toList R) w=z8d l l_l l_c p R w:=by kernel_rfl
theorem qjf {l:Option Addr}{l_l l_c:Nat}{p:Value}{R:Ending->World->Prop}{w:World}(hT:z8d l l_l l_c p R w):qg P z7t #[(Value.slice l l_l l_c),p] w R:=
 zx (fn:=Tryz.f90) (c:=(Tryz.f90.body).getD .skip) (ann:=zye) (args:=[(0,(Value.slice l l_l l_c)),(1,p)]) (qs:=qs) mixed Tryz.func90 rfl (by kernel_rfl) (by kernel_rfl) qk2 ((qi1 l l_l l_c p R w).symm▸hT)
def zpw:Ann:=(.seq .leaf (.seq .leaf (.seq .leaf (.seq (.seq .leaf (.blk (.loop [(3,.slc),(5,.int .i64)] (.seq (.seq .leaf (.cond .leaf .leaf)) (.seq (.blk (.tree (.op 0 [] (.op 1 [] (.op 2 [] (.op 3 [] (.op 4 [] (.op 6 [] (.op 7 [] (.op 8 [] (.op 9 [] (.op 5 [] (.op 10 [] (.op 11 [] (.op 12 [] (.op 13 [] (.op 14 [] .done))))))))))))))))) .leaf))))) (.seq .leaf .leaf)))))
theorem qb9:okC P qs Tryz.f91.ntmps ((Tryz.f91.body).getD .skip) zpw=true:=by kernel_rfl
def zvr (n:Value) (R:Ending->World->Prop) (w:World):Prop:=
  zby (Value.cells n) zh w fun b1 w_1=>
  ldA P 5 (⟨b1,0,none⟩:Addr) w_1 fun t6=>
  xg P zxt #[(Value.agg t6)] [.slc] false w_1 fun (t7:(Option Addr×Nat×Nat)) w_2=>
  za7 ((Option Addr×Nat×Nat)×Int) (fun s w_3 k=>
  xq (decide (s.2 < (t7.2.1:Int))) (
  zbs w_3 fun w_4=>
  ixS t7.1 t7.2.1 34 s.2 fun t17=>
  ixS t7.1 t7.2.1 34 s.2 fun t22=>
  ldA P 32 (Addr.add t17 2) w_4 fun t19=>
  ld (.int .i64) (Addr.add t22 1) w_4 fun (t24:Int)=>
  zbc P (Instr.build jf #[(0,(Value.agg t19)),(1,(Value.int .i64 t24))]) .any w_4 fun (t25:Value)=>
  za1 P (Instr.buildSlice zac 1 #[(0,t25)]) .slc w_4 fun (t26:(Option Addr×Nat×Nat)) w_5=>
  za1 P (Builtin.append_ #[zac,zac] zac #[(Value.slice s.1.1 s.1.2.1 s.1.2.2),(Value.slice t26.1 t26.2.1 t26.2.2)]) .slc w_5 fun (t27:(Option Addr×Nat×Nat)) w_6=>
  zb6 .i64 s.2 1 fun t13=>
  k ((t27.1,t27.2.1,t27.2.2),t13) w_6) (
  R (.returned (Value.slice s.1.1 s.1.2.1 s.1.2.2)) w_3)) ((none,0,0),0) w_2
theorem qat (n:Value) (R:Ending->World->Prop) (w:World):tr P qs ((Tryz.f91.body).getD .skip) zpw (zch 0 [(1,n)]) (zck P Tryz.f91.results.toList R) w=zvr n R w:=by kernel_rfl
theorem qa1 {n:Value}{R:Ending->World->Prop}{w:World}(hT:zvr n R w):qg P zvl #[n] w R:=
 zx (fn:=Tryz.f91) (c:=(Tryz.f91.body).getD .skip) (ann:=zpw) (args:=[(1,n)]) (qs:=qs) mixed Tryz.func91 rfl (by kernel_rfl) (by kernel_rfl) qb9 ((qat n R w).symm▸hT)
def zjn:Ann:=(.seq .leaf (.seq (.seq .leaf (.cond (.seq .leaf .leaf) .leaf)) (.seq .leaf (.seq .leaf (.seq (.seq .leaf (.cond (.seq .leaf .leaf) .leaf)) (.seq .leaf (.join [] (.seq .leaf (.cond (.seq .leaf .leaf) .leaf)) (.join [] (.seq .leaf (.cond .leaf .leaf)) (.seq .leaf (.seq (.seq .leaf (.blk (.loop [(60,.int .i64)] (.seq .leaf (.seq (.cond .leaf .leaf) (.seq (.blk (.seq .leaf (.seq .leaf (.seq .leaf (.cond (.seq .leaf .leaf) .leaf))))) .leaf)))))) (.seq .leaf .leaf)))))))))))
theorem zz2:okC P qs Tryz.f95.ntmps ((Tryz.f95.body).getD .skip) zjn=true:=by kernel_rfl
def zl6 (p:Value) (c0:Option Addr) (c1:Option Addr) (c2:Option Addr) (c3:Option Addr) (c4:Option Addr) (R:Ending->World->Prop) (w:World):Prop:=
  zby (Value.cells p) zo w fun b6 w_1=>
  zn c0 fun p_1=>
  ld .map p_1 w_1 fun (t14:(Option Nat))=>
  ldA P 33 (⟨b6,0,none⟩:Addr) w_1 fun t15=>
  zbc P (Instr.lookup zan (Value.map t14) (Value.agg t15) false) (.int .i64) w_1 fun (t16:Int)=>
  xq (decide (t16 > 0)) (
  R (.returned (Value.int .i64 0)) w_1) (
  zn c0 fun p_2=>
  ld .map p_2 w_1 fun (t18:(Option Nat))=>
  ldA P 33 (⟨b6,0,none⟩:Addr) w_1 fun t19=>
  zcj P (Instr.mapUpdate zan (Value.map t18) (Value.agg t19) (Value.int .i64 1)) w_1 fun w_2=>
  zn c1 fun p_3=>
  ld .ptr p_3 w_2 fun (t21:(Option Addr))=>
  ldA P 32 (⟨b6,0,none⟩:Addr) w_2 fun t23=>
  xg P zei #[(Value.pointer t21),(Value.agg t23)] [.slc,.int .i64] true w_2 fun (t24:((Option Addr×Nat×Nat)×Int)) w_3=>
  xq (t24.2 != 0) (
  R (.returned (Value.int .i64 t24.2)) w_3) (
  xg P zg9 #[(Value.slice t24.1.1 t24.1.2.1 t24.1.2.2)] [.any,.int .i64] true w_3 fun (t32:(Value×Int)) w_4=>
  zby (zc P zh) zh w_4 fun b10 w_5=>
  zcj P (storeVar zh (⟨b10,0,none⟩:Addr) t32.1) w_5 fun w_6=>
  ku Unit (fun k=>
  xq (t32.2 != 0) (
  R (.returned (Value.int .i64 21)) w_6) (
  ld (.int .i64) (⟨b10,0,none⟩:Addr) w_6 fun (t39:Int)=>
  ld (.int .i64) (⟨b6,32,none⟩:Addr) w_6 fun (t41:Int)=>
  xq (t39 != t41) (
  R (.returned (Value.int .i64 21)) w_6) (
  k () w_6))) (fun _ w_7=>
  ku Unit (fun k_1=>
  zn c2 fun p_4=>
  ld .map p_4 w_7 fun (t44:(Option Nat))=>
  ldA P 32 (⟨b6,0,none⟩:Addr) w_7 fun t46=>
  zbc P (Instr.lookup zbd (Value.map t44) (Value.agg t46) false) (.int .i64) w_7 fun (t47:Int)=>
  xq (t47==0) (
  zn c3 fun p_5=>
  ld .slc p_5 w_7 fun (t49:(Option Addr×Nat×Nat))=>
  ldA P 32 (⟨b6,0,none⟩:Addr) w_7 fun t51=>
  za1 P (Instr.buildSlice qj 1 #[(0,(Value.agg t51))]) .slc w_7 fun (t52:(Option Addr×Nat×Nat)) w_8=>
  za1 P (Builtin.append_ #[qj,qj] qj #[(Value.slice t49.1 t49.2.1 t49.2.2),(Value.slice t52.1 t52.2.1 t52.2.2)]) .slc w_8 fun (t53:(Option Addr×Nat×Nat)) w_9=>
  zn c3 fun p_6=>
  stC p_6 (Value.slice t53.1 t53.2.1 t53.2.2) w_9 fun w_10=>
  k_1 () w_10) (
  k_1 () w_7)) (fun _ w_11=>
  zn c2 fun p_7=>
  ld .map p_7 w_11 fun (t54:(Option Nat))=>
  ldA P 32 (⟨b6,0,none⟩:Addr) w_11 fun t56=>
  zcj P (Instr.mapUpdate zbd (Value.map t54) (Value.agg t56) (Value.int .i64 1)) w_11 fun w_12=>
  ldA P 5 (⟨b10,0,none⟩:Addr) w_12 fun t57=>
  xg P zqi #[(Value.agg t57)] [.slc] false w_12 fun (t58:(Option Addr×Nat×Nat)) w_13=>
  za7 Int (fun s_2 w_14 k_2=>
  xq (decide (s_2 < (t58.2.1:Int))) (
  ixS t58.1 t58.2.1 34 s_2 fun t62=>
  ldA P 34 t62 w_14 fun t63=>
  zby (zc P zy) zy w_14 fun b12 w_15=>
  zcj P (storeVar zy (⟨b12,0,none⟩:Addr) (Value.agg t63)) w_15 fun w_16=>
  zn c4 fun p_8=>
  ld .any p_8 w_16 fun (t64:Value)=>
  ldA P 32 (⟨b12,2,none⟩:Addr) w_16 fun t66=>
  ld (.int .i64) (⟨b12,1,none⟩:Addr) w_16 fun (t68:Int)=>
  zbc P (Instr.build zo #[(0,(Value.agg t66)),(1,(Value.int .i64 t68))]) .any w_16 fun (t69:Value)=>
  zuk P t64 #[t69] [.int .i64] false w_16 fun (t70:Int) w_17=>
  xq (t70 != 0) (
  R (.returned (Value.int .i64 t70)) w_17) (
  zb6 .i64 s_2 1 fun t74=>
  k_2 t74 w_17)) (
  R (.returned (Value.int .i64 0)) w_14)) 0 w_13))))
theorem zzm (p:Value) (c0:Option Addr) (c1:Option Addr) (c2:Option Addr) (c3:Option Addr) (c4:Option Addr) (R:Ending->World->Prop) (w:World):tr P qs ((Tryz.f95.body).getD .skip) zjn (zch 0 [(1,p),(0,(Value.pointer c0)),(0,(Value.pointer c1)),(0,(Value.pointer c2)),(0,(Value.pointer c3)),(0,(Value.pointer c4))]) (zck P Tryz.f95.results.toList R) w=zl6 p c0 c1 c2 c3 c4 R w:=by kernel_rfl
theorem zzq {p:Value}{c0:Option Addr}{c1:Option Addr}{c2:Option Addr}{c3:Option Addr}{c4:Option Addr}{R:Ending->World->Prop}{w:World}(hT:zl6 p c0 c1 c2 c3 c4 R w):qg P zgz #[p,(Value.pointer c0),(Value.pointer c1),(Value.pointer c2),(Value.pointer c3),(Value.pointer c4)] w R:=
 zx (fn:=Tryz.f95) (c:=(Tryz.f95.body).getD .skip) (ann:=zjn) (args:=[(1,p),(0,(Value.pointer c0)),(0,(Value.pointer c1)),(0,(Value.pointer c2)),(0,(Value.pointer c3)),(0,(Value.pointer c4))]) (qs:=qs) mixed Tryz.func95 rfl (by kernel_rfl) (by kernel_rfl) zz2 ((zzm p c0 c1 c2 c3 c4 R w).symm▸hT)
def zbe:Ann:=(.seq .leaf (.seq (.seq .leaf (.blk (.loop [(8,.int .i64)] (.seq .leaf (.seq (.cond .leaf .leaf) (.seq (.blk (.seq .leaf (.seq .leaf (.cond (.seq .leaf .leaf) .leaf)))) .leaf)))))) (.seq .leaf .leaf)))
theorem zfn:okC P qs Tryz.f136.ntmps ((Tryz.f136.body).getD .skip) zbe=true:=by kernel_rfl
def zbq (s:Option Addr) (s_l s_c:Nat) (f:Value) (R:Ending->World->Prop) (w:World):Prop:=
  za7 Int (fun s_1 w_1 k=>
  xq (decide (s_1 < (s_l:Int))) (
  ixS s s_l 33 s_1 fun t14=>
  ldA P 33 t14 w_1 fun t15=>
  zuk P f #[(Value.agg t15)] [.bool] false w_1 fun (t16:Bool) w_2=>
  xq t16 (
  R (.returned (Value.int .i64 s_1)) w_2) (
  zb6 .i64 s_1 1 fun t18=>
  k t18 w_2)) (
  R (.returned (Value.int .i64 (-1))) w_1)) 0 w
theorem zfz (s:Option Addr) (s_l s_c:Nat) (f:Value) (R:Ending->World->Prop) (w:World):tr P qs ((Tryz.f136.body).getD .skip) zbe (zch 0 [(0,(Value.slice s s_l s_c)),(1,f)]) (zck P Tryz.f136.results.toList R) w=zbq s s_l s_c f R w:=by kernel_rfl
theorem zfw {s:Option Addr}{s_l s_c:Nat}{f:Value}{R:Ending->World->Prop}{w:World}(hT:zbq s s_l s_c f R w):qg P zax #[(Value.slice s s_l s_c),f] w R:=
 zx (fn:=Tryz.f136) (c:=(Tryz.f136.body).getD .skip) (ann:=zbe) (args:=[(0,(Value.slice s s_l s_c)),(1,f)]) (qs:=qs) mixed Tryz.func136 rfl (by kernel_rfl) (by kernel_rfl) zfn ((zfz s s_l s_c f R w).symm▸hT)
def zb2:Ann:=(.seq .leaf (.seq (.seq .leaf (.blk (.loop [(8,.int .i64)] (.seq .leaf (.seq (.cond .leaf .leaf) (.seq (.blk (.seq .leaf (.seq (.tree (.op 1 [] (.op 2 [] (.op 3 [] (.op 0 [] (.op 4 [] (.op 5 [] .done))))))) (.cond (.seq .leaf .leaf) .leaf)))) .leaf)))))) (.seq .leaf .leaf)))
theorem zgu:okC P qs Tryz.f141.ntmps ((Tryz.f141.body).getD .skip) zb2=true:=by kernel_rfl
def zcd (s:Option Addr) (s_l s_c:Nat) (v:Value) (R:Ending->World->Prop) (w:World):Prop:=
  zby (Value.cells v) zo w fun b3 w_1=>
  za7 Int (fun s_1 w_2 k=>
  xq (decide (s_1 < (s_l:Int))) (
  zbs w_2 fun w_3=>
  ixS s s_l 33 s_1 fun t14=>
  ldA P 33 (⟨b3,0,none⟩:Addr) w_3 fun t11=>
  ldA P 33 t14 w_3 fun t15=>
  zbc P (eqM .eql zo (.tmp 11) (.tmp 15) (Value.agg t11) (Value.agg t15)) .bool w_3 fun (t16:Bool)=>
  xq t16 (
  R (.returned (Value.int .i64 s_1)) w_3) (
  zb6 .i64 s_1 1 fun t18=>
  k t18 w_3)) (
  R (.returned (Value.int .i64 (-1))) w_2)) 0 w_1
theorem zg5 (s:Option Addr) (s_l s_c:Nat) (v:Value) (R:Ending->World->Prop) (w:World):tr P qs ((Tryz.f141.body).getD .skip) zb2 (zch 0 [(0,(Value.slice s s_l s_c)),(1,v)]) (zck P Tryz.f141.results.toList R) w=zcd s s_l s_c v R w:=by kernel_rfl
theorem zg3 {s:Option Addr}{s_l s_c:Nat}{v:Value}{R:Ending->World->Prop}{w:World}(hT:zcd s s_l s_c v R w):qg P zb9 #[(Value.slice s s_l s_c),v] w R:=
 zx (fn:=Tryz.f141) (c:=(Tryz.f141.body).getD .skip) (ann:=zb2) (args:=[(0,(Value.slice s s_l s_c)),(1,v)]) (qs:=qs) mixed Tryz.func141 rfl (by kernel_rfl) (by kernel_rfl) zgu ((zg5 s s_l s_c v R w).symm▸hT)
end Go.Proofs.YtbmegmbnlajbbaaGreatDoor
namespace Go.Fw
open Go
abbrev Heap:=Array Obj
@[simp] theorem qp {a:Addr}{K:Addr->Prop}:zn (some a) K=K a:=rfl
theorem zam {b:Bool}{A B:Prop}(h:b=true) (hA:A):xq b A B:=⟨fun _=>hA,fun h'=>(by rw [h] at h';cases h')⟩
theorem jo {b:Bool}{A B:Prop}(h:b=false) (hB:B):xq b A B:=⟨fun h'=>(by rw [h] at h';cases h'),fun _=>hB⟩
theorem zq {p:Prop} [Decidable p] {A B:Prop}(hA:p->A) (hB:¬p->B):xq (decide p) A B:=⟨fun h=>hA (of_decide_eq_true h),fun h=>hB (of_decide_eq_false h)⟩
theorem zed {p:Prop}{b:Bool}{A B:Prop}(h:b=true ↔ p) (hA:p->A) (hB:¬p->B):xq b A B:=
 ⟨fun h'=>hA (h.1 h'),fun h'=>hB fun hp=>by rw [h.2 hp] at h';cases h'⟩
theorem zbf {a b:Int}{A B:Prop}(hA:a=b->A) (hB:a≠b->B):xq (a==b) A B:=zed (by simp) hA hB
theorem zao {a b:Int}{A B:Prop}(hA:a≠b->A) (hB:a=b->B):xq (a != b) A B:=zed (p:=a≠b) (by simp) hA fun h=>hB (by omega)
theorem wrap_i64 {n:Int}(h1:-9223372036854775808<=n) (h2:n<=9223372036854775807):IntKind.i64.wrap n=n:=by
 simp only [IntKind.wrap,IntKind.bits,IntKind.signed]
 have e:(2:Int) ^ 64=18446744073709551616:=by decide
 have e':(2:Int) ^ (64-1)=9223372036854775808:=by decide
 simp only [e,e',Bool.true_and]
 split
 ·rename_i h;simp at h;omega
 ·rename_i h;simp at h;omega
theorem wrap_u64 {n:Int}(h1:0<=n) (h2:n < 18446744073709551616):IntKind.u64.wrap n=n:=by
 simp only [IntKind.wrap,IntKind.bits,IntKind.signed]
 have e:(2:Int) ^ 64=18446744073709551616:=by decide
 simp only [e,Bool.false_and,Bool.false_eq_true,if_false]
 omega
theorem qoo {a b:Int}{K:Int->Prop}(h1:-9223372036854775808<=a+b) (h2:a+b<=9223372036854775807) (hK:K (a+b)):zb6 .i64 a b K:=⟨_,(wrap_i64 h1 h2).symm,hK⟩
theorem qoy {a b:Int}{K:Int->Prop}(h1:-9223372036854775808<=a-b) (h2:a-b<=9223372036854775807) (hK:K (a-b)):zqa .i64 a b K:=⟨_,(wrap_i64 h1 h2).symm,hK⟩
theorem qo9 {a b:Int}{K:Int->Prop}(h1:-9223372036854775808<=a * b) (h2:a * b<=9223372036854775807) (hK:K (a * b)):z3y .i64 a b K:=⟨_,(wrap_i64 h1 h2).symm,hK⟩
theorem xw {a b:Int}{K:Int->Prop}(c:Int) (hc:a+b=c) (h1:-9223372036854775808<=c) (h2:c<=9223372036854775807) (hK:K c):zb6 .i64 a b K:=by subst hc;exact qoo h1 h2 hK
theorem zcl {a b:Int}{K:Int->Prop}(c:Int) (hc:a-b=c) (h1:-9223372036854775808<=c) (h2:c<=9223372036854775807) (hK:K c):zqa .i64 a b K:=by subst hc;exact qoy h1 h2 hK
theorem zhg {a b:Int}{K:Int->Prop}(c:Int) (hc:a * b=c) (h1:-9223372036854775808<=c) (h2:c<=9223372036854775807) (hK:K c):z3y .i64 a b K:=by subst hc;exact qo9 h1 h2 hK
theorem zit {a:Int}{K:Int->Prop}(h1:0<=a) (h2:a < 18446744073709551616) (hK:K a):cvI .u64 a K:=⟨_,(wrap_u64 h1 h2).symm,hK⟩
theorem zln {a:Int}{K:Int->Prop}(h1:-9223372036854775808<=a) (h2:a<=9223372036854775807) (hK:K a):cvI .i64 a K:=⟨_,(wrap_i64 h1 h2).symm,hK⟩
theorem zid {n:Nat}(x:BitVec n):BitVec.ofInt n (x.toNat:Int)=x:=by
 apply BitVec.eq_of_toNat_eq
 simp
theorem zjt (m:Nat):IntKind.u32.wrap (m:Int)=((m % 4294967296:Nat):Int):=by
 simp only [IntKind.wrap,IntKind.bits,IntKind.signed]
 have e:(2:Int) ^ 32=4294967296:=by decide
 simp only [e,Bool.false_and,Bool.false_eq_true,if_false]
 omega
theorem qh1 (m:Nat):IntKind.u64.wrap (m:Int)=((m % 18446744073709551616:Nat):Int):=by
 simp only [IntKind.wrap,IntKind.bits,IntKind.signed]
 have e:(2:Int) ^ 64=18446744073709551616:=by decide
 simp only [e,Bool.false_and,Bool.false_eq_true,if_false]
 omega
theorem zm8 (m:Nat):IntKind.u8.wrap (m:Int)=((m % 256:Nat):Int):=by
 simp only [IntKind.wrap,IntKind.bits,IntKind.signed]
 have e:(2:Int) ^ 8=256:=by decide
 simp only [e,Bool.false_and,Bool.false_eq_true,if_false]
 omega
section w32
variable {K:Int->Prop}(x y:BitVec 32)
theorem z3w (hK:K ((x+y).toNat:Int)):zb6 .u32 (x.toNat:Int) (y.toNat:Int) K:=by
 refine⟨_,?_,hK⟩
 rw [<-Int.natCast_add,zjt]
 simp [BitVec.toNat_add]
theorem qll (hK:K ((x &&& y).toNat:Int)):qel .u32 (x.toNat:Int) (y.toNat:Int) K:=by
 refine⟨_,?_,hK⟩
 change _=IntKind.u32.wrap ((BitVec.ofInt 32 (x.toNat:Int) &&& BitVec.ofInt 32 (y.toNat:Int)).toNat:Int)
 rw [zid,zid,zjt,Nat.mod_eq_of_lt (BitVec.isLt _)]
theorem orW (hK:K ((x ||| y).toNat:Int)):orI .u32 (x.toNat:Int) (y.toNat:Int) K:=by
 refine⟨_,?_,hK⟩
 change _=IntKind.u32.wrap ((BitVec.ofInt 32 (x.toNat:Int) ||| BitVec.ofInt 32 (y.toNat:Int)).toNat:Int)
 rw [zid,zid,zjt,Nat.mod_eq_of_lt (BitVec.isLt _)]
theorem z3u (hK:K ((x ^^^ y).toNat:Int)):zt2 .u32 (x.toNat:Int) (y.toNat:Int) K:=by
 refine⟨_,?_,hK⟩
 change _=IntKind.u32.wrap ((BitVec.ofInt 32 (x.toNat:Int) ^^^ BitVec.ofInt 32 (y.toNat:Int)).toNat:Int)
 rw [zid,zid,zjt,Nat.mod_eq_of_lt (BitVec.isLt _)]
theorem qf9 (hK:K ((~~~ x).toNat:Int)):zt2 .u32 (IntKind.max .u32) (x.toNat:Int) K:=by
 refine⟨_,?_,hK⟩
 change _=IntKind.u32.wrap ((BitVec.ofInt 32 (IntKind.max .u32) ^^^ BitVec.ofInt 32 (x.toNat:Int)).toNat:Int)
 rw [zid,zjt,Nat.mod_eq_of_lt (BitVec.isLt _)]
 have:BitVec.ofInt 32 (IntKind.max .u32)=BitVec.allOnes 32:=by decide
 rw [this,BitVec.allOnes_xor]
theorem qmt (hK:K ((~~~ x).toNat:Int)):zt2 .u32 4294967295 (x.toNat:Int) K:=qf9 x hK
theorem qpz {i:Int}(n:Nat) (hi:i=(n:Int)) (hn:n<=32) (hK:K ((x <<< n).toNat:Int)):qj7 .u32 (x.toNat:Int) i K:=by
 subst hi
 refine⟨by omega,_,?_,hK⟩
 have h1:min (n:Int).toNat IntKind.u32.bits=n:=by simp [IntKind.bits];omega
 rw [h1]
 have h2:((x.toNat:Int) * 2 ^ n)=((x.toNat * 2 ^ n:Nat):Int):=by simp
 rw [h2,zjt]
 simp [BitVec.toNat_shiftLeft,Nat.shiftLeft_eq]
theorem qlm {i:Int}(n:Nat) (hi:i=(n:Int)) (hn:n<=32) (hK:K ((x >>> n).toNat:Int)):z9z .u32 (x.toNat:Int) i K:=by
 subst hi
 refine⟨by omega,_,?_,hK⟩
 have h1:min (n:Int).toNat IntKind.u32.bits=n:=by simp [IntKind.bits];omega
 rw [h1]
 have h2:(2:Int) ^ n=((2 ^ n:Nat):Int):=by simp
 rw [h2,BitVec.toNat_ushiftRight,Nat.shiftRight_eq_div_pow,Int.fdiv_eq_ediv_of_nonneg _ (Int.natCast_nonneg _)]
 rfl
end w32
theorem qqt {i:Int}{m:Nat}(n:Nat) (hi:i=(n:Int)) (hn:n<=64){K:Int->Prop}(hK:K ((m / 2 ^ n:Nat):Int)):z9z .u64 (m:Int) i K:=by
 subst hi
 refine⟨by omega,_,?_,hK⟩
 have h1:min (n:Int).toNat IntKind.u64.bits=n:=by simp [IntKind.bits];omega
 rw [h1]
 have h2:(2:Int) ^ n=((2 ^ n:Nat):Int):=by simp
 rw [h2,Int.fdiv_eq_ediv_of_nonneg _ (Int.natCast_nonneg _)]
 rfl
theorem cv8 {m:Nat}{K:Int->Prop}(hK:K ((UInt8.ofNat m).toNat:Int)):cvI .u8 (m:Int) K:=by
 refine⟨_,?_,hK⟩
 rw [zm8]
 simp
theorem qnp {a b:Int}{K:Int->Prop}(c:Int) (hc:a * b=c) (h1:0<=c) (h2:c < 18446744073709551616) (hK:K c):z3y .u64 a b K:=by
 subst hc
 exact⟨_,(wrap_u64 h1 h2).symm,hK⟩
def b32 (b:UInt8):BitVec 32:=BitVec.ofNat 32 b.toNat
theorem cvB {b:UInt8}{K:Int->Prop}(hK:K ((b32 b).toNat:Int)):cvI .u32 (b.toNat:Int) K:=by
 refine⟨_,?_,hK⟩
 rw [zjt]
 simp [b32]
def lo8 (x:BitVec 32):UInt8:=UInt8.ofNat x.toNat
theorem cvL (x:BitVec 32){K:Int->Prop}(hK:K ((lo8 x).toNat:Int)):cvI .u8 (x.toNat:Int) K:=by
 refine⟨_,?_,hK⟩
 rw [zm8]
 simp [lo8]
def Bytes (c:Array Value) (o:Nat) (f:Nat->UInt8) (n:Nat):Prop:=∀ i,i < n->c[o+i]?=some (.int .u8 ((f i).toNat:Int))
def Words (c:Array Value) (o:Nat) (f:Nat->BitVec 32) (n:Nat):Prop:=∀ i,i < n->c[o+i]?=some (.int .u32 ((f i).toNat:Int))
theorem Words.at {c:Array Value}{f:Nat->BitVec 32}{n:Nat}(h:Words c 0 f n) (i:Nat) (hi:i < n):c[i]?=some (.int .u32 ((f i).toNat:Int)):=by simpa using h i hi
theorem Words.snoc {c:Array Value}{f:Nat->BitVec 32}{n:Nat}(h:Words c 0 f n) (hn:n < c.size){x:BitVec 32}(hx:x=f n):Words (c.setIfInBounds n (.int .u32 (x.toNat:Int))) 0 f (n+1):=by
 intro i hi
 subst hx
 by_cases e:i=n
 ·subst e;simp [hn]
 ·rw [Array.getElem?_setIfInBounds_ne (by omega)];exact h i (by omega)
theorem Bytes.at {c:Array Value}{f:Nat->UInt8}{n:Nat}(h:Bytes c 0 f n) (i:Nat) (hi:i < n):c[i]?=some (.int .u8 ((f i).toNat:Int)):=by simpa using h i hi
theorem Bytes.snoc {c:Array Value}{f:Nat->UInt8}{n:Nat}(h:Bytes c 0 f n) (hn:n < c.size){x:UInt8}(hx:x=f n):Bytes (c.setIfInBounds n (.int .u8 (x.toNat:Int))) 0 f (n+1):=by
 intro i hi
 subst hx
 by_cases e:i=n
 ·subst e;simp [hn]
 ·rw [Array.getElem?_setIfInBounds_ne (by omega)];exact h i (by omega)
def Ext (M:List Nat) (H H':Heap):Prop:=H.size<=H'.size/\∀ b,b < H.size->b∉M->H'[b]?=H[b]?
theorem Ext.refl (M:List Nat) (H:Heap):Ext M H H:=⟨Nat.le_refl _,fun _ _ _=>rfl⟩
theorem Ext.trans {M:List Nat}{H H' H'':Heap}(h:Ext M H H') (h':Ext M H' H''):Ext M H H'':=
 ⟨Nat.le_trans h.1 h'.1,fun b hb hn=>(h'.2 b (Nat.lt_of_lt_of_le hb h.1) hn).trans (h.2 b hb hn)⟩
theorem Ext.mono {M M':List Nat}{H H':Heap}(hm:∀ b,b∈M->b∈M') (h:Ext M H H'):Ext M' H H':=⟨h.1,fun b hb hn=>h.2 b hb fun hm'=>hn (hm b hm')⟩
theorem Ext.own {M M':List Nat}{H H' H'':Heap}(h:Ext M H H') (h':Ext M' H' H'') (hm:∀ b,b∈M'->b < H.size->b∈M):Ext M H H'':=
 ⟨Nat.le_trans h.1 h'.1,fun b hb hn=>(h'.2 b (Nat.lt_of_lt_of_le hb h.1) fun hm'=>hn (hm b hm' hb)).trans (h.2 b hb hn)⟩
theorem Ext.push {M:List Nat}{H:Heap}(o:Obj):Ext M H (H.push o):=⟨by simp,fun b hb _=>by rw [Array.getElem?_push_lt hb,Array.getElem?_eq_getElem hb]⟩
theorem Ext.get {M:List Nat}{H H':Heap}{b:Nat}{o:Obj}(h:Ext M H H') (hb:H[b]?=some o) (hn:b∉M):H'[b]?=some o:=by
 rw [h.2 b (Array.getElem?_eq_some_iff.1 hb).1 hn,hb]
theorem lt_of_get {H:Heap}{b:Nat}{o:Obj}(hb:H[b]?=some o):b < H.size:=(Array.getElem?_eq_some_iff.1 hb).1
theorem zk {H:Heap}{o:Obj}:(H.push o)[H.size]?=some o:=by simp
theorem zfu {H:Heap}{o x:Obj}{b:Nat}(h:H[b]?=some x):(H.push o)[b]?=some x:=by
 rw [Array.getElem?_push_lt (lt_of_get h),<-h,Array.getElem?_eq_getElem (lt_of_get h)]
theorem qc {H:Heap}{o x:Obj}{b:Nat}(h:H[b]?=some x):(H.setIfInBounds b o)[b]?=some o:=by
 simp [lt_of_get h]
theorem zhe {H:Heap}{o x:Obj}{b c:Nat}(h:H[c]?=some x) (hne:c≠b):(H.setIfInBounds b o)[c]?=some x:=by
 rw [Array.getElem?_setIfInBounds_ne (Ne.symm hne),h]
theorem Ext.set {M:List Nat}{H:Heap}{b:Nat}(o:Obj) (hb:b∈M):Ext M H (H.setIfInBounds b o):=
 ⟨by simp,fun c _ hn=>by rw [Array.getElem?_setIfInBounds_ne];intro e;subst e;exact hn hb⟩
theorem Ext.set_own {M:List Nat}{H H':Heap}{b:Nat}{o:Obj}(h:Ext M H H') (hb:H.size<=b\/b∈M):Ext M H (H'.setIfInBounds b o):=by
 refine⟨by simp;exact h.1,fun c hc hn=>?_⟩
 rw [Array.getElem?_setIfInBounds_ne]
 ·exact h.2 c hc hn
 ·intro e
  subst e
  rcases hb with hb | hb
  ·omega
  ·exact hn hb
theorem Ext.push_own {M:List Nat}{H H':Heap}{o:Obj}(h:Ext M H H'):Ext M H (H'.push o):=h.trans (.push o)
section heap
variable {w:World}{H:Heap}
theorem z6r (hw:w.heap=H){b o:Nat}{c:Array Value}{T:TypeId}{fr:Nat×Nat}(hb:H[b]?=some (.cells c T fr)):w.cell? ⟨b,o,none⟩=c[o]?:=by
 unfold World.cell?
 rw [hw]
 simp only [hb]
 simp
theorem jc {s:Sh}{b o:Nat}{c:Array Value}{T:TypeId}{fr:Nat×Nat}{K:s.T->Prop}{t:s.T}(hw:w.heap=H) (hb:H[b]?=some (.cells c T fr)) (hc:c[o]?=some (s.val t)) (hK:K t) :
  ld s ⟨b,o,none⟩ w K:=⟨t,by rw [z6r hw hb,hc],hK⟩
theorem jr {K:World->Prop}(hw:w.heap=H) (hK:∀ w',w'.heap=H->K w'):zbs w K:=by
 rintro w' rfl
 exact hK _ hw
theorem jk {c:Array Value}{T:TypeId}{K:Nat->World->Prop}(hw:w.heap=H) (hK:∀ w',w'.heap=H.push (.cells c T)->K H.size w'):zby c T w K:=by
 rintro b w' ⟨rfl,rfl⟩
 rw [hw]
 exact hK _ (by simp)
theorem qbl {b o:Nat}{c:Array Value}{T:TypeId}{fr:Nat×Nat}{v:Value}(hw:w.heap=H) (hb:H[b]?=some (.cells c T fr)) :
  (w.setCell ⟨b,o,none⟩ v).heap=H.setIfInBounds b (.cells (c.setIfInBounds o v) T fr):=by
 unfold World.setCell
 simp only [hw]
 apply Array.ext_getElem?
 intro i
 rw [Array.getElem?_modify]
 by_cases h:b=i
 ·subst h
  rw [if_pos rfl,hb,qc hb]
  simp
 ·rw [if_neg h,Array.getElem?_setIfInBounds_ne h]
theorem z8z {b o:Nat}{c:Array Value}{T:TypeId}(hw:w.heap=H) (hb:H[b]?=some (.cells c T (0,0))):w.frozen? ⟨b,o,none⟩=false:=by
 unfold World.frozen?
 rw [hw]
 simp only [hb]
 simp
theorem zbo {b o:Nat}{c:Array Value}{T:TypeId}{v:Value}{K:World->Prop}(hw:w.heap=H) (hb:H[b]?=some (.cells c T (0,0))) (ho:o < c.size)
  (hK:∀ w',w'.heap=H.setIfInBounds b (.cells (c.setIfInBounds o v) T (0,0))->K w'):stC ⟨b,o,none⟩ v w K:=by
 refine⟨⟨c[o],by rw [z6r hw hb];simp [ho]⟩,z8z hw hb,?_⟩
 rintro w' rfl
 exact hK _ (qbl hw hb)
theorem jv {b o n:Nat}:Addr.add ⟨b,o,none⟩ n=⟨b,o+n,none⟩:=by
 unfold Addr.add
 split
 ·rename_i h;subst h;rfl
 ·rfl
theorem qsn {b o len size:Nat}{i:Int}{K:Addr->Prop}(k:Nat) (hi:i=(k:Int)) (hk:k < len) (hK:K ⟨b,o+k * size,none⟩):ixR ⟨b,o,none⟩ len size i K:=by
 subst hi
 refine⟨by omega,by omega,?_⟩
 rw [jv]
 exact hK
theorem qih {b o len size:Nat}{i:Int}{K:Addr->Prop}(k:Nat) (hi:i=(k:Int)) (hk:k < len) (hK:K ⟨b,o+k * size,none⟩):ixS (some ⟨b,o,none⟩) len size i K:=by
 subst hi
 refine⟨_,rfl,by omega,by omega,?_⟩
 rw [jv]
 exact hK
theorem zo7 {b o len:Nat}{i:Int}{K:Addr->Prop}(k:Nat) (hi:i=(k:Int)) (hk:k < len) (hK:K ⟨b,o+k,none⟩):ixS (some ⟨b,o,none⟩) len 1 i K:=qih k hi hk (by simpa using hK)
theorem zfr {b len:Nat}{i:Int}{K:Addr->Prop}(k:Nat) (hi:i=(k:Int)) (hk:k < len) (hK:K ⟨b,k,none⟩):ixR ⟨b,0,none⟩ len 1 i K:=qsn k hi hk (by simpa using hK)
end heap
theorem zuq {P:Program}{w:World}{H:Heap}{b o n:Nat}{c:Array Value}{T:TypeId}{fr:Nat×Nat}(hw:w.heap=H) (hb:H[b]?=some (.cells c T fr)) (hn:o+n<=c.size) :
  (loadCells ⟨b,o,none⟩ n).run P w=.ok (c.extract o (o+n)) w:=by
 have key:∀ (m i:Nat) (acc:Array Value),o+i+m<=c.size->(loadCellsFrom ⟨b,o,none⟩ i m acc).run P w=.ok (acc++c.extract (o+i) (o+i+m)) w:=by
  intro m
  induction m with
  | zero=>intro i acc _;simp [loadCellsFrom];omega
  | succ m ih=>
   intro i acc h
   have hc:w.cell? (Addr.add ⟨b,o,none⟩ i)=some c[o+i]:=by
    rw [jv,z6r hw hb,Array.getElem?_eq_getElem (by omega)]
   simp only [loadCellsFrom,Sem.run_bind,run_load,hc,Result.andThen_ok]
   rw [ih (i+1) _ (by omega)]
   congr 1
   apply Array.ext'
   simp only [Array.toList_append,Array.toList_push,Array.toList_extract,List.extract_eq_take_drop,List.append_assoc]
   congr 1
   have e1:o+i+(m+1)-(o+i)=m+1:=by omega
   have e2:o+(i+1)+m-(o+(i+1))=m:=by omega
   rw [e1,e2]
   have hlt:o+i < c.toList.length:=by simp;omega
   rw [List.drop_eq_getElem_cons hlt]
   simp [List.take_succ_cons,Nat.add_assoc]
 have:=key n 0 #[] (by omega)
 simpa [loadCells] using this
theorem zhw {P:Program}{w:World}{H:Heap}{b o n:Nat}{c:Array Value}{T:TypeId}{fr:Nat×Nat}{K:Array Value->Prop}(hw:w.heap=H) (hb:H[b]?=some (.cells c T fr)) (hn:o+n<=c.size)
  (hK:K (c.extract o (o+n))):ldA P n ⟨b,o,none⟩ w K:=⟨_,zuq hw hb hn,hK⟩
theorem qw {P:Program}{w:World}{H:Heap}{b n:Nat}{c:Array Value}{T:TypeId}{fr:Nat×Nat}{K:Array Value->Prop}(hw:w.heap=H) (hb:H[b]?=some (.cells c T fr)) (hn:c.size=n)
  (hK:K c):ldA P n ⟨b,0,none⟩ w K:=zhw hw hb (by omega) (by subst hn;simpa using hK)
def zdb (vs:List Value):Prop:=∀ v∈vs,v.oneCell'=true
def setCells (c:Array Value) (o:Nat):List Value->Array Value
 | []=>c
 | v :: r=>setCells (c.setIfInBounds o v) (o+1) r
@[simp] theorem size_setCells {vs:List Value}:∀ {c:Array Value}{o:Nat},(setCells c o vs).size=c.size:=by
 induction vs with
 | nil=>intro c o;rfl
 | cons v r ih=>intro c o;simp [setCells,ih]
theorem zdi {vs:List Value}:∀ {c:Array Value}{o i:Nat},o+vs.length<=c.size->(setCells c o vs)[i]?=if o<=i/\i < o+vs.length then vs[i-o]? else c[i]?:=by
 induction vs with
 | nil=>
  intro c o i h
  simp only [setCells,List.length_nil,Nat.add_zero]
  rw [if_neg (by omega)]
 | cons v r ih=>
  intro c o i h
  simp only [List.length_cons] at h
  simp only [setCells,List.length_cons]
  rw [ih (by simp;omega)]
  by_cases h1:i=o
  ·subst h1
   rw [if_neg (by omega),if_pos (by omega)]
   have:i < c.size:=by omega
   simp [this]
  ·by_cases h2:o+1<=i/\i < o+1+r.length
   ·rw [if_pos h2,if_pos (by omega)]
    have:i-o=(i-(o+1))+1:=by omega
    rw [this]
    simp
   ·rw [if_neg h2,if_neg (by omega),Array.getElem?_setIfInBounds_ne (by omega)]
theorem zah {vs:List Value}{c:Array Value}(h:vs.length=c.size):setCells c 0 vs=vs.toArray:=by
 apply Array.ext_getElem?
 intro i
 rw [zdi (by omega)]
 by_cases hi:i < vs.length
 ·rw [if_pos (by omega)];simp
 ·rw [if_neg (by omega)]
  rw [Array.getElem?_eq_none (by omega),Array.getElem?_eq_none (by simp;omega)]
theorem set_set {H:Heap}{b:Nat}{x y:Obj}:(H.setIfInBounds b x).setIfInBounds b y=H.setIfInBounds b y:=by
 apply Array.ext_getElem?
 intro i
 by_cases h:b=i
 ·subst h
  by_cases hb:b < H.size
  ·simp [hb]
  ·rw [Array.getElem?_eq_none (by simp;omega),Array.getElem?_eq_none (by simp;omega)]
 ·rw [Array.getElem?_setIfInBounds_ne h,Array.getElem?_setIfInBounds_ne h,Array.getElem?_setIfInBounds_ne h]
theorem znt {P:Program}{b:Nat}{T:TypeId}:∀ (vs:List Value) (w:World) (H:Heap) (c:Array Value) (o i:Nat),zdb vs->w.heap=H->H[b]?=some (.cells c T (0,0))->o+i+vs.length<=c.size ->
  ∃ w',(storeCells ⟨b,o,none⟩ vs i).run P w=.ok () w'/\Calm w w'/\w'.heap=H.setIfInBounds b (.cells (setCells c (o+i) vs) T (0,0)):=by
 intro vs
 induction vs with
 | nil=>
  intro w H c o i _ hw hb _
  refine⟨w,by simp [storeCells],.refl w,?_⟩
  simp only [setCells]
  rw [hw]
  apply Array.ext_getElem?
  intro j
  by_cases hj:b=j
  ·subst hj;rw [qc hb,hb]
  ·rw [Array.getElem?_setIfInBounds_ne hj]
 | cons v r ih=>
  intro w H c o i h1 hw hb hn
  simp only [List.length_cons] at hn
  have hv:=h1 v (by simp)
  have hc:w.cell? (Addr.add ⟨b,o,none⟩ i)=some c[o+i]:=by
   rw [jv,z6r hw hb,Array.getElem?_eq_getElem (by omega)]
  have hf:w.frozen? (Addr.add ⟨b,o,none⟩ i)=false:=by rw [jv];exact z8z hw hb
  obtain⟨w',h2,h4,h3⟩:=ih (w.setCell (Addr.add ⟨b,o,none⟩ i) v) _ (c.setIfInBounds (o+i) v) o (i+1) (fun x hx=>h1 x (by simp [hx])) (by rw [jv];exact qbl hw hb) (qc hb) (by simp;omega)
  refine⟨w',?_,h4,?_⟩
  ·simp only [storeCells,Sem.run_bind,run_store P w _ v .plain hv,hc,hf,Bool.false_eq_true,if_false,Result.andThen_ok,h2]
  ·rw [h3,set_set]
   simp [setCells,Nat.add_assoc]
theorem zaz {P:Program}{w:World}{H:Heap}{b o:Nat}{T t:TypeId}{c:Array Value}{v:Value}{K:World->Prop}(hs:P.cellsOf t=v.cells.size) (hs0:v.cells.size≠0) (h1:zdb v.cells.toList) (hw:w.heap=H)
  (hb:H[b]?=some (.cells c T (0,0))) (hn:o+v.cells.size<=c.size) (hK:∀ w',w'.heap=H.setIfInBounds b (.cells (setCells c o v.cells.toList) T (0,0))->K w'):zcj P (storeVar t ⟨b,o,none⟩ v) w K:=by
 obtain⟨w',h2,h4,h3⟩:=znt (P:=P) v.cells.toList w H c o 0 h1 hw hb (by simpa using hn)
 refine⟨w',?_,h4,hK w' (by simpa using h3)⟩
 have h0:(sizeOf t).run P w=.ok v.cells.size w:=by rw [zk8 (by omega),hs]
 simp only [storeVar,Sem.run_bind,h0,Result.andThen_ok,ne_eq,not_true_eq_false,if_false,h2]
def W32 (s:Nat->BitVec 32) (n:Nat):Array Value:=((List.range n).map fun i=>Value.int .u32 ((s i).toNat:Int)).toArray
def B8 (f:Nat->UInt8) (n:Nat):Array Value:=((List.range n).map fun i=>Value.int .u8 ((f i).toNat:Int)).toArray
@[simp] theorem qry {s:Nat->BitVec 32}{n:Nat}:(W32 s n).size=n:=by simp [W32]
@[simp] theorem qsq {f:Nat->UInt8}{n:Nat}:(B8 f n).size=n:=by simp [B8]
theorem zph {s:Nat->BitVec 32}{n:Nat}:Words (W32 s n) 0 s n:=by
 intro i hi
 simp [W32,hi]
theorem ql8 {f:Nat->UInt8}{n:Nat}:Bytes (B8 f n) 0 f n:=by
 intro i hi
 simp [B8,hi]
theorem z2o {s:Nat->BitVec 32}{n:Nat}:zdb (W32 s n).toList:=by
 intro v hv
 simp only [W32,List.mem_map] at hv
 obtain⟨i,_,rfl⟩:=hv
 rfl
theorem qn6 {f:Nat->UInt8}{n:Nat}:zdb (B8 f n).toList:=by
 intro v hv
 simp only [B8,List.mem_map] at hv
 obtain⟨i,_,rfl⟩:=hv
 rfl
theorem Words.extract {c:Array Value}{s:Nat->BitVec 32}{o n:Nat}(h:Words c o s n) (hn:o+n<=c.size):c.extract o (o+n)=W32 s n:=by
 apply Array.ext_getElem?
 intro i
 by_cases hi:i < n
 ·rw [Array.getElem?_extract,if_pos (by omega),h i hi,zph.at i hi]
 ·rw [Array.getElem?_eq_none (by simp;omega),Array.getElem?_eq_none (by simp;omega)]
theorem Bytes.extract {c:Array Value}{f:Nat->UInt8}{o n:Nat}(h:Bytes c o f n) (hn:o+n<=c.size):c.extract o (o+n)=B8 f n:=by
 apply Array.ext_getElem?
 intro i
 by_cases hi:i < n
 ·rw [Array.getElem?_extract,if_pos (by omega),h i hi,ql8.at i hi]
 ·rw [Array.getElem?_eq_none (by simp;omega),Array.getElem?_eq_none (by simp;omega)]
theorem joinP_of {σ:Type}{m:(σ->World->Prop)->Prop}{k:σ->World->Prop}(J:σ->World->Prop) (h:m J) (hk:∀ s w,J s w->k s w):ku σ m k:=⟨J,h,hk⟩
theorem zaq {σ:Type}{m:(σ->World->Prop)->Prop}{k:σ->World->Prop}(h:m k):ku σ m k:=⟨k,h,fun _ _ h=>h⟩
theorem jd {σ:Type}{m:σ->World->(σ->World->Prop)->Prop}{s:σ}{w:World}(I:σ->World->Prop) (μ:σ->World->Nat) (h0:I s w) (hr:∀ s w,I s w->m s w fun s' w'=>I s' w'/\μ s' w' < μ s w) :
  za7 σ m s w:=⟨I,μ,h0,hr⟩
theorem least {p:Nat->Prop}(h:∃ n,p n):∃ n,p n/\∀ m,p m->n<=m:=by
 obtain⟨n,hn⟩:=h
 induction n using Nat.strongRecOn with
 | _ n ih=>
  by_cases hm:∃ m,m < n/\p m
  ·obtain⟨m,h1,h2⟩:=hm;exact ih m h1 h2
  ·exact⟨n,hn,fun m h=>Nat.le_of_not_lt fun h'=>hm ⟨m,h',h⟩⟩
theorem ztn {σ:Type}{m:σ->World->(σ->World->Prop)->Prop}{s:σ}{w:World}(I:Nat->σ->World->Prop) (n:Nat) (h0:I n s w)
  (hr:∀ n s w,I n s w->∀ K:σ->World->Prop,(∀ n' s' w',n' < n->I n' s' w'->K s' w')->m s w K):za7 σ m s w:=by
 classical
 refine⟨fun s w=>∃ n,I n s w,fun s w=>if h:∃ n,I n s w then Classical.choose (least h) else 0,⟨n,h0⟩,fun s w h=>?_⟩
 refine hr _ s w (Classical.choose_spec (least h)).1 _ fun n' s' w' hn' hI=>⟨⟨n',hI⟩,?_⟩
 have h':∃ n,I n s' w':=⟨n',hI⟩
 have h:∃ n,I n s w:=h
 simp only [dif_pos h,dif_pos h']
 exact Nat.lt_of_le_of_lt ((Classical.choose_spec (least h')).2 n' hI) hn'
theorem qg.mono {P:Program}{f:FuncId}{args:Array Value}{w:World}{R R':Ending->World->Prop}(h:qg P f args w R) (hr:∀ e w',R e w'->R' e w'):qg P f args w R':=⟨h.1,h.2.mono fun e w' h=>⟨hr e w' h.1,h.2⟩⟩
theorem zce {P:Program}{f:FuncId}{args:Array Value}{l:List Sh}{tup:Bool}{w:World}{K:Tup l->Prop}(t:Tup l) (h:qg P f args w (fun e w'=>e=.returned (zsw l tup t).2/\w'=w)) (hK:K t) :
  zjj P f args l tup w K:=⟨t,h,hK⟩
theorem zl {P:Program}{f:FuncId}{args:Array Value}{l:List Sh}{tup:Bool}{w:World}{K:Tup l->World->Prop}{R:Ending->World->Prop}(h:qg P f args w R)
  (hK:∀ e w',R e w'->∃ t,e=.returned (zsw l tup t).2/\K t w'):xg P f args l tup w K:=.go (h.mono hK)
theorem z1o {P:Program}{f:FuncId}{args:Array Value}{l:List Sh}{tup:Bool}{w:World}{K:Tup l->World->Prop}(t:Tup l) (h:(callFunc f args).run P w=.ok (.value (zsw l tup t).2) w) (hK:K t w):xg P f args l tup w K:=.own _ _ h (.refl w) ⟨t,rfl,hK⟩
theorem qgo {P:Program}{f:FuncId}{args:Array Value}{l:List Sh}{tup:Bool}{w:World}{K:Tup l->World->Prop}(t:Tup l) (w':World) (h:(callFunc f args).run P w=.ok (.value (zsw l tup t).2) w') (hc:Calm w w') (hK:K t w'):xg P f args l tup w K:=.own _ _ h hc ⟨t,rfl,hK⟩
theorem qx {P:Program}{m:Sem Value}{s:Sh}{w:World}{K:s.T->Prop}(t:s.T) (h:m.run P w=.ok (s.val t) w) (hK:K t):zbc P m s w K:=⟨t,h,hK⟩
theorem zak {P:Program}{m:Sem Value}{s:Sh}{w:World}{K:s.T->World->Prop}(t:s.T) (w':World) (h:m.run P w=.ok (s.val t) w') (hK:K t w') (hc:Calm w w':=by first | exact⟨rfl,rfl,rfl,Nat.le_refl _⟩ | exact⟨rfl,rfl,rfl,Nat.le_succ _⟩):za1 P m s w K:=⟨t,w',h,hc,hK⟩
theorem qbu {a b:Int}{K:Int->Prop}(m n:Nat) (ha:a=(m:Int)) (hb:b=(n:Int)) (hn:n≠0) (hK:K ((m % n:Nat):Int)):qlr a b K:=by
 subst ha hb
 exact⟨by omega,_,by rw [Int.tmod_eq_emod_of_nonneg (by omega)];rfl,hK⟩
theorem qgj {a b:Int}{K:Int->Prop}(m n:Nat) (ha:a=(m:Int)) (hb:b=(n:Int)) (hn:n≠0) (hm:m < 9223372036854775808) (hK:K ((m / n:Nat):Int)):qom .i64 a b K:=by
 subst ha hb
 have hd:m / n<=m:=Nat.div_le_self _ _
 refine⟨by omega,_,?_,hK⟩
 have he:Int.tdiv (m:Int) (n:Int)=((m / n:Nat):Int):=by rw [Int.tdiv_eq_ediv_of_nonneg (by omega)];rfl
 rw [he]
 generalize m / n=d at *
 rw [wrap_i64 (by omega) (by omega)]
theorem Words.put {c:Array Value}{f:Nat->BitVec 32}{n:Nat}(h:Words c 0 f n) (i:Nat) (hi:i < c.size) (x:BitVec 32):Words (c.setIfInBounds i (.int .u32 (x.toNat:Int))) 0 (fun k=>if k=i then x else f k) n:=by
 intro k hk
 by_cases e:k=i
 ·subst e;simp [hi]
 ·rw [Array.getElem?_setIfInBounds_ne (by omega),h k hk];simp only [if_neg e]
theorem Words.congr {c:Array Value}{f g:Nat->BitVec 32}{n:Nat}(h:Words c 0 f n) (hg:∀ k,k < n->f k=g k):Words c 0 g n:=fun k hk=>by rw [h k hk,hg k hk]
theorem qth (a b:UInt8){K:Int->Prop}(hK:K ((a ^^^ b).toNat:Int)):zt2 .u8 (a.toNat:Int) (b.toNat:Int) K:=by
 refine⟨_,?_,hK⟩
 have ha:BitVec.ofInt IntKind.u8.bits (a.toNat:Int)=a.toBitVec:=by
  apply BitVec.eq_of_toNat_eq
  show (BitVec.ofInt 8 (a.toNat:Int)).toNat=a.toBitVec.toNat
  rw [BitVec.ofInt_natCast];simp
 have hb:BitVec.ofInt IntKind.u8.bits (b.toNat:Int)=b.toBitVec:=by
  apply BitVec.eq_of_toNat_eq
  show (BitVec.ofInt 8 (b.toNat:Int)).toNat=b.toBitVec.toNat
  rw [BitVec.ofInt_natCast];simp
 rw [ha,hb]
 show _=IntKind.u8.wrap ((a ^^^ b).toNat:Nat)
 rw [zm8,Nat.mod_eq_of_lt (a ^^^ b).toNat_lt]
end Go.Fw
