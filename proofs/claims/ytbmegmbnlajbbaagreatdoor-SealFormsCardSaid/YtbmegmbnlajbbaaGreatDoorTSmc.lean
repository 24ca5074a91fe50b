/- Part 3 of the texts below the card, joined. -/
import Derived.Test.YtbmegmbnlajbbaaGreatDoorTSmb
namespace Go.Proofs.YtbmegmbnlajbbaaGreatDoor
open Go Go.Fw Go.Proofs
set_option maxRecDepth 100000
def zpo:Ann:=(.seq .leaf (.seq (.seq .leaf (.cond (.seq .leaf .leaf) .leaf)) (.seq (.seq .leaf (.cond (.seq .leaf .leaf) .leaf)) (.seq (.seq .leaf (.cond (.join [] (.seq .leaf (.cond (.seq .leaf .leaf) .leaf)) (.seq .leaf (.seq (.seq .leaf (.blk (.loop [(3,.int .i64),(4,.int .i64)] (.seq (.seq .leaf (.cond .leaf .leaf)) (.seq (.blk .leaf) .leaf))))) (.seq .leaf .leaf)))) .leaf)) (.join [] (.seq .leaf (.cond (.seq .leaf .leaf) .leaf)) (.seq (.seq .leaf (.blk (.loop [(5,.int .i64)] (.seq (.seq .leaf (.cond .leaf .leaf)) (.join [] (.jblk [] (.seq .leaf (.seq (.tree (.op 0 [] (.op 1 [] (.op 2 [] (.op 3 [] (.op 4 [] (.op 5 [] (.op 6 [] (.op 7 [] (.op 8 [] (.op 9 [] (.op 10 [] (.op 11 [] (.op 12 [] (.op 13 [] (.op 14 [] (.op 15 [] (.op 16 [] (.op 17 [] (.op 18 [] (.op 20 [] (.op 21 [] (.op 25 [] (.op 19 [] (.op 22 [] (.op 23 [] (.op 24 [] (.op 26 [] (.op 27 [] (.op 28 [] (.op 29 [] .done))))))))))))))))))))))))))))))) (.cond (.seq .leaf .leaf) .leaf)))) .leaf))))) (.seq .leaf .leaf)))))))
theorem qap:okC P qs Tryz.f72.ntmps ((Tryz.f72.body).getD .skip) zpo=true:=by kernel_rfl
def ztw (n:Value) (R:Ending→World→Prop) (w:World):Prop :=
  zbj (Value.cells n) zh w fun b1 w_1 =>
  ld (.int .i64) (⟨b1,0,none⟩:Addr) w_1 fun (t8:Int) =>
  xg (t8 == 1) (
  ld .str (⟨b1,1,none⟩:Addr) w_1 fun (t11:ByteArray) =>
  xg (decide ((t11.size:Int) ≥ 1)) (
  ld .str (⟨b1,1,none⟩:Addr) w_1 fun (t16:ByteArray) =>
  xg (decide ((t16.size:Int)≤64)) (
  ld (.int .i64) (⟨b1,2,none⟩:Addr) w_1 fun (t22:Int) =>
  xg (t22 == 0) (
  ld .slc (⟨b1,3,none⟩:Addr) w_1 fun (t27:(Option Addr × Nat × Nat)) =>
  xg ((t27.2.1:Int) == 0) (
  ld .slc (⟨b1,4,none⟩:Addr) w_1 fun (t33:(Option Addr × Nat × Nat)) =>
  R (.returned (Value.bool ((t33.2.1:Int) == 0))) w_1) (
  R (.returned (Value.bool false)) w_1)) (
  R (.returned (Value.bool false)) w_1)) (
  R (.returned (Value.bool false)) w_1)) (
  R (.returned (Value.bool false)) w_1)) (
  ld .str (⟨b1,1,none⟩:Addr) w_1 fun (t38:ByteArray) =>
  xg (!(t38.toList == (ByteArray.mk #[]).toList)) (
  R (.returned (Value.bool false)) w_1) (
  ld (.int .i64) (⟨b1,0,none⟩:Addr) w_1 fun (t41:Int) =>
  xg (t41 == 2) (
  joinP Unit (fun k =>
  ld (.int .i64) (⟨b1,2,none⟩:Addr) w_1 fun (t44:Int) =>
  xg (decide (t44 < 0)) (
  R (.returned (Value.bool false)) w_1) (
  ld (.int .i64) (⟨b1,2,none⟩:Addr) w_1 fun (t48:Int) =>
  xg (decide (t48 > 1024)) (
  R (.returned (Value.bool false)) w_1) (
  ld .slc (⟨b1,4,none⟩:Addr) w_1 fun (t53:(Option Addr × Nat × Nat)) =>
  xg ((t53.2.1:Int) != 0) (
  R (.returned (Value.bool false)) w_1) (
  k () w_1)))) (fun _ w_2 =>
  ld (.int .i64) (⟨b1,2,none⟩:Addr) w_2 fun (t58:Int) =>
  zav (Int × Int) (fun s_1 w_3 k_1 =>
  xg (decide (s_1.2 > 0)) (
  za7 .i64 s_1.1 1 fun t64 =>
  zl4 .i64 s_1.2 64 fun t62 =>
  k_1 (t64,t62) w_3) (
  ld .slc (⟨b1,3,none⟩:Addr) w_3 fun (t66:(Option Addr × Nat × Nat)) =>
  R (.returned (Value.bool ((t66.2.1:Int) == s_1.1))) w_3)) (0,t58) w_2)) (
  joinP Unit (fun k_2 =>
  ld (.int .i64) (⟨b1,0,none⟩:Addr) w_1 fun (t71:Int) =>
  xg (t71 != 3) (
  R (.returned (Value.bool false)) w_1) (
  ld (.int .i64) (⟨b1,2,none⟩:Addr) w_1 fun (t75:Int) =>
  xg (t75 != 0) (
  R (.returned (Value.bool false)) w_1) (
  ld .slc (⟨b1,3,none⟩:Addr) w_1 fun (t80:(Option Addr × Nat × Nat)) =>
  xg ((t80.2.1:Int) != 0) (
  R (.returned (Value.bool false)) w_1) (
  ld .slc (⟨b1,4,none⟩:Addr) w_1 fun (t86:(Option Addr × Nat × Nat)) =>
  xg (decide ((t86.2.1:Int) > 64)) (
  R (.returned (Value.bool false)) w_1) (
  k_2 () w_1))))) (fun _ w_4 =>
  zav Int (fun s_3 w_5 k_3 =>
  ld .slc (⟨b1,4,none⟩:Addr) w_5 fun (t92:(Option Addr × Nat × Nat)) =>
  xg (decide (s_3 < (t92.2.1:Int))) (
  joinP Unit (fun k_4 =>
  joinP Unit (fun k_5 =>
  ld .slc (⟨b1,4,none⟩:Addr) w_5 fun (t98:(Option Addr × Nat × Nat)) =>
  ixS t98.1 t98.2.1 34 s_3 fun t100 =>
  ldA P 34 t100 w_5 fun t101 =>
  zbj (zc P ql) ql w_5 fun b6 w_6 =>
  zbs P (storeVar ql (⟨b6,0,none⟩:Addr) (Value.agg t101)) w_6 fun w_7 =>
  zbd w_7 fun w_8 =>
  ld .str (⟨b6,0,none⟩:Addr) w_8 fun (t103:ByteArray) =>
  qy P zwn #[(Value.string t103)] [.bool] false w_8 fun (t104:Bool) w_9 =>
  xg (!t104) (
  R (.returned (Value.bool false)) w_9) (
  ld (.int .i64) (⟨b6,1,none⟩:Addr) w_9 fun (t108:Int) =>
  xg (t108 != 2) (
  ld (.int .i64) (⟨b6,1,none⟩:Addr) w_9 fun (t112:Int) =>
  xg (t112 != 3) (
  R (.returned (Value.bool false)) w_9) (
  xg (decide (s_3 > 0)) (
  zl4 .i64 s_3 1 fun t123 =>
  ld .slc (⟨b1,4,none⟩:Addr) w_9 fun (t121:(Option Addr × Nat × Nat)) =>
  ixS t121.1 t121.2.1 34 t123 fun t124 =>
  ld .str t124 w_9 fun (t126:ByteArray) =>
  ld .str (⟨b6,0,none⟩:Addr) w_9 fun (t128:ByteArray) =>
  xg (!(Op.bytesLess t126.toList t128.toList)) (
  R (.returned (Value.bool false)) w_9) (
  k_5 () w_9)) (
  k_5 () w_9))) (
  xg (decide (s_3 > 0)) (
  zl4 .i64 s_3 1 fun t123_1 =>
  ld .slc (⟨b1,4,none⟩:Addr) w_9 fun (t121_1:(Option Addr × Nat × Nat)) =>
  ixS t121_1.1 t121_1.2.1 34 t123_1 fun t124_1 =>
  ld .str t124_1 w_9 fun (t126_1:ByteArray) =>
  ld .str (⟨b6,0,none⟩:Addr) w_9 fun (t128_1:ByteArray) =>
  xg (!(Op.bytesLess t126_1.toList t128_1.toList)) (
  R (.returned (Value.bool false)) w_9) (
  k_5 () w_9)) (
  k_5 () w_9)))) (fun _ w_10 =>
  k_4 () w_10)) (fun _ w_11 =>
  za7 .i64 s_3 1 fun t96 =>
  k_3 t96 w_11)) (
  R (.returned (Value.bool true)) w_5)) 0 w_4))))
theorem qbx (n:Value) (R:Ending→World→Prop) (w:World):tr P qs ((Tryz.f72.body).getD .skip) zpo (zb0 0 [(1,n)]) (zcb P Tryz.f72.results.toList R) w=ztw n R w:=by kernel_rfl
theorem qbt {n:Value} {R:Ending→World→Prop} {w:World} (hT:ztw n R w):qg P zs9 #[n] w R :=
 zy (fn:=Tryz.f72) (c:=(Tryz.f72.body).getD .skip) (ann:=zpo) (args:=[(1,n)]) (qs:=qs) mixed Tryz.func72 rfl (by kernel_rfl) (by kernel_rfl) qap ((qbx n R w).symm ▸ hT)
def zmp:Ann:=(.seq .leaf (.seq .leaf (.seq (.seq .leaf (.cond (.seq .leaf .leaf) .leaf)) (.seq (.seq .leaf (.cond (.seq .leaf (.seq (.seq .leaf (.blk (.loop [(3,.slc),(4,.int .i64)] (.seq (.seq .leaf (.cond .leaf .leaf)) (.seq (.blk .leaf) .leaf))))) (.seq .leaf .leaf))) .leaf)) (.seq .leaf (.seq (.seq .leaf (.blk (.loop [(3,.slc),(5,.int .i64)] (.seq (.seq .leaf (.cond .leaf .leaf)) (.seq (.blk (.seq .leaf (.seq .leaf .leaf))) .leaf))))) (.seq .leaf .leaf)))))))
theorem z88:okC P qs Tryz.f73.ntmps ((Tryz.f73.body).getD .skip) zmp=true:=by kernel_rfl
def zqv (n:Value) (R:Ending→World→Prop) (w:World):Prop :=
  zbj (Value.cells n) zh w fun b1 w_1 =>
  ld (.int .i64) (⟨b1,0,none⟩:Addr) w_1 fun (t7:Int) =>
  cvI .u64 t7 fun t8 =>
  qy P zky #[(Value.int .u64 t8)] [.slc] false w_1 fun (t9:(Option Addr × Nat × Nat)) w_2 =>
  ld (.int .i64) (⟨b1,0,none⟩:Addr) w_2 fun (t11:Int) =>
  xg (t11 == 1) (
  ld .str (⟨b1,1,none⟩:Addr) w_2 fun (t15:ByteArray) =>
  qy P zsi #[(Value.string t15)] [.slc] false w_2 fun (t16:(Option Addr × Nat × Nat)) w_3 =>
  zaf P (Builtin.append_ #[zk,zk] zk #[(Value.slice t9.1 t9.2.1 t9.2.2),(Value.slice t16.1 t16.2.1 t16.2.2)]) .slc w_3 fun (t17:(Option Addr × Nat × Nat)) w_4 =>
  R (.returned (Value.slice t17.1 t17.2.1 t17.2.2)) w_4) (
  ld (.int .i64) (⟨b1,0,none⟩:Addr) w_2 fun (t19:Int) =>
  xg (t19 == 2) (
  ld (.int .i64) (⟨b1,2,none⟩:Addr) w_2 fun (t23:Int) =>
  cvI .u64 t23 fun t24 =>
  qy P zky #[(Value.int .u64 t24)] [.slc] false w_2 fun (t25:(Option Addr × Nat × Nat)) w_5 =>
  zaf P (Builtin.append_ #[zk,zk] zk #[(Value.slice t9.1 t9.2.1 t9.2.2),(Value.slice t25.1 t25.2.1 t25.2.2)]) .slc w_5 fun (t26:(Option Addr × Nat × Nat)) w_6 =>
  zav ((Option Addr × Nat × Nat) × Int) (fun s w_7 k =>
  ld .slc (⟨b1,3,none⟩:Addr) w_7 fun (t29:(Option Addr × Nat × Nat)) =>
  xg (decide (s.2 < (t29.2.1:Int))) (
  ld .slc (⟨b1,3,none⟩:Addr) w_7 fun (t36:(Option Addr × Nat × Nat)) =>
  ixS t36.1 t36.2.1 32 s.2 fun t38 =>
  zay P (Instr.sliceAt zf (Value.pointer (some t38)) none none none) .slc w_7 fun (t39:(Option Addr × Nat × Nat)) =>
  zaf P (Builtin.append_ #[zk,zk] zk #[(Value.slice s.1.1 s.1.2.1 s.1.2.2),(Value.slice t39.1 t39.2.1 t39.2.2)]) .slc w_7 fun (t40:(Option Addr × Nat × Nat)) w_8 =>
  za7 .i64 s.2 1 fun t33 =>
  k ((t40.1,t40.2.1,t40.2.2),t33) w_8) (
  R (.returned (Value.slice s.1.1 s.1.2.1 s.1.2.2)) w_7)) ((t26.1,t26.2.1,t26.2.2),0) w_6) (
  ld .slc (⟨b1,4,none⟩:Addr) w_2 fun (t44:(Option Addr × Nat × Nat)) =>
  cvI .u64 (t44.2.1:Int) fun t46 =>
  qy P zky #[(Value.int .u64 t46)] [.slc] false w_2 fun (t47:(Option Addr × Nat × Nat)) w_9 =>
  zaf P (Builtin.append_ #[zk,zk] zk #[(Value.slice t9.1 t9.2.1 t9.2.2),(Value.slice t47.1 t47.2.1 t47.2.2)]) .slc w_9 fun (t48:(Option Addr × Nat × Nat)) w_10 =>
  zav ((Option Addr × Nat × Nat) × Int) (fun s_1 w_11 k_1 =>
  ld .slc (⟨b1,4,none⟩:Addr) w_11 fun (t51:(Option Addr × Nat × Nat)) =>
  xg (decide (s_1.2 < (t51.2.1:Int))) (
  ld .slc (⟨b1,4,none⟩:Addr) w_11 fun (t58:(Option Addr × Nat × Nat)) =>
  ixS t58.1 t58.2.1 34 s_1.2 fun t60 =>
  ld .str t60 w_11 fun (t62:ByteArray) =>
  qy P zsi #[(Value.string t62)] [.slc] false w_11 fun (t63:(Option Addr × Nat × Nat)) w_12 =>
  zaf P (Builtin.append_ #[zk,zk] zk #[(Value.slice s_1.1.1 s_1.1.2.1 s_1.1.2.2),(Value.slice t63.1 t63.2.1 t63.2.2)]) .slc w_12 fun (t64:(Option Addr × Nat × Nat)) w_13 =>
  ld .slc (⟨b1,4,none⟩:Addr) w_13 fun (t67:(Option Addr × Nat × Nat)) =>
  ixS t67.1 t67.2.1 34 s_1.2 fun t69 =>
  ld (.int .i64) (Addr.add t69 1) w_13 fun (t71:Int) =>
  cvI .u64 t71 fun t72 =>
  qy P zky #[(Value.int .u64 t72)] [.slc] false w_13 fun (t73:(Option Addr × Nat × Nat)) w_14 =>
  zaf P (Builtin.append_ #[zk,zk] zk #[(Value.slice t64.1 t64.2.1 t64.2.2),(Value.slice t73.1 t73.2.1 t73.2.2)]) .slc w_14 fun (t74:(Option Addr × Nat × Nat)) w_15 =>
  ld .slc (⟨b1,4,none⟩:Addr) w_15 fun (t77:(Option Addr × Nat × Nat)) =>
  ixS t77.1 t77.2.1 34 s_1.2 fun t79 =>
  zay P (Instr.sliceAt zf (Value.pointer (some (Addr.add t79 2))) none none none) .slc w_15 fun (t81:(Option Addr × Nat × Nat)) =>
  zaf P (Builtin.append_ #[zk,zk] zk #[(Value.slice t74.1 t74.2.1 t74.2.2),(Value.slice t81.1 t81.2.1 t81.2.2)]) .slc w_15 fun (t82:(Option Addr × Nat × Nat)) w_16 =>
  za7 .i64 s_1.2 1 fun t55 =>
  k_1 ((t82.1,t82.2.1,t82.2.2),t55) w_16) (
  R (.returned (Value.slice s_1.1.1 s_1.1.2.1 s_1.1.2.2)) w_11)) ((t48.1,t48.2.1,t48.2.2),0) w_10))
theorem z8b (n:Value) (R:Ending→World→Prop) (w:World):tr P qs ((Tryz.f73.body).getD .skip) zmp (zb0 0 [(1,n)]) (zcb P Tryz.f73.results.toList R) w=zqv n R w:=by kernel_rfl
theorem z7p {n:Value} {R:Ending→World→Prop} {w:World} (hT:zqv n R w):qg P zi3 #[n] w R :=
 zy (fn:=Tryz.f73) (c:=(Tryz.f73.body).getD .skip) (ann:=zmp) (args:=[(1,n)]) (qs:=qs) mixed Tryz.func73 rfl (by kernel_rfl) (by kernel_rfl) z88 ((z8b n R w).symm ▸ hT)
def zlu:Ann:=(.seq .leaf (.seq .leaf (.seq .leaf (.join [] (.seq .leaf (.cond (.seq .leaf .leaf) .leaf)) (.seq .leaf .leaf)))))
theorem z2j:okC P qs Tryz.f85.ntmps ((Tryz.f85.body).getD .skip) zlu=true:=by kernel_rfl
def zpw (b:Option Addr) (b_l b_c:Nat) (R:Ending→World→Prop) (w:World):Prop :=
  zbj (zc P zh) zh w fun b2 w_1 =>
  qy P zue #[(Value.slice b b_l b_c)] [.ptr] false w_1 fun (t7:(Option Addr)) w_2 =>
  qy P zte #[(Value.pointer t7)] [.any] false w_2 fun (t9:Value) w_3 =>
  zbj (zc P zh) zh w_3 fun b5 w_4 =>
  zbs P (storeVar zh (⟨b5,0,none⟩:Addr) t9) w_4 fun w_5 =>
  joinP Unit (fun k =>
  qy P zo3 #[(Value.pointer t7)] [.bool] false w_5 fun (t11:Bool) w_6 =>
  xg (!t11) (
  zay P (Instr.build zh #[]) .any w_6 fun (t18:Value) =>
  zbs P (storeVar zh (⟨b2,0,none⟩:Addr) t18) w_6 fun w_7 =>
  ldA P 5 (⟨b2,0,none⟩:Addr) w_7 fun t2 =>
  R (.returned (Value.tuple #[(Value.agg t2),(Value.int .i64 21)])) w_7) (
  ldA P 5 (⟨b5,0,none⟩:Addr) w_6 fun t14 =>
  qy P zme #[(Value.agg t14)] [.bool] false w_6 fun (t15:Bool) w_8 =>
  xg (!t15) (
  zay P (Instr.build zh #[]) .any w_8 fun (t18_1:Value) =>
  zbs P (storeVar zh (⟨b2,0,none⟩:Addr) t18_1) w_8 fun w_9 =>
  ldA P 5 (⟨b2,0,none⟩:Addr) w_9 fun t2_1 =>
  R (.returned (Value.tuple #[(Value.agg t2_1),(Value.int .i64 21)])) w_9) (
  k () w_8))) (fun _ w_10 =>
  ldA P 5 (⟨b5,0,none⟩:Addr) w_10 fun t19 =>
  zbs P (storeVar zh (⟨b2,0,none⟩:Addr) (Value.agg t19)) w_10 fun w_11 =>
  ldA P 5 (⟨b2,0,none⟩:Addr) w_11 fun t2_2 =>
  R (.returned (Value.tuple #[(Value.agg t2_2),(Value.int .i64 0)])) w_11)
theorem z2t (b:Option Addr) (b_l b_c:Nat) (R:Ending→World→Prop) (w:World):tr P qs ((Tryz.f85.body).getD .skip) zlu (zb0 0 [(0,(Value.slice b b_l b_c))]) (zcb P Tryz.f85.results.toList R) w=zpw b b_l b_c R w:=by kernel_rfl
theorem z3u {b:Option Addr} {b_l b_c:Nat} {R:Ending→World→Prop} {w:World} (hT:zpw b b_l b_c R w):qg P zpe #[(Value.slice b b_l b_c)] w R :=
 zy (fn:=Tryz.f85) (c:=(Tryz.f85.body).getD .skip) (ann:=zlu) (args:=[(0,(Value.slice b b_l b_c))]) (qs:=qs) mixed Tryz.func85 rfl (by kernel_rfl) (by kernel_rfl) z2j ((z2t b b_l b_c R w).symm ▸ hT)
def zml:Ann:=(.seq .leaf (.seq .leaf (.seq .leaf (.seq .leaf (.join [] (.seq .leaf (.jblk [] (.seq .leaf (.cond (.seq .leaf .leaf) (.seq .leaf (.cond (.seq .leaf (.seq .leaf (.seq (.seq .leaf (.cond (.seq .leaf .leaf) .leaf)) (.seq .leaf (.seq .leaf (.blk (.loop [(8,.int .i64)] (.seq (.seq .leaf (.cond .leaf .leaf)) (.seq (.blk (.tree (.op 0 [] (.op 2 [] (.op 1 [] (.op 3 [1] (.op 4 [1] (.op 5 [] (.op 6 [] (.op 7 [] .done)))))))))) .leaf))))))))) (.seq .leaf (.cond (.seq .leaf (.seq .leaf (.seq (.seq .leaf (.cond (.seq .leaf .leaf) .leaf)) (.seq .leaf (.blk (.loop [(10,.int .i64)] (.seq (.seq .leaf (.cond .leaf .leaf)) (.seq (.blk (.seq .leaf (.seq .leaf (.seq (.seq .leaf (.cond (.seq .leaf .leaf) .leaf)) (.tree (.op 0 [] (.op 2 [] (.op 3 [] (.op 4 [] (.op 5 [] (.op 1 [] (.op 6 [1] (.op 7 [] (.op 8 [1] (.op 9 [] (.op 10 [] (.op 11 [] .done))))))))))))))))) .leaf)))))))) .leaf)))))))) (.join [] (.seq .leaf (.cond (.seq .leaf .leaf) .leaf)) (.seq .leaf .leaf)))))))
theorem z6o:okC P qs Tryz.f89.ntmps ((Tryz.f89.body).getD .skip) zml=true:=by kernel_rfl
def zqw (b:Option Addr) (b_l b_c:Nat) (R:Ending→World→Prop) (w:World):Prop :=
  zbj (zc P zh) zh w fun b2 w_1 =>
  zay P (Instr.build zr5 #[(0,(Value.slice b b_l b_c))]) .any w_1 fun (t14:Value) =>
  zbj (Value.cells t14) zr5 w_1 fun b15 w_2 =>
  zay P (Instr.build zh #[]) .any w_2 fun (t16:Value) =>
  zbj (zc P zh) zh w_2 fun b5 w_3 =>
  zbs P (storeVar zh (⟨b5,0,none⟩:Addr) t16) w_3 fun w_4 =>
  qy P zfw #[(Value.pointer (some (⟨b15,0,none⟩:Addr)))] [.int .u64] false w_4 fun (t18:Int) w_5 =>
  joinP Unit (fun k =>
  joinP Unit (fun k_1 =>
  xg (t18 == 1) (
  stC (⟨b5,0,none⟩:Addr) (Value.int .i64 1) w_5 fun w_6 =>
  qy P zki #[(Value.pointer (some (⟨b15,0,none⟩:Addr))),(Value.int .i64 64)] [.str] false w_6 fun (t24:ByteArray) w_7 =>
  stC (⟨b5,1,none⟩:Addr) (Value.string t24) w_7 fun w_8 =>
  k_1 () w_8) (
  xg (t18 == 2) (
  stC (⟨b5,0,none⟩:Addr) (Value.int .i64 2) w_5 fun w_9 =>
  qy P zfw #[(Value.pointer (some (⟨b15,0,none⟩:Addr)))] [.int .u64] false w_9 fun (t30:Int) w_10 =>
  xg (decide (t30 > 1024)) (
  zay P (Instr.build zh #[]) .any w_10 fun (t33:Value) =>
  zbs P (storeVar zh (⟨b2,0,none⟩:Addr) t33) w_10 fun w_11 =>
  ldA P 5 (⟨b2,0,none⟩:Addr) w_11 fun t2 =>
  R (.returned (Value.tuple #[(Value.agg t2),(Value.bool false)])) w_11) (
  cvI .i64 t30 fun t35 =>
  stC (⟨b5,2,none⟩:Addr) (Value.int .i64 t35) w_10 fun w_12 =>
  ld (.int .i64) (⟨b5,2,none⟩:Addr) w_12 fun (t38:Int) =>
  zav Int (fun s w_13 k_2 =>
  xg (decide (s > 0)) (
  zbd w_13 fun w_14 =>
  ld .slc (⟨b5,3,none⟩:Addr) w_14 fun (t44:(Option Addr × Nat × Nat)) =>
  qy P zg8 #[(Value.pointer (some (⟨b15,0,none⟩:Addr)))] [.any] false w_14 fun (t46:Value) w_15 =>
  ((ld .slc (⟨b5,3,none⟩:Addr) w_15 fun (t44_1:(Option Addr × Nat × Nat)) =>
  (Value.slice t44_1.1 t44_1.2.1 t44_1.2.2)=(Value.slice t44.1 t44.2.1 t44.2.2)) ∧
  zaf P (Instr.buildSlice jr 1 #[(0,t46)]) .slc w_15 fun (t47:(Option Addr × Nat × Nat)) w_16 =>
  ((ld .slc (⟨b5,3,none⟩:Addr) w_16 fun (t44_2:(Option Addr × Nat × Nat)) =>
  (Value.slice t44_2.1 t44_2.2.1 t44_2.2.2)=(Value.slice t44.1 t44.2.1 t44.2.2)) ∧
  zaf P (Builtin.append_ #[jr,jr] jr #[(Value.slice t44.1 t44.2.1 t44.2.2),(Value.slice t47.1 t47.2.1 t47.2.2)]) .slc w_16 fun (t48:(Option Addr × Nat × Nat)) w_17 =>
  stC (⟨b5,3,none⟩:Addr) (Value.slice t48.1 t48.2.1 t48.2.2) w_17 fun w_18 =>
  zl4 .i64 s 64 fun t42 =>
  k_2 t42 w_18))) (
  k_1 () w_13)) t38 w_12)) (
  xg (t18 == 3) (
  stC (⟨b5,0,none⟩:Addr) (Value.int .i64 3) w_5 fun w_19 =>
  qy P zfw #[(Value.pointer (some (⟨b15,0,none⟩:Addr)))] [.int .u64] false w_19 fun (t54:Int) w_20 =>
  xg (decide (t54 > 64)) (
  zay P (Instr.build zh #[]) .any w_20 fun (t57:Value) =>
  zbs P (storeVar zh (⟨b2,0,none⟩:Addr) t57) w_20 fun w_21 =>
  ldA P 5 (⟨b2,0,none⟩:Addr) w_21 fun t2_1 =>
  R (.returned (Value.tuple #[(Value.agg t2_1),(Value.bool false)])) w_21) (
  zav Int (fun s_1 w_22 k_3 =>
  cvI .i64 t54 fun t60 =>
  xg (decide (s_1 < t60)) (
  qy P zki #[(Value.pointer (some (⟨b15,0,none⟩:Addr))),(Value.int .i64 16)] [.str] false w_22 fun (t65:ByteArray) w_23 =>
  qy P zfw #[(Value.pointer (some (⟨b15,0,none⟩:Addr)))] [.int .u64] false w_23 fun (t67:Int) w_24 =>
  xg (decide (t67 > 3)) (
  zay P (Instr.build zh #[]) .any w_24 fun (t70:Value) =>
  zbs P (storeVar zh (⟨b2,0,none⟩:Addr) t70) w_24 fun w_25 =>
  ldA P 5 (⟨b2,0,none⟩:Addr) w_25 fun t2_2 =>
  R (.returned (Value.tuple #[(Value.agg t2_2),(Value.bool false)])) w_25) (
  zbd w_24 fun w_26 =>
  cvI .i64 t67 fun t75 =>
  ld .slc (⟨b5,4,none⟩:Addr) w_26 fun (t72:(Option Addr × Nat × Nat)) =>
  qy P zg8 #[(Value.pointer (some (⟨b15,0,none⟩:Addr)))] [.any] false w_26 fun (t77:Value) w_27 =>
  ((ld .slc (⟨b5,4,none⟩:Addr) w_27 fun (t72_1:(Option Addr × Nat × Nat)) =>
  (Value.slice t72_1.1 t72_1.2.1 t72_1.2.2)=(Value.slice t72.1 t72.2.1 t72.2.2)) ∧
  zay P (Instr.build ql #[(0,(Value.string t65)),(1,(Value.int .i64 t75)),(2,t77)]) .any w_27 fun (t78:Value) =>
  zaf P (Instr.buildSlice zad 1 #[(0,t78)]) .slc w_27 fun (t79:(Option Addr × Nat × Nat)) w_28 =>
  ((ld .slc (⟨b5,4,none⟩:Addr) w_28 fun (t72_2:(Option Addr × Nat × Nat)) =>
  (Value.slice t72_2.1 t72_2.2.1 t72_2.2.2)=(Value.slice t72.1 t72.2.1 t72.2.2)) ∧
  zaf P (Builtin.append_ #[zad,zad] zad #[(Value.slice t72.1 t72.2.1 t72.2.2),(Value.slice t79.1 t79.2.1 t79.2.2)]) .slc w_28 fun (t80:(Option Addr × Nat × Nat)) w_29 =>
  stC (⟨b5,4,none⟩:Addr) (Value.slice t80.1 t80.2.1 t80.2.2) w_29 fun w_30 =>
  za7 .i64 s_1 1 fun t63 =>
  k_3 t63 w_30)))) (
  k_1 () w_22)) 0 w_20)) (
  k_1 () w_5)))) (fun _ w_31 =>
  k () w_31)) (fun _ w_32 =>
  joinP Unit (fun k_4 =>
  ld (.int .i64) (⟨b15,2,none⟩:Addr) w_32 fun (t85:Int) =>
  xg (t85 != 0) (
  zay P (Instr.build zh #[]) .any w_32 fun (t97:Value) =>
  zbs P (storeVar zh (⟨b2,0,none⟩:Addr) t97) w_32 fun w_33 =>
  ldA P 5 (⟨b2,0,none⟩:Addr) w_33 fun t2_3 =>
  R (.returned (Value.tuple #[(Value.agg t2_3),(Value.bool false)])) w_33) (
  qy P zhb #[(Value.pointer (some (⟨b15,0,none⟩:Addr)))] [.int .i64] false w_32 fun (t89:Int) w_34 =>
  xg (t89 != 0) (
  zay P (Instr.build zh #[]) .any w_34 fun (t97_1:Value) =>
  zbs P (storeVar zh (⟨b2,0,none⟩:Addr) t97_1) w_34 fun w_35 =>
  ldA P 5 (⟨b2,0,none⟩:Addr) w_35 fun t2_4 =>
  R (.returned (Value.tuple #[(Value.agg t2_4),(Value.bool false)])) w_35) (
  ldA P 5 (⟨b5,0,none⟩:Addr) w_34 fun t93 =>
  qy P zs9 #[(Value.agg t93)] [.bool] false w_34 fun (t94:Bool) w_36 =>
  xg (!t94) (
  zay P (Instr.build zh #[]) .any w_36 fun (t97_2:Value) =>
  zbs P (storeVar zh (⟨b2,0,none⟩:Addr) t97_2) w_36 fun w_37 =>
  ldA P 5 (⟨b2,0,none⟩:Addr) w_37 fun t2_5 =>
  R (.returned (Value.tuple #[(Value.agg t2_5),(Value.bool false)])) w_37) (
  k_4 () w_36)))) (fun _ w_38 =>
  ldA P 5 (⟨b5,0,none⟩:Addr) w_38 fun t98 =>
  zbs P (storeVar zh (⟨b2,0,none⟩:Addr) (Value.agg t98)) w_38 fun w_39 =>
  ldA P 5 (⟨b2,0,none⟩:Addr) w_39 fun t2_6 =>
  R (.returned (Value.tuple #[(Value.agg t2_6),(Value.bool true)])) w_39))
theorem z8k (b:Option Addr) (b_l b_c:Nat) (R:Ending→World→Prop) (w:World):tr P qs ((Tryz.f89.body).getD .skip) zml (zb0 0 [(0,(Value.slice b b_l b_c))]) (zcb P Tryz.f89.results.toList R) w=zqw b b_l b_c R w:=by kernel_rfl
theorem z6f {b:Option Addr} {b_l b_c:Nat} {R:Ending→World→Prop} {w:World} (hT:zqw b b_l b_c R w):qg P zro #[(Value.slice b b_l b_c)] w R :=
 zy (fn:=Tryz.f89) (c:=(Tryz.f89.body).getD .skip) (ann:=zml) (args:=[(0,(Value.slice b b_l b_c))]) (qs:=qs) mixed Tryz.func89 rfl (by kernel_rfl) (by kernel_rfl) z6o ((z8k b b_l b_c R w).symm ▸ hT)
def zl0:Ann:=(.seq .leaf (.seq (.seq .leaf (.cond (.seq .leaf .leaf) .leaf)) (.seq .leaf (.seq .leaf (.join [] (.seq .leaf (.jblk [] (.seq .leaf (.cond .leaf (.seq .leaf (.cond (.seq .leaf (.seq .leaf (.blk (.loop [(55,.int .i64)] (.seq .leaf (.seq (.cond .leaf .leaf) (.seq (.blk (.seq .leaf .leaf)) .leaf))))))) (.seq .leaf (.seq .leaf (.blk (.loop [(26,.int .i64)] (.seq .leaf (.seq (.cond .leaf .leaf) (.seq (.blk (.seq .leaf (.seq .leaf (.seq .leaf .leaf)))) .leaf))))))))))))) (.seq .leaf .leaf))))))
theorem z2v:okC P qs Tryz.f114.ntmps ((Tryz.f114.body).getD .skip) zl0=true:=by kernel_rfl
def zo0 (n:Value) (R:Ending→World→Prop) (w:World):Prop :=
  zbj (Value.cells n) zh w fun b1 w_1 =>
  ldA P 5 (⟨b1,0,none⟩:Addr) w_1 fun t9 =>
  qy P zme #[(Value.agg t9)] [.bool] false w_1 fun (t10:Bool) w_2 =>
  xg (!t10) (
  R (.returned (Value.tuple #[(Value.slice none 0 0),(Value.int .i64 21)])) w_2) (
  zbj (zc P zg1) zg1 w_2 fun b4 w_3 =>
  ld (.int .i64) (⟨b1,0,none⟩:Addr) w_3 fun (t13:Int) =>
  cvI .u64 t13 fun t14 =>
  qy P zee #[(Value.pointer (some (⟨b4,0,none⟩:Addr))),(Value.int .u64 t14)] [] true w_3 fun (_:Unit) w_4 =>
  joinP Unit (fun k =>
  ld (.int .i64) (⟨b1,0,none⟩:Addr) w_4 fun (t17:Int) =>
  joinP Unit (fun k_1 =>
  xg (t17 == 1) (
  ld .str (⟨b1,1,none⟩:Addr) w_4 fun (t44:ByteArray) =>
  qy P zg9 #[(Value.pointer (some (⟨b4,0,none⟩:Addr))),(Value.string t44)] [] true w_4 fun (_:Unit) w_5 =>
  k_1 () w_5) (
  xg (t17 == 2) (
  ld (.int .i64) (⟨b1,2,none⟩:Addr) w_4 fun (t49:Int) =>
  cvI .u64 t49 fun t50 =>
  qy P zee #[(Value.pointer (some (⟨b4,0,none⟩:Addr))),(Value.int .u64 t50)] [] true w_4 fun (_:Unit) w_6 =>
  ld .slc (⟨b1,3,none⟩:Addr) w_6 fun (t53:(Option Addr × Nat × Nat)) =>
  zav Int (fun s w_7 k_2 =>
  xg (decide (s < (t53.2.1:Int))) (
  ixS t53.1 t53.2.1 32 s fun t57 =>
  ldA P 32 t57 w_7 fun t58 =>
  zbj (zc P zf) zf w_7 fun b6 w_8 =>
  zbs P (storeVar zf (⟨b6,0,none⟩:Addr) (Value.agg t58)) w_8 fun w_9 =>
  ldA P 32 (⟨b6,0,none⟩:Addr) w_9 fun t59 =>
  qy P zfy #[(Value.pointer (some (⟨b4,0,none⟩:Addr))),(Value.agg t59)] [] true w_9 fun (_:Unit) w_10 =>
  za7 .i64 s 1 fun t61 =>
  k_2 t61 w_10) (
  k_1 () w_7)) 0 w_6) (
  ld .slc (⟨b1,4,none⟩:Addr) w_4 fun (t19:(Option Addr × Nat × Nat)) =>
  cvI .u64 (t19.2.1:Int) fun t21 =>
  qy P zee #[(Value.pointer (some (⟨b4,0,none⟩:Addr))),(Value.int .u64 t21)] [] true w_4 fun (_:Unit) w_11 =>
  ld .slc (⟨b1,4,none⟩:Addr) w_11 fun (t24:(Option Addr × Nat × Nat)) =>
  zav Int (fun s_1 w_12 k_3 =>
  xg (decide (s_1 < (t24.2.1:Int))) (
  ixS t24.1 t24.2.1 34 s_1 fun t28 =>
  ldA P 34 t28 w_12 fun t29 =>
  zbj (zc P ql) ql w_12 fun b8 w_13 =>
  zbs P (storeVar ql (⟨b8,0,none⟩:Addr) (Value.agg t29)) w_13 fun w_14 =>
  ld .str (⟨b8,0,none⟩:Addr) w_14 fun (t31:ByteArray) =>
  qy P zg9 #[(Value.pointer (some (⟨b4,0,none⟩:Addr))),(Value.string t31)] [] true w_14 fun (_:Unit) w_15 =>
  ld (.int .i64) (⟨b8,1,none⟩:Addr) w_15 fun (t34:Int) =>
  cvI .u64 t34 fun t35 =>
  qy P zee #[(Value.pointer (some (⟨b4,0,none⟩:Addr))),(Value.int .u64 t35)] [] true w_15 fun (_:Unit) w_16 =>
  ldA P 32 (⟨b8,2,none⟩:Addr) w_16 fun t38 =>
  qy P zfy #[(Value.pointer (some (⟨b4,0,none⟩:Addr))),(Value.agg t38)] [] true w_16 fun (_:Unit) w_17 =>
  za7 .i64 s_1 1 fun t40 =>
  k_3 t40 w_17) (
  k_1 () w_12)) 0 w_11))) (fun _ w_18 =>
  k () w_18)) (fun _ w_19 =>
  qy P zjq #[(Value.pointer (some (⟨b4,0,none⟩:Addr)))] [.slc] false w_19 fun (t62:(Option Addr × Nat × Nat)) w_20 =>
  R (.returned (Value.tuple #[(Value.slice t62.1 t62.2.1 t62.2.2),(Value.int .i64 0)])) w_20))
theorem z4f (n:Value) (R:Ending→World→Prop) (w:World):tr P qs ((Tryz.f114.body).getD .skip) zl0 (zb0 0 [(1,n)]) (zcb P Tryz.f114.results.toList R) w=zo0 n R w:=by kernel_rfl
theorem z3i {n:Value} {R:Ending→World→Prop} {w:World} (hT:zo0 n R w):qg P zpq #[n] w R :=
 zy (fn:=Tryz.f114) (c:=(Tryz.f114.body).getD .skip) (ann:=zl0) (args:=[(1,n)]) (qs:=qs) mixed Tryz.func114 rfl (by kernel_rfl) (by kernel_rfl) z2v ((z4f n R w).symm ▸ hT)
def zs5:Ann:=(.seq .leaf (.seq .leaf (.seq (.blk (.loop [(0,.int .u64),(3,.slc)] (.seq (.seq .leaf (.cond .leaf .leaf)) (.blk (.seq .leaf .leaf))))) (.seq .leaf .leaf))))
theorem qgs:okC P qs Tryz.f130.ntmps ((Tryz.f130.body).getD .skip) zs5=true:=by kernel_rfl
def z1o (n:Int) (R:Ending→World→Prop) (w:World):Prop :=
  zav (Int × (Option Addr × Nat × Nat)) (fun s w_1 k =>
  xg (decide (s.1 ≥ 128)) (
  qla s.1 128 fun t8 =>
  za7 .u64 t8 128 fun t9 =>
  cvI .u8 t9 fun t10 =>
  zaf P (Instr.buildSlice zk 1 #[(0,(Value.int .u8 t10))]) .slc w_1 fun (t11:(Option Addr × Nat × Nat)) w_2 =>
  zaf P (Builtin.append_ #[zk,zk] zk #[(Value.slice s.2.1 s.2.2.1 s.2.2.2),(Value.slice t11.1 t11.2.1 t11.2.2)]) .slc w_2 fun (t12:(Option Addr × Nat × Nat)) w_3 =>
  qle .u64 s.1 128 fun t14 =>
  k (t14,(t12.1,t12.2.1,t12.2.2)) w_3) (
  cvI .u8 s.1 fun t17 =>
  zaf P (Instr.buildSlice zk 1 #[(0,(Value.int .u8 t17))]) .slc w_1 fun (t18:(Option Addr × Nat × Nat)) w_4 =>
  zaf P (Builtin.append_ #[zk,zk] zk #[(Value.slice s.2.1 s.2.2.1 s.2.2.2),(Value.slice t18.1 t18.2.1 t18.2.2)]) .slc w_4 fun (t19:(Option Addr × Nat × Nat)) w_5 =>
  R (.returned (Value.slice t19.1 t19.2.1 t19.2.2)) w_5)) (n,(none,0,0)) w
theorem qho (n:Int) (R:Ending→World→Prop) (w:World):tr P qs ((Tryz.f130.body).getD .skip) zs5 (zb0 0 [(0,(Value.int .u64 n))]) (zcb P Tryz.f130.results.toList R) w=z1o n R w:=by kernel_rfl
theorem qij {n:Int} {R:Ending→World→Prop} {w:World} (hT:z1o n R w):qg P zky #[(Value.int .u64 n)] w R :=
 zy (fn:=Tryz.f130) (c:=(Tryz.f130.body).getD .skip) (ann:=zs5) (args:=[(0,(Value.int .u64 n))]) (qs:=qs) mixed Tryz.func130 rfl (by kernel_rfl) (by kernel_rfl) qgs ((qho n R w).symm ▸ hT)
def zqs:Ann:=(.seq .leaf (.seq .leaf .leaf))
theorem qdt:okC P qs Tryz.f131.ntmps ((Tryz.f131.body).getD .skip) zqs=true:=by kernel_rfl
def zxf (s:ByteArray) (R:Ending→World→Prop) (w:World):Prop :=
  cvI .u64 (s.size:Int) fun t5 =>
  qy P zky #[(Value.int .u64 t5)] [.slc] false w fun (t6:(Option Addr × Nat × Nat)) w_1 =>
  zaf P (Builtin.append_ #[zk,qc] zk #[(Value.slice t6.1 t6.2.1 t6.2.2),(Value.string s)]) .slc w_1 fun (t8:(Option Addr × Nat × Nat)) w_2 =>
  R (.returned (Value.slice t8.1 t8.2.1 t8.2.2)) w_2
theorem qeg (s:ByteArray) (R:Ending→World→Prop) (w:World):tr P qs ((Tryz.f131.body).getD .skip) zqs (zb0 0 [(0,(Value.string s))]) (zcb P Tryz.f131.results.toList R) w=zxf s R w:=by kernel_rfl
theorem qd8 {s:ByteArray} {R:Ending→World→Prop} {w:World} (hT:zxf s R w):qg P zsi #[(Value.string s)] w R :=
 zy (fn:=Tryz.f131) (c:=(Tryz.f131.body).getD .skip) (ann:=zqs) (args:=[(0,(Value.string s))]) (qs:=qs) mixed Tryz.func131 rfl (by kernel_rfl) (by kernel_rfl) qdt ((qeg s R w).symm ▸ hT)
def zpt:Ann:=(.seq .leaf (.seq .leaf .leaf))
theorem z9p:okC P qs Tryz.f137.ntmps ((Tryz.f137.body).getD .skip) zpt=true:=by kernel_rfl
def zsy (b:Option Addr) (b_l b_c:Nat) (R:Ending→World→Prop) (w:World):Prop :=
  zaf P (Builtin.append_ #[zk,zk] zk #[(Value.slice none 0 0),(Value.slice b b_l b_c)]) .slc w fun (t4:(Option Addr × Nat × Nat)) w_1 =>
  zay P (Instr.build zny #[(0,(Value.slice t4.1 t4.2.1 t4.2.2))]) .any w_1 fun (t5:Value) =>
  zbj (Value.cells t5) zny w_1 fun b6 w_2 =>
  R (.returned (Value.pointer (some (⟨b6,0,none⟩:Addr)))) w_2
theorem qa6 (b:Option Addr) (b_l b_c:Nat) (R:Ending→World→Prop) (w:World):tr P qs ((Tryz.f137.body).getD .skip) zpt (zb0 0 [(0,(Value.slice b b_l b_c))]) (zcb P Tryz.f137.results.toList R) w=zsy b b_l b_c R w:=by kernel_rfl
theorem qaz {b:Option Addr} {b_l b_c:Nat} {R:Ending→World→Prop} {w:World} (hT:zsy b b_l b_c R w):qg P zue #[(Value.slice b b_l b_c)] w R :=
 zy (fn:=Tryz.f137) (c:=(Tryz.f137.body).getD .skip) (ann:=zpt) (args:=[(0,(Value.slice b b_l b_c))]) (qs:=qs) mixed Tryz.func137 rfl (by kernel_rfl) (by kernel_rfl) z9p ((qa6 b b_l b_c R w).symm ▸ hT)
def zoe:Ann:=(.seq .leaf (.seq .leaf (.join [] (.seq .leaf (.jblk [] (.seq .leaf (.cond .leaf (.seq .leaf (.cond (.seq .leaf (.seq .leaf (.blk (.loop [(26,.int .i64)] (.seq .leaf (.seq (.cond .leaf .leaf) (.seq (.blk (.tree (.op 0 [] (.op 2 [] (.op 1 [] (.op 3 [1] (.op 4 [1] (.op 5 [] (.op 6 [] (.op 7 [] .done)))))))))) .leaf))))))) (.seq .leaf (.cond (.seq .leaf (.blk (.loop [(41,.int .u64)] (.seq .leaf (.seq (.cond .leaf .leaf) (.seq (.blk (.tree (.op 0 [] (.op 2 [] (.op 4 [] (.op 8 [] (.op 1 [] (.op 3 [1] (.op 5 [1] (.op 6 [] (.op 7 [] (.op 9 [1,6] (.op 10 [] (.op 11 [1] (.op 12 [] (.op 13 [] (.op 14 [] .done))))))))))))))))) .leaf)))))) .leaf)))))))) (.seq .leaf .leaf))))
theorem qad:okC P qs Tryz.f138.ntmps ((Tryz.f138.body).getD .skip) zoe=true:=by kernel_rfl
def ztn (inv:Option Addr) (R:Ending→World→Prop) (w:World):Prop :=
  zbj (zc P zh) zh w fun b2 w_1 =>
  qy P zex #[(Value.pointer inv)] [.int .u64] false w_1 fun (t5:Int) w_2 =>
  zay P (Builtin.min_ #[zdv,zdv] zdv #[(Value.int .u64 t5),(Value.int .u64 9)]) (.int .u64) w_2 fun (t6:Int) =>
  cvI .i64 t6 fun t7 =>
  zay P (Instr.build zh #[(0,(Value.int .i64 t7))]) .any w_2 fun (t8:Value) =>
  zbj (zc P zh) zh w_2 fun b3 w_3 =>
  zbs P (storeVar zh (⟨b3,0,none⟩:Addr) t8) w_3 fun w_4 =>
  joinP Unit (fun k =>
  ld (.int .i64) (⟨b3,0,none⟩:Addr) w_4 fun (t10:Int) =>
  joinP Unit (fun k_1 =>
  xg (t10 == 1) (
  qy P ziz #[(Value.pointer inv),(Value.int .i64 64)] [.str] false w_4 fun (t14:ByteArray) w_5 =>
  stC (⟨b3,1,none⟩:Addr) (Value.string t14) w_5 fun w_6 =>
  k_1 () w_6) (
  xg (t10 == 2) (
  qy P zex #[(Value.pointer inv)] [.int .u64] false w_4 fun (t19:Int) w_7 =>
  zay P (Builtin.min_ #[zdv,zdv] zdv #[(Value.int .u64 t19),(Value.int .u64 1025)]) (.int .u64) w_7 fun (t20:Int) =>
  cvI .i64 t20 fun t21 =>
  stC (⟨b3,2,none⟩:Addr) (Value.int .i64 t21) w_7 fun w_8 =>
  ld (.int .i64) (⟨b3,2,none⟩:Addr) w_8 fun (t24:Int) =>
  qy P zi6 #[(Value.int .i64 t24)] [.int .i64] false w_8 fun (t25:Int) w_9 =>
  zav Int (fun s w_10 k_2 =>
  xg (decide (s < t25)) (
  zbd w_10 fun w_11 =>
  ld .slc (⟨b3,3,none⟩:Addr) w_11 fun (t29:(Option Addr × Nat × Nat)) =>
  qy P zgd #[(Value.pointer inv)] [.any] false w_11 fun (t31:Value) w_12 =>
  ((ld .slc (⟨b3,3,none⟩:Addr) w_12 fun (t29_1:(Option Addr × Nat × Nat)) =>
  (Value.slice t29_1.1 t29_1.2.1 t29_1.2.2)=(Value.slice t29.1 t29.2.1 t29.2.2)) ∧
  zaf P (Instr.buildSlice jr 1 #[(0,t31)]) .slc w_12 fun (t32:(Option Addr × Nat × Nat)) w_13 =>
  ((ld .slc (⟨b3,3,none⟩:Addr) w_13 fun (t29_2:(Option Addr × Nat × Nat)) =>
  (Value.slice t29_2.1 t29_2.2.1 t29_2.2.2)=(Value.slice t29.1 t29.2.1 t29.2.2)) ∧
  zaf P (Builtin.append_ #[jr,jr] jr #[(Value.slice t29.1 t29.2.1 t29.2.2),(Value.slice t32.1 t32.2.1 t32.2.2)]) .slc w_13 fun (t33:(Option Addr × Nat × Nat)) w_14 =>
  stC (⟨b3,3,none⟩:Addr) (Value.slice t33.1 t33.2.1 t33.2.2) w_14 fun w_15 =>
  za7 .i64 s 1 fun t35 =>
  k_2 t35 w_15))) (
  k_1 () w_10)) 0 w_9) (
  xg (t10 == 3) (
  qy P zex #[(Value.pointer inv)] [.int .u64] false w_4 fun (t39:Int) w_16 =>
  zay P (Builtin.min_ #[zdv,zdv] zdv #[(Value.int .u64 t39),(Value.int .u64 65)]) (.int .u64) w_16 fun (t40:Int) =>
  zav Int (fun s_1 w_17 k_3 =>
  xg (decide (s_1 < t40)) (
  zbd w_17 fun w_18 =>
  ld .slc (⟨b3,4,none⟩:Addr) w_18 fun (t44:(Option Addr × Nat × Nat)) =>
  qy P ziz #[(Value.pointer inv),(Value.int .i64 16)] [.str] false w_18 fun (t46:ByteArray) w_19 =>
  ((ld .slc (⟨b3,4,none⟩:Addr) w_19 fun (t44_1:(Option Addr × Nat × Nat)) =>
  (Value.slice t44_1.1 t44_1.2.1 t44_1.2.2)=(Value.slice t44.1 t44.2.1 t44.2.2)) ∧
  qy P zex #[(Value.pointer inv)] [.int .u64] false w_19 fun (t48:Int) w_20 =>
  ((ld .slc (⟨b3,4,none⟩:Addr) w_20 fun (t44_2:(Option Addr × Nat × Nat)) =>
  (Value.slice t44_2.1 t44_2.2.1 t44_2.2.2)=(Value.slice t44.1 t44.2.1 t44.2.2)) ∧
  zay P (Builtin.min_ #[zdv,zdv] zdv #[(Value.int .u64 t48),(Value.int .u64 9)]) (.int .u64) w_20 fun (t49:Int) =>
  cvI .i64 t49 fun t50 =>
  qy P zgd #[(Value.pointer inv)] [.any] false w_20 fun (t52:Value) w_21 =>
  ((zay P (Builtin.min_ #[zdv,zdv] zdv #[(Value.int .u64 t48),(Value.int .u64 9)]) (.int .u64) w_21 fun (t49_1:Int) =>
  (Value.int .u64 t49_1)=(Value.int .u64 t49)) ∧
  ((ld .slc (⟨b3,4,none⟩:Addr) w_21 fun (t44_3:(Option Addr × Nat × Nat)) =>
  (Value.slice t44_3.1 t44_3.2.1 t44_3.2.2)=(Value.slice t44.1 t44.2.1 t44.2.2)) ∧
  zay P (Instr.build ql #[(0,(Value.string t46)),(1,(Value.int .i64 t50)),(2,t52)]) .any w_21 fun (t53:Value) =>
  zaf P (Instr.buildSlice zad 1 #[(0,t53)]) .slc w_21 fun (t54:(Option Addr × Nat × Nat)) w_22 =>
  ((ld .slc (⟨b3,4,none⟩:Addr) w_22 fun (t44_4:(Option Addr × Nat × Nat)) =>
  (Value.slice t44_4.1 t44_4.2.1 t44_4.2.2)=(Value.slice t44.1 t44.2.1 t44.2.2)) ∧
  zaf P (Builtin.append_ #[zad,zad] zad #[(Value.slice t44.1 t44.2.1 t44.2.2),(Value.slice t54.1 t54.2.1 t54.2.2)]) .slc w_22 fun (t55:(Option Addr × Nat × Nat)) w_23 =>
  stC (⟨b3,4,none⟩:Addr) (Value.slice t55.1 t55.2.1 t55.2.2) w_23 fun w_24 =>
  za7 .u64 s_1 1 fun t57 =>
  k_3 t57 w_24)))))) (
  k_1 () w_17)) 0 w_16) (
  k_1 () w_4)))) (fun _ w_25 =>
  k () w_25)) (fun _ w_26 =>
  ldA P 5 (⟨b3,0,none⟩:Addr) w_26 fun t58 =>
  zbs P (storeVar zh (⟨b2,0,none⟩:Addr) (Value.agg t58)) w_26 fun w_27 =>
  ldA P 5 (⟨b2,0,none⟩:Addr) w_27 fun t2 =>
  R (.returned (Value.agg t2)) w_27)
theorem qb3 (inv:Option Addr) (R:Ending→World→Prop) (w:World):tr P qs ((Tryz.f138.body).getD .skip) zoe (zb0 0 [(0,(Value.pointer inv))]) (zcb P Tryz.f138.results.toList R) w=ztn inv R w:=by kernel_rfl
theorem qan {inv:Option Addr} {R:Ending→World→Prop} {w:World} (hT:ztn inv R w):qg P zte #[(Value.pointer inv)] w R :=
 zy (fn:=Tryz.f138) (c:=(Tryz.f138.body).getD .skip) (ann:=zoe) (args:=[(0,(Value.pointer inv))]) (qs:=qs) mixed Tryz.func138 rfl (by kernel_rfl) (by kernel_rfl) qad ((qb3 inv R w).symm ▸ hT)
def zk3:Ann:=(.seq .leaf (.seq .leaf .leaf))
theorem z3y:okC P qs Tryz.f139.ntmps ((Tryz.f139.body).getD .skip) zk3=true:=by kernel_rfl
def zon (i:Option Addr) (R:Ending→World→Prop) (w:World):Prop :=
  xg (!(Option.isNone i)) (
  zx i fun p =>
  ld (.int .i64) (Addr.add p 1) w fun (t9:Int) =>
  xg (t9 == 0) (
  zx i fun p_1 =>
  ld .slc p_1 w fun (t16:(Option Addr × Nat × Nat)) =>
  R (.returned (Value.bool ((t16.2.1:Int) == 0))) w) (
  R (.returned (Value.bool false)) w)) (
  R (.returned (Value.bool false)) w)
theorem z4c (i:Option Addr) (R:Ending→World→Prop) (w:World):tr P qs ((Tryz.f139.body).getD .skip) zk3 (zb0 0 [(0,(Value.pointer i))]) (zcb P Tryz.f139.results.toList R) w=zon i R w:=by kernel_rfl
theorem z2x {i:Option Addr} {R:Ending→World→Prop} {w:World} (hT:zon i R w):qg P zo3 #[(Value.pointer i)] w R :=
 zy (fn:=Tryz.f139) (c:=(Tryz.f139.body).getD .skip) (ann:=zk3) (args:=[(0,(Value.pointer i))]) (qs:=qs) mixed Tryz.func139 rfl (by kernel_rfl) (by kernel_rfl) z3y ((z4c i R w).symm ▸ hT)
def zms:Ann:=(.seq .leaf (.seq (.seq .leaf (.blk (.seq .leaf (.cond (.seq .leaf .leaf) (.seq .leaf (.cond (.seq (.tree (.op 0 [] (.op 1 [] (.op 2 [] (.op 3 [] (.op 4 [] (.op 5 [] (.op 6 [] (.op 7 [] (.op 8 [] (.op 9 [] (.op 10 [] (.op 11 [] (.op 12 [] (.op 13 [] (.op 14 [] (.op 17 [] (.op 15 [] (.op 16 [] (.op 18 [] (.op 19 [15] (.op 20 [] (.op 21 [] (.op 22 [] (.op 23 [] (.op 24 [] (.op 25 [] (.op 26 [] (.op 27 [] (.op 28 [] .done)))))))))))))))))))))))))))))) .leaf) (.seq .leaf (.cond (.seq .leaf .leaf) .leaf)))))))) (.seq .leaf .leaf)))
theorem z6m:okC P qs Tryz.f140.ntmps ((Tryz.f140.body).getD .skip) zms=true:=by kernel_rfl
def zqp (n:Value) (R:Ending→World→Prop) (w:World):Prop :=
  zbj (Value.cells n) zh w fun b1 w_1 =>
  ld (.int .i64) (⟨b1,0,none⟩:Addr) w_1 fun (t4:Int) =>
  xg (t4 == 1) (
  ld .str (⟨b1,1,none⟩:Addr) w_1 fun (t8:ByteArray) =>
  xg (decide ((t8.size:Int) > 0)) (
  ld .str (⟨b1,1,none⟩:Addr) w_1 fun (t13:ByteArray) =>
  xg (decide ((t13.size:Int)≤64)) (
  ld (.int .i64) (⟨b1,2,none⟩:Addr) w_1 fun (t19:Int) =>
  xg (t19 == 0) (
  ld .slc (⟨b1,3,none⟩:Addr) w_1 fun (t24:(Option Addr × Nat × Nat)) =>
  xg ((t24.2.1:Int) == 0) (
  ld .slc (⟨b1,4,none⟩:Addr) w_1 fun (t30:(Option Addr × Nat × Nat)) =>
  R (.returned (Value.bool ((t30.2.1:Int) == 0))) w_1) (
  R (.returned (Value.bool false)) w_1)) (
  R (.returned (Value.bool false)) w_1)) (
  R (.returned (Value.bool false)) w_1)) (
  R (.returned (Value.bool false)) w_1)) (
  xg (t4 == 2) (
  zbd w_1 fun w_2 =>
  ld .str (⟨b1,1,none⟩:Addr) w_2 fun (t37:ByteArray) =>
  xg (t37.toList == (ByteArray.mk #[]).toList) (
  ld (.int .i64) (⟨b1,2,none⟩:Addr) w_2 fun (t41:Int) =>
  xg (decide (t41 ≥ 0)) (
  ld (.int .i64) (⟨b1,2,none⟩:Addr) w_2 fun (t46:Int) =>
  xg (decide (t46≤1024)) (
  ld .slc (⟨b1,3,none⟩:Addr) w_2 fun (t51:(Option Addr × Nat × Nat)) =>
  ld (.int .i64) (⟨b1,2,none⟩:Addr) w_2 fun (t54:Int) =>
  qy P zi6 #[(Value.int .i64 t54)] [.int .i64] false w_2 fun (t55:Int) w_3 =>
  ((ld .slc (⟨b1,3,none⟩:Addr) w_3 fun (t51_1:(Option Addr × Nat × Nat)) =>
  (Value.slice t51_1.1 t51_1.2.1 t51_1.2.2)=(Value.slice t51.1 t51.2.1 t51.2.2)) ∧
  xg ((t51.2.1:Int) == t55) (
  ld .slc (⟨b1,4,none⟩:Addr) w_3 fun (t60:(Option Addr × Nat × Nat)) =>
  R (.returned (Value.bool ((t60.2.1:Int) == 0))) w_3) (
  R (.returned (Value.bool false)) w_3))) (
  ((undef=undef) ∧
  R (.returned (Value.bool false)) w_2))) (
  ((undef=undef) ∧
  R (.returned (Value.bool false)) w_2))) (
  ((undef=undef) ∧
  R (.returned (Value.bool false)) w_2))) (
  xg (t4 == 3) (
  ld .str (⟨b1,1,none⟩:Addr) w_1 fun (t67:ByteArray) =>
  xg (t67.toList == (ByteArray.mk #[]).toList) (
  ld (.int .i64) (⟨b1,2,none⟩:Addr) w_1 fun (t71:Int) =>
  xg (t71 == 0) (
  ld .slc (⟨b1,3,none⟩:Addr) w_1 fun (t76:(Option Addr × Nat × Nat)) =>
  xg ((t76.2.1:Int) == 0) (
  ld .slc (⟨b1,4,none⟩:Addr) w_1 fun (t82:(Option Addr × Nat × Nat)) =>
  qy P zpl #[(Value.slice t82.1 t82.2.1 t82.2.2)] [.bool] false w_1 fun (t83:Bool) w_4 =>
  R (.returned (Value.bool t83)) w_4) (
  R (.returned (Value.bool false)) w_1)) (
  R (.returned (Value.bool false)) w_1)) (
  R (.returned (Value.bool false)) w_1)) (
  R (.returned (Value.bool false)) w_1)))
theorem z7r (n:Value) (R:Ending→World→Prop) (w:World):tr P qs ((Tryz.f140.body).getD .skip) zms (zb0 0 [(1,n)]) (zcb P Tryz.f140.results.toList R) w=zqp n R w:=by kernel_rfl
theorem z6g {n:Value} {R:Ending→World→Prop} {w:World} (hT:zqp n R w):qg P zme #[n] w R :=
 zy (fn:=Tryz.f140) (c:=(Tryz.f140.body).getD .skip) (ann:=zms) (args:=[(1,n)]) (qs:=qs) mixed Tryz.func140 rfl (by kernel_rfl) (by kernel_rfl) z6m ((z7r n R w).symm ▸ hT)
def znq:Ann:=(.seq .leaf (.seq (.seq .leaf (.cond (.seq .leaf .leaf) .leaf)) (.seq .leaf (.seq (.seq .leaf (.blk (.loop [(3,.int .u64),(4,.int .i64)] (.seq (.seq .leaf (.cond .leaf .leaf)) (.seq (.jblk [(3,.int .u64)] (.seq (.seq (.tree (.op 0 [] (.op 1 [] (.op 2 [] (.op 4 [] (.op 5 [] (.op 6 [] (.op 3 [] (.op 7 [] (.op 8 [] (.op 9 [] .done))))))))))) (.cond (.seq .leaf (.seq .leaf .leaf)) .leaf)) (.seq (.tree (.op 0 [] (.op 1 [] (.op 2 [] (.op 4 [] (.op 5 [] (.op 6 [] (.op 3 [] (.op 7 [] (.op 8 [] (.op 9 [] (.op 10 [] .done)))))))))))) (.seq .leaf (.join [] (.seq .leaf (.cond (.seq .leaf (.seq .leaf .leaf)) .leaf)) (.seq .leaf (.seq .leaf (.cond (.seq .leaf .leaf) .leaf)))))))) .leaf))))) (.seq .leaf .leaf)))))
theorem z8t:okC P qs Tryz.f142.ntmps ((Tryz.f142.body).getD .skip) znq=true:=by kernel_rfl
def zrz (i:Option Addr) (R:Ending→World→Prop) (w:World):Prop :=
  zx i fun p =>
  ld (.int .i64) (Addr.add p 2) w fun (t9:Int) =>
  xg (t9 != 0) (
  R (.returned (Value.int .u64 0)) w) (
  zav (Int × Int) (fun s w_1 k =>
  xg (decide (s.2 < 10)) (
  joinP Int (fun k_1 =>
  zbd w_1 fun w_2 =>
  zx i fun p_1 =>
  zx i fun p_2 =>
  ld (.int .i64) (Addr.add p_1 1) w_2 fun (t18:Int) =>
  ld .slc p_2 w_2 fun (t22:(Option Addr × Nat × Nat)) =>
  xg (decide (t18 ≥ (t22.2.1:Int))) (
  qy P zch #[(Value.pointer i),(Value.int .i64 20)] [] true w_2 fun (_:Unit) w_3 =>
  R (.returned (Value.int .u64 0)) w_3) (
  zbd w_2 fun w_4 =>
  zx i fun p_3 =>
  zx i fun p_4 =>
  ld .slc p_3 w_4 fun (t30:(Option Addr × Nat × Nat)) =>
  ld (.int .i64) (Addr.add p_4 1) w_4 fun (t34:Int) =>
  ixS t30.1 t30.2.1 1 t34 fun t35 =>
  ld (.int .u8) t35 w_4 fun (t36:Int) =>
  zx i fun p_5 =>
  ld (.int .i64) (Addr.add p_5 1) w_4 fun (t40:Int) =>
  za7 .i64 t40 1 fun t41 =>
  zx i fun p_6 =>
  stC (Addr.add p_6 1) (Value.int .i64 t41) w_4 fun w_5 =>
  joinP Unit (fun k_2 =>
  xg (s.2 == 9) (
  xg (decide (t36 > 1)) (
  qy P zch #[(Value.pointer i),(Value.int .i64 21)] [] true w_5 fun (_:Unit) w_6 =>
  R (.returned (Value.int .u64 0)) w_6) (
  xg (decide (s.2 > 0)) (
  xg (t36 == 0) (
  qy P zch #[(Value.pointer i),(Value.int .i64 21)] [] true w_5 fun (_:Unit) w_7 =>
  R (.returned (Value.int .u64 0)) w_7) (
  k_2 () w_5)) (
  k_2 () w_5))) (
  xg (decide (s.2 > 0)) (
  xg (t36 == 0) (
  qy P zch #[(Value.pointer i),(Value.int .i64 21)] [] true w_5 fun (_:Unit) w_8 =>
  R (.returned (Value.int .u64 0)) w_8) (
  k_2 () w_5)) (
  k_2 () w_5))) (fun _ w_9 =>
  qla t36 128 fun t62 =>
  cvI .u64 t62 fun t63 =>
  zy3 .i64 7 s.2 fun t65 =>
  cvI .u64 t65 fun t66 =>
  qka .u64 t63 t66 fun t67 =>
  orI .u64 s.1 t67 fun t68 =>
  xg (decide (t36 < 128)) (
  R (.returned (Value.int .u64 t68)) w_9) (
  k_1 t68 w_9)))) (fun s_2 w_10 =>
  za7 .i64 s.2 1 fun t14 =>
  k (s_2,t14) w_10)) (
  R (.returned (Value.int .u64 0)) w_1)) (0,0) w)
theorem z6x (i:Option Addr) (R:Ending→World→Prop) (w:World):tr P qs ((Tryz.f142.body).getD .skip) znq (zb0 0 [(0,(Value.pointer i))]) (zcb P Tryz.f142.results.toList R) w=zrz i R w:=by kernel_rfl
theorem z6c {i:Option Addr} {R:Ending→World→Prop} {w:World} (hT:zrz i R w):qg P zfw #[(Value.pointer i)] w R :=
 zy (fn:=Tryz.f142) (c:=(Tryz.f142.body).getD .skip) (ann:=znq) (args:=[(0,(Value.pointer i))]) (qs:=qs) mixed Tryz.func142 rfl (by kernel_rfl) (by kernel_rfl) z8t ((z6x i R w).symm ▸ hT)
def zlt:Ann:=(.seq .leaf (.seq .leaf (.seq (.seq .leaf (.cond (.seq .leaf .leaf) .leaf)) (.join [] (.seq .leaf (.cond (.seq .leaf (.seq .leaf .leaf)) .leaf)) (.seq (.seq .leaf (.cond (.seq .leaf (.seq .leaf .leaf)) .leaf)) (.seq (.tree (.op 0 [] (.op 1 [] (.op 2 [] (.op 4 [] (.op 5 [] (.op 6 [] (.op 8 [] (.op 9 [] (.op 10 [] (.op 12 [] (.op 13 [] (.op 3 [] (.op 7 [] (.op 11 [] (.op 14 [] (.op 15 [] (.op 16 [] (.op 17 [] .done))))))))))))))))))) (.seq .leaf (.seq .leaf .leaf))))))))
theorem z2s:okC P qs Tryz.f143.ntmps ((Tryz.f143.body).getD .skip) zlt=true:=by kernel_rfl
def zof (i:Option Addr) (most:Int) (R:Ending→World→Prop) (w:World):Prop :=
  qy P zfw #[(Value.pointer i)] [.int .u64] false w fun (t8:Int) w_1 =>
  zx i fun p =>
  ld (.int .i64) (Addr.add p 2) w_1 fun (t12:Int) =>
  xg (t12 != 0) (
  R (.returned (Value.string (ByteArray.mk #[]))) w_1) (
  joinP Unit (fun k =>
  xg (decide (most < 0)) (
  xg (decide (t8 > 0)) (
  qy P zch #[(Value.pointer i),(Value.int .i64 2)] [] true w_1 fun (_:Unit) w_2 =>
  R (.returned (Value.string (ByteArray.mk #[]))) w_2) (
  xg (decide (most ≥ 0)) (
  cvI .u64 most fun t26 =>
  xg (decide (t8 > t26)) (
  qy P zch #[(Value.pointer i),(Value.int .i64 2)] [] true w_1 fun (_:Unit) w_3 =>
  R (.returned (Value.string (ByteArray.mk #[]))) w_3) (
  k () w_1)) (
  k () w_1))) (
  xg (decide (most ≥ 0)) (
  cvI .u64 most fun t26_1 =>
  xg (decide (t8 > t26_1)) (
  qy P zch #[(Value.pointer i),(Value.int .i64 2)] [] true w_1 fun (_:Unit) w_4 =>
  R (.returned (Value.string (ByteArray.mk #[]))) w_4) (
  k () w_1)) (
  k () w_1))) (fun _ w_5 =>
  qy P zhb #[(Value.pointer i)] [.int .i64] false w_5 fun (t34:Int) w_6 =>
  cvI .u64 t34 fun t35 =>
  xg (decide (t8 > t35)) (
  qy P zch #[(Value.pointer i),(Value.int .i64 20)] [] true w_6 fun (_:Unit) w_7 =>
  R (.returned (Value.string (ByteArray.mk #[]))) w_7) (
  zbd w_6 fun w_8 =>
  zx i fun p_1 =>
  zx i fun p_2 =>
  zx i fun p_3 =>
  cvI .i64 t8 fun t52 =>
  ld .slc p_1 w_8 fun (t42:(Option Addr × Nat × Nat)) =>
  ld (.int .i64) (Addr.add p_2 1) w_8 fun (t46:Int) =>
  ld (.int .i64) (Addr.add p_3 1) w_8 fun (t50:Int) =>
  za7 .i64 t50 t52 fun t53 =>
  zay P (Instr.sliceAt zk (Value.slice t42.1 t42.2.1 t42.2.2) (some (Value.int .i64 t46)) (some (Value.int .i64 t53)) none) .slc w_8 fun (t54:(Option Addr × Nat × Nat)) =>
  zay P (convert zk qc (Value.slice t54.1 t54.2.1 t54.2.2)) .str w_8 fun (t55:ByteArray) =>
  zx i fun p_4 =>
  ld (.int .i64) (Addr.add p_4 1) w_8 fun (t59:Int) =>
  cvI .i64 t8 fun t61 =>
  za7 .i64 t59 t61 fun t62 =>
  zx i fun p_5 =>
  stC (Addr.add p_5 1) (Value.int .i64 t62) w_8 fun w_9 =>
  R (.returned (Value.string t55)) w_9)))
theorem z4a (i:Option Addr) (most:Int) (R:Ending→World→Prop) (w:World):tr P qs ((Tryz.f143.body).getD .skip) zlt (zb0 0 [(0,(Value.pointer i)),(0,(Value.int .i64 most))]) (zcb P Tryz.f143.results.toList R) w=zof i most R w:=by kernel_rfl
theorem z2p {i:Option Addr} {most:Int} {R:Ending→World→Prop} {w:World} (hT:zof i most R w):qg P zki #[(Value.pointer i),(Value.int .i64 most)] w R :=
 zy (fn:=Tryz.f143) (c:=(Tryz.f143.body).getD .skip) (ann:=zlt) (args:=[(0,(Value.pointer i)),(0,(Value.int .i64 most))]) (qs:=qs) mixed Tryz.func143 rfl (by kernel_rfl) (by kernel_rfl) z2s ((z4a i most R w).symm ▸ hT)
def zh7:Ann:=(.seq .leaf (.seq .leaf (.seq (.seq .leaf (.cond (.seq .leaf .leaf) .leaf)) (.seq (.seq .leaf (.cond (.seq .leaf (.seq .leaf .leaf)) .leaf)) (.seq (.seq .leaf (.blk (.loop [(4,.int .i64)] (.seq (.seq .leaf (.cond .leaf .leaf)) (.seq (.blk (.tree (.op 0 [] (.op 1 [] (.op 2 [] (.op 3 [] (.op 5 [] (.op 6 [] (.op 7 [] (.op 9 [] (.op 4 [] (.op 8 [] (.op 10 [] (.op 11 [] (.op 12 [] (.op 13 [] (.op 14 [] .done))))))))))))))))) .leaf))))) (.seq .leaf (.seq .leaf .leaf)))))))
theorem zx8:okC P qs Tryz.f144.ntmps ((Tryz.f144.body).getD .skip) zh7=true:=by kernel_rfl
def zls (i:Option Addr) (R:Ending→World→Prop) (w:World):Prop :=
  zbj (zc P zf) zf w fun b2 w_1 =>
  zbj (zc P zf) zf w_1 fun b3 w_2 =>
  zx i fun p =>
  ld (.int .i64) (Addr.add p 2) w_2 fun (t8:Int) =>
  xg (t8 != 0) (
  ldA P 32 (⟨b3,0,none⟩:Addr) w_2 fun t10 =>
  zbs P (storeVar zf (⟨b2,0,none⟩:Addr) (Value.agg t10)) w_2 fun w_3 =>
  ldA P 32 (⟨b2,0,none⟩:Addr) w_3 fun t2 =>
  R (.returned (Value.agg t2)) w_3) (
  qy P zhb #[(Value.pointer i)] [.int .i64] false w_2 fun (t12:Int) w_4 =>
  xg (decide (t12 < 32)) (
  qy P zch #[(Value.pointer i),(Value.int .i64 20)] [] true w_4 fun (_:Unit) w_5 =>
  ldA P 32 (⟨b3,0,none⟩:Addr) w_5 fun t16 =>
  zbs P (storeVar zf (⟨b2,0,none⟩:Addr) (Value.agg t16)) w_5 fun w_6 =>
  ldA P 32 (⟨b2,0,none⟩:Addr) w_6 fun t2_1 =>
  R (.returned (Value.agg t2_1)) w_6) (
  zav Int (fun s w_7 k =>
  xg (decide (s < 32)) (
  zbd w_7 fun w_8 =>
  zx i fun p_1 =>
  zx i fun p_2 =>
  ld .slc p_1 w_8 fun (t25:(Option Addr × Nat × Nat)) =>
  ld (.int .i64) (Addr.add p_2 1) w_8 fun (t29:Int) =>
  za7 .i64 t29 s fun t31 =>
  ixS t25.1 t25.2.1 1 t31 fun t32 =>
  ld (.int .u8) t32 w_8 fun (t33:Int) =>
  ixR (⟨b3,0,none⟩:Addr) 32 1 s fun t34 =>
  stC t34 (Value.int .u8 t33) w_8 fun w_9 =>
  za7 .i64 s 1 fun t20 =>
  k t20 w_9) (
  zx i fun p_3 =>
  ld (.int .i64) (Addr.add p_3 1) w_7 fun (t38:Int) =>
  za7 .i64 t38 32 fun t39 =>
  zx i fun p_4 =>
  stC (Addr.add p_4 1) (Value.int .i64 t39) w_7 fun w_10 =>
  ldA P 32 (⟨b3,0,none⟩:Addr) w_10 fun t42 =>
  zbs P (storeVar zf (⟨b2,0,none⟩:Addr) (Value.agg t42)) w_10 fun w_11 =>
  ldA P 32 (⟨b2,0,none⟩:Addr) w_11 fun t2_2 =>
  R (.returned (Value.agg t2_2)) w_11)) 0 w_4))
theorem zyi (i:Option Addr) (R:Ending→World→Prop) (w:World):tr P qs ((Tryz.f144.body).getD .skip) zh7 (zb0 0 [(0,(Value.pointer i))]) (zcb P Tryz.f144.results.toList R) w=zls i R w:=by kernel_rfl
theorem zx6 {i:Option Addr} {R:Ending→World→Prop} {w:World} (hT:zls i R w):qg P zg8 #[(Value.pointer i)] w R :=
 zy (fn:=Tryz.f144) (c:=(Tryz.f144.body).getD .skip) (ann:=zh7) (args:=[(0,(Value.pointer i))]) (qs:=qs) mixed Tryz.func144 rfl (by kernel_rfl) (by kernel_rfl) zx8 ((zyi i R w).symm ▸ hT)
def zlw:Ann:=(.seq .leaf (.seq (.tree (.op 0 [] (.op 1 [] (.op 2 [] (.op 5 [] (.op 6 [] (.op 7 [] (.op 3 [] (.op 4 [] (.op 8 [] (.op 9 [] (.op 10 [] .done)))))))))))) .leaf))
theorem z2l:okC P qs Tryz.f145.ntmps ((Tryz.f145.body).getD .skip) zlw=true:=by kernel_rfl
def zoo (i:Option Addr) (R:Ending→World→Prop) (w:World):Prop :=
  zbd w fun w_1 =>
  zx i fun p =>
  zx i fun p_1 =>
  ld .slc p w_1 fun (t6:(Option Addr × Nat × Nat)) =>
  ld (.int .i64) (Addr.add p_1 1) w_1 fun (t11:Int) =>
  zl4 .i64 (t6.2.1:Int) t11 fun t12 =>
  R (.returned (Value.int .i64 t12)) w_1
theorem z3d (i:Option Addr) (R:Ending→World→Prop) (w:World):tr P qs ((Tryz.f145.body).getD .skip) zlw (zb0 0 [(0,(Value.pointer i))]) (zcb P Tryz.f145.results.toList R) w=zoo i R w:=by kernel_rfl
theorem z4n {i:Option Addr} {R:Ending→World→Prop} {w:World} (hT:zoo i R w):qg P zhb #[(Value.pointer i)] w R :=
 zy (fn:=Tryz.f145) (c:=(Tryz.f145.body).getD .skip) (ann:=zlw) (args:=[(0,(Value.pointer i))]) (qs:=qs) mixed Tryz.func145 rfl (by kernel_rfl) (by kernel_rfl) z2l ((z3d i R w).symm ▸ hT)
def zlx:Ann:=(.seq .leaf (.seq .leaf (.seq .leaf (.blk (.loop [(3,.int .u64),(4,.int .i64)] (.seq (.jblk [(3,.int .u64)] (.seq .leaf (.seq (.seq .leaf (.cond (.seq .leaf .leaf) .leaf)) (.join [] (.seq .leaf (.cond (.seq .leaf (.seq .leaf .leaf)) .leaf)) (.seq .leaf (.seq .leaf (.cond (.seq .leaf .leaf) .leaf))))))) .leaf))))))
theorem z3e:okC P qs Tryz.f176.ntmps ((Tryz.f176.body).getD .skip) zlx=true:=by kernel_rfl
def zpn (i:Option Addr) (R:Ending→World→Prop) (w:World):Prop :=
  zav (Int × Int) (fun s w_1 k =>
  joinP Int (fun k_1 =>
  qy P znb #[(Value.pointer i)] [.int .u8,.bool] true w_1 fun (t11:(Int × Bool)) w_2 =>
  xg (!t11.2) (
  R (.returned (Value.int .u64 0)) w_2) (
  joinP Unit (fun k_2 =>
  xg (s.2 == 9) (
  xg (decide (t11.1 > 1)) (
  qy P zc1 #[(Value.pointer i),(Value.int .i64 21)] [] true w_2 fun (_:Unit) w_3 =>
  R (.returned (Value.int .u64 0)) w_3) (
  xg (decide (s.2 > 0)) (
  xg (t11.1 == 0) (
  qy P zc1 #[(Value.pointer i),(Value.int .i64 21)] [] true w_2 fun (_:Unit) w_4 =>
  R (.returned (Value.int .u64 0)) w_4) (
  k_2 () w_2)) (
  k_2 () w_2))) (
  xg (decide (s.2 > 0)) (
  xg (t11.1 == 0) (
  qy P zc1 #[(Value.pointer i),(Value.int .i64 21)] [] true w_2 fun (_:Unit) w_5 =>
  R (.returned (Value.int .u64 0)) w_5) (
  k_2 () w_2)) (
  k_2 () w_2))) (fun _ w_6 =>
  qeq .u8 t11.1 127 fun t34 =>
  cvI .u64 t34 fun t35 =>
  zy3 .i64 7 s.2 fun t37 =>
  qka .u64 t35 t37 fun t38 =>
  orI .u64 s.1 t38 fun t39 =>
  xg (decide (t11.1 < 128)) (
  R (.returned (Value.int .u64 t39)) w_6) (
  k_1 t39 w_6)))) (fun s_2 w_7 =>
  za7 .i64 s.2 1 fun t8 =>
  k (s_2,t8) w_7)) (0,0) w
theorem z3a (i:Option Addr) (R:Ending→World→Prop) (w:World):tr P qs ((Tryz.f176.body).getD .skip) zlx (zb0 0 [(0,(Value.pointer i))]) (zcb P Tryz.f176.results.toList R) w=zpn i R w:=by kernel_rfl
theorem z2z {i:Option Addr} {R:Ending→World→Prop} {w:World} (hT:zpn i R w):qg P zex #[(Value.pointer i)] w R :=
 zy (fn:=Tryz.f176) (c:=(Tryz.f176.body).getD .skip) (ann:=zlx) (args:=[(0,(Value.pointer i))]) (qs:=qs) mixed Tryz.func176 rfl (by kernel_rfl) (by kernel_rfl) z3e ((z3a i R w).symm ▸ hT)
def zj4:Ann:=(.seq .leaf (.seq .leaf (.join [] (.seq .leaf (.cond (.seq .leaf .leaf) .leaf)) (.seq (.seq .leaf (.cond (.seq .leaf (.seq .leaf .leaf)) .leaf)) (.seq .leaf .leaf)))))
theorem zzj:okC P qs Tryz.f177.ntmps ((Tryz.f177.body).getD .skip) zj4=true:=by kernel_rfl
def zm1 (i:Option Addr) (most:Int) (R:Ending→World→Prop) (w:World):Prop :=
  qy P zex #[(Value.pointer i)] [.int .u64] false w fun (t7:Int) w_1 =>
  joinP Unit (fun k =>
  xg (Option.isNone i) (
  R (.returned (Value.string (ByteArray.mk #[]))) w_1) (
  zx i fun p =>
  ld (.int .i64) (Addr.add p 1) w_1 fun (t14:Int) =>
  xg (t14 != 0) (
  R (.returned (Value.string (ByteArray.mk #[]))) w_1) (
  k () w_1))) (fun _ w_2 =>
  zay P (Builtin.max_ #[zds,zds] zds #[(Value.int .i64 most),(Value.int .i64 0)]) (.int .i64) w_2 fun (t19:Int) =>
  cvI .u64 t19 fun t20 =>
  xg (decide (t7 > t20)) (
  qy P zc1 #[(Value.pointer i),(Value.int .i64 2)] [] true w_2 fun (_:Unit) w_3 =>
  R (.returned (Value.string (ByteArray.mk #[]))) w_3) (
  cvI .i64 t7 fun t26 =>
  qy P zf8 #[(Value.pointer i),(Value.int .i64 t26)] [.slc] false w_2 fun (t27:(Option Addr × Nat × Nat)) w_4 =>
  zay P (convert zk qc (Value.slice t27.1 t27.2.1 t27.2.2)) .str w_4 fun (t28:ByteArray) =>
  R (.returned (Value.string t28)) w_4))
theorem z1a (i:Option Addr) (most:Int) (R:Ending→World→Prop) (w:World):tr P qs ((Tryz.f177.body).getD .skip) zj4 (zb0 0 [(0,(Value.pointer i)),(0,(Value.int .i64 most))]) (zcb P Tryz.f177.results.toList R) w=zm1 i most R w:=by kernel_rfl
theorem zz4 {i:Option Addr} {most:Int} {R:Ending→World→Prop} {w:World} (hT:zm1 i most R w):qg P ziz #[(Value.pointer i),(Value.int .i64 most)] w R :=
 zy (fn:=Tryz.f177) (c:=(Tryz.f177.body).getD .skip) (ann:=zj4) (args:=[(0,(Value.pointer i)),(0,(Value.int .i64 most))]) (qs:=qs) mixed Tryz.func177 rfl (by kernel_rfl) (by kernel_rfl) zzj ((z1a i most R w).symm ▸ hT)
def znh:Ann:=(.seq .leaf (.seq .leaf .leaf))
theorem z7f:okC P qs Tryz.f178.ntmps ((Tryz.f178.body).getD .skip) znh=true:=by kernel_rfl
def zmi (size:Int) (R:Ending→World→Prop) (w:World):Prop :=
  za7 .i64 size 64 fun t4 =>
  zl4 .i64 t4 1 fun t5 =>
  qle .i64 t5 64 fun t6 =>
  R (.returned (Value.int .i64 t6)) w
theorem z8w (size:Int) (R:Ending→World→Prop) (w:World):tr P qs ((Tryz.f178.body).getD .skip) znh (zb0 0 [(0,(Value.int .i64 size))]) (zcb P Tryz.f178.results.toList R) w=zmi size R w:=by kernel_rfl
theorem zut {size:Int} {R:Ending→World→Prop} {w:World} (hT:zmi size R w):qg P zi6 #[(Value.int .i64 size)] w R :=
 zy (fn:=Tryz.f178) (c:=(Tryz.f178.body).getD .skip) (ann:=znh) (args:=[(0,(Value.int .i64 size))]) (qs:=qs) mixed Tryz.func178 rfl (by kernel_rfl) (by kernel_rfl) z7f ((z8w size R w).symm ▸ hT)
def zho:Ann:=(.seq .leaf (.seq .leaf (.seq (.tree (.op 1 [] (.op 0 [] (.op 2 [0] (.op 3 [] .done))))) (.seq .leaf .leaf))))
theorem zxe:okC P qs Tryz.f179.ntmps ((Tryz.f179.body).getD .skip) zho=true:=by kernel_rfl
def zjs (i:Option Addr) (R:Ending→World→Prop) (w:World):Prop :=
  zbj (zc P zf) zf w fun b2 w_1 =>
  zbj (zc P zf) zf w_1 fun b3 w_2 =>
  zbd w_2 fun w_3 =>
  zay P (Instr.sliceAt zf (Value.pointer (some (⟨b3,0,none⟩:Addr))) none none none) .slc w_3 fun (t4:(Option Addr × Nat × Nat)) =>
  qy P zf8 #[(Value.pointer i),(Value.int .i64 32)] [.slc] false w_3 fun (t6:(Option Addr × Nat × Nat)) w_4 =>
  ((zay P (Instr.sliceAt zf (Value.pointer (some (⟨b3,0,none⟩:Addr))) none none none) .slc w_4 fun (t4_1:(Option Addr × Nat × Nat)) =>
  (Value.slice t4_1.1 t4_1.2.1 t4_1.2.2)=(Value.slice t4.1 t4.2.1 t4.2.2)) ∧
  zaf P (Builtin.copy_ #[zk,zk] zds #[(Value.slice t4.1 t4.2.1 t4.2.2),(Value.slice t6.1 t6.2.1 t6.2.2)]) (.int .i64) w_4 fun (_:Int) w_5 =>
  ldA P 32 (⟨b3,0,none⟩:Addr) w_5 fun t8 =>
  zbs P (storeVar zf (⟨b2,0,none⟩:Addr) (Value.agg t8)) w_5 fun w_6 =>
  ldA P 32 (⟨b2,0,none⟩:Addr) w_6 fun t2 =>
  R (.returned (Value.agg t2)) w_6)
theorem zwg (i:Option Addr) (R:Ending→World→Prop) (w:World):tr P qs ((Tryz.f179.body).getD .skip) zho (zb0 0 [(0,(Value.pointer i))]) (zcb P Tryz.f179.results.toList R) w=zjs i R w:=by kernel_rfl
theorem zxl {i:Option Addr} {R:Ending→World→Prop} {w:World} (hT:zjs i R w):qg P zgd #[(Value.pointer i)] w R :=
 zy (fn:=Tryz.f179) (c:=(Tryz.f179.body).getD .skip) (ann:=zho) (args:=[(0,(Value.pointer i))]) (qs:=qs) mixed Tryz.func179 rfl (by kernel_rfl) (by kernel_rfl) zxe ((zwg i R w).symm ▸ hT)
def zlk:Ann:=(.seq .leaf (.seq .leaf (.seq (.seq .leaf (.blk (.loop [(3,.str),(8,.int .i64)] (.seq .leaf (.seq (.cond .leaf .leaf) (.seq (.jblk [(3,.str)] (.seq .leaf (.join [] (.seq .leaf (.cond (.seq .leaf .leaf) .leaf)) (.seq .leaf (.jblk [(3,.str)] (.seq (.blk (.join [] (.jblk [] (.blk (.seq (.seq (.seq .leaf (.cond .leaf .leaf)) (.seq .leaf (.cond .leaf .leaf))) .leaf))) (.seq .leaf .leaf))) (.seq (.seq .leaf .leaf) .leaf))))))) .leaf)))))) (.seq .leaf .leaf))))
theorem z3k:okC P qs Tryz.f180.ntmps ((Tryz.f180.body).getD .skip) zlk=true:=by kernel_rfl
def zo1 (items:Option Addr) (items_l items_c:Nat) (R:Ending→World→Prop) (w:World):Prop :=
  zav (ByteArray × Int) (fun s w_1 k =>
  xg (decide (s.2 < (items_l:Int))) (
  joinP ByteArray (fun k_1 =>
  ixS items items_l 34 s.2 fun t10 =>
  ldA P 34 t10 w_1 fun t11 =>
  zbj (zc P ql) ql w_1 fun b5 w_2 =>
  zbs P (storeVar ql (⟨b5,0,none⟩:Addr) (Value.agg t11)) w_2 fun w_3 =>
  joinP Unit (fun k_2 =>
  ld .str (⟨b5,0,none⟩:Addr) w_3 fun (t13:ByteArray) =>
  xg ((Op.bytesLess t13.toList s.1.toList) || (t13.toList == s.1.toList)) (
  R (.returned (Value.bool false)) w_3) (
  ld .str (⟨b5,0,none⟩:Addr) w_3 fun (t18:ByteArray) =>
  zaf P (Instr.buildSlice qw 1 #[(0,(Value.string t18))]) .slc w_3 fun (t19:(Option Addr × Nat × Nat)) w_4 =>
  qy P zpi #[(Value.slice t19.1 t19.2.1 t19.2.2)] [.int .i64] false w_4 fun (t20:Int) w_5 =>
  xg (t20 != 0) (
  R (.returned (Value.bool false)) w_5) (
  k_2 () w_5))) (fun _ w_6 =>
  ld (.int .i64) (⟨b5,1,none⟩:Addr) w_6 fun (t24:Int) =>
  joinP ByteArray (fun k_3 =>
  joinP Unit (fun k_4 =>
  joinP Unit (fun k_5 =>
  xg (t24 == 2) (
  k_5 () w_6) (
  xg (t24 == 3) (
  k_5 () w_6) (
  R (.returned (Value.bool false)) w_6))) (fun _ w_7 =>
  k_4 () w_7)) (fun _ w_8 =>
  ld .str (⟨b5,0,none⟩:Addr) w_8 fun (t30:ByteArray) =>
  k_3 t30 w_8)) (fun s_4 w_9 =>
  k_1 s_4 w_9))) (fun s_5 w_10 =>
  za7 .i64 s.2 1 fun t31 =>
  k (s_5,t31) w_10)) (
  R (.returned (Value.bool (decide ((items_l:Int)≤64)))) w_1)) ((ByteArray.mk #[]),0) w
theorem z4j (items:Option Addr) (items_l items_c:Nat) (R:Ending→World→Prop) (w:World):tr P qs ((Tryz.f180.body).getD .skip) zlk (zb0 0 [(0,(Value.slice items items_l items_c))]) (zcb P Tryz.f180.results.toList R) w=zo1 items items_l items_c R w:=by kernel_rfl
theorem z3s {items:Option Addr} {items_l items_c:Nat} {R:Ending→World→Prop} {w:World} (hT:zo1 items items_l items_c R w):qg P zpl #[(Value.slice items items_l items_c)] w R :=
 zy (fn:=Tryz.f180) (c:=(Tryz.f180.body).getD .skip) (ann:=zlk) (args:=[(0,(Value.slice items items_l items_c))]) (qs:=qs) mixed Tryz.func180 rfl (by kernel_rfl) (by kernel_rfl) z3k ((z4j items items_l items_c R w).symm ▸ hT)
def zm8:Ann:=(.seq .leaf .leaf)
theorem z81:okC P qs Tryz.f181.ntmps ((Tryz.f181.body).getD .skip) zm8=true:=by kernel_rfl
def zrq (i:Option Addr) (e:Int) (R:Ending→World→Prop) (w:World):Prop :=
  zx i fun p =>
  stC (Addr.add p 2) (Value.int .i64 e) w fun w_1 =>
  zx i fun p_1 =>
  ld .slc p_1 w_1 fun (t12:(Option Addr × Nat × Nat)) =>
  zx i fun p_2 =>
  stC (Addr.add p_2 1) (Value.int .i64 (t12.2.1:Int)) w_1 fun w_2 =>
  R (.returned (Value.tuple #[])) w_2
theorem z6s (i:Option Addr) (e:Int) (R:Ending→World→Prop) (w:World):tr P qs ((Tryz.f181.body).getD .skip) zm8 (zb0 0 [(0,(Value.pointer i)),(0,(Value.int .i64 e))]) (zcb P Tryz.f181.results.toList R) w=zrq i e R w:=by kernel_rfl
theorem z6t {i:Option Addr} {e:Int} {R:Ending→World→Prop} {w:World} (hT:zrq i e R w):qg P zch #[(Value.pointer i),(Value.int .i64 e)] w R :=
 zy (fn:=Tryz.f181) (c:=(Tryz.f181.body).getD .skip) (ann:=zm8) (args:=[(0,(Value.pointer i)),(0,(Value.int .i64 e))]) (qs:=qs) mixed Tryz.func181 rfl (by kernel_rfl) (by kernel_rfl) z81 ((z6s i e R w).symm ▸ hT)
def zjd:Ann:=(.seq .leaf (.join [] (.seq .leaf (.cond (.seq .leaf .leaf) .leaf)) (.seq (.seq .leaf (.cond (.seq .leaf (.seq .leaf .leaf)) .leaf)) (.seq .leaf (.seq .leaf (.seq .leaf .leaf))))))
theorem z05:okC P qs Tryz.f204.ntmps ((Tryz.f204.body).getD .skip) zjd=true:=by kernel_rfl
def znc (i:Option Addr) (R:Ending→World→Prop) (w:World):Prop :=
  joinP Unit (fun k =>
  xg (Option.isNone i) (
  R (.returned (Value.tuple #[(Value.int .u8 0),(Value.bool false)])) w) (
  zx i fun p =>
  ld (.int .i64) (Addr.add p 1) w fun (t11:Int) =>
  xg (t11 != 0) (
  R (.returned (Value.tuple #[(Value.int .u8 0),(Value.bool false)])) w) (
  k () w))) (fun _ w_1 =>
  zx i fun p_1 =>
  ld .slc p_1 w_1 fun (t17:(Option Addr × Nat × Nat)) =>
  xg ((t17.2.1:Int) == 0) (
  qy P zc1 #[(Value.pointer i),(Value.int .i64 20)] [] true w_1 fun (_:Unit) w_2 =>
  R (.returned (Value.tuple #[(Value.int .u8 0),(Value.bool false)])) w_2) (
  zx i fun p_2 =>
  ld .slc p_2 w_1 fun (t25:(Option Addr × Nat × Nat)) =>
  ixS t25.1 t25.2.1 1 0 fun t26 =>
  ld (.int .u8) t26 w_1 fun (t27:Int) =>
  zx i fun p_3 =>
  ld .slc p_3 w_1 fun (t32:(Option Addr × Nat × Nat)) =>
  zay P (Instr.sliceAt zk (Value.slice t32.1 t32.2.1 t32.2.2) (some (Value.int .i64 1)) none none) .slc w_1 fun (t33:(Option Addr × Nat × Nat)) =>
  zx i fun p_4 =>
  stC p_4 (Value.slice t33.1 t33.2.1 t33.2.2) w_1 fun w_3 =>
  R (.returned (Value.tuple #[(Value.int .u8 t27),(Value.bool true)])) w_3))
theorem z1e (i:Option Addr) (R:Ending→World→Prop) (w:World):tr P qs ((Tryz.f204.body).getD .skip) zjd (zb0 0 [(0,(Value.pointer i))]) (zcb P Tryz.f204.results.toList R) w=znc i R w:=by kernel_rfl
theorem z1y {i:Option Addr} {R:Ending→World→Prop} {w:World} (hT:znc i R w):qg P znb #[(Value.pointer i)] w R :=
 zy (fn:=Tryz.f204) (c:=(Tryz.f204.body).getD .skip) (ann:=zjd) (args:=[(0,(Value.pointer i))]) (qs:=qs) mixed Tryz.func204 rfl (by kernel_rfl) (by kernel_rfl) z05 ((z1e i R w).symm ▸ hT)
def zjt:Ann:=.leaf
theorem z0l:okC P qs Tryz.f205.ntmps ((Tryz.f205.body).getD .skip) zjt=true:=by kernel_rfl
def zmr (i:Option Addr) (e:Int) (R:Ending→World→Prop) (w:World):Prop :=
  zx i fun p =>
  stC p (Value.slice none 0 0) w fun w_1 =>
  zx i fun p_1 =>
  stC (Addr.add p_1 1) (Value.int .i64 e) w_1 fun w_2 =>
  R (.returned (Value.tuple #[])) w_2
theorem z0m (i:Option Addr) (e:Int) (R:Ending→World→Prop) (w:World):tr P qs ((Tryz.f205.body).getD .skip) zjt (zb0 0 [(0,(Value.pointer i)),(0,(Value.int .i64 e))]) (zcb P Tryz.f205.results.toList R) w=zmr i e R w:=by kernel_rfl
theorem z1g {i:Option Addr} {e:Int} {R:Ending→World→Prop} {w:World} (hT:zmr i e R w):qg P zc1 #[(Value.pointer i),(Value.int .i64 e)] w R :=
 zy (fn:=Tryz.f205) (c:=(Tryz.f205.body).getD .skip) (ann:=zjt) (args:=[(0,(Value.pointer i)),(0,(Value.int .i64 e))]) (qs:=qs) mixed Tryz.func205 rfl (by kernel_rfl) (by kernel_rfl) z0l ((z0m i e R w).symm ▸ hT)
def zj6:Ann:=(.seq .leaf (.join [] (.seq .leaf (.cond (.seq .leaf .leaf) .leaf)) (.seq (.seq .leaf (.cond (.seq .leaf (.seq .leaf .leaf)) .leaf)) (.seq .leaf (.seq .leaf (.seq .leaf .leaf))))))
theorem zzh:okC P qs Tryz.f206.ntmps ((Tryz.f206.body).getD .skip) zj6=true:=by kernel_rfl
def ziy (i:Option Addr) (n:Int) (R:Ending→World→Prop) (w:World):Prop :=
  joinP Unit (fun k =>
  xg (Option.isNone i) (
  R (.returned (Value.slice none 0 0)) w) (
  zx i fun p =>
  ld (.int .i64) (Addr.add p 1) w fun (t12:Int) =>
  xg (t12 != 0) (
  R (.returned (Value.slice none 0 0)) w) (
  k () w))) (fun _ w_1 =>
  zx i fun p_1 =>
  ld .slc p_1 w_1 fun (t19:(Option Addr × Nat × Nat)) =>
  xg (decide (n > (t19.2.1:Int))) (
  qy P zc1 #[(Value.pointer i),(Value.int .i64 20)] [] true w_1 fun (_:Unit) w_2 =>
  R (.returned (Value.slice none 0 0)) w_2) (
  zx i fun p_2 =>
  ld .slc p_2 w_1 fun (t27:(Option Addr × Nat × Nat)) =>
  zay P (Instr.sliceAt zk (Value.slice t27.1 t27.2.1 t27.2.2) none (some (Value.int .i64 n)) none) .slc w_1 fun (t29:(Option Addr × Nat × Nat)) =>
  zx i fun p_3 =>
  ld .slc p_3 w_1 fun (t34:(Option Addr × Nat × Nat)) =>
  zay P (Instr.sliceAt zk (Value.slice t34.1 t34.2.1 t34.2.2) (some (Value.int .i64 n)) none none) .slc w_1 fun (t36:(Option Addr × Nat × Nat)) =>
  zx i fun p_4 =>
  stC p_4 (Value.slice t36.1 t36.2.1 t36.2.2) w_1 fun w_3 =>
  R (.returned (Value.slice t29.1 t29.2.1 t29.2.2)) w_3))
theorem z1v (i:Option Addr) (n:Int) (R:Ending→World→Prop) (w:World):tr P qs ((Tryz.f206.body).getD .skip) zj6 (zb0 0 [(0,(Value.pointer i)),(0,(Value.int .i64 n))]) (zcb P Tryz.f206.results.toList R) w=ziy i n R w:=by kernel_rfl
theorem zra {i:Option Addr} {n:Int} {R:Ending→World→Prop} {w:World} (hT:ziy i n R w):qg P zf8 #[(Value.pointer i),(Value.int .i64 n)] w R :=
 zy (fn:=Tryz.f206) (c:=(Tryz.f206.body).getD .skip) (ann:=zj6) (args:=[(0,(Value.pointer i)),(0,(Value.int .i64 n))]) (qs:=qs) mixed Tryz.func206 rfl (by kernel_rfl) (by kernel_rfl) zzh ((z1v i n R w).symm ▸ hT)
set_option maxRecDepth 100000
def zns:Ann:=(.seq .leaf (.seq (.seq .leaf (.cond (.seq .leaf .leaf) .leaf)) (.seq .leaf (.seq (.seq .leaf (.cond (.seq .leaf .leaf) .leaf)) (.seq .leaf (.seq (.seq .leaf (.cond (.seq .leaf .leaf) .leaf)) (.seq .leaf (.seq .leaf (.seq .leaf (.seq .leaf (.seq (.seq .leaf (.seq .leaf (.cond (.seq .leaf .leaf) .leaf))) (.seq .leaf .leaf))))))))))))
theorem z7a:okC P qs Tryz.f14.ntmps ((Tryz.f14.body).getD .skip) zns=true:=by kernel_rfl
def zq0 (s:Option Addr) (list:Option Addr) (list_l list_c:Nat) (R:Ending→World→Prop) (w:World):Prop :=
  zbj (zc P zf) zf w fun b4 w_1 =>
  xg (Option.isNone s) (
  zay P (Instr.build zf #[]) .any w_1 fun (t15:Value) =>
  zbs P (storeVar zf (⟨b4,0,none⟩:Addr) t15) w_1 fun w_2 =>
  ldA P 32 (⟨b4,0,none⟩:Addr) w_2 fun t4 =>
  R (.returned (Value.tuple #[(Value.agg t4),(Value.int .i64 7)])) w_2) (
  qy P zq6 #[(Value.slice list list_l list_c)] [.slc,.int .i64] true w_1 fun (t18:((Option Addr × Nat × Nat) × Int)) w_3 =>
  xg (t18.2 != 0) (
  zay P (Instr.build zf #[]) .any w_3 fun (t23:Value) =>
  zbs P (storeVar zf (⟨b4,0,none⟩:Addr) t23) w_3 fun w_4 =>
  ldA P 32 (⟨b4,0,none⟩:Addr) w_4 fun t4_1 =>
  R (.returned (Value.tuple #[(Value.agg t4_1),(Value.int .i64 t18.2)])) w_4) (
  qy P zrt #[(Value.slice t18.1.1 t18.1.2.1 t18.1.2.2)] [.map,.int .i64] true w_3 fun (t27:((Option Nat) × Int)) w_5 =>
  zbj (zc P vg) vg w_5 fun b8 w_6 =>
  stC (⟨b8,0,none⟩:Addr) (Value.map t27.1) w_6 fun w_7 =>
  xg (t27.2 != 0) (
  zay P (Instr.build zf #[]) .any w_7 fun (t32:Value) =>
  zbs P (storeVar zf (⟨b4,0,none⟩:Addr) t32) w_7 fun w_8 =>
  ldA P 32 (⟨b4,0,none⟩:Addr) w_8 fun t4_2 =>
  R (.returned (Value.tuple #[(Value.agg t4_2),(Value.int .i64 t27.2)])) w_8) (
  zbj (zc P ji) ji w_7 fun b9 w_9 =>
  zbj (zc P zc3) zc3 w_9 fun b10 w_10 =>
  zay P (Instr.makeFunc (Go.Fn.func zix) #[] #[(Value.pointer (some (⟨b8,0,none⟩:Addr))),(Value.pointer (some (⟨b10,0,none⟩:Addr))),(Value.pointer (some (⟨b9,0,none⟩:Addr)))]) .any w_10 fun (t34:Value) =>
  zbs P (storeVar zc3 (⟨b10,0,none⟩:Addr) t34) w_10 fun w_11 =>
  ld .any (⟨b10,0,none⟩:Addr) w_11 fun (t35:Value) =>
  z3w P t35 #[(Value.string (ByteArray.mk #[47]))] [.any] false w_11 fun (t36:Value) w_12 =>
  zbj (zc P zf) zf w_12 fun b11 w_13 =>
  zbs P (storeVar zf (⟨b11,0,none⟩:Addr) t36) w_13 fun w_14 =>
  ld .slc (⟨b9,0,none⟩:Addr) w_14 fun (t38:(Option Addr × Nat × Nat)) =>
  qy P zgz #[(Value.pointer s),(Value.slice t38.1 t38.2.1 t38.2.2)] [.int .i64] false w_14 fun (t39:Int) w_15 =>
  xg (t39 != 0) (
  zay P (Instr.build zf #[]) .any w_15 fun (t42:Value) =>
  zbs P (storeVar zf (⟨b4,0,none⟩:Addr) t42) w_15 fun w_16 =>
  ldA P 32 (⟨b4,0,none⟩:Addr) w_16 fun t4_3 =>
  R (.returned (Value.tuple #[(Value.agg t4_3),(Value.int .i64 t39)])) w_16) (
  ldA P 32 (⟨b11,0,none⟩:Addr) w_15 fun t44 =>
  zbs P (storeVar zf (⟨b4,0,none⟩:Addr) (Value.agg t44)) w_15 fun w_17 =>
  ldA P 32 (⟨b4,0,none⟩:Addr) w_17 fun t4_4 =>
  R (.returned (Value.tuple #[(Value.agg t4_4),(Value.int .i64 0)])) w_17))))
theorem z8o (s:Option Addr) (list:Option Addr) (list_l list_c:Nat) (R:Ending→World→Prop) (w:World):tr P qs ((Tryz.f14.body).getD .skip) zns (zb0 0 [(0,(Value.pointer s)),(0,(Value.slice list list_l list_c))]) (zcb P Tryz.f14.results.toList R) w=zq0 s list list_l list_c R w:=by kernel_rfl
theorem z7g {s:Option Addr} {list:Option Addr} {list_l list_c:Nat} {R:Ending→World→Prop} {w:World} (hT:zq0 s list list_l list_c R w):qg P zmf #[(Value.pointer s),(Value.slice list list_l list_c)] w R :=
 zy (fn:=Tryz.f14) (c:=(Tryz.f14.body).getD .skip) (ann:=zns) (args:=[(0,(Value.pointer s)),(0,(Value.slice list list_l list_c))]) (qs:=qs) mixed Tryz.func14 rfl (by kernel_rfl) (by kernel_rfl) z7a ((z8o s list list_l list_c R w).symm ▸ hT)
def zkt:Ann:=(.seq .leaf (.seq .leaf (.seq (.seq .leaf (.cond (.seq .leaf .leaf) .leaf)) (.seq .leaf (.seq (.seq .leaf (.blk (.loop [(8,.slc),(22,.int .i64)] (.seq .leaf (.seq (.cond .leaf .leaf) (.seq (.blk (.seq .leaf .leaf)) .leaf)))))) (.seq (.seq .leaf (.cond (.seq .leaf .leaf) .leaf)) (.seq .leaf .leaf)))))))
theorem z3x:okC P qs Tryz.f23.ntmps ((Tryz.f23.body).getD .skip) zkt=true:=by kernel_rfl
def zox (s:Option Addr) (root:Value) (R:Ending→World→Prop) (w:World):Prop :=
  zbj (Value.cells root) zf w fun b3 w_1 =>
  ldA P 32 (⟨b3,0,none⟩:Addr) w_1 fun t13 =>
  qy P zol #[(Value.pointer s),(Value.agg t13)] [.slc,.int .i64] true w_1 fun (t14:((Option Addr × Nat × Nat) × Int)) w_2 =>
  xg (t14.2 != 0) (
  R (.returned (Value.tuple #[(Value.slice none 0 0),(Value.int .i64 t14.2)])) w_2) (
  zav ((Option Addr × Nat × Nat) × Int) (fun s_1 w_3 k =>
  xg (decide (s_1.2 < (t14.1.2.1:Int))) (
  ixS t14.1.1 t14.1.2.1 3 s_1.2 fun t24 =>
  ldA P 3 t24 w_3 fun t25 =>
  zbj (zc P zl) zl w_3 fun b10 w_4 =>
  zbs P (storeVar zl (⟨b10,0,none⟩:Addr) (Value.agg t25)) w_4 fun w_5 =>
  ld .str (⟨b10,2,none⟩:Addr) w_5 fun (t28:ByteArray) =>
  zaf P (Builtin.append_ #[zk,qc] zk #[(Value.slice s_1.1.1 s_1.1.2.1 s_1.1.2.2),(Value.string t28)]) .slc w_5 fun (t29:(Option Addr × Nat × Nat)) w_6 =>
  za7 .i64 s_1.2 1 fun t30 =>
  k ((t29.1,t29.2.1,t29.2.2),t30) w_6) (
  qy P zmc #[(Value.slice s_1.1.1 s_1.1.2.1 s_1.1.2.2)] [.slc] false w_3 fun (t32:(Option Addr × Nat × Nat)) w_7 =>
  qy P zb6 #[(Value.slice t32.1 t32.2.1 t32.2.2),(Value.slice t14.1.1 t14.1.2.1 t14.1.2.2)] [.bool] false w_7 fun (t34:Bool) w_8 =>
  xg (!t34) (
  R (.returned (Value.tuple #[(Value.slice none 0 0),(Value.int .i64 21)])) w_8) (
  R (.returned (Value.tuple #[(Value.slice s_1.1.1 s_1.1.2.1 s_1.1.2.2),(Value.int .i64 0)])) w_8))) ((none,0,0),0) w_2)
theorem z4k (s:Option Addr) (root:Value) (R:Ending→World→Prop) (w:World):tr P qs ((Tryz.f23.body).getD .skip) zkt (zb0 0 [(0,(Value.pointer s)),(1,root)]) (zcb P Tryz.f23.results.toList R) w=zox s root R w:=by kernel_rfl
theorem z3r {s:Option Addr} {root:Value} {R:Ending→World→Prop} {w:World} (hT:zox s root R w):qg P zkm #[(Value.pointer s),root] w R :=
 zy (fn:=Tryz.f23) (c:=(Tryz.f23.body).getD .skip) (ann:=zkt) (args:=[(0,(Value.pointer s)),(1,root)]) (qs:=qs) mixed Tryz.func23 rfl (by kernel_rfl) (by kernel_rfl) z3x ((z4k s root R w).symm ▸ hT)
def zp1:Ann:=(.seq .leaf (.seq (.blk (.seq .leaf (.cond (.seq .leaf .leaf) (.seq .leaf (.cond (.seq .leaf .leaf) .leaf))))) (.seq .leaf .leaf)))
theorem qbr:okC P qs Tryz.f25.ntmps ((Tryz.f25.body).getD .skip) zp1=true:=by kernel_rfl
def ztx (s:Option Addr) (state:Option Addr) (state_l state_c:Nat) (R:Ending→World→Prop) (w:World):Prop :=
  zbj (zc P zf) zf w fun b4 w_1 =>
  xg (Option.isNone s) (
  zay P (Instr.build zf #[]) .any w_1 fun (t9:Value) =>
  zbs P (storeVar zf (⟨b4,0,none⟩:Addr) t9) w_1 fun w_2 =>
  ldA P 32 (⟨b4,0,none⟩:Addr) w_2 fun t4 =>
  R (.returned (Value.tuple #[(Value.agg t4),(Value.int .i64 7)])) w_2) (
  xg (decide ((state_l:Int) > 65536)) (
  zay P (Instr.build zf #[]) .any w_1 fun (t14:Value) =>
  zbs P (storeVar zf (⟨b4,0,none⟩:Addr) t14) w_1 fun w_3 =>
  ldA P 32 (⟨b4,0,none⟩:Addr) w_3 fun t4_1 =>
  R (.returned (Value.tuple #[(Value.agg t4_1),(Value.int .i64 2)])) w_3) (
  qy P zmc #[(Value.slice state state_l state_c)] [.slc] false w_1 fun (t17:(Option Addr × Nat × Nat)) w_4 =>
  qy P zmf #[(Value.pointer s),(Value.slice t17.1 t17.2.1 t17.2.2)] [.any,.int .i64] true w_4 fun (t18:(Value × Int)) w_5 =>
  zbs P (storeVar zf (⟨b4,0,none⟩:Addr) t18.1) w_5 fun w_6 =>
  ldA P 32 (⟨b4,0,none⟩:Addr) w_6 fun t4_2 =>
  R (.returned (Value.tuple #[(Value.agg t4_2),(Value.int .i64 t18.2)])) w_6))
theorem z99 (s:Option Addr) (state:Option Addr) (state_l state_c:Nat) (R:Ending→World→Prop) (w:World):tr P qs ((Tryz.f25.body).getD .skip) zp1 (zb0 0 [(0,(Value.pointer s)),(0,(Value.slice state state_l state_c))]) (zcb P Tryz.f25.results.toList R) w=ztx s state state_l state_c R w:=by kernel_rfl
theorem qca {s:Option Addr} {state:Option Addr} {state_l state_c:Nat} {R:Ending→World→Prop} {w:World} (hT:ztx s state state_l state_c R w):qg P zul #[(Value.pointer s),(Value.slice state state_l state_c)] w R :=
 zy (fn:=Tryz.f25) (c:=(Tryz.f25.body).getD .skip) (ann:=zp1) (args:=[(0,(Value.pointer s)),(0,(Value.slice state state_l state_c))]) (qs:=qs) mixed Tryz.func25 rfl (by kernel_rfl) (by kernel_rfl) qbr ((z99 s state state_l state_c R w).symm ▸ hT)
def zod:Ann:=(.seq .leaf (.seq (.seq .leaf (.cond (.seq .leaf .leaf) .leaf)) (.seq .leaf (.seq (.seq .leaf (.cond (.seq .leaf .leaf) .leaf)) (.seq .leaf .leaf)))))
theorem qbj:okC P qs Tryz.f53.ntmps ((Tryz.f53.body).getD .skip) zod=true:=by kernel_rfl
def zuk (s:Option Addr) (root:Value) (R:Ending→World→Prop) (w:World):Prop :=
  zbj (Value.cells root) zf w fun b3 w_1 =>
  xg (Option.isNone s) (
  R (.returned (Value.tuple #[(Value.slice none 0 0),(Value.int .i64 7)])) w_1) (
  ldA P 32 (⟨b3,0,none⟩:Addr) w_1 fun t12 =>
  qy P zie #[(Value.pointer s),(Value.agg t12),(Value.int .i64 3)] [.any,.int .i64] true w_1 fun (t13:(Value × Int)) w_2 =>
  zbj (zc P zh) zh w_2 fun b6 w_3 =>
  zbs P (storeVar zh (⟨b6,0,none⟩:Addr) t13.1) w_3 fun w_4 =>
  xg (t13.2 != 0) (
  R (.returned (Value.tuple #[(Value.slice none 0 0),(Value.int .i64 t13.2)])) w_4) (
  ldA P 5 (⟨b6,0,none⟩:Addr) w_4 fun t20 =>
  qy P zcd #[(Value.pointer s),(Value.agg t20),(Value.slice none 0 0),(Value.slice none 0 0)] [.slc,.int .i64] true w_4 fun (t21:((Option Addr × Nat × Nat) × Int)) w_5 =>
  R (.returned (Value.tuple #[(Value.slice t21.1.1 t21.1.2.1 t21.1.2.2),(Value.int .i64 t21.2)])) w_5))
theorem qa8 (s:Option Addr) (root:Value) (R:Ending→World→Prop) (w:World):tr P qs ((Tryz.f53.body).getD .skip) zod (zb0 0 [(0,(Value.pointer s)),(1,root)]) (zcb P Tryz.f53.results.toList R) w=zuk s root R w:=by kernel_rfl
theorem qa5 {s:Option Addr} {root:Value} {R:Ending→World→Prop} {w:World} (hT:zuk s root R w):qg P zol #[(Value.pointer s),root] w R :=
 zy (fn:=Tryz.f53) (c:=(Tryz.f53.body).getD .skip) (ann:=zod) (args:=[(0,(Value.pointer s)),(1,root)]) (qs:=qs) mixed Tryz.func53 rfl (by kernel_rfl) (by kernel_rfl) qbj ((qa8 s root R w).symm ▸ hT)
def zm5:Ann:=(.seq .leaf (.seq .leaf (.seq (.seq .leaf (.blk (.loop [(4,.slc),(11,.int .i64)] (.seq .leaf (.seq (.cond .leaf .leaf) (.seq (.blk (.seq .leaf (.seq .leaf (.seq (.seq .leaf (.cond (.seq .leaf .leaf) .leaf)) .leaf)))) .leaf)))))) (.seq (.seq .leaf (.cond (.seq .leaf .leaf) .leaf)) (.seq (.seq .leaf (.cond (.seq .leaf .leaf) .leaf)) (.seq .leaf .leaf))))))
theorem z6b:okC P qs Tryz.f54.ntmps ((Tryz.f54.body).getD .skip) zm5=true:=by kernel_rfl
def zrx (list:Option Addr) (list_l list_c:Nat) (R:Ending→World→Prop) (w:World):Prop :=
  zav ((Option Addr × Nat × Nat) × Int) (fun s w_1 k =>
  xg (decide (s.2 < (list_l:Int))) (
  ixS list list_l 3 s.2 fun t13 =>
  ldA P 3 t13 w_1 fun t14 =>
  zbj (zc P zl) zl w_1 fun b6 w_2 =>
  zbs P (storeVar zl (⟨b6,0,none⟩:Addr) (Value.agg t14)) w_2 fun w_3 =>
  ld .str (⟨b6,0,none⟩:Addr) w_3 fun (t17:ByteArray) =>
  qy P zow #[(Value.string t17)] [.slc,.int .i64] true w_3 fun (t18:((Option Addr × Nat × Nat) × Int)) w_4 =>
  xg (t18.2 != 0) (
  R (.returned (Value.tuple #[(Value.slice none 0 0),(Value.int .i64 t18.2)])) w_4) (
  ldA P 3 (⟨b6,0,none⟩:Addr) w_4 fun t26 =>
  zay P (Instr.build qm #[(0,(Value.slice t18.1.1 t18.1.2.1 t18.1.2.2)),(1,(Value.agg t26))]) .any w_4 fun (t27:Value) =>
  zaf P (Instr.buildSlice za0 1 #[(0,t27)]) .slc w_4 fun (t28:(Option Addr × Nat × Nat)) w_5 =>
  zaf P (Builtin.append_ #[za0,za0] za0 #[(Value.slice s.1.1 s.1.2.1 s.1.2.2),(Value.slice t28.1 t28.2.1 t28.2.2)]) .slc w_5 fun (t29:(Option Addr × Nat × Nat)) w_6 =>
  za7 .i64 s.2 1 fun t30 =>
  k ((t29.1,t29.2.1,t29.2.2),t30) w_6)) (
  qy P zau #[(Value.slice list list_l list_c),(Value.func (.func zm0) #[] #[])] [.bool] false w_1 fun (t32:Bool) w_7 =>
  xg t32 (
  R (.returned (Value.tuple #[(Value.slice none 0 0),(Value.int .i64 1)])) w_7) (
  qy P zau #[(Value.slice list list_l list_c),(Value.func (.func zng) #[] #[])] [.bool] false w_7 fun (t34:Bool) w_8 =>
  xg t34 (
  R (.returned (Value.tuple #[(Value.slice none 0 0),(Value.int .i64 134)])) w_8) (
  R (.returned (Value.tuple #[(Value.slice s.1.1 s.1.2.1 s.1.2.2),(Value.int .i64 0)])) w_8)))) ((none,0,0),0) w
theorem z8y (list:Option Addr) (list_l list_c:Nat) (R:Ending→World→Prop) (w:World):tr P qs ((Tryz.f54.body).getD .skip) zm5 (zb0 0 [(0,(Value.slice list list_l list_c))]) (zcb P Tryz.f54.results.toList R) w=zrx list list_l list_c R w:=by kernel_rfl
theorem z8n {list:Option Addr} {list_l list_c:Nat} {R:Ending→World→Prop} {w:World} (hT:zrx list list_l list_c R w):qg P zq6 #[(Value.slice list list_l list_c)] w R :=
 zy (fn:=Tryz.f54) (c:=(Tryz.f54.body).getD .skip) (ann:=zm5) (args:=[(0,(Value.slice list list_l list_c))]) (qs:=qs) mixed Tryz.func54 rfl (by kernel_rfl) (by kernel_rfl) z6b ((z8y list list_l list_c R w).symm ▸ hT)
def zmt:Ann:=(.seq .leaf (.seq .leaf (.seq (.seq .leaf (.blk (.loop [(24,.int .i64)] (.seq .leaf (.seq (.cond .leaf .leaf) (.seq (.blk (.seq .leaf (.seq (.seq .leaf (.seq .leaf (.cond (.seq .leaf .leaf) .leaf))) (.tree (.op 0 [] (.op 1 [] (.op 2 [] (.op 4 [] (.op 3 [4] (.op 5 [] .done)))))))))) .leaf)))))) (.seq .leaf (.seq .leaf (.seq (.seq .leaf (.blk (.loop [(10,.bool),(46,.int .i64)] (.seq .leaf (.seq (.cond .leaf .leaf) (.seq (.blk (.seq .leaf (.seq .leaf (.seq .leaf (.seq (.seq .leaf (.cond (.seq .leaf .leaf) .leaf)) (.join [(10,.bool)] .leaf .leaf)))))) .leaf)))))) (.seq (.seq .leaf (.cond (.seq .leaf .leaf) .leaf)) (.seq (.seq .leaf (.blk (.loop [] (.seq .leaf (.seq (.cond .leaf .leaf) (.blk (.seq .leaf (.seq (.seq .leaf (.cond (.seq .leaf .leaf) .leaf)) .leaf)))))))) (.seq .leaf .leaf)))))))))
theorem z7j:okC P qs Tryz.f55.ntmps ((Tryz.f55.body).getD .skip) zmt=true:=by kernel_rfl
def zri (list:Option Addr) (list_l list_c:Nat) (R:Ending→World→Prop) (w:World):Prop :=
  zaf P (Instr.makeMap zb2 none) .map w fun (t18:(Option Nat)) w_1 =>
  zay P (Instr.build zl #[(1,(Value.bool true))]) .any w_1 fun (t19:Value) =>
  zay P (Instr.build qm #[(0,(Value.slice none 0 0)),(1,t19)]) .any w_1 fun (t20:Value) =>
  zbs P (Instr.mapUpdate zb2 (Value.map t18) (Value.string (ByteArray.mk #[47])) t20) w_1 fun w_2 =>
  zav Int (fun s w_3 k =>
  xg (decide (s < (list_l:Int))) (
  ixS list list_l 4 s fun t26 =>
  ldA P 4 t26 w_3 fun t27 =>
  zbj (zc P qm) qm w_3 fun b6 w_4 =>
  zbs P (storeVar qm (⟨b6,0,none⟩:Addr) (Value.agg t27)) w_4 fun w_5 =>
  ld .slc (⟨b6,0,none⟩:Addr) w_5 fun (t31:(Option Addr × Nat × Nat)) =>
  qy P zci #[(Value.slice t31.1 t31.2.1 t31.2.2)] [.str] false w_5 fun (t32:ByteArray) w_6 =>
  qlg P (Instr.lookup zb2 (Value.map t18) (Value.string t32) true) [.any,.bool] w_6 fun (t33:(Value × Bool)) =>
  zbj (zc P qm) qm w_6 fun b7 w_7 =>
  zbs P (storeVar qm (⟨b7,0,none⟩:Addr) t33.1) w_7 fun w_8 =>
  xg t33.2 (
  R (.returned (Value.tuple #[(Value.map none),(Value.int .i64 5)])) w_8) (
  zbd w_8 fun w_9 =>
  ld .slc (⟨b6,0,none⟩:Addr) w_9 fun (t39:(Option Addr × Nat × Nat)) =>
  ldA P 4 (⟨b6,0,none⟩:Addr) w_9 fun t41 =>
  qy P zci #[(Value.slice t39.1 t39.2.1 t39.2.2)] [.str] false w_9 fun (t40:ByteArray) w_10 =>
  ((ldA P 4 (⟨b6,0,none⟩:Addr) w_10 fun t41_1 =>
  (Value.agg t41_1)=(Value.agg t41)) ∧
  zbs P (Instr.mapUpdate zb2 (Value.map t18) (Value.string t40) (Value.agg t41)) w_10 fun w_11 =>
  za7 .i64 s 1 fun t42 =>
  k t42 w_11))) (
  zaf P (Instr.makeMap vg none) .map w_3 fun (t43:(Option Nat)) w_12 =>
  zav (Bool × Int) (fun s_1 w_13 k_1 =>
  xg (decide (s_1.2 < (list_l:Int))) (
  ixS list list_l 4 s_1.2 fun t48 =>
  ldA P 4 t48 w_13 fun t49 =>
  zbj (zc P qm) qm w_13 fun b12 w_14 =>
  zbs P (storeVar qm (⟨b12,0,none⟩:Addr) (Value.agg t49)) w_14 fun w_15 =>
  ld .slc (⟨b12,0,none⟩:Addr) w_15 fun (t51:(Option Addr × Nat × Nat)) =>
  ld .slc (⟨b12,0,none⟩:Addr) w_15 fun (t53:(Option Addr × Nat × Nat)) =>
  zl4 .i64 (t53.2.1:Int) 1 fun t55 =>
  zay P (Instr.sliceAt qw (Value.slice t51.1 t51.2.1 t51.2.2) none (some (Value.int .i64 t55)) none) .slc w_15 fun (t56:(Option Addr × Nat × Nat)) =>
  qy P zci #[(Value.slice t56.1 t56.2.1 t56.2.2)] [.str] false w_15 fun (t57:ByteArray) w_16 =>
  qlg P (Instr.lookup zb2 (Value.map t18) (Value.string t57) true) [.any,.bool] w_16 fun (t61:(Value × Bool)) =>
  zbj (zc P qm) qm w_16 fun b14 w_17 =>
  zbs P (storeVar qm (⟨b14,0,none⟩:Addr) t61.1) w_17 fun w_18 =>
  xg (!t61.2) (
  R (.returned (Value.tuple #[(Value.map none),(Value.int .i64 4)])) w_18) (
  joinP Bool (fun k_2 =>
  xg s_1.1 (
  k_2 true w_18) (
  ld .bool (⟨b14,2,none⟩:Addr) w_18 fun (t70:Bool) =>
  k_2 (!t70) w_18)) (fun s_2 w_19 =>
  zay P (Instr.lookup vg (Value.map t43) (Value.string t57) false) .slc w_19 fun (t77:(Option Addr × Nat × Nat)) =>
  ldA P 4 (⟨b12,0,none⟩:Addr) w_19 fun t78 =>
  zaf P (Instr.buildSlice za0 1 #[(0,(Value.agg t78))]) .slc w_19 fun (t79:(Option Addr × Nat × Nat)) w_20 =>
  zaf P (Builtin.append_ #[za0,za0] za0 #[(Value.slice t77.1 t77.2.1 t77.2.2),(Value.slice t79.1 t79.2.1 t79.2.2)]) .slc w_20 fun (t80:(Option Addr × Nat × Nat)) w_21 =>
  zbs P (Instr.mapUpdate vg (Value.map t43) (Value.string t57) (Value.slice t80.1 t80.2.1 t80.2.2)) w_21 fun w_22 =>
  za7 .i64 s_1.2 1 fun t81 =>
  k_1 (s_2,t81) w_22))) (
  xg s_1.1 (
  R (.returned (Value.tuple #[(Value.map none),(Value.int .i64 70)])) w_13) (
  zaf P (Instr.range vg (Value.map t43)) .ptr w_13 fun (t84:(Option Addr)) w_23 =>
  zav Unit (fun _ w_24 k_3 =>
  zaf P (Instr.next (Value.pointer t84) false znd) .any w_24 fun (t85:Value) w_25 =>
  exV t85 0 .bool fun (t86:Bool) =>
  xg t86 (
  zay P (Instr.entry (Value.pointer t84)) .any w_25 fun (t87:Value) =>
  exV t87 1 .slc fun (t88:(Option Addr × Nat × Nat)) =>
  xg (decide ((t88.2.1:Int) > 64)) (
  R (.returned (Value.tuple #[(Value.map none),(Value.int .i64 8)])) w_25) (
  qy P zcw #[(Value.slice t88.1 t88.2.1 t88.2.2),(Value.func (.func zgb) #[] #[])] [] true w_25 fun (_:Unit) w_26 =>
  k_3 () w_26)) (
  R (.returned (Value.tuple #[(Value.map t43),(Value.int .i64 0)])) w_25)) () w_23))) (false,0) w_12)) 0 w_2
theorem z7b (list:Option Addr) (list_l list_c:Nat) (R:Ending→World→Prop) (w:World):tr P qs ((Tryz.f55.body).getD .skip) zmt (zb0 0 [(0,(Value.slice list list_l list_c))]) (zcb P Tryz.f55.results.toList R) w=zri list list_l list_c R w:=by kernel_rfl
theorem z7z {list:Option Addr} {list_l list_c:Nat} {R:Ending→World→Prop} {w:World} (hT:zri list list_l list_c R w):qg P zrt #[(Value.slice list list_l list_c)] w R :=
 zy (fn:=Tryz.f55) (c:=(Tryz.f55.body).getD .skip) (ann:=zmt) (args:=[(0,(Value.slice list list_l list_c))]) (qs:=qs) mixed Tryz.func55 rfl (by kernel_rfl) (by kernel_rfl) z7j ((z7b list list_l list_c R w).symm ▸ hT)
def zje:Ann:=(.seq .leaf (.seq .leaf (.seq (.seq .leaf (.blk (.loop [(16,.int .i64)] (.seq .leaf (.seq (.cond .leaf .leaf) (.join [] (.jblk [] (.seq .leaf (.seq .leaf (.join [] (.seq .leaf (.cond (.tree (.op 1 [] (.op 5 [] (.op 0 [] (.op 2 [] (.op 3 [0] (.op 4 [] (.op 6 [] (.op 7 [] (.op 8 [] .done)))))))))) .leaf)) .leaf)))) .leaf)))))) (.seq .leaf (.seq .leaf (.seq .leaf .leaf))))))
theorem zzn:okC P qs Tryz.f56.ntmps ((Tryz.f56.body).getD .skip) zje=true:=by kernel_rfl
def zmw (atv:ByteArray) (c0:Option Addr) (c1:Option Addr) (c2:Option Addr) (R:Ending→World→Prop) (w:World):Prop :=
  zbj (zc P zf) zf w fun b5 w_1 =>
  zay P (Instr.build zh #[(0,(Value.int .i64 3))]) .any w_1 fun (t11:Value) =>
  zbj (zc P zh) zh w_1 fun b6 w_2 =>
  zbs P (storeVar zh (⟨b6,0,none⟩:Addr) t11) w_2 fun w_3 =>
  zx c0 fun p =>
  ld .map p w_3 fun (t12:(Option Nat)) =>
  zay P (Instr.lookup vg (Value.map t12) (Value.string atv) false) .slc w_3 fun (t14:(Option Addr × Nat × Nat)) =>
  zav Int (fun s w_4 k =>
  xg (decide (s < (t14.2.1:Int))) (
  joinP Unit (fun k_1 =>
  joinP Unit (fun k_2 =>
  ixS t14.1 t14.2.1 4 s fun t18 =>
  ldA P 4 t18 w_4 fun t19 =>
  zbj (zc P qm) qm w_4 fun b8 w_5 =>
  zbs P (storeVar qm (⟨b8,0,none⟩:Addr) (Value.agg t19)) w_5 fun w_6 =>
  ld .slc (⟨b8,0,none⟩:Addr) w_6 fun (t21:(Option Addr × Nat × Nat)) =>
  ld .slc (⟨b8,0,none⟩:Addr) w_6 fun (t23:(Option Addr × Nat × Nat)) =>
  zl4 .i64 (t23.2.1:Int) 1 fun t25 =>
  ixS t21.1 t21.2.1 1 t25 fun t26 =>
  ld .str t26 w_6 fun (t27:ByteArray) =>
  zay P (Instr.build ql #[(0,(Value.string t27)),(1,(Value.int .i64 2))]) .any w_6 fun (t28:Value) =>
  zbj (zc P ql) ql w_6 fun b9 w_7 =>
  zbs P (storeVar ql (⟨b9,0,none⟩:Addr) t28) w_7 fun w_8 =>
  joinP Unit (fun k_3 =>
  ld .bool (⟨b8,2,none⟩:Addr) w_8 fun (t31:Bool) =>
  xg t31 (
  zbd w_8 fun w_9 =>
  zx c1 fun p_1 =>
  ld .any p_1 w_9 fun (t32:Value) =>
  ld .slc (⟨b8,0,none⟩:Addr) w_9 fun (t34:(Option Addr × Nat × Nat)) =>
  qy P zci #[(Value.slice t34.1 t34.2.1 t34.2.2)] [.str] false w_9 fun (t35:ByteArray) w_10 =>
  ((zx c1 fun p_2 =>
  ld .any p_2 w_10 fun (t32_1:Value) =>
  t32_1=t32) ∧
  z3w P t32 #[(Value.string t35)] [.any] false w_10 fun (t36:Value) w_11 =>
  stC (⟨b9,1,none⟩:Addr) (Value.int .i64 3) w_11 fun w_12 =>
  zbs P (storeVar zf (⟨b9,2,none⟩:Addr) t36) w_12 fun w_13 =>
  k_3 () w_13)) (
  zx c2 fun p_3 =>
  ld .slc p_3 w_8 fun (t40:(Option Addr × Nat × Nat)) =>
  ld .str (⟨b8,3,none⟩:Addr) w_8 fun (t43:ByteArray) =>
  qy P ztf #[(Value.slice t40.1 t40.2.1 t40.2.2),(Value.string t43)] [.slc,.any] true w_8 fun (t44:((Option Addr × Nat × Nat) × Value)) w_14 =>
  zx c2 fun p_4 =>
  stC p_4 (Value.slice t44.1.1 t44.1.2.1 t44.1.2.2) w_14 fun w_15 =>
  zbs P (storeVar zf (⟨b9,2,none⟩:Addr) t44.2) w_15 fun w_16 =>
  k_3 () w_16)) (fun _ w_17 =>
  ld .slc (⟨b6,4,none⟩:Addr) w_17 fun (t49:(Option Addr × Nat × Nat)) =>
  ldA P 34 (⟨b9,0,none⟩:Addr) w_17 fun t50 =>
  zaf P (Instr.buildSlice zad 1 #[(0,(Value.agg t50))]) .slc w_17 fun (t51:(Option Addr × Nat × Nat)) w_18 =>
  zaf P (Builtin.append_ #[zad,zad] zad #[(Value.slice t49.1 t49.2.1 t49.2.2),(Value.slice t51.1 t51.2.1 t51.2.2)]) .slc w_18 fun (t52:(Option Addr × Nat × Nat)) w_19 =>
  stC (⟨b6,4,none⟩:Addr) (Value.slice t52.1 t52.2.1 t52.2.2) w_19 fun w_20 =>
  k_2 () w_20)) (fun _ w_21 =>
  k_1 () w_21)) (fun _ w_22 =>
  za7 .i64 s 1 fun t54 =>
  k t54 w_22)) (
  zbj (zc P zf) zf w_4 fun b10 w_23 =>
  zx c2 fun p_5 =>
  ld .slc p_5 w_23 fun (t56:(Option Addr × Nat × Nat)) =>
  ldA P 5 (⟨b6,0,none⟩:Addr) w_23 fun t57 =>
  qy P zkx #[(Value.slice t56.1 t56.2.1 t56.2.2),(Value.agg t57)] [.slc,.any] true w_23 fun (t58:((Option Addr × Nat × Nat) × Value)) w_24 =>
  zx c2 fun p_6 =>
  stC p_6 (Value.slice t58.1.1 t58.1.2.1 t58.1.2.2) w_24 fun w_25 =>
  zbs P (storeVar zf (⟨b10,0,none⟩:Addr) t58.2) w_25 fun w_26 =>
  ldA P 32 (⟨b10,0,none⟩:Addr) w_26 fun t61 =>
  zbs P (storeVar zf (⟨b5,0,none⟩:Addr) (Value.agg t61)) w_26 fun w_27 =>
  ldA P 32 (⟨b5,0,none⟩:Addr) w_27 fun t5 =>
  R (.returned (Value.agg t5)) w_27)) 0 w_3
theorem z1f (atv:ByteArray) (c0:Option Addr) (c1:Option Addr) (c2:Option Addr) (R:Ending→World→Prop) (w:World):tr P qs ((Tryz.f56.body).getD .skip) zje (zb0 0 [(0,(Value.string atv)),(0,(Value.pointer c0)),(0,(Value.pointer c1)),(0,(Value.pointer c2))]) (zcb P Tryz.f56.results.toList R) w=zmw atv c0 c1 c2 R w:=by kernel_rfl
theorem z18 {atv:ByteArray} {c0:Option Addr} {c1:Option Addr} {c2:Option Addr} {R:Ending→World→Prop} {w:World} (hT:zmw atv c0 c1 c2 R w):qg P zix #[(Value.string atv),(Value.pointer c0),(Value.pointer c1),(Value.pointer c2)] w R :=
 zy (fn:=Tryz.f56) (c:=(Tryz.f56.body).getD .skip) (ann:=zje) (args:=[(0,(Value.string atv)),(0,(Value.pointer c0)),(0,(Value.pointer c1)),(0,(Value.pointer c2))]) (qs:=qs) mixed Tryz.func56 rfl (by kernel_rfl) (by kernel_rfl) zzn ((z1f atv c0 c1 c2 R w).symm ▸ hT)
def zp2:Ann2:=(.seq (.pure .leaf) (.seq (.pure .leaf) (.seq (.seq (.pure .leaf) (.blk (.rng [(15,.slc)] false [] .leaf (.blk (.seq .leaf (.seq .leaf .leaf)))))) (.pure (.seq .leaf .leaf)))))
theorem qbz:qdz P qs Tryz.f58.ntmps ((Tryz.f58.body).getD .skip) zp2=true:=by kernel_rfl
def zsx (list:Option Addr) (list_l list_c:Nat) (data:ByteArray) (R:Ending→World→Prop) (w:World):Prop :=
  zbj #[(Value.slice list list_l list_c)] ji w fun b2 w_1 =>
  zbj (zc P zf) zf w_1 fun b5 w_2 =>
  zay P (Instr.build zh #[(0,(Value.int .i64 2)),(2,(Value.int .i64 (data.size:Int)))]) .any w_2 fun (t11:Value) =>
  zbj (zc P zh) zh w_2 fun b6 w_3 =>
  zbs P (storeVar zh (⟨b6,0,none⟩:Addr) t11) w_3 fun w_4 =>
  zaf P (convert qc zk (Value.string data)) .slc w_4 fun (t13:(Option Addr × Nat × Nat)) w_5 =>
  qy P zbt #[(Value.slice t13.1 t13.2.1 t13.2.2),(Value.int .i64 64)] [.any] false w_5 fun (t14:Value) w_6 =>
  z5t P [.slc] t14 w_6 (fun (x:(Option Addr × Nat × Nat)) w_7 beg kc _ _ =>
  beg w_7 fun w_8 =>
  zbj (zc P zf) zf w_8 fun b8 w_9 =>
  ld .slc (⟨b2,0,none⟩:Addr) w_9 fun (t17:(Option Addr × Nat × Nat)) =>
  zay P (convert zk qc (Value.slice x.1 x.2.1 x.2.2)) .str w_9 fun (t19:ByteArray) =>
  zay P (Instr.build zh #[(0,(Value.int .i64 1)),(1,(Value.string t19))]) .any w_9 fun (t20:Value) =>
  qy P zkx #[(Value.slice t17.1 t17.2.1 t17.2.2),t20] [.slc,.any] true w_9 fun (t21:((Option Addr × Nat × Nat) × Value)) w_10 =>
  stC (⟨b2,0,none⟩:Addr) (Value.slice t21.1.1 t21.1.2.1 t21.1.2.2) w_10 fun w_11 =>
  zbs P (storeVar zf (⟨b8,0,none⟩:Addr) t21.2) w_11 fun w_12 =>
  ld .slc (⟨b6,3,none⟩:Addr) w_12 fun (t25:(Option Addr × Nat × Nat)) =>
  ldA P 32 (⟨b8,0,none⟩:Addr) w_12 fun t26 =>
  zaf P (Instr.buildSlice jr 1 #[(0,(Value.agg t26))]) .slc w_12 fun (t27:(Option Addr × Nat × Nat)) w_13 =>
  zaf P (Builtin.append_ #[jr,jr] jr #[(Value.slice t25.1 t25.2.1 t25.2.2),(Value.slice t27.1 t27.2.1 t27.2.2)]) .slc w_13 fun (t28:(Option Addr × Nat × Nat)) w_14 =>
  stC (⟨b6,3,none⟩:Addr) (Value.slice t28.1 t28.2.1 t28.2.2) w_14 fun w_15 =>
  kc w_15) (fun D w_16 =>
  ld .slc (⟨b2,0,none⟩:Addr) w_16 fun (t30:(Option Addr × Nat × Nat)) =>
  ldA P 5 (⟨b6,0,none⟩:Addr) w_16 fun t31 =>
  qy P zkx #[(Value.slice t30.1 t30.2.1 t30.2.2),(Value.agg t31)] [.slc,.any] true w_16 fun (t32:((Option Addr × Nat × Nat) × Value)) w_17 =>
  zbs P (storeVar zf (⟨b5,0,none⟩:Addr) t32.2) w_17 fun w_18 =>
  (w_18.heap[D]?=some (.deferred (some []))∧∀ w_19,w_19=World.putObj w_18 D (.deferred none) →
  ldA P 32 (⟨b5,0,none⟩:Addr) w_19 fun t5 =>
  R (.returned (Value.tuple #[(Value.slice t32.1.1 t32.1.2.1 t32.1.2.2),(Value.agg t5)])) w_19)) (fun _D _w=>False) (fun _ _D _w=>False)
theorem qc9 (list:Option Addr) (list_l list_c:Nat) (data:ByteArray) (R:Ending→World→Prop) (w:World):tr2 P qs ((Tryz.f58.body).getD .skip) zp2 [] (zb0 0 [(0,(Value.slice list list_l list_c)),(0,(Value.string data))]) (qhj P Tryz.f58.results.toList R) w=zsx list list_l list_c data R w:=by kernel_rfl
theorem qal {list:Option Addr} {list_l list_c:Nat} {data:ByteArray} {R:Ending→World→Prop} {w:World} (hT:zsx list list_l list_c data R w):qg P ztf #[(Value.slice list list_l list_c),(Value.string data)] w R :=
 z02 (fn:=Tryz.f58) (c:=(Tryz.f58.body).getD .skip) (ann:=zp2) (args:=[(0,(Value.slice list list_l list_c)),(0,(Value.string data))]) (qs:=qs) mixed Tryz.func58 rfl (by kernel_rfl) (by kernel_rfl) qbz ((qc9 list list_l list_c data R w).symm ▸ hT)
def zor:Ann:=(.seq .leaf (.seq .leaf (.seq .leaf .leaf)))
theorem qcx:okC P qs Tryz.f59.ntmps ((Tryz.f59.body).getD .skip) zor=true:=by kernel_rfl
def zuo (list:Option Addr) (list_l list_c:Nat) (n:Value) (R:Ending→World→Prop) (w:World):Prop :=
  zbj (Value.cells n) zh w fun b3 w_1 =>
  zbj (zc P zf) zf w_1 fun b5 w_2 =>
  ldA P 5 (⟨b3,0,none⟩:Addr) w_2 fun t9 =>
  qy P zpq #[(Value.agg t9)] [.slc,.int .i64] true w_2 fun (t10:((Option Addr × Nat × Nat) × Int)) w_3 =>
  zaf P (Instr.buildSlice ji 1 #[(0,(Value.slice t10.1.1 t10.1.2.1 t10.1.2.2))]) .slc w_3 fun (t15:(Option Addr × Nat × Nat)) w_4 =>
  zaf P (Builtin.append_ #[ji,ji] ji #[(Value.slice list list_l list_c),(Value.slice t15.1 t15.2.1 t15.2.2)]) .slc w_4 fun (t16:(Option Addr × Nat × Nat)) w_5 =>
  qy P zn5 #[(Value.slice t10.1.1 t10.1.2.1 t10.1.2.2)] [.any] false w_5 fun (t18:Value) w_6 =>
  zbs P (storeVar zf (⟨b5,0,none⟩:Addr) t18) w_6 fun w_7 =>
  ldA P 32 (⟨b5,0,none⟩:Addr) w_7 fun t5 =>
  R (.returned (Value.tuple #[(Value.slice t16.1 t16.2.1 t16.2.2),(Value.agg t5)])) w_7
theorem qb4 (list:Option Addr) (list_l list_c:Nat) (n:Value) (R:Ending→World→Prop) (w:World):tr P qs ((Tryz.f59.body).getD .skip) zor (zb0 0 [(0,(Value.slice list list_l list_c)),(1,n)]) (zcb P Tryz.f59.results.toList R) w=zuo list list_l list_c n R w:=by kernel_rfl
theorem qch {list:Option Addr} {list_l list_c:Nat} {n:Value} {R:Ending→World→Prop} {w:World} (hT:zuo list list_l list_c n R w):qg P zkx #[(Value.slice list list_l list_c),n] w R :=
 zy (fn:=Tryz.f59) (c:=(Tryz.f59.body).getD .skip) (ann:=zor) (args:=[(0,(Value.slice list list_l list_c)),(1,n)]) (qs:=qs) mixed Tryz.func59 rfl (by kernel_rfl) (by kernel_rfl) qcx ((qb4 list list_l list_c n R w).symm ▸ hT)
def zby:Ann:=(.seq .leaf (.seq (.seq .leaf (.cond (.seq .leaf .leaf) .leaf)) (.seq (.seq .leaf (.blk (.loop [(13,.int .i64)] (.seq .leaf (.seq (.cond .leaf .leaf) (.seq (.blk (.seq .leaf (.seq (.tree (.op 0 [] (.op 1 [] (.op 2 [] (.op 4 [] (.op 5 [] (.op 6 [] (.op 3 [] (.op 7 [] (.op 8 [] .done)))))))))) (.cond (.seq .leaf .leaf) .leaf)))) .leaf)))))) (.seq .leaf .leaf))))
theorem zgo:okC P qs Tryz.f65.ntmps ((Tryz.f65.body).getD .skip) zby=true:=by kernel_rfl
def zb7 (s1:Option Addr) (s1_l s1_c:Nat) (s2:Option Addr) (s2_l s2_c:Nat) (R:Ending→World→Prop) (w:World):Prop :=
  xg ((s1_l:Int) != (s2_l:Int)) (
  R (.returned (Value.bool false)) w) (
  zav Int (fun s w_1 k =>
  xg (decide (s < (s1_l:Int))) (
  zbd w_1 fun w_2 =>
  ixS s1 s1_l 3 s fun t18 =>
  ixS s2 s2_l 3 s fun t22 =>
  ldA P 3 t18 w_2 fun t19 =>
  ldA P 3 t22 w_2 fun t23 =>
  zay P (eqM .neq zl (.tmp 19) (.tmp 23) (Value.agg t19) (Value.agg t23)) .bool w_2 fun (t24:Bool) =>
  xg t24 (
  R (.returned (Value.bool false)) w_2) (
  za7 .i64 s 1 fun t25 =>
  k t25 w_2)) (
  R (.returned (Value.bool true)) w_1)) 0 w)
theorem zgl (s1:Option Addr) (s1_l s1_c:Nat) (s2:Option Addr) (s2_l s2_c:Nat) (R:Ending→World→Prop) (w:World):tr P qs ((Tryz.f65.body).getD .skip) zby (zb0 0 [(0,(Value.slice s1 s1_l s1_c)),(0,(Value.slice s2 s2_l s2_c))]) (zcb P Tryz.f65.results.toList R) w=zb7 s1 s1_l s1_c s2 s2_l s2_c R w:=by kernel_rfl
theorem zgr {s1:Option Addr} {s1_l s1_c:Nat} {s2:Option Addr} {s2_l s2_c:Nat} {R:Ending→World→Prop} {w:World} (hT:zb7 s1 s1_l s1_c s2 s2_l s2_c R w):qg P zb6 #[(Value.slice s1 s1_l s1_c),(Value.slice s2 s2_l s2_c)] w R :=
 zy (fn:=Tryz.f65) (c:=(Tryz.f65.body).getD .skip) (ann:=zby) (args:=[(0,(Value.slice s1 s1_l s1_c)),(0,(Value.slice s2 s2_l s2_c))]) (qs:=qs) mixed Tryz.func65 rfl (by kernel_rfl) (by kernel_rfl) zgo ((zgl s1 s1_l s1_c s2 s2_l s2_c R w).symm ▸ hT)
def znt:Ann2:=(.seq (.pure .leaf) (.seq (.pure .leaf) (.seq (.seq (.pure .leaf) (.blk (.rng [(7,.slc)] false [] .leaf (.blk (.tree (.op 4 [] (.op 0 [] (.op 1 [] (.op 2 [] (.op 5 [] (.op 3 [0,5] (.op 6 [] (.op 7 [0] (.op 8 [] (.op 9 [] .done))))))))))))))) (.pure (.seq .leaf .leaf)))))
theorem z6j:qdz P qs Tryz.f66.ntmps ((Tryz.f66.body).getD .skip) znt=true:=by kernel_rfl
def zr1 (state:Option Addr) (state_l state_c:Nat) (R:Ending→World→Prop) (w:World):Prop :=
  zbj (zc P zu) zu w fun b3 w_1 =>
  qy P zbt #[(Value.slice state state_l state_c),(Value.int .i64 1024)] [.any] false w_1 fun (t6:Value) w_2 =>
  z5t P [.slc] t6 w_2 (fun (x:(Option Addr × Nat × Nat)) w_3 beg kc _ _ =>
  beg w_3 fun w_4 =>
  zbd w_4 fun w_5 =>
  ld .slc (⟨b3,0,none⟩:Addr) w_5 fun (t8:(Option Addr × Nat × Nat)) =>
  ld .slc (⟨b3,0,none⟩:Addr) w_5 fun (t9:(Option Addr × Nat × Nat)) =>
  zay P (convert zk qc (Value.slice x.1 x.2.1 x.2.2)) .str w_5 fun (t13:ByteArray) =>
  qy P zua #[(Value.int .i64 (t9.2.1:Int))] [.str] false w_5 fun (t11:ByteArray) w_6 =>
  ((zay P (convert zk qc (Value.slice x.1 x.2.1 x.2.2)) .str w_6 fun (t13_1:ByteArray) =>
  (Value.string t13_1)=(Value.string t13)) ∧
  ((ld .slc (⟨b3,0,none⟩:Addr) w_6 fun (t8_1:(Option Addr × Nat × Nat)) =>
  (Value.slice t8_1.1 t8_1.2.1 t8_1.2.2)=(Value.slice t8.1 t8.2.1 t8.2.2)) ∧
  zay P (Instr.build zl #[(0,(Value.string t11)),(2,(Value.string t13))]) .any w_6 fun (t14:Value) =>
  zaf P (Instr.buildSlice zu 1 #[(0,t14)]) .slc w_6 fun (t15:(Option Addr × Nat × Nat)) w_7 =>
  ((ld .slc (⟨b3,0,none⟩:Addr) w_7 fun (t8_2:(Option Addr × Nat × Nat)) =>
  (Value.slice t8_2.1 t8_2.2.1 t8_2.2.2)=(Value.slice t8.1 t8.2.1 t8.2.2)) ∧
  zaf P (Builtin.append_ #[zu,zu] zu #[(Value.slice t8.1 t8.2.1 t8.2.2),(Value.slice t15.1 t15.2.1 t15.2.2)]) .slc w_7 fun (t16:(Option Addr × Nat × Nat)) w_8 =>
  stC (⟨b3,0,none⟩:Addr) (Value.slice t16.1 t16.2.1 t16.2.2) w_8 fun w_9 =>
  kc w_9)))) (fun D w_10 =>
  ld .slc (⟨b3,0,none⟩:Addr) w_10 fun (t17:(Option Addr × Nat × Nat)) =>
  (w_10.heap[D]?=some (.deferred (some []))∧∀ w_11,w_11=World.putObj w_10 D (.deferred none) →
  R (.returned (Value.slice t17.1 t17.2.1 t17.2.2)) w_11)) (fun _D _w=>False) (fun _ _D _w=>False)
theorem z7e (state:Option Addr) (state_l state_c:Nat) (R:Ending→World→Prop) (w:World):tr2 P qs ((Tryz.f66.body).getD .skip) znt [] (zb0 0 [(0,(Value.slice state state_l state_c))]) (qhj P Tryz.f66.results.toList R) w=zr1 state state_l state_c R w:=by kernel_rfl
theorem z7x {state:Option Addr} {state_l state_c:Nat} {R:Ending→World→Prop} {w:World} (hT:zr1 state state_l state_c R w):qg P zmc #[(Value.slice state state_l state_c)] w R :=
 z02 (fn:=Tryz.f66) (c:=(Tryz.f66.body).getD .skip) (ann:=znt) (args:=[(0,(Value.slice state state_l state_c))]) (qs:=qs) mixed Tryz.func66 rfl (by kernel_rfl) (by kernel_rfl) z6j ((z7e state state_l state_c R w).symm ▸ hT)
def zqy:Ann:=(.seq .leaf (.seq .leaf (.seq (.seq .leaf (.cond (.seq .leaf .leaf) .leaf)) (.seq .leaf (.join [] (.seq .leaf (.cond (.seq .leaf .leaf) .leaf)) (.seq .leaf .leaf))))))
theorem qes:okC P qs Tryz.f103.ntmps ((Tryz.f103.body).getD .skip) zqy=true:=by kernel_rfl
def zwz (s:Option Addr) (d:Value) (kind:Int) (R:Ending→World→Prop) (w:World):Prop :=
  zbj (Value.cells d) zf w fun b4 w_1 =>
  zbj (zc P zh) zh w_1 fun b6 w_2 =>
  ldA P 32 (⟨b4,0,none⟩:Addr) w_2 fun t13 =>
  qy P zj2 #[(Value.pointer s),(Value.agg t13)] [.slc,.int .i64] true w_2 fun (t14:((Option Addr × Nat × Nat) × Int)) w_3 =>
  xg (t14.2 != 0) (
  zay P (Instr.build zh #[]) .any w_3 fun (t19:Value) =>
  zbs P (storeVar zh (⟨b6,0,none⟩:Addr) t19) w_3 fun w_4 =>
  ldA P 5 (⟨b6,0,none⟩:Addr) w_4 fun t6 =>
  R (.returned (Value.tuple #[(Value.agg t6),(Value.int .i64 t14.2)])) w_4) (
  qy P zpe #[(Value.slice t14.1.1 t14.1.2.1 t14.1.2.2)] [.any,.int .i64] true w_3 fun (t23:(Value × Int)) w_5 =>
  zbj (zc P zh) zh w_5 fun b10 w_6 =>
  zbs P (storeVar zh (⟨b10,0,none⟩:Addr) t23.1) w_6 fun w_7 =>
  joinP Unit (fun k =>
  xg (t23.2 != 0) (
  zay P (Instr.build zh #[]) .any w_7 fun (t34:Value) =>
  zbs P (storeVar zh (⟨b6,0,none⟩:Addr) t34) w_7 fun w_8 =>
  ldA P 5 (⟨b6,0,none⟩:Addr) w_8 fun t6_1 =>
  R (.returned (Value.tuple #[(Value.agg t6_1),(Value.int .i64 21)])) w_8) (
  ld (.int .i64) (⟨b10,0,none⟩:Addr) w_7 fun (t30:Int) =>
  xg (t30 != kind) (
  zay P (Instr.build zh #[]) .any w_7 fun (t34_1:Value) =>
  zbs P (storeVar zh (⟨b6,0,none⟩:Addr) t34_1) w_7 fun w_9 =>
  ldA P 5 (⟨b6,0,none⟩:Addr) w_9 fun t6_2 =>
  R (.returned (Value.tuple #[(Value.agg t6_2),(Value.int .i64 21)])) w_9) (
  k () w_7))) (fun _ w_10 =>
  ldA P 5 (⟨b10,0,none⟩:Addr) w_10 fun t35 =>
  zbs P (storeVar zh (⟨b6,0,none⟩:Addr) (Value.agg t35)) w_10 fun w_11 =>
  ldA P 5 (⟨b6,0,none⟩:Addr) w_11 fun t6_3 =>
  R (.returned (Value.tuple #[(Value.agg t6_3),(Value.int .i64 0)])) w_11))
theorem qdx (s:Option Addr) (d:Value) (kind:Int) (R:Ending→World→Prop) (w:World):tr P qs ((Tryz.f103.body).getD .skip) zqy (zb0 0 [(0,(Value.pointer s)),(1,d),(0,(Value.int .i64 kind))]) (zcb P Tryz.f103.results.toList R) w=zwz s d kind R w:=by kernel_rfl
theorem qet {s:Option Addr} {d:Value} {kind:Int} {R:Ending→World→Prop} {w:World} (hT:zwz s d kind R w):qg P zie #[(Value.pointer s),d,(Value.int .i64 kind)] w R :=
 zy (fn:=Tryz.f103) (c:=(Tryz.f103.body).getD .skip) (ann:=zqy) (args:=[(0,(Value.pointer s)),(1,d),(0,(Value.int .i64 kind))]) (qs:=qs) mixed Tryz.func103 rfl (by kernel_rfl) (by kernel_rfl) qes ((qdx s d kind R w).symm ▸ hT)
def zov:Ann:=(.seq .leaf (.seq (.seq .leaf (.blk (.loop [(3,.slc),(19,.int .i64)] (.seq .leaf (.seq (.cond .leaf .leaf) (.seq (.jblk [(3,.slc)] (.seq .leaf (.seq (.tree (.op 0 [] (.op 2 [] (.op 3 [] (.or (.op 1 [3] (.op 4 [] (.op 5 [] (.op 6 [] .done)))) (.op 4 [] (.op 1 [3] (.op 5 [] (.op 6 [] .done))))))))) (.seq (.blk (.seq .leaf (.cond (.seq .leaf .leaf) (.seq .leaf (.cond (.seq .leaf .leaf) .leaf))))) (.seq .leaf (.seq (.seq .leaf (.cond (.seq .leaf .leaf) .leaf)) (.seq (.tree (.op 0 [] (.op 2 [] (.op 3 [] (.op 4 [] (.or (.op 1 [3] (.op 5 [] (.op 6 [3,5] (.op 7 [] .done)))) (.op 6 [3] (.op 1 [3] (.op 5 [] (.op 7 [] .done)))))))))) (.join [] (.seq .leaf (.cond (.seq .leaf (.seq .leaf (.cond (.seq .leaf .leaf) .leaf))) .leaf)) (.seq .leaf (.seq .leaf (.cond (.seq .leaf (.seq .leaf (.cond (.seq .leaf .leaf) .leaf))) .leaf))))))))))) .leaf)))))) (.seq .leaf .leaf)))
theorem qb7:okC P qs Tryz.f104.ntmps ((Tryz.f104.body).getD .skip) zov=true:=by kernel_rfl
def zta (s:Option Addr) (n:Value) (names:Option Addr) (names_l names_c:Nat) (out:Option Addr) (out_l out_c:Nat) (R:Ending→World→Prop) (w:World):Prop :=
  zbj (Value.cells n) zh w fun b5 w_1 =>
  ld .slc (⟨b5,4,none⟩:Addr) w_1 fun (t17:(Option Addr × Nat × Nat)) =>
  zav ((Option Addr × Nat × Nat) × Int) (fun s_1 w_2 k =>
  xg (decide (s_1.2 < (t17.2.1:Int))) (
  joinP (Option Addr × Nat × Nat) (fun k_1 =>
  ixS t17.1 t17.2.1 34 s_1.2 fun t21 =>
  ldA P 34 t21 w_2 fun t22 =>
  zbj (zc P ql) ql w_2 fun b11 w_3 =>
  zbs P (storeVar ql (⟨b11,0,none⟩:Addr) (Value.agg t22)) w_3 fun w_4 =>
  zbd w_4 fun w_5 =>
  ld .str (⟨b11,0,none⟩:Addr) w_5 fun (t26:ByteArray) =>
  ((qy P zbu #[(Value.slice names names_l names_c)] [.slc] false w_5 fun (t24:(Option Addr × Nat × Nat)) w_6 =>
  ((ld .str (⟨b11,0,none⟩:Addr) w_6 fun (t26_1:ByteArray) =>
  (Value.string t26_1)=(Value.string t26)) ∧
  zaf P (Instr.buildSlice qw 1 #[(0,(Value.string t26))]) .slc w_6 fun (t27:(Option Addr × Nat × Nat)) w_7 =>
  zaf P (Builtin.append_ #[qw,qw] qw #[(Value.slice t24.1 t24.2.1 t24.2.2),(Value.slice t27.1 t27.2.1 t27.2.2)]) .slc w_7 fun (t28:(Option Addr × Nat × Nat)) w_8 =>
  xg ((s_1.1.2.1:Int) == 512) (
  R (.returned (Value.tuple #[(Value.slice none 0 0),(Value.int .i64 8)])) w_8) (
  xg (decide ((t28.2.1:Int) > 8)) (
  R (.returned (Value.tuple #[(Value.slice none 0 0),(Value.int .i64 42)])) w_8) (
  ldA P 32 (⟨b11,2,none⟩:Addr) w_8 fun t40 =>
  ld (.int .i64) (⟨b11,1,none⟩:Addr) w_8 fun (t42:Int) =>
  qy P zie #[(Value.pointer s),(Value.agg t40),(Value.int .i64 t42)] [.any,.int .i64] true w_8 fun (t43:(Value × Int)) w_9 =>
  zbj (zc P zh) zh w_9 fun b13 w_10 =>
  zbs P (storeVar zh (⟨b13,0,none⟩:Addr) t43.1) w_10 fun w_11 =>
  xg (t43.2 != 0) (
  R (.returned (Value.tuple #[(Value.slice none 0 0),(Value.int .i64 t43.2)])) w_11) (
  zbd w_11 fun w_12 =>
  ld (.int .i64) (⟨b11,1,none⟩:Addr) w_12 fun (t52:Int) =>
  ((qy P zci #[(Value.slice t28.1 t28.2.1 t28.2.2)] [.str] false w_12 fun (t50:ByteArray) w_13 =>
  ((ld (.int .i64) (⟨b11,1,none⟩:Addr) w_13 fun (t52_1:Int) =>
  (Value.int .i64 t52_1)=(Value.int .i64 t52)) ∧
  zay P (Instr.build zl #[(0,(Value.string t50)),(1,(Value.bool (t52 == 3)))]) .any w_13 fun (t54:Value) =>
  zbj (zc P zl) zl w_13 fun b15 w_14 =>
  ((zay P (Instr.build zl #[(0,(Value.string t50)),(1,(Value.bool (t52 == 3)))]) .any w_14 fun (t54_1:Value) =>
  t54_1=t54) ∧
  ((ld (.int .i64) (⟨b11,1,none⟩:Addr) w_14 fun (t52_2:Int) =>
  (Value.int .i64 t52_2)=(Value.int .i64 t52)) ∧
  zbs P (storeVar zl (⟨b15,0,none⟩:Addr) t54) w_14 fun w_15 =>
  joinP Unit (fun k_2 =>
  ld .bool (⟨b15,1,none⟩:Addr) w_15 fun (t56:Bool) =>
  xg (!t56) (
  ldA P 5 (⟨b13,0,none⟩:Addr) w_15 fun t60 =>
  qy P zcc #[(Value.pointer s),(Value.agg t60)] [.str,.int .i64] true w_15 fun (t61:(ByteArray × Int)) w_16 =>
  stC (⟨b15,2,none⟩:Addr) (Value.string t61.1) w_16 fun w_17 =>
  xg (t61.2 != 0) (
  R (.returned (Value.tuple #[(Value.slice none 0 0),(Value.int .i64 t61.2)])) w_17) (
  k_2 () w_17)) (
  k_2 () w_15)) (fun _ w_18 =>
  ldA P 3 (⟨b15,0,none⟩:Addr) w_18 fun t69 =>
  zaf P (Instr.buildSlice zu 1 #[(0,(Value.agg t69))]) .slc w_18 fun (t70:(Option Addr × Nat × Nat)) w_19 =>
  zaf P (Builtin.append_ #[zu,zu] zu #[(Value.slice s_1.1.1 s_1.1.2.1 s_1.1.2.2),(Value.slice t70.1 t70.2.1 t70.2.2)]) .slc w_19 fun (t71:(Option Addr × Nat × Nat)) w_20 =>
  ld .bool (⟨b15,1,none⟩:Addr) w_20 fun (t73:Bool) =>
  xg t73 (
  ldA P 5 (⟨b13,0,none⟩:Addr) w_20 fun t76 =>
  qy P zcd #[(Value.pointer s),(Value.agg t76),(Value.slice t28.1 t28.2.1 t28.2.2),(Value.slice t71.1 t71.2.1 t71.2.2)] [.slc,.int .i64] true w_20 fun (t79:((Option Addr × Nat × Nat) × Int)) w_21 =>
  xg (t79.2 != 0) (
  R (.returned (Value.tuple #[(Value.slice none 0 0),(Value.int .i64 t79.2)])) w_21) (
  k_1 (t79.1.1,t79.1.2.1,t79.1.2.2) w_21)) (
  k_1 (t71.1,t71.2.1,t71.2.2) w_20)))))) ∧
  (zbj (zc P zl) zl w_12 fun b15_1 w_22 =>
  ((ld (.int .i64) (⟨b11,1,none⟩:Addr) w_22 fun (t52_3:Int) =>
  (Value.int .i64 t52_3)=(Value.int .i64 t52)) ∧
  qy P zci #[(Value.slice t28.1 t28.2.1 t28.2.2)] [.str] false w_22 fun (t50_1:ByteArray) w_23 =>
  ((ld (.int .i64) (⟨b11,1,none⟩:Addr) w_23 fun (t52_4:Int) =>
  (Value.int .i64 t52_4)=(Value.int .i64 t52)) ∧
  zay P (Instr.build zl #[(0,(Value.string t50_1)),(1,(Value.bool (t52 == 3)))]) .any w_23 fun (t54_2:Value) =>
  zbs P (storeVar zl (⟨b15_1,0,none⟩:Addr) t54_2) w_23 fun w_24 =>
  joinP Unit (fun k_3 =>
  ld .bool (⟨b15_1,1,none⟩:Addr) w_24 fun (t56_1:Bool) =>
  xg (!t56_1) (
  ldA P 5 (⟨b13,0,none⟩:Addr) w_24 fun t60_1 =>
  qy P zcc #[(Value.pointer s),(Value.agg t60_1)] [.str,.int .i64] true w_24 fun (t61_1:(ByteArray × Int)) w_25 =>
  stC (⟨b15_1,2,none⟩:Addr) (Value.string t61_1.1) w_25 fun w_26 =>
  xg (t61_1.2 != 0) (
  R (.returned (Value.tuple #[(Value.slice none 0 0),(Value.int .i64 t61_1.2)])) w_26) (
  k_3 () w_26)) (
  k_3 () w_24)) (fun _ w_27 =>
  ldA P 3 (⟨b15_1,0,none⟩:Addr) w_27 fun t69_1 =>
  zaf P (Instr.buildSlice zu 1 #[(0,(Value.agg t69_1))]) .slc w_27 fun (t70_1:(Option Addr × Nat × Nat)) w_28 =>
  zaf P (Builtin.append_ #[zu,zu] zu #[(Value.slice s_1.1.1 s_1.1.2.1 s_1.1.2.2),(Value.slice t70_1.1 t70_1.2.1 t70_1.2.2)]) .slc w_28 fun (t71_1:(Option Addr × Nat × Nat)) w_29 =>
  ld .bool (⟨b15_1,1,none⟩:Addr) w_29 fun (t73_1:Bool) =>
  xg t73_1 (
  ldA P 5 (⟨b13,0,none⟩:Addr) w_29 fun t76_1 =>
  qy P zcd #[(Value.pointer s),(Value.agg t76_1),(Value.slice t28.1 t28.2.1 t28.2.2),(Value.slice t71_1.1 t71_1.2.1 t71_1.2.2)] [.slc,.int .i64] true w_29 fun (t79_1:((Option Addr × Nat × Nat) × Int)) w_30 =>
  xg (t79_1.2 != 0) (
  R (.returned (Value.tuple #[(Value.slice none 0 0),(Value.int .i64 t79_1.2)])) w_30) (
  k_1 (t79_1.1.1,t79_1.1.2.1,t79_1.1.2.2) w_30)) (
  k_1 (t71_1.1,t71_1.2.1,t71_1.2.2) w_29))))))))))) ∧
  (zaf P (Instr.buildSlice qw 1 #[(0,(Value.string t26))]) .slc w_5 fun (t27_1:(Option Addr × Nat × Nat)) w_31 =>
  qy P zbu #[(Value.slice names names_l names_c)] [.slc] false w_31 fun (t24_1:(Option Addr × Nat × Nat)) w_32 =>
  ((ld .str (⟨b11,0,none⟩:Addr) w_32 fun (t26_2:ByteArray) =>
  (Value.string t26_2)=(Value.string t26)) ∧
  zaf P (Builtin.append_ #[qw,qw] qw #[(Value.slice t24_1.1 t24_1.2.1 t24_1.2.2),(Value.slice t27_1.1 t27_1.2.1 t27_1.2.2)]) .slc w_32 fun (t28_1:(Option Addr × Nat × Nat)) w_33 =>
  xg ((s_1.1.2.1:Int) == 512) (
  R (.returned (Value.tuple #[(Value.slice none 0 0),(Value.int .i64 8)])) w_33) (
  xg (decide ((t28_1.2.1:Int) > 8)) (
  R (.returned (Value.tuple #[(Value.slice none 0 0),(Value.int .i64 42)])) w_33) (
  ldA P 32 (⟨b11,2,none⟩:Addr) w_33 fun t40_1 =>
  ld (.int .i64) (⟨b11,1,none⟩:Addr) w_33 fun (t42_1:Int) =>
  qy P zie #[(Value.pointer s),(Value.agg t40_1),(Value.int .i64 t42_1)] [.any,.int .i64] true w_33 fun (t43_1:(Value × Int)) w_34 =>
  zbj (zc P zh) zh w_34 fun b13_1 w_35 =>
  zbs P (storeVar zh (⟨b13_1,0,none⟩:Addr) t43_1.1) w_35 fun w_36 =>
  xg (t43_1.2 != 0) (
  R (.returned (Value.tuple #[(Value.slice none 0 0),(Value.int .i64 t43_1.2)])) w_36) (
  zbd w_36 fun w_37 =>
  ld (.int .i64) (⟨b11,1,none⟩:Addr) w_37 fun (t52_5:Int) =>
  ((qy P zci #[(Value.slice t28_1.1 t28_1.2.1 t28_1.2.2)] [.str] false w_37 fun (t50_2:ByteArray) w_38 =>
  ((ld (.int .i64) (⟨b11,1,none⟩:Addr) w_38 fun (t52_6:Int) =>
  (Value.int .i64 t52_6)=(Value.int .i64 t52_5)) ∧
  zay P (Instr.build zl #[(0,(Value.string t50_2)),(1,(Value.bool (t52_5 == 3)))]) .any w_38 fun (t54_3:Value) =>
  zbj (zc P zl) zl w_38 fun b15_2 w_39 =>
  ((zay P (Instr.build zl #[(0,(Value.string t50_2)),(1,(Value.bool (t52_5 == 3)))]) .any w_39 fun (t54_4:Value) =>
  t54_4=t54_3) ∧
  ((ld (.int .i64) (⟨b11,1,none⟩:Addr) w_39 fun (t52_7:Int) =>
  (Value.int .i64 t52_7)=(Value.int .i64 t52_5)) ∧
  zbs P (storeVar zl (⟨b15_2,0,none⟩:Addr) t54_3) w_39 fun w_40 =>
  joinP Unit (fun k_4 =>
  ld .bool (⟨b15_2,1,none⟩:Addr) w_40 fun (t56_2:Bool) =>
  xg (!t56_2) (
  ldA P 5 (⟨b13_1,0,none⟩:Addr) w_40 fun t60_2 =>
  qy P zcc #[(Value.pointer s),(Value.agg t60_2)] [.str,.int .i64] true w_40 fun (t61_2:(ByteArray × Int)) w_41 =>
  stC (⟨b15_2,2,none⟩:Addr) (Value.string t61_2.1) w_41 fun w_42 =>
  xg (t61_2.2 != 0) (
  R (.returned (Value.tuple #[(Value.slice none 0 0),(Value.int .i64 t61_2.2)])) w_42) (
  k_4 () w_42)) (
  k_4 () w_40)) (fun _ w_43 =>
  ldA P 3 (⟨b15_2,0,none⟩:Addr) w_43 fun t69_2 =>
  zaf P (Instr.buildSlice zu 1 #[(0,(Value.agg t69_2))]) .slc w_43 fun (t70_2:(Option Addr × Nat × Nat)) w_44 =>
  zaf P (Builtin.append_ #[zu,zu] zu #[(Value.slice s_1.1.1 s_1.1.2.1 s_1.1.2.2),(Value.slice t70_2.1 t70_2.2.1 t70_2.2.2)]) .slc w_44 fun (t71_2:(Option Addr × Nat × Nat)) w_45 =>
  ld .bool (⟨b15_2,1,none⟩:Addr) w_45 fun (t73_2:Bool) =>
  xg t73_2 (
  ldA P 5 (⟨b13_1,0,none⟩:Addr) w_45 fun t76_2 =>
  qy P zcd #[(Value.pointer s),(Value.agg t76_2),(Value.slice t28_1.1 t28_1.2.1 t28_1.2.2),(Value.slice t71_2.1 t71_2.2.1 t71_2.2.2)] [.slc,.int .i64] true w_45 fun (t79_2:((Option Addr × Nat × Nat) × Int)) w_46 =>
  xg (t79_2.2 != 0) (
  R (.returned (Value.tuple #[(Value.slice none 0 0),(Value.int .i64 t79_2.2)])) w_46) (
  k_1 (t79_2.1.1,t79_2.1.2.1,t79_2.1.2.2) w_46)) (
  k_1 (t71_2.1,t71_2.2.1,t71_2.2.2) w_45)))))) ∧
  (zbj (zc P zl) zl w_37 fun b15_3 w_47 =>
  ((ld (.int .i64) (⟨b11,1,none⟩:Addr) w_47 fun (t52_8:Int) =>
  (Value.int .i64 t52_8)=(Value.int .i64 t52_5)) ∧
  qy P zci #[(Value.slice t28_1.1 t28_1.2.1 t28_1.2.2)] [.str] false w_47 fun (t50_3:ByteArray) w_48 =>
  ((ld (.int .i64) (⟨b11,1,none⟩:Addr) w_48 fun (t52_9:Int) =>
  (Value.int .i64 t52_9)=(Value.int .i64 t52_5)) ∧
  zay P (Instr.build zl #[(0,(Value.string t50_3)),(1,(Value.bool (t52_5 == 3)))]) .any w_48 fun (t54_5:Value) =>
  zbs P (storeVar zl (⟨b15_3,0,none⟩:Addr) t54_5) w_48 fun w_49 =>
  joinP Unit (fun k_5 =>
  ld .bool (⟨b15_3,1,none⟩:Addr) w_49 fun (t56_3:Bool) =>
  xg (!t56_3) (
  ldA P 5 (⟨b13_1,0,none⟩:Addr) w_49 fun t60_3 =>
  qy P zcc #[(Value.pointer s),(Value.agg t60_3)] [.str,.int .i64] true w_49 fun (t61_3:(ByteArray × Int)) w_50 =>
  stC (⟨b15_3,2,none⟩:Addr) (Value.string t61_3.1) w_50 fun w_51 =>
  xg (t61_3.2 != 0) (
  R (.returned (Value.tuple #[(Value.slice none 0 0),(Value.int .i64 t61_3.2)])) w_51) (
  k_5 () w_51)) (
  k_5 () w_49)) (fun _ w_52 =>
  ldA P 3 (⟨b15_3,0,none⟩:Addr) w_52 fun t69_3 =>
  zaf P (Instr.buildSlice zu 1 #[(0,(Value.agg t69_3))]) .slc w_52 fun (t70_3:(Option Addr × Nat × Nat)) w_53 =>
  zaf P (Builtin.append_ #[zu,zu] zu #[(Value.slice s_1.1.1 s_1.1.2.1 s_1.1.2.2),(Value.slice t70_3.1 t70_3.2.1 t70_3.2.2)]) .slc w_53 fun (t71_3:(Option Addr × Nat × Nat)) w_54 =>
  ld .bool (⟨b15_3,1,none⟩:Addr) w_54 fun (t73_3:Bool) =>
  xg t73_3 (
  ldA P 5 (⟨b13_1,0,none⟩:Addr) w_54 fun t76_3 =>
  qy P zcd #[(Value.pointer s),(Value.agg t76_3),(Value.slice t28_1.1 t28_1.2.1 t28_1.2.2),(Value.slice t71_3.1 t71_3.2.1 t71_3.2.2)] [.slc,.int .i64] true w_54 fun (t79_3:((Option Addr × Nat × Nat) × Int)) w_55 =>
  xg (t79_3.2 != 0) (
  R (.returned (Value.tuple #[(Value.slice none 0 0),(Value.int .i64 t79_3.2)])) w_55) (
  k_1 (t79_3.1.1,t79_3.1.2.1,t79_3.1.2.2) w_55)) (
  k_1 (t71_3.1,t71_3.2.1,t71_3.2.2) w_54))))))))))))) (fun s_6 w_56 =>
  za7 .i64 s_1.2 1 fun t85 =>
  k ((s_6.1,s_6.2.1,s_6.2.2),t85) w_56)) (
  R (.returned (Value.tuple #[(Value.slice s_1.1.1 s_1.1.2.1 s_1.1.2.2),(Value.int .i64 0)])) w_2)) ((out,out_l,out_c),0) w_1
theorem qau (s:Option Addr) (n:Value) (names:Option Addr) (names_l names_c:Nat) (out:Option Addr) (out_l out_c:Nat) (R:Ending→World→Prop) (w:World):tr P qs ((Tryz.f104.body).getD .skip) zov (zb0 0 [(0,(Value.pointer s)),(1,n),(0,(Value.slice names names_l names_c)),(0,(Value.slice out out_l out_c))]) (zcb P Tryz.f104.results.toList R) w=zta s n names names_l names_c out out_l out_c R w:=by kernel_rfl
theorem z97 {s:Option Addr} {n:Value} {names:Option Addr} {names_l names_c:Nat} {out:Option Addr} {out_l out_c:Nat} {R:Ending→World→Prop} {w:World} (hT:zta s n names names_l names_c out out_l out_c R w):qg P zcd #[(Value.pointer s),n,(Value.slice names names_l names_c),(Value.slice out out_l out_c)] w R :=
 zy (fn:=Tryz.f104) (c:=(Tryz.f104.body).getD .skip) (ann:=zov) (args:=[(0,(Value.pointer s)),(1,n),(0,(Value.slice names names_l names_c)),(0,(Value.slice out out_l out_c))]) (qs:=qs) mixed Tryz.func104 rfl (by kernel_rfl) (by kernel_rfl) qb7 ((qau s n names names_l names_c out out_l out_c R w).symm ▸ hT)
def zbb:Ann:=(.seq .leaf (.seq .leaf .leaf))
theorem ze2:okC P qs Tryz.f106.ntmps ((Tryz.f106.body).getD .skip) zbb=true:=by kernel_rfl
def zbe (s:Option Addr) (s_l s_c:Nat) (f:Value) (R:Ending→World→Prop) (w:World):Prop :=
  qy P zbq #[(Value.slice s s_l s_c),f] [.int .i64] false w fun (t7:Int) w_1 =>
  R (.returned (Value.bool (decide (t7 ≥ 0)))) w_1
theorem ze6 (s:Option Addr) (s_l s_c:Nat) (f:Value) (R:Ending→World→Prop) (w:World):tr P qs ((Tryz.f106.body).getD .skip) zbb (zb0 0 [(0,(Value.slice s s_l s_c)),(1,f)]) (zcb P Tryz.f106.results.toList R) w=zbe s s_l s_c f R w:=by kernel_rfl
theorem ze3 {s:Option Addr} {s_l s_c:Nat} {f:Value} {R:Ending→World→Prop} {w:World} (hT:zbe s s_l s_c f R w):qg P zau #[(Value.slice s s_l s_c),f] w R :=
 zy (fn:=Tryz.f106) (c:=(Tryz.f106.body).getD .skip) (ann:=zbb) (args:=[(0,(Value.slice s s_l s_c)),(1,f)]) (qs:=qs) mixed Tryz.func106 rfl (by kernel_rfl) (by kernel_rfl) ze2 ((ze6 s s_l s_c f R w).symm ▸ hT)
def zjh:Ann:=(.seq .leaf (.seq .leaf .leaf))
theorem zz7:okC P qs Tryz.f107.ntmps ((Tryz.f107.body).getD .skip) zjh=true:=by kernel_rfl
def znp (f:Value) (R:Ending→World→Prop) (w:World):Prop :=
  zbj (Value.cells f) zl w fun b1 w_1 =>
  ld .bool (⟨b1,1,none⟩:Addr) w_1 fun (t4:Bool) =>
  xg t4 (
  ld .str (⟨b1,2,none⟩:Addr) w_1 fun (t7:ByteArray) =>
  R (.returned (Value.bool (!(t7.toList == (ByteArray.mk #[]).toList)))) w_1) (
  R (.returned (Value.bool false)) w_1)
theorem zzx (f:Value) (R:Ending→World→Prop) (w:World):tr P qs ((Tryz.f107.body).getD .skip) zjh (zb0 0 [(1,f)]) (zcb P Tryz.f107.results.toList R) w=znp f R w:=by kernel_rfl
theorem zzf {f:Value} {R:Ending→World→Prop} {w:World} (hT:znp f R w):qg P zm0 #[f] w R :=
 zy (fn:=Tryz.f107) (c:=(Tryz.f107.body).getD .skip) (ann:=zjh) (args:=[(1,f)]) (qs:=qs) mixed Tryz.func107 rfl (by kernel_rfl) (by kernel_rfl) zz7 ((zzx f R w).symm ▸ hT)
def zj3:Ann:=(.seq .leaf (.seq .leaf .leaf))
theorem z01:okC P qs Tryz.f108.ntmps ((Tryz.f108.body).getD .skip) zj3=true:=by kernel_rfl
def zmx (f:Value) (R:Ending→World→Prop) (w:World):Prop :=
  zbj (Value.cells f) zl w fun b1 w_1 =>
  ld .str (⟨b1,2,none⟩:Addr) w_1 fun (t4:ByteArray) =>
  R (.returned (Value.bool (decide ((t4.size:Int) > 1024)))) w_1
theorem z1d (f:Value) (R:Ending→World→Prop) (w:World):tr P qs ((Tryz.f108.body).getD .skip) zj3 (zb0 0 [(1,f)]) (zcb P Tryz.f108.results.toList R) w=zmx f R w:=by kernel_rfl
theorem zzu {f:Value} {R:Ending→World→Prop} {w:World} (hT:zmx f R w):qg P zng #[f] w R :=
 zy (fn:=Tryz.f108) (c:=(Tryz.f108.body).getD .skip) (ann:=zj3) (args:=[(1,f)]) (qs:=qs) mixed Tryz.func108 rfl (by kernel_rfl) (by kernel_rfl) z01 ((z1d f R w).symm ▸ hT)
def zjb:Ann:=(.seq .leaf (.seq .leaf .leaf))
theorem z0b:okC P qs Tryz.f110.ntmps ((Tryz.f110.body).getD .skip) zjb=true:=by kernel_rfl
def zmv (a:Value) (b:Value) (R:Ending→World→Prop) (w:World):Prop :=
  zbj (Value.cells a) qm w fun b2 w_1 =>
  zbj (Value.cells b) qm w_1 fun b3 w_2 =>
  ld .slc (⟨b2,0,none⟩:Addr) w_2 fun (t6:(Option Addr × Nat × Nat)) =>
  ld .slc (⟨b3,0,none⟩:Addr) w_2 fun (t8:(Option Addr × Nat × Nat)) =>
  qy P zk2 #[(Value.slice t6.1 t6.2.1 t6.2.2),(Value.slice t8.1 t8.2.1 t8.2.2)] [.int .i64] false w_2 fun (t9:Int) w_3 =>
  R (.returned (Value.int .i64 t9)) w_3
theorem z06 (a:Value) (b:Value) (R:Ending→World→Prop) (w:World):tr P qs ((Tryz.f110.body).getD .skip) zjb (zb0 0 [(1,a),(1,b)]) (zcb P Tryz.f110.results.toList R) w=zmv a b R w:=by kernel_rfl
theorem z1i {a:Value} {b:Value} {R:Ending→World→Prop} {w:World} (hT:zmv a b R w):qg P zgb #[a,b] w R :=
 zy (fn:=Tryz.f110) (c:=(Tryz.f110.body).getD .skip) (ann:=zjb) (args:=[(1,a),(1,b)]) (qs:=qs) mixed Tryz.func110 rfl (by kernel_rfl) (by kernel_rfl) z0b ((z06 a b R w).symm ▸ hT)
def zdn:Ann:=(.seq .leaf (.join [] (.seq .leaf (.cond .leaf .leaf)) (.seq .leaf .leaf)))
theorem zlz:okC P qs Tryz.f113.ntmps ((Tryz.f113.body).getD .skip) zdn=true:=by kernel_rfl
def zcs (s:Option Addr) (s_l s_c:Nat) (n:Int) (R:Ending→World→Prop) (w:World):Prop :=
  zbj #[(Value.slice s s_l s_c)] zk w fun b2 w_1 =>
  zbj #[(Value.int .i64 n)] zds w_1 fun b3 w_2 =>
  joinP Unit (fun k =>
  ld (.int .i64) (⟨b3,0,none⟩:Addr) w_2 fun (t5:Int) =>
  xg (decide (t5 < 1)) (
  zay P (Instr.makeInterface qc (Value.string (ByteArray.mk #[99,97,110,110,111,116,32,98,101,32,108,101,115,115,32,116,104,97,110,32,49]))) .any w_2 fun (_:Value) =>
  False) (
  k () w_2)) (fun _ w_3 =>
  zay P (Instr.makeFunc (Go.Fn.func za2) #[] #[(Value.pointer (some (⟨b2,0,none⟩:Addr))),(Value.pointer (some (⟨b3,0,none⟩:Addr)))]) .any w_3 fun (t8:Value) =>
  R (.returned t8) w_3)
theorem zlf (s:Option Addr) (s_l s_c:Nat) (n:Int) (R:Ending→World→Prop) (w:World):tr P qs ((Tryz.f113.body).getD .skip) zdn (zb0 0 [(0,(Value.slice s s_l s_c)),(0,(Value.int .i64 n))]) (zcb P Tryz.f113.results.toList R) w=zcs s s_l s_c n R w:=by kernel_rfl
theorem zfr {s:Option Addr} {s_l s_c:Nat} {n:Int} {R:Ending→World→Prop} {w:World} (hT:zcs s s_l s_c n R w):qg P zbt #[(Value.slice s s_l s_c),(Value.int .i64 n)] w R :=
 zy (fn:=Tryz.f113) (c:=(Tryz.f113.body).getD .skip) (ann:=zdn) (args:=[(0,(Value.slice s s_l s_c)),(0,(Value.int .i64 n))]) (qs:=qs) mixed Tryz.func113 rfl (by kernel_rfl) (by kernel_rfl) zlz ((zlf s s_l s_c n R w).symm ▸ hT)
def zo2:Ann:=(.seq .leaf (.seq .leaf .leaf))
theorem qab:okC P qs Tryz.f124.ntmps ((Tryz.f124.body).getD .skip) zo2=true:=by kernel_rfl
def zt4 (i:Int) (R:Ending→World→Prop) (w:World):Prop :=
  qle .i64 i 10 fun t4 =>
  za7 .i64 48 t4 fun t5 =>
  cvI .i32 t5 fun t6 =>
  zaf P (convert z6w qc (Value.int .i32 t6)) .str w fun (t7:ByteArray) w_1 =>
  qlf (ByteArray.mk #[47,112]) t7 fun t8 =>
  qla i 10 fun t10 =>
  za7 .i64 48 t10 fun t11 =>
  cvI .i32 t11 fun t12 =>
  zaf P (convert z6w qc (Value.int .i32 t12)) .str w_1 fun (t13:ByteArray) w_2 =>
  qlf t8 t13 fun t14 =>
  R (.returned (Value.string t14)) w_2
theorem z9c (i:Int) (R:Ending→World→Prop) (w:World):tr P qs ((Tryz.f124.body).getD .skip) zo2 (zb0 0 [(0,(Value.int .i64 i))]) (zcb P Tryz.f124.results.toList R) w=zt4 i R w:=by kernel_rfl
theorem qcg {i:Int} {R:Ending→World→Prop} {w:World} (hT:zt4 i R w):qg P zua #[(Value.int .i64 i)] w R :=
 zy (fn:=Tryz.f124) (c:=(Tryz.f124.body).getD .skip) (ann:=zo2) (args:=[(0,(Value.int .i64 i))]) (qs:=qs) mixed Tryz.func124 rfl (by kernel_rfl) (by kernel_rfl) qab ((z9c i R w).symm ▸ hT)
def zj7:Ann:=(.seq .leaf (.seq .leaf (.seq (.seq .leaf (.blk (.loop [(14,.int .i64)] (.seq .leaf (.seq (.cond .leaf .leaf) (.seq (.blk (.seq .leaf (.seq .leaf (.seq (.seq .leaf (.cond (.seq .leaf .leaf) .leaf)) (.seq (.seq .leaf (.cond (.seq .leaf .leaf) .leaf)) .leaf))))) .leaf)))))) (.seq .leaf .leaf))))
theorem zza:okC P qs Tryz.f155.ntmps ((Tryz.f155.body).getD .skip) zj7=true:=by kernel_rfl
def zm2 (s:Option Addr) (n:Value) (R:Ending→World→Prop) (w:World):Prop :=
  zbj (Value.cells n) zh w fun b3 w_1 =>
  zbj (zc P jm) jm w_1 fun b6 w_2 =>
  ld .slc (⟨b3,3,none⟩:Addr) w_2 fun (t12:(Option Addr × Nat × Nat)) =>
  zav Int (fun s_1 w_3 k =>
  xg (decide (s_1 < (t12.2.1:Int))) (
  ixS t12.1 t12.2.1 32 s_1 fun t17 =>
  ldA P 32 t17 w_3 fun t18 =>
  zbj (zc P zf) zf w_3 fun b8 w_4 =>
  zbs P (storeVar zf (⟨b8,0,none⟩:Addr) (Value.agg t18)) w_4 fun w_5 =>
  ldA P 32 (⟨b8,0,none⟩:Addr) w_5 fun t21 =>
  qy P zie #[(Value.pointer s),(Value.agg t21),(Value.int .i64 1)] [.any,.int .i64] true w_5 fun (t22:(Value × Int)) w_6 =>
  zbj (zc P zh) zh w_6 fun b9 w_7 =>
  zbs P (storeVar zh (⟨b9,0,none⟩:Addr) t22.1) w_7 fun w_8 =>
  xg (t22.2 != 0) (
  R (.returned (Value.tuple #[(Value.string (ByteArray.mk #[])),(Value.int .i64 t22.2)])) w_8) (
  ld .str (⟨b9,1,none⟩:Addr) w_8 fun (t29:ByteArray) =>
  ld (.int .i64) (⟨b3,2,none⟩:Addr) w_8 fun (t32:Int) =>
  zy3 .i64 s_1 64 fun t34 =>
  zl4 .i64 t32 t34 fun t35 =>
  zay P (Builtin.min_ #[zds,zds] zds #[(Value.int .i64 64),(Value.int .i64 t35)]) (.int .i64) w_8 fun (t36:Int) =>
  xg ((t29.size:Int) != t36) (
  R (.returned (Value.tuple #[(Value.string (ByteArray.mk #[])),(Value.int .i64 21)])) w_8) (
  ld .str (⟨b9,1,none⟩:Addr) w_8 fun (t39:ByteArray) =>
  qy P zaz #[(Value.pointer (some (⟨b6,0,none⟩:Addr))),(Value.string t39)] [.int .i64,.any] true w_8 fun (_:(Int × Value)) w_9 =>
  za7 .i64 s_1 1 fun t41 =>
  k t41 w_9))) (
  qy P zb3 #[(Value.pointer (some (⟨b6,0,none⟩:Addr)))] [.str] false w_3 fun (t42:ByteArray) w_10 =>
  R (.returned (Value.tuple #[(Value.string t42),(Value.int .i64 0)])) w_10)) 0 w_2
theorem zy4 (s:Option Addr) (n:Value) (R:Ending→World→Prop) (w:World):tr P qs ((Tryz.f155.body).getD .skip) zj7 (zb0 0 [(0,(Value.pointer s)),(1,n)]) (zcb P Tryz.f155.results.toList R) w=zm2 s n R w:=by kernel_rfl
theorem z0z {s:Option Addr} {n:Value} {R:Ending→World→Prop} {w:World} (hT:zm2 s n R w):qg P zcc #[(Value.pointer s),n] w R :=
 zy (fn:=Tryz.f155) (c:=(Tryz.f155.body).getD .skip) (ann:=zj7) (args:=[(0,(Value.pointer s)),(1,n)]) (qs:=qs) mixed Tryz.func155 rfl (by kernel_rfl) (by kernel_rfl) zza ((zy4 s n R w).symm ▸ hT)
def zbi:Ann:=(.seq .leaf (.seq (.seq .leaf (.blk (.loop [(8,.int .i64)] (.seq .leaf (.seq (.cond .leaf .leaf) (.seq (.blk (.seq .leaf (.seq .leaf (.cond (.seq .leaf .leaf) .leaf)))) .leaf)))))) (.seq .leaf .leaf)))
theorem zfu:okC P qs Tryz.f159.ntmps ((Tryz.f159.body).getD .skip) zbi=true:=by kernel_rfl
def zbr (s:Option Addr) (s_l s_c:Nat) (f:Value) (R:Ending→World→Prop) (w:World):Prop :=
  zav Int (fun s_1 w_1 k =>
  xg (decide (s_1 < (s_l:Int))) (
  ixS s s_l 3 s_1 fun t14 =>
  ldA P 3 t14 w_1 fun t15 =>
  z3w P f #[(Value.agg t15)] [.bool] false w_1 fun (t16:Bool) w_2 =>
  xg t16 (
  R (.returned (Value.int .i64 s_1)) w_2) (
  za7 .i64 s_1 1 fun t18 =>
  k t18 w_2)) (
  R (.returned (Value.int .i64 (-1))) w_1)) 0 w
theorem zfx (s:Option Addr) (s_l s_c:Nat) (f:Value) (R:Ending→World→Prop) (w:World):tr P qs ((Tryz.f159.body).getD .skip) zbi (zb0 0 [(0,(Value.slice s s_l s_c)),(1,f)]) (zcb P Tryz.f159.results.toList R) w=zbr s s_l s_c f R w:=by kernel_rfl
theorem zfo {s:Option Addr} {s_l s_c:Nat} {f:Value} {R:Ending→World→Prop} {w:World} (hT:zbr s s_l s_c f R w):qg P zbq #[(Value.slice s s_l s_c),f] w R :=
 zy (fn:=Tryz.f159) (c:=(Tryz.f159.body).getD .skip) (ann:=zbi) (args:=[(0,(Value.slice s s_l s_c)),(1,f)]) (qs:=qs) mixed Tryz.func159 rfl (by kernel_rfl) (by kernel_rfl) zfu ((zfx s s_l s_c f R w).symm ▸ hT)
def zc7:Ann:=(.seq .leaf (.blk (.loop [(4,.int .i64)] (.seq (.seq .leaf (.cond .leaf .leaf)) (.seq (.blk (.seq (.tree (.op 2 [] (.op 0 [] (.op 1 [] (.op 3 [] (.op 4 [] (.op 5 [] (.op 6 [] .done)))))))) (.seq .leaf (.cond .leaf .leaf)))) .leaf)))))
theorem zjn:okC P qs Tryz.f167.ntmps ((Tryz.f167.body).getD .skip) zc7=true:=by kernel_rfl
def zb4 (yield:Value) (c0:Option Addr) (c1:Option Addr) (R:Ending→World→Prop) (w:World):Prop :=
  zav Int (fun s w_1 k =>
  zx c0 fun p =>
  ld .slc p w_1 fun (t7:(Option Addr × Nat × Nat)) =>
  xg (decide (s < (t7.2.1:Int))) (
  zbd w_1 fun w_2 =>
  zx c1 fun p_1 =>
  ld (.int .i64) p_1 w_2 fun (t13:Int) =>
  zx c0 fun p_2 =>
  ld .slc p_2 w_2 fun (t14:(Option Addr × Nat × Nat)) =>
  zay P (Instr.sliceAt zk (Value.slice t14.1 t14.2.1 t14.2.2) (some (Value.int .i64 s)) none none) .slc w_2 fun (t16:(Option Addr × Nat × Nat)) =>
  zay P (Builtin.min_ #[zds,zds] zds #[(Value.int .i64 t13),(Value.int .i64 (t16.2.1:Int))]) (.int .i64) w_2 fun (t18:Int) =>
  zx c0 fun p_3 =>
  ld .slc p_3 w_2 fun (t20:(Option Addr × Nat × Nat)) =>
  za7 .i64 s t18 fun t24 =>
  za7 .i64 s t18 fun t27 =>
  zay P (Instr.sliceAt zk (Value.slice t20.1 t20.2.1 t20.2.2) (some (Value.int .i64 s)) (some (Value.int .i64 t24)) (some (Value.int .i64 t27))) .slc w_2 fun (t28:(Option Addr × Nat × Nat)) =>
  z3w P yield #[(Value.slice t28.1 t28.2.1 t28.2.2)] [.bool] false w_2 fun (t29:Bool) w_3 =>
  xg (!t29) (
  R (.returned (Value.tuple #[])) w_3) (
  zx c1 fun p_4 =>
  ld (.int .i64) p_4 w_3 fun (t11:Int) =>
  za7 .i64 s t11 fun t12 =>
  k t12 w_3)) (
  R (.returned (Value.tuple #[])) w_1)) 0 w
theorem zj0 (yield:Value) (c0:Option Addr) (c1:Option Addr) (R:Ending→World→Prop) (w:World):tr P qs ((Tryz.f167.body).getD .skip) zc7 (zb0 0 [(1,yield),(0,(Value.pointer c0)),(0,(Value.pointer c1))]) (zcb P Tryz.f167.results.toList R) w=zb4 yield c0 c1 R w:=by kernel_rfl
theorem ze7 {yield:Value} {c0:Option Addr} {c1:Option Addr} {R:Ending→World→Prop} {w:World} (hT:zb4 yield c0 c1 R w):qg P za2 #[yield,(Value.pointer c0),(Value.pointer c1)] w R :=
 zy (fn:=Tryz.f167) (c:=(Tryz.f167.body).getD .skip) (ann:=zc7) (args:=[(1,yield),(0,(Value.pointer c0)),(0,(Value.pointer c1))]) (qs:=qs) mixed Tryz.func167 rfl (by kernel_rfl) (by kernel_rfl) zjn ((zj0 yield c0 c1 R w).symm ▸ hT)
set_option maxRecDepth 100000
def zp7:Ann:=(.seq .leaf (.seq .leaf (.seq (.seq .leaf (.cond (.seq .leaf .leaf) .leaf)) (.seq .leaf (.seq .leaf (.seq (.seq .leaf (.cond (.seq .leaf .leaf) .leaf)) (.seq .leaf .leaf)))))))
theorem qba:okC P qs Tryz.f15.ntmps ((Tryz.f15.body).getD .skip) zp7=true:=by kernel_rfl
def zui (s:Option Addr) (list:Option Addr) (list_l list_c:Nat) (R:Ending→World→Prop) (w:World):Prop :=
  zbj (zc P zf) zf w fun b4 w_1 =>
  qy P zpj #[(Value.slice list list_l list_c)] [.slc,.int .i64] true w_1 fun (t12:((Option Addr × Nat × Nat) × Int)) w_2 =>
  xg (t12.2 != 0) (
  zay P (Instr.build zf #[]) .any w_2 fun (t17:Value) =>
  zbs P (storeVar zf (⟨b4,0,none⟩:Addr) t17) w_2 fun w_3 =>
  ldA P 32 (⟨b4,0,none⟩:Addr) w_3 fun t4 =>
  R (.returned (Value.tuple #[(Value.agg t4),(Value.int .i64 t12.2)])) w_3) (
  qy P ztl #[(Value.slice t12.1.1 t12.1.2.1 t12.1.2.2)] [.slc,.any] true w_2 fun (t21:((Option Addr × Nat × Nat) × Value)) w_4 =>
  zbj (zc P zf) zf w_4 fun b9 w_5 =>
  zbs P (storeVar zf (⟨b9,0,none⟩:Addr) t21.2) w_5 fun w_6 =>
  qy P zfi #[(Value.pointer s),(Value.slice t21.1.1 t21.1.2.1 t21.1.2.2)] [.int .i64] false w_6 fun (t26:Int) w_7 =>
  xg (t26 != 0) (
  zay P (Instr.build zf #[]) .any w_7 fun (t29:Value) =>
  zbs P (storeVar zf (⟨b4,0,none⟩:Addr) t29) w_7 fun w_8 =>
  ldA P 32 (⟨b4,0,none⟩:Addr) w_8 fun t4_1 =>
  R (.returned (Value.tuple #[(Value.agg t4_1),(Value.int .i64 t26)])) w_8) (
  ldA P 32 (⟨b9,0,none⟩:Addr) w_7 fun t31 =>
  zbs P (storeVar zf (⟨b4,0,none⟩:Addr) (Value.agg t31)) w_7 fun w_9 =>
  ldA P 32 (⟨b4,0,none⟩:Addr) w_9 fun t4_2 =>
  R (.returned (Value.tuple #[(Value.agg t4_2),(Value.int .i64 0)])) w_9))
theorem qac (s:Option Addr) (list:Option Addr) (list_l list_c:Nat) (R:Ending→World→Prop) (w:World):tr P qs ((Tryz.f15.body).getD .skip) zp7 (zb0 0 [(0,(Value.pointer s)),(0,(Value.slice list list_l list_c))]) (zcb P Tryz.f15.results.toList R) w=zui s list list_l list_c R w:=by kernel_rfl
theorem qcp {s:Option Addr} {list:Option Addr} {list_l list_c:Nat} {R:Ending→World→Prop} {w:World} (hT:zui s list list_l list_c R w):qg P zti #[(Value.pointer s),(Value.slice list list_l list_c)] w R :=
 zy (fn:=Tryz.f15) (c:=(Tryz.f15.body).getD .skip) (ann:=zp7) (args:=[(0,(Value.pointer s)),(0,(Value.slice list list_l list_c))]) (qs:=qs) mixed Tryz.func15 rfl (by kernel_rfl) (by kernel_rfl) qba ((qac s list list_l list_c R w).symm ▸ hT)
def zoa:Ann:=(.seq .leaf (.seq (.seq .leaf (.cond (.seq .leaf .leaf) .leaf)) (.seq (.seq .leaf (.blk (.loop [(5,.int .i64)] (.seq (.seq .leaf (.cond .leaf .leaf)) (.seq (.blk (.seq (.tree (.op 0 [] (.op 1 [] (.op 2 [] (.op 4 [] (.op 5 [] (.op 6 [] (.op 3 [] (.op 7 [] (.op 8 [] .done)))))))))) (.cond (.seq .leaf .leaf) .leaf))) .leaf))))) (.seq .leaf .leaf))))
theorem qbq:okC P qs Tryz.f16.ntmps ((Tryz.f16.body).getD .skip) zoa=true:=by kernel_rfl
def zpz (a:Option Addr) (a_l a_c:Nat) (b:Option Addr) (b_l b_c:Nat) (R:Ending→World→Prop) (w:World):Prop :=
  xg ((a_l:Int) != (b_l:Int)) (
  R (.returned (Value.bool false)) w) (
  zav Int (fun s w_1 k =>
  xg (decide (s < (a_l:Int))) (
  zbd w_1 fun w_2 =>
  ixS a a_l 3 s fun t19 =>
  ixS b b_l 3 s fun t23 =>
  ldA P 3 t19 w_2 fun t20 =>
  ldA P 3 t23 w_2 fun t24 =>
  zay P (eqM .neq zl (.tmp 20) (.tmp 24) (Value.agg t20) (Value.agg t24)) .bool w_2 fun (t25:Bool) =>
  xg t25 (
  R (.returned (Value.bool false)) w_2) (
  za7 .i64 s 1 fun t16 =>
  k t16 w_2)) (
  R (.returned (Value.bool true)) w_1)) 0 w)
theorem qbh (a:Option Addr) (a_l a_c:Nat) (b:Option Addr) (b_l b_c:Nat) (R:Ending→World→Prop) (w:World):tr P qs ((Tryz.f16.body).getD .skip) zoa (zb0 0 [(0,(Value.slice a a_l a_c)),(0,(Value.slice b b_l b_c))]) (zcb P Tryz.f16.results.toList R) w=zpz a a_l a_c b b_l b_c R w:=by kernel_rfl
theorem zxs {a:Option Addr} {a_l a_c:Nat} {b:Option Addr} {b_l b_c:Nat} {R:Ending→World→Prop} {w:World} (hT:zpz a a_l a_c b b_l b_c R w):qg P zlm #[(Value.slice a a_l a_c),(Value.slice b b_l b_c)] w R :=
 zy (fn:=Tryz.f16) (c:=(Tryz.f16.body).getD .skip) (ann:=zoa) (args:=[(0,(Value.slice a a_l a_c)),(0,(Value.slice b b_l b_c))]) (qs:=qs) mixed Tryz.func16 rfl (by kernel_rfl) (by kernel_rfl) qbq ((qbh a a_l a_c b b_l b_c R w).symm ▸ hT)
def znu:Ann:=(.seq .leaf (.seq .leaf (.seq (.seq .leaf (.cond (.seq .leaf .leaf) .leaf)) (.seq .leaf (.seq (.seq .leaf (.blk (.loop [(8,.slc),(9,.int .i64)] (.seq (.seq .leaf (.cond .leaf .leaf)) (.seq (.blk .leaf) .leaf))))) (.join [] (.seq .leaf (.cond (.seq .leaf .leaf) .leaf)) (.seq .leaf .leaf)))))))
theorem z7s:okC P qs Tryz.f24.ntmps ((Tryz.f24.body).getD .skip) znu=true:=by kernel_rfl
def zq5 (s:Option Addr) (root:Value) (R:Ending→World→Prop) (w:World):Prop :=
  zbj (Value.cells root) zf w fun b3 w_1 =>
  ldA P 32 (⟨b3,0,none⟩:Addr) w_1 fun t12 =>
  qy P zwk #[(Value.pointer s),(Value.agg t12)] [.slc,.int .i64] true w_1 fun (t13:((Option Addr × Nat × Nat) × Int)) w_2 =>
  xg (t13.2 != 0) (
  R (.returned (Value.tuple #[(Value.slice none 0 0),(Value.int .i64 t13.2)])) w_2) (
  zav ((Option Addr × Nat × Nat) × Int) (fun s_1 w_3 k =>
  xg (decide (s_1.2 < (t13.1.2.1:Int))) (
  ixS t13.1.1 t13.1.2.1 3 s_1.2 fun t28 =>
  ld .str (Addr.add t28 2) w_3 fun (t30:ByteArray) =>
  zaf P (Builtin.append_ #[zk,qc] zk #[(Value.slice s_1.1.1 s_1.1.2.1 s_1.1.2.2),(Value.string t30)]) .slc w_3 fun (t31:(Option Addr × Nat × Nat)) w_4 =>
  za7 .i64 s_1.2 1 fun t24 =>
  k ((t31.1,t31.2.1,t31.2.2),t24) w_4) (
  joinP Unit (fun k_1 =>
  xg (decide ((s_1.1.2.1:Int) > 65536)) (
  R (.returned (Value.tuple #[(Value.slice none 0 0),(Value.int .i64 21)])) w_3) (
  qy P ztd #[(Value.slice s_1.1.1 s_1.1.2.1 s_1.1.2.2)] [.slc] false w_3 fun (t37:(Option Addr × Nat × Nat)) w_5 =>
  qy P zlm #[(Value.slice t37.1 t37.2.1 t37.2.2),(Value.slice t13.1.1 t13.1.2.1 t13.1.2.2)] [.bool] false w_5 fun (t39:Bool) w_6 =>
  xg (!t39) (
  R (.returned (Value.tuple #[(Value.slice none 0 0),(Value.int .i64 21)])) w_6) (
  k_1 () w_6))) (fun _ w_7 =>
  R (.returned (Value.tuple #[(Value.slice s_1.1.1 s_1.1.2.1 s_1.1.2.2),(Value.int .i64 0)])) w_7))) ((none,0,0),0) w_2)
theorem z8g (s:Option Addr) (root:Value) (R:Ending→World→Prop) (w:World):tr P qs ((Tryz.f24.body).getD .skip) znu (zb0 0 [(0,(Value.pointer s)),(1,root)]) (zcb P Tryz.f24.results.toList R) w=zq5 s root R w:=by kernel_rfl
theorem z7k {s:Option Addr} {root:Value} {R:Ending→World→Prop} {w:World} (hT:zq5 s root R w):qg P zr3 #[(Value.pointer s),root] w R :=
 zy (fn:=Tryz.f24) (c:=(Tryz.f24.body).getD .skip) (ann:=znu) (args:=[(0,(Value.pointer s)),(1,root)]) (qs:=qs) mixed Tryz.func24 rfl (by kernel_rfl) (by kernel_rfl) z7s ((z8g s root R w).symm ▸ hT)
def zle:Ann:=(.seq .leaf (.seq .leaf (.seq (.seq .leaf (.blk (.loop [(4,.slc),(5,.int .i64)] (.seq (.seq .leaf (.cond .leaf .leaf)) (.seq (.blk (.seq .leaf (.seq (.seq .leaf (.cond (.seq .leaf .leaf) .leaf)) .leaf))) .leaf))))) (.seq (.seq .leaf (.blk (.loop [(8,.int .i64)] (.seq (.seq .leaf (.cond .leaf .leaf)) (.join [] (.jblk [] (.seq .leaf (.cond (.seq .leaf .leaf) .leaf))) .leaf))))) (.seq (.seq .leaf (.blk (.loop [(9,.int .i64)] (.seq (.seq .leaf (.cond .leaf .leaf)) (.seq (.blk (.seq .leaf (.cond (.seq .leaf .leaf) .leaf))) .leaf))))) (.seq (.seq .leaf (.blk (.loop [(10,.int .i64)] (.seq (.seq .leaf (.cond .leaf .leaf)) (.join [] (.jblk [] (.seq (.tree (.op 0 [] (.op 1 [] (.op 2 [] (.op 3 [] (.op 4 [] (.op 5 [] (.op 6 [] (.op 7 [] (.op 8 [] (.op 10 [] (.op 11 [] (.op 12 [] (.op 9 [] (.op 13 [] (.op 14 [] (.op 15 [] (.op 16 [] .done)))))))))))))))))) (.cond (.seq .leaf .leaf) .leaf))) .leaf))))) (.seq .leaf (.seq (.seq .leaf (.blk (.loop [(11,.bool),(12,.int .i64)] (.seq (.seq .leaf (.cond .leaf .leaf)) (.seq (.jblk [(11,.bool)] (.seq (.tree (.op 0 [] (.op 1 [] (.op 2 [] (.op 4 [] (.op 5 [] (.op 6 [] (.op 3 [] (.op 7 [] (.op 8 [] (.op 9 [] (.op 10 [] (.op 11 [] .done))))))))))))) (.seq .leaf (.join [] (.seq .leaf (.cond (.seq .leaf .leaf) .leaf)) .leaf)))) .leaf))))) (.seq (.seq .leaf (.cond (.seq .leaf .leaf) .leaf)) (.seq (.seq .leaf (.blk (.loop [(15,.int .i64)] (.seq (.seq .leaf (.cond .leaf .leaf)) (.seq (.blk (.seq .leaf (.seq (.seq .leaf (.blk (.loop [(16,.int .i64),(17,.int .i64)] (.seq (.seq .leaf (.cond .leaf .leaf)) (.seq (.jblk [(16,.int .i64)] (.seq (.tree (.op 0 [] (.op 1 [] (.op 2 [] (.op 5 [] (.op 6 [] (.op 7 [] (.op 3 [] (.op 4 [] (.op 8 [] (.op 9 [] (.op 10 [] (.op 11 [] (.op 12 [] (.op 13 [] (.op 14 [] (.op 16 [] (.op 17 [] (.op 18 [] (.op 20 [] (.op 21 [] (.op 22 [] (.op 15 [] (.op 19 [] (.op 23 [] (.op 24 [] (.op 25 [] (.op 26 [] (.op 27 [] (.op 28 [] .done)))))))))))))))))))))))))))))) (.cond .leaf .leaf))) .leaf))))) (.seq .leaf (.cond (.seq .leaf .leaf) .leaf))))) .leaf))))) (.seq .leaf (.seq (.seq .leaf (.blk (.loop [(18,.slc),(19,.int .i64)] (.seq (.seq .leaf (.cond .leaf .leaf)) (.seq (.blk (.seq .leaf (.seq .leaf .leaf))) .leaf))))) (.seq .leaf .leaf)))))))))))))
theorem z4l:okC P qs Tryz.f61.ntmps ((Tryz.f61.body).getD .skip) zle=true:=by kernel_rfl
def zqa (list:Option Addr) (list_l list_c:Nat) (R:Ending→World→Prop) (w:World):Prop :=
  zav ((Option Addr × Nat × Nat) × Int) (fun s w_1 k =>
  xg (decide (s.2 < (list_l:Int))) (
  ixS list list_l 3 s.2 fun t30 =>
  ld .str t30 w_1 fun (t32:ByteArray) =>
  qy P zog #[(Value.string t32)] [.slc,.int .i64] true w_1 fun (t33:((Option Addr × Nat × Nat) × Int)) w_2 =>
  xg (t33.2 != 0) (
  R (.returned (Value.tuple #[(Value.slice none 0 0),(Value.int .i64 t33.2)])) w_2) (
  zaf P (Instr.buildSlice zcj 1 #[(0,(Value.slice t33.1.1 t33.1.2.1 t33.1.2.2))]) .slc w_2 fun (t41:(Option Addr × Nat × Nat)) w_3 =>
  zaf P (Builtin.append_ #[zcj,zcj] zcj #[(Value.slice s.1.1 s.1.2.1 s.1.2.2),(Value.slice t41.1 t41.2.1 t41.2.2)]) .slc w_3 fun (t42:(Option Addr × Nat × Nat)) w_4 =>
  za7 .i64 s.2 1 fun t26 =>
  k ((t42.1,t42.2.1,t42.2.2),t26) w_4)) (
  zav Int (fun s_1 w_5 k_1 =>
  xg (decide (s_1 < (list_l:Int))) (
  joinP Unit (fun k_2 =>
  joinP Unit (fun k_3 =>
  ixS list list_l 3 s_1 fun t51 =>
  ld .bool (Addr.add t51 1) w_5 fun (t53:Bool) =>
  xg t53 (
  ixS list list_l 3 s_1 fun t57 =>
  ld .str (Addr.add t57 2) w_5 fun (t59:ByteArray) =>
  xg (!(t59.toList == (ByteArray.mk #[]).toList)) (
  R (.returned (Value.tuple #[(Value.slice none 0 0),(Value.int .i64 1)])) w_5) (
  k_3 () w_5)) (
  k_3 () w_5)) (fun _ w_6 =>
  k_2 () w_6)) (fun _ w_7 =>
  za7 .i64 s_1 1 fun t48 =>
  k_1 t48 w_7)) (
  zav Int (fun s_4 w_8 k_4 =>
  xg (decide (s_4 < (list_l:Int))) (
  ixS list list_l 3 s_4 fun t70 =>
  ld .str (Addr.add t70 2) w_8 fun (t72:ByteArray) =>
  xg (decide ((t72.size:Int) > 1024)) (
  R (.returned (Value.tuple #[(Value.slice none 0 0),(Value.int .i64 134)])) w_8) (
  za7 .i64 s_4 1 fun t67 =>
  k_4 t67 w_8)) (
  zav Int (fun s_5 w_9 k_5 =>
  xg (decide (s_5 < (list_l:Int))) (
  joinP Unit (fun k_6 =>
  joinP Unit (fun k_7 =>
  zbd w_9 fun w_10 =>
  ixS s.1.1 s.1.2.1 1 s_5 fun t83 =>
  ld .slc t83 w_10 fun (t84:(Option Addr × Nat × Nat)) =>
  xg ((t84.2.1:Int) == 0) (
  R (.returned (Value.tuple #[(Value.slice none 0 0),(Value.int .i64 5)])) w_10) (
  ixS s.1.1 s.1.2.1 1 s_5 fun t93 =>
  zay P (Instr.sliceAt zcj (Value.slice s.1.1 s.1.2.1 s.1.2.2) none (some (Value.int .i64 s_5)) none) .slc w_10 fun (t90:(Option Addr × Nat × Nat)) =>
  ld .slc t93 w_10 fun (t94:(Option Addr × Nat × Nat)) =>
  qy P zik #[(Value.slice t90.1 t90.2.1 t90.2.2),(Value.slice t94.1 t94.2.1 t94.2.2)] [.int .i64] false w_10 fun (t95:Int) w_11 =>
  xg (decide (t95 ≥ 0)) (
  R (.returned (Value.tuple #[(Value.slice none 0 0),(Value.int .i64 5)])) w_11) (
  k_7 () w_11))) (fun _ w_12 =>
  k_6 () w_12)) (fun _ w_13 =>
  za7 .i64 s_5 1 fun t80 =>
  k_5 t80 w_13)) (
  zav (Bool × Int) (fun s_8 w_14 k_8 =>
  xg (decide (s_8.2 < (list_l:Int))) (
  joinP Bool (fun k_9 =>
  zbd w_14 fun w_15 =>
  ixS s.1.1 s.1.2.1 1 s_8.2 fun t106 =>
  ixS s.1.1 s.1.2.1 1 s_8.2 fun t110 =>
  ld .slc t106 w_15 fun (t107:(Option Addr × Nat × Nat)) =>
  ld .slc t110 w_15 fun (t111:(Option Addr × Nat × Nat)) =>
  zl4 .i64 (t111.2.1:Int) 1 fun t113 =>
  zay P (Instr.sliceAt qw (Value.slice t107.1 t107.2.1 t107.2.2) none (some (Value.int .i64 t113)) none) .slc w_15 fun (t114:(Option Addr × Nat × Nat)) =>
  qy P zik #[(Value.slice s.1.1 s.1.2.1 s.1.2.2),(Value.slice t114.1 t114.2.1 t114.2.2)] [.int .i64] false w_15 fun (t117:Int) w_16 =>
  joinP Unit (fun k_10 =>
  xg (decide ((t114.2.1:Int) > 0)) (
  xg (decide (t117 < 0)) (
  R (.returned (Value.tuple #[(Value.slice none 0 0),(Value.int .i64 4)])) w_16) (
  k_10 () w_16)) (
  k_10 () w_16)) (fun _ w_17 =>
  xg s_8.1 (
  k_9 true w_17) (
  xg (decide ((t114.2.1:Int) > 0)) (
  ixS list list_l 3 t117 fun t133 =>
  ld .bool (Addr.add t133 1) w_17 fun (t135:Bool) =>
  k_9 (!t135) w_17) (
  k_9 false w_17)))) (fun s_10 w_18 =>
  za7 .i64 s_8.2 1 fun t103 =>
  k_8 (s_10,t103) w_18)) (
  xg s_8.1 (
  R (.returned (Value.tuple #[(Value.slice none 0 0),(Value.int .i64 70)])) w_14) (
  zav Int (fun s_11 w_19 k_11 =>
  xg (decide (s_11 < (list_l:Int))) (
  zav (Int × Int) (fun s_12 w_20 k_12 =>
  xg (decide (s_12.2 < (list_l:Int))) (
  joinP Int (fun k_13 =>
  zbd w_20 fun w_21 =>
  ixS s.1.1 s.1.2.1 1 s_12.2 fun t154 =>
  ixS s.1.1 s.1.2.1 1 s_11 fun t159 =>
  ld .slc t154 w_21 fun (t155:(Option Addr × Nat × Nat)) =>
  ld .slc t159 w_21 fun (t160:(Option Addr × Nat × Nat)) =>
  xg ((t155.2.1:Int) == (t160.2.1:Int)) (
  ixS s.1.1 s.1.2.1 1 s_12.2 fun t166 =>
  ixS s.1.1 s.1.2.1 1 s_11 fun t170 =>
  ixS s.1.1 s.1.2.1 1 s_11 fun t174 =>
  ld .slc t166 w_21 fun (t167:(Option Addr × Nat × Nat)) =>
  ld .slc t170 w_21 fun (t171:(Option Addr × Nat × Nat)) =>
  ld .slc t174 w_21 fun (t175:(Option Addr × Nat × Nat)) =>
  zl4 .i64 (t175.2.1:Int) 1 fun t177 =>
  zay P (Instr.sliceAt qw (Value.slice t171.1 t171.2.1 t171.2.2) none (some (Value.int .i64 t177)) none) .slc w_21 fun (t178:(Option Addr × Nat × Nat)) =>
  qy P zi1 #[(Value.slice t167.1 t167.2.1 t167.2.2),(Value.slice t178.1 t178.2.1 t178.2.2)] [.bool] false w_21 fun (t179:Bool) w_22 =>
  xg t179 (
  za7 .i64 s_12.1 1 fun t182 =>
  k_13 t182 w_22) (
  k_13 s_12.1 w_22)) (
  k_13 s_12.1 w_21)) (fun s_13 w_23 =>
  za7 .i64 s_12.2 1 fun t151 =>
  k_12 (s_13,t151) w_23)) (
  xg (decide (s_12.1 > 64)) (
  R (.returned (Value.tuple #[(Value.slice none 0 0),(Value.int .i64 8)])) w_20) (
  za7 .i64 s_11 1 fun t145 =>
  k_11 t145 w_20))) (0,0) w_19) (
  zav ((Option Addr × Nat × Nat) × Int) (fun s_14 w_24 k_14 =>
  xg (decide (s_14.2 < (list_l:Int))) (
  ixS list list_l 3 s_14.2 fun t193 =>
  ldA P 3 t193 w_24 fun t194 =>
  zbj (zc P zl) zl w_24 fun b20 w_25 =>
  zbs P (storeVar zl (⟨b20,0,none⟩:Addr) (Value.agg t194)) w_25 fun w_26 =>
  ixS s.1.1 s.1.2.1 1 s_14.2 fun t197 =>
  ld .slc t197 w_26 fun (t198:(Option Addr × Nat × Nat)) =>
  qy P zij #[(Value.slice t198.1 t198.2.1 t198.2.2)] [.str] false w_26 fun (t199:ByteArray) w_27 =>
  stC (⟨b20,0,none⟩:Addr) (Value.string t199) w_27 fun w_28 =>
  ldA P 3 (⟨b20,0,none⟩:Addr) w_28 fun t202 =>
  qy P zl9 #[(Value.slice s_14.1.1 s_14.1.2.1 s_14.1.2.2),(Value.agg t202)] [.slc] false w_28 fun (t203:(Option Addr × Nat × Nat)) w_29 =>
  za7 .i64 s_14.2 1 fun t190 =>
  k_14 ((t203.1,t203.2.1,t203.2.2),t190) w_29) (
  R (.returned (Value.tuple #[(Value.slice s_14.1.1 s_14.1.2.1 s_14.1.2.2),(Value.int .i64 0)])) w_24)) ((none,0,0),0) w_19)) 0 w_14))) (false,0) w_9)) 0 w_8)) 0 w_5)) 0 w_1)) ((none,0,0),0) w
theorem z3v (list:Option Addr) (list_l list_c:Nat) (R:Ending→World→Prop) (w:World):tr P qs ((Tryz.f61.body).getD .skip) zle (zb0 0 [(0,(Value.slice list list_l list_c))]) (zcb P Tryz.f61.results.toList R) w=zqa list list_l list_c R w:=by kernel_rfl
theorem z4i {list:Option Addr} {list_l list_c:Nat} {R:Ending→World→Prop} {w:World} (hT:zqa list list_l list_c R w):qg P zpj #[(Value.slice list list_l list_c)] w R :=
 zy (fn:=Tryz.f61) (c:=(Tryz.f61.body).getD .skip) (ann:=zle) (args:=[(0,(Value.slice list list_l list_c))]) (qs:=qs) mixed Tryz.func61 rfl (by kernel_rfl) (by kernel_rfl) z4l ((z3v list list_l list_c R w).symm ▸ hT)
def zpm:Ann:=(.seq .leaf (.seq .leaf .leaf))
theorem z9s:okC P qs Tryz.f62.ntmps ((Tryz.f62.body).getD .skip) zpm=true:=by kernel_rfl
def zs3 (list:Option Addr) (list_l list_c:Nat) (R:Ending→World→Prop) (w:World):Prop :=
  zbj (zc P zf) zf w fun b3 w_1 =>
  qy P zpv #[(Value.slice none 0 0),(Value.slice list list_l list_c),(Value.slice none 0 0)] [.slc,.any] true w_1 fun (t5:((Option Addr × Nat × Nat) × Value)) w_2 =>
  zbs P (storeVar zf (⟨b3,0,none⟩:Addr) t5.2) w_2 fun w_3 =>
  ldA P 32 (⟨b3,0,none⟩:Addr) w_3 fun t3 =>
  R (.returned (Value.tuple #[(Value.slice t5.1.1 t5.1.2.1 t5.1.2.2),(Value.agg t3)])) w_3
theorem qa7 (list:Option Addr) (list_l list_c:Nat) (R:Ending→World→Prop) (w:World):tr P qs ((Tryz.f62.body).getD .skip) zpm (zb0 0 [(0,(Value.slice list list_l list_c))]) (zcb P Tryz.f62.results.toList R) w=zs3 list list_l list_c R w:=by kernel_rfl
theorem z9f {list:Option Addr} {list_l list_c:Nat} {R:Ending→World→Prop} {w:World} (hT:zs3 list list_l list_c R w):qg P ztl #[(Value.slice list list_l list_c)] w R :=
 zy (fn:=Tryz.f62) (c:=(Tryz.f62.body).getD .skip) (ann:=zpm) (args:=[(0,(Value.slice list list_l list_c))]) (qs:=qs) mixed Tryz.func62 rfl (by kernel_rfl) (by kernel_rfl) z9s ((qa7 list list_l list_c R w).symm ▸ hT)
def zre:Ann:=(.seq .leaf (.seq .leaf (.seq (.seq .leaf (.blk (.loop [(0,.slc),(7,.int .i64)] (.seq (.seq .leaf (.cond .leaf .leaf)) (.seq (.blk (.seq .leaf (.seq .leaf (.tree (.op 0 [] (.op 2 [] (.op 1 [] (.op 3 [1] (.op 4 [1] (.op 5 [] (.op 6 [] (.op 7 [] .done)))))))))))) .leaf))))) (.seq .leaf (.seq .leaf .leaf)))))
theorem qex:okC P qs Tryz.f64.ntmps ((Tryz.f64.body).getD .skip) zre=true:=by kernel_rfl
def zxh (list:Option Addr) (list_l list_c:Nat) (data:ByteArray) (R:Ending→World→Prop) (w:World):Prop :=
  zbj (zc P zf) zf w fun b5 w_1 =>
  zay P (Instr.build zh #[(0,(Value.int .i64 2)),(2,(Value.int .i64 (data.size:Int)))]) .any w_1 fun (t12:Value) =>
  zbj (zc P zh) zh w_1 fun b6 w_2 =>
  zbs P (storeVar zh (⟨b6,0,none⟩:Addr) t12) w_2 fun w_3 =>
  zav ((Option Addr × Nat × Nat) × Int) (fun s w_4 k =>
  xg (decide (s.2 < (data.size:Int))) (
  za7 .i64 s.2 64 fun t24 =>
  zay P (Builtin.min_ #[zds,zds] zds #[(Value.int .i64 (data.size:Int)),(Value.int .i64 t24)]) (.int .i64) w_4 fun (t25:Int) =>
  zay P (Instr.sliceAt qc (Value.string data) (some (Value.int .i64 s.2)) (some (Value.int .i64 t25)) none) .str w_4 fun (t26:ByteArray) =>
  zay P (Instr.build zh #[(0,(Value.int .i64 1)),(1,(Value.string t26))]) .any w_4 fun (t27:Value) =>
  qy P zi3 #[t27] [.slc] false w_4 fun (t28:(Option Addr × Nat × Nat)) w_5 =>
  zaf P (Instr.buildSlice ji 1 #[(0,(Value.slice t28.1 t28.2.1 t28.2.2))]) .slc w_5 fun (t31:(Option Addr × Nat × Nat)) w_6 =>
  zaf P (Builtin.append_ #[ji,ji] ji #[(Value.slice s.1.1 s.1.2.1 s.1.2.2),(Value.slice t31.1 t31.2.1 t31.2.2)]) .slc w_6 fun (t32:(Option Addr × Nat × Nat)) w_7 =>
  zbd w_7 fun w_8 =>
  ld .slc (⟨b6,3,none⟩:Addr) w_8 fun (t34:(Option Addr × Nat × Nat)) =>
  qy P zi2 #[(Value.slice t28.1 t28.2.1 t28.2.2)] [.any] false w_8 fun (t36:Value) w_9 =>
  ((ld .slc (⟨b6,3,none⟩:Addr) w_9 fun (t34_1:(Option Addr × Nat × Nat)) =>
  (Value.slice t34_1.1 t34_1.2.1 t34_1.2.2)=(Value.slice t34.1 t34.2.1 t34.2.2)) ∧
  zaf P (Instr.buildSlice jr 1 #[(0,t36)]) .slc w_9 fun (t37:(Option Addr × Nat × Nat)) w_10 =>
  ((ld .slc (⟨b6,3,none⟩:Addr) w_10 fun (t34_2:(Option Addr × Nat × Nat)) =>
  (Value.slice t34_2.1 t34_2.2.1 t34_2.2.2)=(Value.slice t34.1 t34.2.1 t34.2.2)) ∧
  zaf P (Builtin.append_ #[jr,jr] jr #[(Value.slice t34.1 t34.2.1 t34.2.2),(Value.slice t37.1 t37.2.1 t37.2.2)]) .slc w_10 fun (t38:(Option Addr × Nat × Nat)) w_11 =>
  stC (⟨b6,3,none⟩:Addr) (Value.slice t38.1 t38.2.1 t38.2.2) w_11 fun w_12 =>
  za7 .i64 s.2 64 fun t18 =>
  k ((t32.1,t32.2.1,t32.2.2),t18) w_12))) (
  ldA P 5 (⟨b6,0,none⟩:Addr) w_4 fun t40 =>
  qy P zi3 #[(Value.agg t40)] [.slc] false w_4 fun (t41:(Option Addr × Nat × Nat)) w_13 =>
  zaf P (Instr.buildSlice ji 1 #[(0,(Value.slice t41.1 t41.2.1 t41.2.2))]) .slc w_13 fun (t44:(Option Addr × Nat × Nat)) w_14 =>
  zaf P (Builtin.append_ #[ji,ji] ji #[(Value.slice s.1.1 s.1.2.1 s.1.2.2),(Value.slice t44.1 t44.2.1 t44.2.2)]) .slc w_14 fun (t45:(Option Addr × Nat × Nat)) w_15 =>
  qy P zi2 #[(Value.slice t41.1 t41.2.1 t41.2.2)] [.any] false w_15 fun (t47:Value) w_16 =>
  zbs P (storeVar zf (⟨b5,0,none⟩:Addr) t47) w_16 fun w_17 =>
  ldA P 32 (⟨b5,0,none⟩:Addr) w_17 fun t5 =>
  R (.returned (Value.tuple #[(Value.slice t45.1 t45.2.1 t45.2.2),(Value.agg t5)])) w_17)) ((list,list_l,list_c),0) w_3
theorem qe3 (list:Option Addr) (list_l list_c:Nat) (data:ByteArray) (R:Ending→World→Prop) (w:World):tr P qs ((Tryz.f64.body).getD .skip) zre (zb0 0 [(0,(Value.slice list list_l list_c)),(0,(Value.string data))]) (zcb P Tryz.f64.results.toList R) w=zxh list list_l list_c data R w:=by kernel_rfl
theorem qek {list:Option Addr} {list_l list_c:Nat} {data:ByteArray} {R:Ending→World→Prop} {w:World} (hT:zxh list list_l list_c data R w):qg P zwb #[(Value.slice list list_l list_c),(Value.string data)] w R :=
 zy (fn:=Tryz.f64) (c:=(Tryz.f64.body).getD .skip) (ann:=zre) (args:=[(0,(Value.slice list list_l list_c)),(0,(Value.string data))]) (qs:=qs) mixed Tryz.func64 rfl (by kernel_rfl) (by kernel_rfl) qex ((qe3 list list_l list_c data R w).symm ▸ hT)
def zrh:Ann:=(.seq .leaf (.seq .leaf (.seq (.seq .leaf (.cond (.seq .leaf .leaf) .leaf)) (.seq .leaf (.seq .leaf (.seq (.blk (.loop [(8,.slc),(9,.slc)] (.seq (.seq .leaf (.cond .leaf .leaf)) (.jblk [(8,.slc),(9,.slc)] (.seq .leaf (.seq (.seq .leaf (.cond (.seq .leaf .leaf) .leaf)) (.seq (.seq .leaf (.cond (.seq .leaf .leaf) .leaf)) (.seq .leaf (.seq (.seq .leaf (.cond (.seq .leaf .leaf) .leaf)) (.seq (.seq .leaf (.cond (.seq .leaf (.seq (.tree (.op 0 [] (.op 3 [] (.op 1 [] (.op 2 [] (.op 4 [] (.op 5 [] (.op 6 [] .done)))))))) .leaf)) .leaf)) (.seq .leaf (.seq (.seq .leaf (.cond (.seq .leaf .leaf) .leaf)) (.seq .leaf .leaf))))))))))))) (.seq .leaf .leaf)))))))
theorem qe2:okC P qs Tryz.f67.ntmps ((Tryz.f67.body).getD .skip) zrh=true:=by kernel_rfl
def zxm (s:Option Addr) (root:Value) (R:Ending→World→Prop) (w:World):Prop :=
  zbj (Value.cells root) zf w fun b3 w_1 =>
  ldA P 32 (⟨b3,0,none⟩:Addr) w_1 fun t16 =>
  qy P zrj #[(Value.pointer s),(Value.agg t16),(Value.int .i64 3)] [.any,.int .i64] true w_1 fun (t17:(Value × Int)) w_2 =>
  zbj (zc P zh) zh w_2 fun b6 w_3 =>
  zbs P (storeVar zh (⟨b6,0,none⟩:Addr) t17.1) w_3 fun w_4 =>
  xg (t17.2 != 0) (
  R (.returned (Value.tuple #[(Value.slice none 0 0),(Value.int .i64 t17.2)])) w_4) (
  ldA P 5 (⟨b6,0,none⟩:Addr) w_4 fun t23 =>
  qy P zou #[(Value.slice none 0 0),(Value.agg t23),(Value.slice none 0 0)] [.slc] false w_4 fun (t24:(Option Addr × Nat × Nat)) w_5 =>
  zav ((Option Addr × Nat × Nat) × (Option Addr × Nat × Nat)) (fun s_1 w_6 k =>
  xg (decide ((s_1.2.2.1:Int) > 0)) (
  joinP ((Option Addr × Nat × Nat) × (Option Addr × Nat × Nat)) (fun k_1 =>
  ixS s_1.2.1 s_1.2.2.1 35 0 fun t29 =>
  ldA P 35 t29 w_6 fun t30 =>
  zbj (zc P za9) za9 w_6 fun b10 w_7 =>
  zbs P (storeVar za9 (⟨b10,0,none⟩:Addr) (Value.agg t30)) w_7 fun w_8 =>
  xg (decide ((s_1.1.2.1:Int) ≥ 512)) (
  R (.returned (Value.tuple #[(Value.slice none 0 0),(Value.int .i64 8)])) w_8) (
  ld .slc (⟨b10,0,none⟩:Addr) w_8 fun (t35:(Option Addr × Nat × Nat)) =>
  xg (decide ((t35.2.1:Int) > 8)) (
  R (.returned (Value.tuple #[(Value.slice none 0 0),(Value.int .i64 42)])) w_8) (
  ldA P 32 (⟨b10,3,none⟩:Addr) w_8 fun t42 =>
  ld (.int .i64) (⟨b10,2,none⟩:Addr) w_8 fun (t45:Int) =>
  qy P zrj #[(Value.pointer s),(Value.agg t42),(Value.int .i64 t45)] [.any,.int .i64] true w_8 fun (t46:(Value × Int)) w_9 =>
  zbj (zc P zh) zh w_9 fun b11 w_10 =>
  zbs P (storeVar zh (⟨b11,0,none⟩:Addr) t46.1) w_10 fun w_11 =>
  xg (t46.2 != 0) (
  R (.returned (Value.tuple #[(Value.slice none 0 0),(Value.int .i64 t46.2)])) w_11) (
  ld (.int .i64) (⟨b10,2,none⟩:Addr) w_11 fun (t54:Int) =>
  xg (t54 == 3) (
  ld .slc (⟨b10,0,none⟩:Addr) w_11 fun (t58:(Option Addr × Nat × Nat)) =>
  qy P zij #[(Value.slice t58.1 t58.2.1 t58.2.2)] [.str] false w_11 fun (t59:ByteArray) w_12 =>
  zay P (Instr.build zl #[(0,(Value.string t59)),(1,(Value.bool true))]) .any w_12 fun (t60:Value) =>
  zaf P (Instr.buildSlice zu 1 #[(0,t60)]) .slc w_12 fun (t61:(Option Addr × Nat × Nat)) w_13 =>
  zaf P (Builtin.append_ #[zu,zu] zu #[(Value.slice s_1.1.1 s_1.1.2.1 s_1.1.2.2),(Value.slice t61.1 t61.2.1 t61.2.2)]) .slc w_13 fun (t62:(Option Addr × Nat × Nat)) w_14 =>
  zbd w_14 fun w_15 =>
  ld .slc (⟨b10,0,none⟩:Addr) w_15 fun (t64:(Option Addr × Nat × Nat)) =>
  ldA P 5 (⟨b11,0,none⟩:Addr) w_15 fun t65 =>
  zay P (Instr.sliceAt zbm (Value.slice s_1.2.1 s_1.2.2.1 s_1.2.2.2) (some (Value.int .i64 1)) none none) .slc w_15 fun (t67:(Option Addr × Nat × Nat)) =>
  qy P zou #[(Value.slice t64.1 t64.2.1 t64.2.2),(Value.agg t65),(Value.slice t67.1 t67.2.1 t67.2.2)] [.slc] false w_15 fun (t68:(Option Addr × Nat × Nat)) w_16 =>
  k_1 ((t62.1,t62.2.1,t62.2.2),(t68.1,t68.2.1,t68.2.2)) w_16) (
  ldA P 5 (⟨b11,0,none⟩:Addr) w_11 fun t71 =>
  qy P zoq #[(Value.pointer s),(Value.agg t71)] [.str,.int .i64] true w_11 fun (t72:(ByteArray × Int)) w_17 =>
  xg (t72.2 != 0) (
  R (.returned (Value.tuple #[(Value.slice none 0 0),(Value.int .i64 t72.2)])) w_17) (
  ld .slc (⟨b10,0,none⟩:Addr) w_17 fun (t80:(Option Addr × Nat × Nat)) =>
  qy P zij #[(Value.slice t80.1 t80.2.1 t80.2.2)] [.str] false w_17 fun (t81:ByteArray) w_18 =>
  zay P (Instr.build zl #[(0,(Value.string t81)),(2,(Value.string t72.1))]) .any w_18 fun (t83:Value) =>
  zaf P (Instr.buildSlice zu 1 #[(0,t83)]) .slc w_18 fun (t84:(Option Addr × Nat × Nat)) w_19 =>
  zaf P (Builtin.append_ #[zu,zu] zu #[(Value.slice s_1.1.1 s_1.1.2.1 s_1.1.2.2),(Value.slice t84.1 t84.2.1 t84.2.2)]) .slc w_19 fun (t85:(Option Addr × Nat × Nat)) w_20 =>
  zay P (Instr.sliceAt zbm (Value.slice s_1.2.1 s_1.2.2.1 s_1.2.2.2) (some (Value.int .i64 1)) none none) .slc w_20 fun (t87:(Option Addr × Nat × Nat)) =>
  k_1 ((t85.1,t85.2.1,t85.2.2),(t87.1,t87.2.1,t87.2.2)) w_20)))))) (fun s_2 w_21 =>
  k ((s_2.1.1,s_2.1.2.1,s_2.1.2.2),(s_2.2.1,s_2.2.2.1,s_2.2.2.2)) w_21)) (
  R (.returned (Value.tuple #[(Value.slice s_1.1.1 s_1.1.2.1 s_1.1.2.2),(Value.int .i64 0)])) w_6)) ((none,0,0),(t24.1,t24.2.1,t24.2.2)) w_5)
theorem qel (s:Option Addr) (root:Value) (R:Ending→World→Prop) (w:World):tr P qs ((Tryz.f67.body).getD .skip) zrh (zb0 0 [(0,(Value.pointer s)),(1,root)]) (zcb P Tryz.f67.results.toList R) w=zxm s root R w:=by kernel_rfl
theorem qd5 {s:Option Addr} {root:Value} {R:Ending→World→Prop} {w:World} (hT:zxm s root R w):qg P zwk #[(Value.pointer s),root] w R :=
 zy (fn:=Tryz.f67) (c:=(Tryz.f67.body).getD .skip) (ann:=zrh) (args:=[(0,(Value.pointer s)),(1,root)]) (qs:=qs) mixed Tryz.func67 rfl (by kernel_rfl) (by kernel_rfl) qe2 ((qel s root R w).symm ▸ hT)
def zpc:Ann:=(.seq .leaf (.seq .leaf (.seq .leaf (.seq (.seq .leaf (.blk (.loop [(3,.slc),(5,.int .i64)] (.seq (.seq .leaf (.cond .leaf .leaf)) (.seq (.blk (.seq .leaf (.tree (.op 0 [] (.op 1 [] (.op 2 [] (.op 3 [] (.op 4 [] (.op 5 [] (.op 6 [] (.op 9 [] (.op 10 [] (.op 11 [] (.op 12 [] (.op 13 [] (.op 14 [] (.op 17 [] (.op 18 [] (.op 19 [] (.op 20 [] (.op 21 [] (.op 22 [] (.op 7 [] (.op 8 [] (.op 15 [] (.op 16 [] (.op 23 [] (.op 24 [] (.op 25 [] (.op 26 [] (.op 27 [] (.op 28 [] (.op 29 [] .done))))))))))))))))))))))))))))))))) .leaf))))) (.seq .leaf .leaf)))))
theorem qas:okC P qs Tryz.f68.ntmps ((Tryz.f68.body).getD .skip) zpc=true:=by kernel_rfl
def zs7 (state:Option Addr) (state_l state_c:Nat) (R:Ending→World→Prop) (w:World):Prop :=
  zav ((Option Addr × Nat × Nat) × Int) (fun s w_1 k =>
  xg (decide (s.2 < (state_l:Int))) (
  zbd w_1 fun w_2 =>
  qle .i64 (s.1.2.1:Int) 10 fun t18 =>
  qle .i64 (s.1.2.1:Int) 10 fun t20 =>
  za7 .i64 t20 1 fun t21 =>
  qla (s.1.2.1:Int) 10 fun t26 =>
  qla (s.1.2.1:Int) 10 fun t28 =>
  za7 .i64 t28 1 fun t29 =>
  za7 .i64 s.2 1024 fun t37 =>
  zay P (Instr.sliceAt qc (Value.string (ByteArray.mk #[48,49,50,51,52,53,54,55,56,57])) (some (Value.int .i64 t18)) (some (Value.int .i64 t21)) none) .str w_2 fun (t22:ByteArray) =>
  qlf (ByteArray.mk #[47,112]) t22 fun t23 =>
  zay P (Instr.sliceAt qc (Value.string (ByteArray.mk #[48,49,50,51,52,53,54,55,56,57])) (some (Value.int .i64 t26)) (some (Value.int .i64 t29)) none) .str w_2 fun (t30:ByteArray) =>
  qlf t23 t30 fun t31 =>
  zay P (Builtin.min_ #[zds,zds] zds #[(Value.int .i64 (state_l:Int)),(Value.int .i64 t37)]) (.int .i64) w_2 fun (t38:Int) =>
  zay P (Instr.sliceAt zk (Value.slice state state_l state_c) (some (Value.int .i64 s.2)) (some (Value.int .i64 t38)) none) .slc w_2 fun (t39:(Option Addr × Nat × Nat)) =>
  zay P (convert zk qc (Value.slice t39.1 t39.2.1 t39.2.2)) .str w_2 fun (t40:ByteArray) =>
  zay P (Instr.build zl #[(0,(Value.string t31)),(2,(Value.string t40))]) .any w_2 fun (t41:Value) =>
  zaf P (Instr.buildSlice zu 1 #[(0,t41)]) .slc w_2 fun (t42:(Option Addr × Nat × Nat)) w_3 =>
  zaf P (Builtin.append_ #[zu,zu] zu #[(Value.slice s.1.1 s.1.2.1 s.1.2.2),(Value.slice t42.1 t42.2.1 t42.2.2)]) .slc w_3 fun (t43:(Option Addr × Nat × Nat)) w_4 =>
  za7 .i64 s.2 1024 fun t12 =>
  k ((t43.1,t43.2.1,t43.2.2),t12) w_4) (
  R (.returned (Value.slice s.1.1 s.1.2.1 s.1.2.2)) w_1)) ((none,0,0),0) w
theorem qcv (state:Option Addr) (state_l state_c:Nat) (R:Ending→World→Prop) (w:World):tr P qs ((Tryz.f68.body).getD .skip) zpc (zb0 0 [(0,(Value.slice state state_l state_c))]) (zcb P Tryz.f68.results.toList R) w=zs7 state state_l state_c R w:=by kernel_rfl
theorem qaq {state:Option Addr} {state_l state_c:Nat} {R:Ending→World→Prop} {w:World} (hT:zs7 state state_l state_c R w):qg P ztd #[(Value.slice state state_l state_c)] w R :=
 zy (fn:=Tryz.f68) (c:=(Tryz.f68.body).getD .skip) (ann:=zpc) (args:=[(0,(Value.slice state state_l state_c))]) (qs:=qs) mixed Tryz.func68 rfl (by kernel_rfl) (by kernel_rfl) qas ((qcv state state_l state_c R w).symm ▸ hT)
def zp9:Ann:=(.seq .leaf (.seq (.seq .leaf (.blk (.loop [(5,.int .i64)] (.seq (.seq .leaf (.cond .leaf .leaf)) (.seq (.blk (.seq .leaf (.cond (.seq .leaf .leaf) .leaf))) .leaf))))) (.seq .leaf .leaf)))
theorem z9e:okC P qs Tryz.f117.ntmps ((Tryz.f117.body).getD .skip) zp9=true:=by kernel_rfl
def zs4 (l:Option Addr) (l_l l_c:Nat) (p:Option Addr) (p_l p_c:Nat) (R:Ending→World→Prop) (w:World):Prop :=
  zav Int (fun s w_1 k =>
  xg (decide (s < (l_l:Int))) (
  ixS l l_l 1 s fun t14 =>
  ld .slc t14 w_1 fun (t15:(Option Addr × Nat × Nat)) =>
  qy P zkf #[(Value.slice t15.1 t15.2.1 t15.2.2),(Value.slice p p_l p_c)] [.int .i64] false w_1 fun (t17:Int) w_2 =>
  xg (t17 == 0) (
  R (.returned (Value.int .i64 s)) w_2) (
  za7 .i64 s 1 fun t11 =>
  k t11 w_2)) (
  R (.returned (Value.int .i64 (-1))) w_1)) 0 w
theorem qbo (l:Option Addr) (l_l l_c:Nat) (p:Option Addr) (p_l p_c:Nat) (R:Ending→World→Prop) (w:World):tr P qs ((Tryz.f117.body).getD .skip) zp9 (zb0 0 [(0,(Value.slice l l_l l_c)),(0,(Value.slice p p_l p_c))]) (zcb P Tryz.f117.results.toList R) w=zs4 l l_l l_c p p_l p_c R w:=by kernel_rfl
theorem qby {l:Option Addr} {l_l l_c:Nat} {p:Option Addr} {p_l p_c:Nat} {R:Ending→World→Prop} {w:World} (hT:zs4 l l_l l_c p p_l p_c R w):qg P zik #[(Value.slice l l_l l_c),(Value.slice p p_l p_c)] w R :=
 zy (fn:=Tryz.f117) (c:=(Tryz.f117.body).getD .skip) (ann:=zp9) (args:=[(0,(Value.slice l l_l l_c)),(0,(Value.slice p p_l p_c))]) (qs:=qs) mixed Tryz.func117 rfl (by kernel_rfl) (by kernel_rfl) z9e ((qbo l l_l l_c p p_l p_c R w).symm ▸ hT)
def zmu:Ann:=(.seq .leaf (.seq .leaf (.seq (.jblk [(5,.int .i64)] (.loop [(5,.int .i64)] (.join [] (.seq (.tree (.op 0 [] (.op 1 [] (.op 2 [] (.op 3 [] (.op 4 [] (.op 5 [] (.op 6 [] (.op 7 [] (.op 8 [] (.op 11 [] (.op 9 [] (.op 12 [] (.op 10 [12] (.op 13 [] (.op 14 [] (.op 15 [] (.op 16 [] .done)))))))))))))))))) (.cond .leaf .leaf)) (.blk .leaf)))) (.seq .leaf (.seq .leaf (.seq .leaf .leaf))))))
theorem z7w:okC P qs Tryz.f120.ntmps ((Tryz.f120.body).getD .skip) zmu=true:=by kernel_rfl
def zrl (l:Option Addr) (l_l l_c:Nat) (f:Value) (R:Ending→World→Prop) (w:World):Prop :=
  zbj (Value.cells f) zl w fun b3 w_1 =>
  joinP Int (fun k =>
  zav Int (fun s w_2 k_1 =>
  joinP Unit (fun k_2 =>
  zbd w_2 fun w_3 =>
  xg (decide (s < (l_l:Int))) (
  ixS l l_l 3 s fun t14 =>
  ld .str t14 w_3 fun (t16:ByteArray) =>
  ld .str (⟨b3,0,none⟩:Addr) w_3 fun (t19:ByteArray) =>
  qy P zk8 #[(Value.string t16)] [.slc] false w_3 fun (t17:(Option Addr × Nat × Nat)) w_4 =>
  ((ld .str (⟨b3,0,none⟩:Addr) w_4 fun (t19_1:ByteArray) =>
  (Value.string t19_1)=(Value.string t19)) ∧
  qy P zk8 #[(Value.string t19)] [.slc] false w_4 fun (t20:(Option Addr × Nat × Nat)) w_5 =>
  qy P zkf #[(Value.slice t17.1 t17.2.1 t17.2.2),(Value.slice t20.1 t20.2.1 t20.2.2)] [.int .i64] false w_5 fun (t21:Int) w_6 =>
  xg (decide (t21 < 0)) (
  k_2 () w_6) (
  k s w_6))) (
  ((undef=undef) ∧
  k s w_3))) (fun _ w_7 =>
  za7 .i64 s 1 fun t25 =>
  k_1 t25 w_7)) 0 w_1) (fun s_2 w_8 =>
  zaf P (Instr.buildSlice zu 0 #[]) .slc w_8 fun (t26:(Option Addr × Nat × Nat)) w_9 =>
  zay P (Instr.sliceAt zu (Value.slice l l_l l_c) none (some (Value.int .i64 s_2)) none) .slc w_9 fun (t29:(Option Addr × Nat × Nat)) =>
  zaf P (Builtin.append_ #[zu,zu] zu #[(Value.slice t26.1 t26.2.1 t26.2.2),(Value.slice t29.1 t29.2.1 t29.2.2)]) .slc w_9 fun (t30:(Option Addr × Nat × Nat)) w_10 =>
  ldA P 3 (⟨b3,0,none⟩:Addr) w_10 fun t32 =>
  zaf P (Instr.buildSlice zu 1 #[(0,(Value.agg t32))]) .slc w_10 fun (t33:(Option Addr × Nat × Nat)) w_11 =>
  zaf P (Builtin.append_ #[zu,zu] zu #[(Value.slice t30.1 t30.2.1 t30.2.2),(Value.slice t33.1 t33.2.1 t33.2.2)]) .slc w_11 fun (t34:(Option Addr × Nat × Nat)) w_12 =>
  zay P (Instr.sliceAt zu (Value.slice l l_l l_c) (some (Value.int .i64 s_2)) none none) .slc w_12 fun (t38:(Option Addr × Nat × Nat)) =>
  zaf P (Builtin.append_ #[zu,zu] zu #[(Value.slice t34.1 t34.2.1 t34.2.2),(Value.slice t38.1 t38.2.1 t38.2.2)]) .slc w_12 fun (t39:(Option Addr × Nat × Nat)) w_13 =>
  R (.returned (Value.slice t39.1 t39.2.1 t39.2.2)) w_13)
theorem z7v (l:Option Addr) (l_l l_c:Nat) (f:Value) (R:Ending→World→Prop) (w:World):tr P qs ((Tryz.f120.body).getD .skip) zmu (zb0 0 [(0,(Value.slice l l_l l_c)),(1,f)]) (zcb P Tryz.f120.results.toList R) w=zrl l l_l l_c f R w:=by kernel_rfl
theorem z7d {l:Option Addr} {l_l l_c:Nat} {f:Value} {R:Ending→World→Prop} {w:World} (hT:zrl l l_l l_c f R w):qg P zl9 #[(Value.slice l l_l l_c),f] w R :=
 zy (fn:=Tryz.f120) (c:=(Tryz.f120.body).getD .skip) (ann:=zmu) (args:=[(0,(Value.slice l l_l l_c)),(1,f)]) (qs:=qs) mixed Tryz.func120 rfl (by kernel_rfl) (by kernel_rfl) z7w ((z7v l l_l l_c f R w).symm ▸ hT)
def zpp:Ann:=(.seq .leaf (.seq .leaf (.seq (.seq .leaf (.blk (.loop [(0,.slc),(9,.int .i64)] (.seq (.seq .leaf (.cond .leaf .leaf)) (.seq (.jblk [(0,.slc)] (.seq .leaf (.join [] (.seq .leaf (.cond .leaf .leaf)) (.seq .leaf (.join [(0,.slc)] (.seq .leaf (.cond (.seq .leaf (.seq .leaf (.seq .leaf .leaf))) (.seq .leaf (.seq .leaf .leaf)))) .leaf))))) .leaf))))) (.seq .leaf (.seq .leaf .leaf)))))
theorem qcc:okC P qs Tryz.f121.ntmps ((Tryz.f121.body).getD .skip) zpp=true:=by kernel_rfl
def zs8 (blobs:Option Addr) (blobs_l blobs_c:Nat) (list:Option Addr) (list_l list_c:Nat) (dir:Option Addr) (dir_l z09:Nat) (R:Ending→World→Prop) (w:World):Prop :=
  zbj (zc P zf) zf w fun b7 w_1 =>
  zay P (Instr.build zh #[(0,(Value.int .i64 3))]) .any w_1 fun (t17:Value) =>
  zbj (zc P zh) zh w_1 fun b8 w_2 =>
  zbs P (storeVar zh (⟨b8,0,none⟩:Addr) t17) w_2 fun w_3 =>
  zav ((Option Addr × Nat × Nat) × Int) (fun s w_4 k =>
  xg (decide (s.2 < (list_l:Int))) (
  joinP (Option Addr × Nat × Nat) (fun k_1 =>
  ixS list list_l 3 s.2 fun t26 =>
  ld .str t26 w_4 fun (t28:ByteArray) =>
  qy P zk8 #[(Value.string t28)] [.slc] false w_4 fun (t29:(Option Addr × Nat × Nat)) w_5 =>
  joinP Unit (fun k_2 =>
  za7 .i64 (dir_l:Int) 1 fun t34 =>
  xg ((t29.2.1:Int) != t34) (
  k_1 (s.1.1,s.1.2.1,s.1.2.2) w_5) (
  qy P zi1 #[(Value.slice t29.1 t29.2.1 t29.2.2),(Value.slice dir dir_l z09)] [.bool] false w_5 fun (t39:Bool) w_6 =>
  xg (!t39) (
  k_1 (s.1.1,s.1.2.1,s.1.2.2) w_6) (
  k_2 () w_6))) (fun _ w_7 =>
  zl4 .i64 (t29.2.1:Int) 1 fun t45 =>
  ixS t29.1 t29.2.1 1 t45 fun t46 =>
  ld .str t46 w_7 fun (t47:ByteArray) =>
  zay P (Instr.build ql #[(0,(Value.string t47)),(1,(Value.int .i64 2))]) .any w_7 fun (t48:Value) =>
  zbj (zc P ql) ql w_7 fun b11 w_8 =>
  zbs P (storeVar ql (⟨b11,0,none⟩:Addr) t48) w_8 fun w_9 =>
  joinP (Option Addr × Nat × Nat) (fun k_3 =>
  ixS list list_l 3 s.2 fun t51 =>
  ld .bool (Addr.add t51 1) w_9 fun (t53:Bool) =>
  xg t53 (
  stC (⟨b11,1,none⟩:Addr) (Value.int .i64 3) w_9 fun w_10 =>
  qy P zpv #[(Value.slice s.1.1 s.1.2.1 s.1.2.2),(Value.slice list list_l list_c),(Value.slice t29.1 t29.2.1 t29.2.2)] [.slc,.any] true w_10 fun (t59:((Option Addr × Nat × Nat) × Value)) w_11 =>
  zbj (zc P zf) zf w_11 fun b13 w_12 =>
  zbs P (storeVar zf (⟨b13,0,none⟩:Addr) t59.2) w_12 fun w_13 =>
  ldA P 32 (⟨b13,0,none⟩:Addr) w_13 fun t63 =>
  zbs P (storeVar zf (⟨b11,2,none⟩:Addr) (Value.agg t63)) w_13 fun w_14 =>
  k_3 (t59.1.1,t59.1.2.1,t59.1.2.2) w_14) (
  ixS list list_l 3 s.2 fun t69 =>
  ld .str (Addr.add t69 2) w_9 fun (t71:ByteArray) =>
  qy P zwb #[(Value.slice s.1.1 s.1.2.1 s.1.2.2),(Value.string t71)] [.slc,.any] true w_9 fun (t72:((Option Addr × Nat × Nat) × Value)) w_15 =>
  zbj (zc P zf) zf w_15 fun b15 w_16 =>
  zbs P (storeVar zf (⟨b15,0,none⟩:Addr) t72.2) w_16 fun w_17 =>
  ldA P 32 (⟨b15,0,none⟩:Addr) w_17 fun t76 =>
  zbs P (storeVar zf (⟨b11,2,none⟩:Addr) (Value.agg t76)) w_17 fun w_18 =>
  k_3 (t72.1.1,t72.1.2.1,t72.1.2.2) w_18)) (fun s_2 w_19 =>
  ld .slc (⟨b8,4,none⟩:Addr) w_19 fun (t79:(Option Addr × Nat × Nat)) =>
  ldA P 34 (⟨b11,0,none⟩:Addr) w_19 fun t80 =>
  zaf P (Instr.buildSlice zad 1 #[(0,(Value.agg t80))]) .slc w_19 fun (t81:(Option Addr × Nat × Nat)) w_20 =>
  zaf P (Builtin.append_ #[zad,zad] zad #[(Value.slice t79.1 t79.2.1 t79.2.2),(Value.slice t81.1 t81.2.1 t81.2.2)]) .slc w_20 fun (t82:(Option Addr × Nat × Nat)) w_21 =>
  stC (⟨b8,4,none⟩:Addr) (Value.slice t82.1 t82.2.1 t82.2.2) w_21 fun w_22 =>
  k_1 (s_2.1,s_2.2.1,s_2.2.2) w_22))) (fun s_3 w_23 =>
  za7 .i64 s.2 1 fun t23 =>
  k ((s_3.1,s_3.2.1,s_3.2.2),t23) w_23)) (
  ldA P 5 (⟨b8,0,none⟩:Addr) w_4 fun t84 =>
  qy P zi3 #[(Value.agg t84)] [.slc] false w_4 fun (t85:(Option Addr × Nat × Nat)) w_24 =>
  zaf P (Instr.buildSlice ji 1 #[(0,(Value.slice t85.1 t85.2.1 t85.2.2))]) .slc w_24 fun (t88:(Option Addr × Nat × Nat)) w_25 =>
  zaf P (Builtin.append_ #[ji,ji] ji #[(Value.slice s.1.1 s.1.2.1 s.1.2.2),(Value.slice t88.1 t88.2.1 t88.2.2)]) .slc w_25 fun (t89:(Option Addr × Nat × Nat)) w_26 =>
  qy P zi2 #[(Value.slice t85.1 t85.2.1 t85.2.2)] [.any] false w_26 fun (t91:Value) w_27 =>
  zbs P (storeVar zf (⟨b7,0,none⟩:Addr) t91) w_27 fun w_28 =>
  ldA P 32 (⟨b7,0,none⟩:Addr) w_28 fun t7 =>
  R (.returned (Value.tuple #[(Value.slice t89.1 t89.2.1 t89.2.2),(Value.agg t7)])) w_28)) ((blobs,blobs_l,blobs_c),0) w_3
theorem z9q (blobs:Option Addr) (blobs_l blobs_c:Nat) (list:Option Addr) (list_l list_c:Nat) (dir:Option Addr) (dir_l z09:Nat) (R:Ending→World→Prop) (w:World):tr P qs ((Tryz.f121.body).getD .skip) zpp (zb0 0 [(0,(Value.slice blobs blobs_l blobs_c)),(0,(Value.slice list list_l list_c)),(0,(Value.slice dir dir_l z09))]) (zcb P Tryz.f121.results.toList R) w=zs8 blobs blobs_l blobs_c list list_l list_c dir dir_l z09 R w:=by kernel_rfl
theorem qci {blobs:Option Addr} {blobs_l blobs_c:Nat} {list:Option Addr} {list_l list_c:Nat} {dir:Option Addr} {dir_l z09:Nat} {R:Ending→World→Prop} {w:World} (hT:zs8 blobs blobs_l blobs_c list list_l list_c dir dir_l z09 R w):qg P zpv #[(Value.slice blobs blobs_l blobs_c),(Value.slice list list_l list_c),(Value.slice dir dir_l z09)] w R :=
 zy (fn:=Tryz.f121) (c:=(Tryz.f121.body).getD .skip) (ann:=zpp) (args:=[(0,(Value.slice blobs blobs_l blobs_c)),(0,(Value.slice list list_l list_c)),(0,(Value.slice dir dir_l z09))]) (qs:=qs) mixed Tryz.func121 rfl (by kernel_rfl) (by kernel_rfl) qcc ((z9q blobs blobs_l blobs_c list list_l list_c dir dir_l z09 R w).symm ▸ hT)
def ztg:Ann:=(.seq .leaf (.seq .leaf (.seq (.seq .leaf (.cond (.seq .leaf .leaf) .leaf)) (.seq .leaf (.join [] (.seq .leaf (.cond (.seq .leaf .leaf) .leaf)) (.seq .leaf .leaf))))))
theorem qgr:okC P qs Tryz.f125.ntmps ((Tryz.f125.body).getD .skip) ztg=true:=by kernel_rfl
def z14 (s:Option Addr) (d:Value) (kind:Int) (R:Ending→World→Prop) (w:World):Prop :=
  zbj (Value.cells d) zf w fun b4 w_1 =>
  zbj (zc P zh) zh w_1 fun b6 w_2 =>
  ldA P 32 (⟨b4,0,none⟩:Addr) w_2 fun t14 =>
  qy P zla #[(Value.pointer s),(Value.agg t14)] [.slc,.int .i64] true w_2 fun (t15:((Option Addr × Nat × Nat) × Int)) w_3 =>
  xg (t15.2 != 0) (
  zay P (Instr.build zh #[]) .any w_3 fun (t20:Value) =>
  zbs P (storeVar zh (⟨b6,0,none⟩:Addr) t20) w_3 fun w_4 =>
  ldA P 5 (⟨b6,0,none⟩:Addr) w_4 fun t6 =>
  R (.returned (Value.tuple #[(Value.agg t6),(Value.int .i64 t15.2)])) w_4) (
  qy P zro #[(Value.slice t15.1.1 t15.1.2.1 t15.1.2.2)] [.any,.bool] true w_3 fun (t24:(Value × Bool)) w_5 =>
  zbj (zc P zh) zh w_5 fun b10 w_6 =>
  zbs P (storeVar zh (⟨b10,0,none⟩:Addr) t24.1) w_6 fun w_7 =>
  joinP Unit (fun k =>
  xg (!t24.2) (
  zay P (Instr.build zh #[]) .any w_7 fun (t35:Value) =>
  zbs P (storeVar zh (⟨b6,0,none⟩:Addr) t35) w_7 fun w_8 =>
  ldA P 5 (⟨b6,0,none⟩:Addr) w_8 fun t6_1 =>
  R (.returned (Value.tuple #[(Value.agg t6_1),(Value.int .i64 21)])) w_8) (
  ld (.int .i64) (⟨b10,0,none⟩:Addr) w_7 fun (t31:Int) =>
  xg (t31 != kind) (
  zay P (Instr.build zh #[]) .any w_7 fun (t35_1:Value) =>
  zbs P (storeVar zh (⟨b6,0,none⟩:Addr) t35_1) w_7 fun w_9 =>
  ldA P 5 (⟨b6,0,none⟩:Addr) w_9 fun t6_2 =>
  R (.returned (Value.tuple #[(Value.agg t6_2),(Value.int .i64 21)])) w_9) (
  k () w_7))) (fun _ w_10 =>
  ldA P 5 (⟨b10,0,none⟩:Addr) w_10 fun t36 =>
  zbs P (storeVar zh (⟨b6,0,none⟩:Addr) (Value.agg t36)) w_10 fun w_11 =>
  ldA P 5 (⟨b6,0,none⟩:Addr) w_11 fun t6_3 =>
  R (.returned (Value.tuple #[(Value.agg t6_3),(Value.int .i64 0)])) w_11))
theorem qgq (s:Option Addr) (d:Value) (kind:Int) (R:Ending→World→Prop) (w:World):tr P qs ((Tryz.f125.body).getD .skip) ztg (zb0 0 [(0,(Value.pointer s)),(1,d),(0,(Value.int .i64 kind))]) (zcb P Tryz.f125.results.toList R) w=z14 s d kind R w:=by kernel_rfl
theorem qg6 {s:Option Addr} {d:Value} {kind:Int} {R:Ending→World→Prop} {w:World} (hT:z14 s d kind R w):qg P zrj #[(Value.pointer s),d,(Value.int .i64 kind)] w R :=
 zy (fn:=Tryz.f125) (c:=(Tryz.f125.body).getD .skip) (ann:=ztg) (args:=[(0,(Value.pointer s)),(1,d),(0,(Value.int .i64 kind))]) (qs:=qs) mixed Tryz.func125 rfl (by kernel_rfl) (by kernel_rfl) qgr ((qgq s d kind R w).symm ▸ hT)
def zpy:Ann:=(.seq .leaf (.seq .leaf (.seq (.seq .leaf (.blk (.loop [(7,.slc),(8,.int .i64)] (.seq (.seq .leaf (.cond .leaf .leaf)) (.seq (.blk (.seq .leaf (.tree (.op 0 [] (.op 1 [] (.op 2 [] (.op 4 [] (.op 10 [] (.op 12 [] (.op 3 [] (.op 5 [] (.op 6 [] (.op 7 [] (.op 11 [] (.op 13 [] (.op 14 [] (.op 8 [11,14] (.op 9 [11,14] (.op 15 [] (.op 16 [] (.op 17 [] (.op 18 [] .done)))))))))))))))))))))) .leaf))))) (.seq .leaf .leaf))))
theorem qat:okC P qs Tryz.f126.ntmps ((Tryz.f126.body).getD .skip) zpy=true:=by kernel_rfl
def ztj (names:Option Addr) (names_l names_c:Nat) (n:Value) (rest:Option Addr) (rest_l rest_c:Nat) (R:Ending→World→Prop) (w:World):Prop :=
  zbj (Value.cells n) zh w fun b4 w_1 =>
  zav ((Option Addr × Nat × Nat) × Int) (fun s w_2 k =>
  ld .slc (⟨b4,4,none⟩:Addr) w_2 fun (t12:(Option Addr × Nat × Nat)) =>
  xg (decide (s.2 < (t12.2.1:Int))) (
  zaf P (Instr.buildSlice qw 0 #[]) .slc w_2 fun (t17:(Option Addr × Nat × Nat)) w_3 =>
  zaf P (Builtin.append_ #[qw,qw] qw #[(Value.slice t17.1 t17.2.1 t17.2.2),(Value.slice names names_l names_c)]) .slc w_3 fun (t19:(Option Addr × Nat × Nat)) w_4 =>
  zbd w_4 fun w_5 =>
  ld .slc (⟨b4,4,none⟩:Addr) w_5 fun (t23:(Option Addr × Nat × Nat)) =>
  ixS t23.1 t23.2.1 34 s.2 fun t25 =>
  ld .str t25 w_5 fun (t27:ByteArray) =>
  ld .slc (⟨b4,4,none⟩:Addr) w_5 fun (t31:(Option Addr × Nat × Nat)) =>
  ixS t31.1 t31.2.1 34 s.2 fun t33 =>
  ldA P 34 t33 w_5 fun t34 =>
  zaf P (Instr.buildSlice qw 1 #[(0,(Value.string t27))]) .slc w_5 fun (t28:(Option Addr × Nat × Nat)) w_6 =>
  ((ldA P 34 t33 w_6 fun t34_1 =>
  (Value.agg t34_1)=(Value.agg t34)) ∧
  ((ld .slc (⟨b4,4,none⟩:Addr) w_6 fun (t31_1:(Option Addr × Nat × Nat)) =>
  (Value.slice t31_1.1 t31_1.2.1 t31_1.2.2)=(Value.slice t31.1 t31.2.1 t31.2.2)) ∧
  zaf P (Builtin.append_ #[qw,qw] qw #[(Value.slice t19.1 t19.2.1 t19.2.2),(Value.slice t28.1 t28.2.1 t28.2.2)]) .slc w_6 fun (t29:(Option Addr × Nat × Nat)) w_7 =>
  ((ldA P 34 t33 w_7 fun t34_2 =>
  (Value.agg t34_2)=(Value.agg t34)) ∧
  ((ld .slc (⟨b4,4,none⟩:Addr) w_7 fun (t31_2:(Option Addr × Nat × Nat)) =>
  (Value.slice t31_2.1 t31_2.2.1 t31_2.2.2)=(Value.slice t31.1 t31.2.1 t31.2.2)) ∧
  zay P (Instr.build za9 #[(0,(Value.slice t29.1 t29.2.1 t29.2.2)),(1,(Value.agg t34))]) .any w_7 fun (t35:Value) =>
  zaf P (Instr.buildSlice zbm 1 #[(0,t35)]) .slc w_7 fun (t36:(Option Addr × Nat × Nat)) w_8 =>
  zaf P (Builtin.append_ #[zbm,zbm] zbm #[(Value.slice s.1.1 s.1.2.1 s.1.2.2),(Value.slice t36.1 t36.2.1 t36.2.2)]) .slc w_8 fun (t37:(Option Addr × Nat × Nat)) w_9 =>
  za7 .i64 s.2 1 fun t16 =>
  k ((t37.1,t37.2.1,t37.2.2),t16) w_9))))) (
  zaf P (Builtin.append_ #[zbm,zbm] zbm #[(Value.slice s.1.1 s.1.2.1 s.1.2.2),(Value.slice rest rest_l rest_c)]) .slc w_2 fun (t40:(Option Addr × Nat × Nat)) w_10 =>
  R (.returned (Value.slice t40.1 t40.2.1 t40.2.2)) w_10)) ((none,0,0),0) w_1
theorem qcw (names:Option Addr) (names_l names_c:Nat) (n:Value) (rest:Option Addr) (rest_l rest_c:Nat) (R:Ending→World→Prop) (w:World):tr P qs ((Tryz.f126.body).getD .skip) zpy (zb0 0 [(0,(Value.slice names names_l names_c)),(1,n),(0,(Value.slice rest rest_l rest_c))]) (zcb P Tryz.f126.results.toList R) w=ztj names names_l names_c n rest rest_l rest_c R w:=by kernel_rfl
theorem qcf {names:Option Addr} {names_l names_c:Nat} {n:Value} {rest:Option Addr} {rest_l rest_c:Nat} {R:Ending→World→Prop} {w:World} (hT:ztj names names_l names_c n rest rest_l rest_c R w):qg P zou #[(Value.slice names names_l names_c),n,(Value.slice rest rest_l rest_c)] w R :=
 zy (fn:=Tryz.f126) (c:=(Tryz.f126.body).getD .skip) (ann:=zpy) (args:=[(0,(Value.slice names names_l names_c)),(1,n),(0,(Value.slice rest rest_l rest_c))]) (qs:=qs) mixed Tryz.func126 rfl (by kernel_rfl) (by kernel_rfl) qat ((qcw names names_l names_c n rest rest_l rest_c R w).symm ▸ hT)
def zkw:Ann:=(.seq .leaf (.seq .leaf (.seq (.seq .leaf (.blk (.loop [(6,.str),(7,.int .i64)] (.seq (.seq .leaf (.cond .leaf .leaf)) (.seq (.blk (.seq .leaf (.seq (.seq .leaf (.cond (.seq .leaf .leaf) .leaf)) (.seq .leaf (.join [(10,.int .i64)] (.seq .leaf (.cond .leaf .leaf)) (.seq (.seq .leaf (.cond (.seq .leaf .leaf) .leaf)) .leaf)))))) .leaf))))) (.seq .leaf .leaf))))
theorem z4m:okC P qs Tryz.f127.ntmps ((Tryz.f127.body).getD .skip) zkw=true:=by kernel_rfl
def zps (s:Option Addr) (n:Value) (R:Ending→World→Prop) (w:World):Prop :=
  zbj (Value.cells n) zh w fun b3 w_1 =>
  zav (ByteArray × Int) (fun s_1 w_2 k =>
  ld .slc (⟨b3,3,none⟩:Addr) w_2 fun (t13:(Option Addr × Nat × Nat)) =>
  xg (decide (s_1.2 < (t13.2.1:Int))) (
  ld .slc (⟨b3,3,none⟩:Addr) w_2 fun (t21:(Option Addr × Nat × Nat)) =>
  ixS t21.1 t21.2.1 32 s_1.2 fun t23 =>
  ldA P 32 t23 w_2 fun t24 =>
  qy P zrj #[(Value.pointer s),(Value.agg t24),(Value.int .i64 1)] [.any,.int .i64] true w_2 fun (t25:(Value × Int)) w_3 =>
  zbj (zc P zh) zh w_3 fun b8 w_4 =>
  zbs P (storeVar zh (⟨b8,0,none⟩:Addr) t25.1) w_4 fun w_5 =>
  xg (t25.2 != 0) (
  R (.returned (Value.tuple #[(Value.string (ByteArray.mk #[])),(Value.int .i64 t25.2)])) w_5) (
  ld (.int .i64) (⟨b3,2,none⟩:Addr) w_5 fun (t32:Int) =>
  zy3 .i64 s_1.2 64 fun t34 =>
  zl4 .i64 t32 t34 fun t35 =>
  joinP Int (fun k_1 =>
  xg (decide (t35 > 64)) (
  k_1 64 w_5) (
  k_1 t35 w_5)) (fun s_2 w_6 =>
  ld .str (⟨b8,1,none⟩:Addr) w_6 fun (t39:ByteArray) =>
  xg ((t39.size:Int) != s_2) (
  R (.returned (Value.tuple #[(Value.string (ByteArray.mk #[])),(Value.int .i64 21)])) w_6) (
  ld .str (⟨b8,1,none⟩:Addr) w_6 fun (t45:ByteArray) =>
  qlf s_1.1 t45 fun t46 =>
  za7 .i64 s_1.2 1 fun t17 =>
  k (t46,t17) w_6)))) (
  R (.returned (Value.tuple #[(Value.string s_1.1),(Value.int .i64 0)])) w_2)) ((ByteArray.mk #[]),0) w_1
theorem z3h (s:Option Addr) (n:Value) (R:Ending→World→Prop) (w:World):tr P qs ((Tryz.f127.body).getD .skip) zkw (zb0 0 [(0,(Value.pointer s)),(1,n)]) (zcb P Tryz.f127.results.toList R) w=zps s n R w:=by kernel_rfl
theorem z3c {s:Option Addr} {n:Value} {R:Ending→World→Prop} {w:World} (hT:zps s n R w):qg P zoq #[(Value.pointer s),n] w R :=
 zy (fn:=Tryz.f127) (c:=(Tryz.f127.body).getD .skip) (ann:=zkw) (args:=[(0,(Value.pointer s)),(1,n)]) (qs:=qs) mixed Tryz.func127 rfl (by kernel_rfl) (by kernel_rfl) z4m ((z3h s n R w).symm ▸ hT)
def zo9:Ann:=(.seq .leaf (.seq .leaf (.seq .leaf .leaf)))
theorem qam:okC P qs Tryz.f174.ntmps ((Tryz.f174.body).getD .skip) zo9=true:=by kernel_rfl
def ztr (path:ByteArray) (R:Ending→World→Prop) (w:World):Prop :=
  qy P zog #[(Value.string path)] [.slc,.int .i64] true w fun (t7:((Option Addr × Nat × Nat) × Int)) w_1 =>
  R (.returned (Value.slice t7.1.1 t7.1.2.1 t7.1.2.2)) w_1
theorem z98 (path:ByteArray) (R:Ending→World→Prop) (w:World):tr P qs ((Tryz.f174.body).getD .skip) zo9 (zb0 0 [(0,(Value.string path))]) (zcb P Tryz.f174.results.toList R) w=ztr path R w:=by kernel_rfl
theorem qcd {path:ByteArray} {R:Ending→World→Prop} {w:World} (hT:ztr path R w):qg P zk8 #[(Value.string path)] w R :=
 zy (fn:=Tryz.f174) (c:=(Tryz.f174.body).getD .skip) (ann:=zo9) (args:=[(0,(Value.string path))]) (qs:=qs) mixed Tryz.func174 rfl (by kernel_rfl) (by kernel_rfl) qam ((z98 path R w).symm ▸ hT)
set_option maxRecDepth 100000
def zh4:Ann:=(.seq .leaf (.seq (.seq .leaf (.cond (.seq .leaf .leaf) .leaf)) (.seq .leaf (.seq (.seq .leaf (.blk (.loop [(3,.int .i64),(4,.int .i64)] (.seq (.seq .leaf (.cond .leaf .leaf)) (.seq (.blk .leaf) .leaf))))) (.join [] (.seq .leaf (.cond (.seq .leaf .leaf) .leaf)) (.seq .leaf (.seq .leaf (.seq .leaf (.seq .leaf (.join [] (.seq .leaf (.cond (.seq .leaf .leaf) .leaf)) (.seq (.seq .leaf (.cond (.seq .leaf .leaf) .leaf)) (.seq .leaf (.seq .leaf (.seq .leaf .leaf))))))))))))))
theorem zyb:okC P qs Tryz.f4.ntmps ((Tryz.f4.body).getD .skip) zh4=true:=by kernel_rfl
def zkv (list:Option Addr) (list_l list_c:Nat) (R:Ending→World→Prop) (w:World):Prop :=
  qy P zt2 #[] [.bool] false w fun (t15:Bool) w_1 =>
  xg (!t15) (
  R (.returned (Value.bool false)) w_1) (
  zav (Int × Int) (fun s w_2 k =>
  xg (decide (s.2 < (list_l:Int))) (
  ixS list list_l 3 s.2 fun t26 =>
  ld .str (Addr.add t26 2) w_2 fun (t28:ByteArray) =>
  za7 .i64 20 (t28.size:Int) fun t30 =>
  za7 .i64 s.1 t30 fun t31 =>
  za7 .i64 s.2 1 fun t22 =>
  k (t31,t22) w_2) (
  joinP Unit (fun k_1 =>
  xg (decide (s.1 > 90000)) (
  R (.returned (Value.bool true)) w_2) (
  xg (decide ((list_l:Int) > 80)) (
  R (.returned (Value.bool true)) w_2) (
  k_1 () w_2))) (fun _ w_3 =>
  qy P zsa #[(Value.int .i64 16777216)] [.ptr] false w_3 fun (t39:(Option Addr)) w_4 =>
  qy P zzd #[(Value.int .i64 16777216)] [.ptr] false w_4 fun (t40:(Option Addr)) w_5 =>
  qy P zmf #[(Value.pointer t39),(Value.slice list list_l list_c)] [.any,.int .i64] true w_5 fun (t44:(Value × Int)) w_6 =>
  zbj (zc P zf) zf w_6 fun b7 w_7 =>
  zbs P (storeVar zf (⟨b7,0,none⟩:Addr) t44.1) w_7 fun w_8 =>
  qy P zti #[(Value.pointer t40),(Value.slice list list_l list_c)] [.any,.int .i64] true w_8 fun (t50:(Value × Int)) w_9 =>
  zbj (zc P zf) zf w_9 fun b9 w_10 =>
  zbs P (storeVar zf (⟨b9,0,none⟩:Addr) t50.1) w_10 fun w_11 =>
  joinP Unit (fun k_2 =>
  ldA P 32 (⟨b7,0,none⟩:Addr) w_11 fun t53 =>
  ldA P 32 (⟨b9,0,none⟩:Addr) w_11 fun t54 =>
  zay P (eqM .neq zf (.tmp 53) (.tmp 54) (Value.agg t53) (Value.agg t54)) .bool w_11 fun (t55:Bool) =>
  xg t55 (
  R (.returned (Value.bool false)) w_11) (
  xg (t44.2 != t50.2) (
  R (.returned (Value.bool false)) w_11) (
  k_2 () w_11))) (fun _ w_12 =>
  xg (t44.2 != 0) (
  R (.returned (Value.bool true)) w_12) (
  ldA P 32 (⟨b7,0,none⟩:Addr) w_12 fun t65 =>
  qy P zkm #[(Value.pointer t39),(Value.agg t65)] [.slc,.int .i64] true w_12 fun (t66:((Option Addr × Nat × Nat) × Int)) w_13 =>
  ldA P 32 (⟨b9,0,none⟩:Addr) w_13 fun t71 =>
  qy P zr3 #[(Value.pointer t40),(Value.agg t71)] [.slc,.int .i64] true w_13 fun (t72:((Option Addr × Nat × Nat) × Int)) w_14 =>
  zay P (convert zk qc (Value.slice t66.1.1 t66.1.2.1 t66.1.2.2)) .str w_14 fun (t76:ByteArray) =>
  zay P (convert zk qc (Value.slice t72.1.1 t72.1.2.1 t72.1.2.2)) .str w_14 fun (t78:ByteArray) =>
  xg (t76.toList == t78.toList) (
  R (.returned (Value.bool (t66.2 == t72.2))) w_14) (
  R (.returned (Value.bool false)) w_14)))))) (0,0) w_1)
theorem zx5 (list:Option Addr) (list_l list_c:Nat) (R:Ending→World→Prop) (w:World):tr P qs ((Tryz.f4.body).getD .skip) zh4 (zb0 0 [(0,(Value.slice list list_l list_c))]) (zcb P Tryz.f4.results.toList R) w=zkv list list_l list_c R w:=by kernel_rfl
theorem zx9 {list:Option Addr} {list_l list_c:Nat} {R:Ending→World→Prop} {w:World} (hT:zkv list list_l list_c R w):qg P zq2 #[(Value.slice list list_l list_c)] w R :=
 zy (fn:=Tryz.f4) (c:=(Tryz.f4.body).getD .skip) (ann:=zh4) (args:=[(0,(Value.slice list list_l list_c))]) (qs:=qs) mixed Tryz.func4 rfl (by kernel_rfl) (by kernel_rfl) zyb ((zx5 list list_l list_c R w).symm ▸ hT)
def zpu:Ann:=(.seq .leaf (.seq .leaf (.seq .leaf (.seq .leaf (.seq .leaf (.seq .leaf .leaf))))))
theorem qa1:okC P qs Tryz.f22.ntmps ((Tryz.f22.body).getD .skip) zpu=true:=by kernel_rfl
def ztp  (R:Ending→World→Prop) (w:World):Prop :=
  qy P zsa #[(Value.int .i64 65536)] [.ptr] false w fun (t8:(Option Addr)) w_1 =>
  zaf P (Instr.buildSlice zk 5 #[(0,(Value.int .u8 115)),(1,(Value.int .u8 116)),(2,(Value.int .u8 97)),(3,(Value.int .u8 116)),(4,(Value.int .u8 101))]) .slc w_1 fun (t11:(Option Addr × Nat × Nat)) w_2 =>
  zaf P (convert zk zk (Value.slice t11.1 t11.2.1 t11.2.2)) .slc w_2 fun (t12:(Option Addr × Nat × Nat)) w_3 =>
  qy P zul #[(Value.pointer t8),(Value.slice t12.1 t12.2.1 t12.2.2)] [.any,.int .i64] true w_3 fun (t13:(Value × Int)) w_4 =>
  zbj (zc P zf) zf w_4 fun b2 w_5 =>
  zbs P (storeVar zf (⟨b2,0,none⟩:Addr) t13.1) w_5 fun w_6 =>
  ldA P 32 (⟨b2,0,none⟩:Addr) w_6 fun t18 =>
  qy P zkm #[(Value.pointer t8),(Value.agg t18)] [.slc,.int .i64] true w_6 fun (t19:((Option Addr × Nat × Nat) × Int)) w_7 =>
  ldA P 32 (⟨b2,0,none⟩:Addr) w_7 fun t24 =>
  qy P zol #[(Value.pointer t8),(Value.agg t24)] [.slc,.int .i64] true w_7 fun (t25:((Option Addr × Nat × Nat) × Int)) w_8 =>
  xg (t13.2 == 0) (
  xg (t19.2 == 0) (
  zay P (convert zk qc (Value.slice t19.1.1 t19.1.2.1 t19.1.2.2)) .str w_8 fun (t36:ByteArray) =>
  xg (t36.toList == (ByteArray.mk #[115,116,97,116,101]).toList) (
  xg (t25.2 == 0) (
  zay P (Instr.build zl #[(0,(Value.string (ByteArray.mk #[47,112,48,48]))),(2,(Value.string (ByteArray.mk #[115,116,97,116,101])))]) .any w_8 fun (t45:Value) =>
  zaf P (Instr.buildSlice zu 1 #[(0,t45)]) .slc w_8 fun (t46:(Option Addr × Nat × Nat)) w_9 =>
  qy P zlm #[(Value.slice t25.1.1 t25.1.2.1 t25.1.2.2),(Value.slice t46.1 t46.2.1 t46.2.2)] [.bool] false w_9 fun (t47:Bool) w_10 =>
  R (.returned (Value.bool t47)) w_10) (
  R (.returned (Value.bool false)) w_8)) (
  R (.returned (Value.bool false)) w_8)) (
  R (.returned (Value.bool false)) w_8)) (
  R (.returned (Value.bool false)) w_8)
theorem qcz  (R:Ending→World→Prop) (w:World):tr P qs ((Tryz.f22.body).getD .skip) zpu (zb0 0 []) (zcb P Tryz.f22.results.toList R) w=ztp  R w:=by kernel_rfl
theorem qai  {R:Ending→World→Prop} {w:World} (hT:ztp  R w):qg P zt2 #[] w R :=
 zy (fn:=Tryz.f22) (c:=(Tryz.f22.body).getD .skip) (ann:=zpu) (args:=[]) (qs:=qs) mixed Tryz.func22 rfl (by kernel_rfl) (by kernel_rfl) qa1 ((qcz  R w).symm ▸ hT)
set_option maxRecDepth 100000
end Go.Proofs.YtbmegmbnlajbbaaGreatDoor
