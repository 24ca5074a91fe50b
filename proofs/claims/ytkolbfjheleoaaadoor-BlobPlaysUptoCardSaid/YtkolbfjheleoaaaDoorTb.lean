/- Functions of the program as propositions; printed by wip/tools/fw.py, checked by the kernel. -/
import Derived.Test.YtkolbfjheleoaaaDoorTa
namespace Go.Proofs.YtkolbfjheleoaaaDoor
open Go Go.Fw Go.Proofs
set_option maxRecDepth 100000
def ann_l05_BlobBack : Ann := (.seq .leaf (.seq (.seq .leaf (.cond (.seq .leaf .leaf) .leaf)) (.seq .leaf (.seq .leaf (.seq (.seq .leaf (.cond (.seq .leaf .leaf) .leaf)) (.seq .leaf (.join [] (.seq (.tree (.op 0 [] (.op 1 [] (.op 2 [] (.op 3 [] (.op 4 [] (.op 5 [] (.op 6 [] (.op 7 [] (.op 9 [] (.op 8 [] (.op 10 [] (.op 11 [] (.op 12 [] (.op 13 [] (.op 15 [] (.op 14 [] (.op 16 [14] (.op 17 [] (.op 18 [] .done)))))))))))))))))))) (.cond (.seq .leaf .leaf) .leaf)) (.seq .leaf (.join [] (.seq .leaf (.cond (.seq .leaf (.seq .leaf .leaf)) .leaf)) (.seq .leaf (.seq .leaf (.seq (.seq (.tree (.op 0 [] (.op 2 [] (.op 1 [2] (.op 3 [] .done))))) (.cond (.seq .leaf .leaf) .leaf)) (.seq .leaf (.seq .leaf (.seq .leaf (.seq .leaf .leaf))))))))))))))))
theorem ok_l05_BlobBack : okC P qs Tryd.f3.ntmps ((Tryd.f3.body).getD .skip) ann_l05_BlobBack = true := by kernel_rfl
def T_l05_BlobBack (b : Option Addr) (b_l b_c : Nat) (atv : Int) (turn : Int) (R : Ending → World → Prop) (w : World) : Prop :=
    callF P F_l05_awake #[] [.bool] false w fun (t17 : Bool) w_1 =>
    iteP (!t17) (
    R (.returned (Value.bool false)) w_1) (
    callF P F_blob_New #[(Value.int .i64 8192)] [.ptr] false w_1 fun (t19 : (Option Addr)) w_2 =>
    callF P F_blob_Store_Put #[(Value.pointer t19), (Value.slice b b_l b_c)] [.any, .int .i64] true w_2 fun (t23 : (Value × Int)) w_3 =>
    newB (zc P y_api_Digest) y_api_Digest w_3 fun b8 w_4 =>
    genU P (storeVar y_api_Digest (⟨b8, 0, none⟩ : Addr) t23.1) w_4 fun w_5 =>
    iteP (decide ((b_l : Int) > 4096)) (
    iteP (t23.2 == 2) (
    callF P F_blob_Store_Count #[(Value.pointer t19)] [.int .i64] false w_5 fun (t33 : Int) w_6 =>
    iteP (t33 == 0) (
    ldA P 32 (⟨b8, 0, none⟩ : Addr) w_6 fun t37 =>
    genQ P (Instr.build y_api_Digest #[]) .any w_6 fun (t38 : Value) =>
    genQ P (eqM .eql y_api_Digest (.tmp 37) (.tmp 38) (Value.agg t37) t38) .bool w_6 fun (t39 : Bool) =>
    R (.returned (Value.bool t39)) w_6) (
    R (.returned (Value.bool false)) w_6)) (
    R (.returned (Value.bool false)) w_5)) (
    ldA P 32 (⟨b8, 0, none⟩ : Addr) w_5 fun t43 =>
    callF P F_blob_Store_Get #[(Value.pointer t19), (Value.agg t43)] [.slc, .int .i64] true w_5 fun (t44 : ((Option Addr × Nat × Nat) × Int)) w_7 =>
    joinP Unit (fun k =>
    drewP w_7 fun w_8 =>
    iteP (t23.2 != 0) (
    ((undef = undef) ∧
    R (.returned (Value.bool false)) w_8)) (
    iteP (t44.2 != 0) (
    ((undef = undef) ∧
    R (.returned (Value.bool false)) w_8)) (
    genQ P (convert y_S_uint8 y_string (Value.slice t44.1.1 t44.1.2.1 t44.1.2.2)) .str w_8 fun (t55 : ByteArray) =>
    genQ P (convert y_S_uint8 y_string (Value.slice b b_l b_c)) .str w_8 fun (t57 : ByteArray) =>
    iteP (!(t55.toList == t57.toList)) (
    ((undef = undef) ∧
    R (.returned (Value.bool false)) w_8)) (
    ldA P 32 (⟨b8, 0, none⟩ : Addr) w_8 fun t61 =>
    callF P F_r01_Sum #[(Value.slice b b_l b_c)] [.any] false w_8 fun (t63 : Value) w_9 =>
    ((ldA P 32 (⟨b8, 0, none⟩ : Addr) w_9 fun t61_1 =>
    (Value.agg t61_1) = (Value.agg t61)) ∧
    genQ P (eqM .neq y_api_Digest (.tmp 61) (.tmp 63) (Value.agg t61) t63) .bool w_9 fun (t64 : Bool) =>
    iteP t64 (
    R (.returned (Value.bool false)) w_9) (
    k () w_9)))))) (fun _ w_10 =>
    ldA P 32 (⟨b8, 0, none⟩ : Addr) w_10 fun t67 =>
    callF P F_blob_Store_Spoil #[(Value.pointer t19), (Value.agg t67), (Value.int .i64 atv), (Value.int .u8 turn)] [.int .i64] false w_10 fun (t70 : Int) w_11 =>
    joinP Unit (fun k_1 =>
    iteP (decide (atv < 0)) (
    ldA P 32 (⟨b8, 0, none⟩ : Addr) w_11 fun t85 =>
    callF P F_blob_Store_Get #[(Value.pointer t19), (Value.agg t85)] [.slc, .int .i64] true w_11 fun (t86 : ((Option Addr × Nat × Nat) × Int)) w_12 =>
    iteP (t70 == 1) (
    iteP (t86.2 == 0) (
    genQ P (convert y_S_uint8 y_string (Value.slice t86.1.1 t86.1.2.1 t86.1.2.2)) .str w_12 fun (t97 : ByteArray) =>
    genQ P (convert y_S_uint8 y_string (Value.slice b b_l b_c)) .str w_12 fun (t99 : ByteArray) =>
    R (.returned (Value.bool (t97.toList == t99.toList))) w_12) (
    R (.returned (Value.bool false)) w_12)) (
    R (.returned (Value.bool false)) w_12)) (
    iteP (decide (atv ≥ (b_l : Int))) (
    ldA P 32 (⟨b8, 0, none⟩ : Addr) w_11 fun t85_1 =>
    callF P F_blob_Store_Get #[(Value.pointer t19), (Value.agg t85_1)] [.slc, .int .i64] true w_11 fun (t86_1 : ((Option Addr × Nat × Nat) × Int)) w_13 =>
    iteP (t70 == 1) (
    iteP (t86_1.2 == 0) (
    genQ P (convert y_S_uint8 y_string (Value.slice t86_1.1.1 t86_1.1.2.1 t86_1.1.2.2)) .str w_13 fun (t97_1 : ByteArray) =>
    genQ P (convert y_S_uint8 y_string (Value.slice b b_l b_c)) .str w_13 fun (t99_1 : ByteArray) =>
    R (.returned (Value.bool (t97_1.toList == t99_1.toList))) w_13) (
    R (.returned (Value.bool false)) w_13)) (
    R (.returned (Value.bool false)) w_13)) (
    iteP (turn == 0) (
    ldA P 32 (⟨b8, 0, none⟩ : Addr) w_11 fun t85_2 =>
    callF P F_blob_Store_Get #[(Value.pointer t19), (Value.agg t85_2)] [.slc, .int .i64] true w_11 fun (t86_2 : ((Option Addr × Nat × Nat) × Int)) w_14 =>
    iteP (t70 == 1) (
    iteP (t86_2.2 == 0) (
    genQ P (convert y_S_uint8 y_string (Value.slice t86_2.1.1 t86_2.1.2.1 t86_2.1.2.2)) .str w_14 fun (t97_2 : ByteArray) =>
    genQ P (convert y_S_uint8 y_string (Value.slice b b_l b_c)) .str w_14 fun (t99_2 : ByteArray) =>
    R (.returned (Value.bool (t97_2.toList == t99_2.toList))) w_14) (
    R (.returned (Value.bool false)) w_14)) (
    R (.returned (Value.bool false)) w_14)) (
    k_1 () w_11)))) (fun _ w_15 =>
    genL P (Instr.buildSlice y_S_uint8 0 #[]) .slc w_15 fun (t102 : (Option Addr × Nat × Nat)) w_16 =>
    genL P (Builtin.append_ #[y_S_uint8, y_S_uint8] y_S_uint8 #[(Value.slice t102.1 t102.2.1 t102.2.2), (Value.slice b b_l b_c)]) .slc w_16 fun (t104 : (Option Addr × Nat × Nat)) w_17 =>
    ixS t104.1 t104.2.1 1 atv fun t107 =>
    ld (.int .u8) t107 w_17 fun (t108 : Int) =>
    xorI .u8 t108 turn fun t110 =>
    ixS t104.1 t104.2.1 1 atv fun t111 =>
    stC t111 (Value.int .u8 t110) w_17 fun w_18 =>
    drewP w_18 fun w_19 =>
    ldA P 32 (⟨b8, 0, none⟩ : Addr) w_19 fun t114 =>
    callF P F_r01_Sum #[(Value.slice t104.1 t104.2.1 t104.2.2)] [.any] false w_19 fun (t113 : Value) w_20 =>
    ((ldA P 32 (⟨b8, 0, none⟩ : Addr) w_20 fun t114_1 =>
    (Value.agg t114_1) = (Value.agg t114)) ∧
    genQ P (eqM .eql y_api_Digest (.tmp 113) (.tmp 114) t113 (Value.agg t114)) .bool w_20 fun (t115 : Bool) =>
    iteP t115 (
    R (.returned (Value.bool true)) w_20) (
    ldA P 32 (⟨b8, 0, none⟩ : Addr) w_20 fun t118 =>
    callF P F_blob_Store_Get #[(Value.pointer t19), (Value.agg t118)] [.slc, .int .i64] true w_20 fun (t119 : ((Option Addr × Nat × Nat) × Int)) w_21 =>
    callF P F_blob_Store_Put #[(Value.pointer t19), (Value.slice b b_l b_c)] [.any, .int .i64] true w_21 fun (t125 : (Value × Int)) w_22 =>
    newB (zc P y_api_Digest) y_api_Digest w_22 fun b14 w_23 =>
    genU P (storeVar y_api_Digest (⟨b14, 0, none⟩ : Addr) t125.1) w_23 fun w_24 =>
    ldA P 32 (⟨b8, 0, none⟩ : Addr) w_24 fun t130 =>
    callF P F_blob_Store_Get #[(Value.pointer t19), (Value.agg t130)] [.slc, .int .i64] true w_24 fun (t131 : ((Option Addr × Nat × Nat) × Int)) w_25 =>
    iteP (t70 == 0) (
    iteP (t119.2 == 51) (
    iteP (t125.2 == 0) (
    ldA P 32 (⟨b14, 0, none⟩ : Addr) w_25 fun t145 =>
    ldA P 32 (⟨b8, 0, none⟩ : Addr) w_25 fun t146 =>
    genQ P (eqM .eql y_api_Digest (.tmp 145) (.tmp 146) (Value.agg t145) (Value.agg t146)) .bool w_25 fun (t147 : Bool) =>
    iteP t147 (
    iteP (t131.2 == 0) (
    genQ P (convert y_S_uint8 y_string (Value.slice t131.1.1 t131.1.2.1 t131.1.2.2)) .str w_25 fun (t155 : ByteArray) =>
    genQ P (convert y_S_uint8 y_string (Value.slice b b_l b_c)) .str w_25 fun (t157 : ByteArray) =>
    iteP (t155.toList == t157.toList) (
    callF P F_blob_Store_Count #[(Value.pointer t19)] [.int .i64] false w_25 fun (t162 : Int) w_26 =>
    iteP (t162 == 1) (
    callF P F_blob_Store_Bytes #[(Value.pointer t19)] [.int .i64] false w_26 fun (t167 : Int) w_27 =>
    R (.returned (Value.bool (t167 == (b_l : Int)))) w_27) (
    R (.returned (Value.bool false)) w_26)) (
    R (.returned (Value.bool false)) w_25)) (
    R (.returned (Value.bool false)) w_25)) (
    R (.returned (Value.bool false)) w_25)) (
    R (.returned (Value.bool false)) w_25)) (
    R (.returned (Value.bool false)) w_25)) (
    R (.returned (Value.bool false)) w_25)))))))
theorem eq_l05_BlobBack (b : Option Addr) (b_l b_c : Nat) (atv : Int) (turn : Int) (R : Ending → World → Prop) (w : World) : tr P qs ((Tryd.f3.body).getD .skip) ann_l05_BlobBack (env0 0 [(0, (Value.slice b b_l b_c)), (0, (Value.int .i64 atv)), (0, (Value.int .u8 turn))]) (topK P Tryd.f3.results.toList R) w = T_l05_BlobBack b b_l b_c atv turn R w := by kernel_rfl
/-- veneer/veneerlaw05.BlobBack -/
theorem fn_l05_BlobBack {b : Option Addr} {b_l b_c : Nat} {atv : Int} {turn : Int} {R : Ending → World → Prop} {w : World} (hT : T_l05_BlobBack b b_l b_c atv turn R w) : CallF P F_l05_BlobBack #[(Value.slice b b_l b_c), (Value.int .i64 atv), (Value.int .u8 turn)] w R :=
  fn_of_tr (fn := Tryd.f3) (c := (Tryd.f3.body).getD .skip) (ann := ann_l05_BlobBack) (args := [(0, (Value.slice b b_l b_c)), (0, (Value.int .i64 atv)), (0, (Value.int .u8 turn))]) (qs := qs) mixed Tryd.func3 rfl (by kernel_rfl) (by kernel_rfl) ok_l05_BlobBack ((eq_l05_BlobBack b b_l b_c atv turn R w).symm ▸ hT)
def ann_l05_BlobRoom : Ann := (.seq .leaf (.seq (.seq .leaf (.cond (.seq .leaf .leaf) .leaf)) (.seq .leaf (.seq (.seq .leaf (.cond (.seq .leaf .leaf) .leaf)) (.seq (.seq .leaf (.jblk [] (.loop [(6, .int .i64)] (.join [] (.seq .leaf (.cond .leaf .leaf)) (.join [] (.jblk [] (.seq .leaf (.seq .leaf (.seq .leaf (.seq (.seq .leaf (.cond (.seq .leaf .leaf) .leaf)) (.seq (.seq .leaf (.cond (.join [] (.seq .leaf (.cond (.seq .leaf .leaf) .leaf)) .leaf) .leaf)) (.join [(11, .bool)] .leaf (.join [] (.seq .leaf (.cond (.seq .leaf .leaf) .leaf)) (.seq .leaf (.cond (.join [] (.seq (.tree (.op 0 [] (.op 2 [] (.op 3 [] (.op 4 [] (.op 5 [] (.op 6 [] (.op 7 [] (.op 8 [] (.op 1 [6] (.op 9 [] (.op 10 [] (.op 11 [] (.op 12 [] (.op 13 [] (.op 14 [] (.op 15 [] (.op 16 [] (.op 17 [] (.op 19 [] (.op 18 [] (.op 20 [] (.op 21 [] (.op 22 [] (.op 23 [] (.op 24 [] (.op 25 [] (.op 26 [] .done)))))))))))))))))))))))))))) (.cond (.seq .leaf .leaf) .leaf)) .leaf) .leaf)))))))))) .leaf))))) (.seq .leaf .leaf))))))
theorem ok_l05_BlobRoom : okC P qs Tryd.f4.ntmps ((Tryd.f4.body).getD .skip) ann_l05_BlobRoom = true := by kernel_rfl
def T_l05_BlobRoom (quota : Int) (list : Option Addr) (list_l list_c : Nat) (R : Ending → World → Prop) (w : World) : Prop :=
    callF P F_l05_awake #[] [.bool] false w fun (t12 : Bool) w_1 =>
    iteP (!t12) (
    R (.returned (Value.bool false)) w_1) (
    callF P F_blob_New #[(Value.int .i64 quota)] [.ptr] false w_1 fun (t15 : (Option Addr)) w_2 =>
    iteP (Option.isNone t15) (
    R (.returned (Value.bool false)) w_2) (
    joinP Unit (fun k =>
    loopP Int (fun s w_3 k_1 =>
    joinP Unit (fun k_2 =>
    iteP (decide (s < (list_l : Int))) (
    iteP (decide (s < 60)) (
    k_2 () w_3) (
    k () w_3)) (
    k () w_3)) (fun _ w_4 =>
    joinP Unit (fun k_3 =>
    joinP Unit (fun k_4 =>
    callF P F_blob_Store_Bytes #[(Value.pointer t15)] [.int .i64] false w_4 fun (t29 : Int) w_5 =>
    ixS list list_l 1 s fun t33 =>
    ld .slc t33 w_5 fun (t34 : (Option Addr × Nat × Nat)) =>
    callF P F_r01_Sum #[(Value.slice t34.1 t34.2.1 t34.2.2)] [.any] false w_5 fun (t35 : Value) w_6 =>
    callF P F_blob_Store_Has #[(Value.pointer t15), t35] [.bool] false w_6 fun (t36 : Bool) w_7 =>
    ixS list list_l 1 s fun t41 =>
    ld .slc t41 w_7 fun (t42 : (Option Addr × Nat × Nat)) =>
    callF P F_blob_Store_Put #[(Value.pointer t15), (Value.slice t42.1 t42.2.1 t42.2.2)] [.any, .int .i64] true w_7 fun (t43 : (Value × Int)) w_8 =>
    newB (zc P y_api_Digest) y_api_Digest w_8 fun b9 w_9 =>
    genU P (storeVar y_api_Digest (⟨b9, 0, none⟩ : Addr) t43.1) w_9 fun w_10 =>
    callF P F_blob_Store_Bytes #[(Value.pointer t15)] [.int .i64] false w_10 fun (t47 : Int) w_11 =>
    genQ P (Builtin.max_ #[y_int, y_int] y_int #[(Value.int .i64 quota), (Value.int .i64 0)]) (.int .i64) w_11 fun (t49 : Int) =>
    iteP (decide (t47 > t49)) (
    R (.returned (Value.bool false)) w_11) (
    ixS list list_l 1 s fun t53 =>
    ld .slc t53 w_11 fun (t54 : (Option Addr × Nat × Nat)) =>
    iteP (decide ((t54.2.1 : Int) > 4096)) (
    joinP Unit (fun k_5 =>
    iteP (t43.2 != 2) (
    R (.returned (Value.bool false)) w_11) (
    callF P F_blob_Store_Bytes #[(Value.pointer t15)] [.int .i64] false w_11 fun (t61 : Int) w_12 =>
    iteP (t61 != t29) (
    R (.returned (Value.bool false)) w_12) (
    k_5 () w_12))) (fun _ w_13 =>
    k_4 () w_13)) (
    joinP Bool (fun k_6 =>
    iteP t36 (
    k_6 true w_11) (
    ixS list list_l 1 s fun t69 =>
    ld .slc t69 w_11 fun (t70 : (Option Addr × Nat × Nat)) =>
    genQ P (Builtin.max_ #[y_int, y_int] y_int #[(Value.int .i64 quota), (Value.int .i64 0)]) (.int .i64) w_11 fun (t73 : Int) =>
    subI .i64 t73 t29 fun t75 =>
    k_6 (decide ((t70.2.1 : Int) ≤ t75)) w_11)) (fun s_3 w_14 =>
    joinP Unit (fun k_7 =>
    genQ P (eqM .neq y_bool (.tmp 78) (.tmp 80) (Value.bool s_3) (Value.bool (t43.2 == 0))) .bool w_14 fun (t81 : Bool) =>
    iteP t81 (
    R (.returned (Value.bool false)) w_14) (
    iteP (!s_3) (
    iteP (t43.2 != 3) (
    R (.returned (Value.bool false)) w_14) (
    callF P F_blob_Store_Bytes #[(Value.pointer t15)] [.int .i64] false w_14 fun (t90 : Int) w_15 =>
    iteP (t90 != t29) (
    R (.returned (Value.bool false)) w_15) (
    k_7 () w_15))) (
    k_7 () w_14))) (fun _ w_16 =>
    iteP s_3 (
    iteP (!t36) (
    joinP Unit (fun k_8 =>
    drewP w_16 fun w_17 =>
    ixS list list_l 1 s fun t106 =>
    ld .slc t106 w_17 fun (t107 : (Option Addr × Nat × Nat)) =>
    addI .i64 t29 (t107.2.1 : Int) fun t109 =>
    callF P F_blob_Store_Bytes #[(Value.pointer t15)] [.int .i64] false w_17 fun (t102 : Int) w_18 =>
    ((ld .slc t106 w_18 fun (t107_1 : (Option Addr × Nat × Nat)) =>
    (Value.slice t107_1.1 t107_1.2.1 t107_1.2.2) = (Value.slice t107.1 t107.2.1 t107.2.2)) ∧
    iteP (t102 != t109) (
    R (.returned (Value.bool false)) w_18) (
    ldA P 32 (⟨b9, 0, none⟩ : Addr) w_18 fun t113 =>
    callF P F_blob_Store_Drop #[(Value.pointer t15), (Value.agg t113)] [.int .i64] false w_18 fun (t114 : Int) w_19 =>
    iteP (t114 != 0) (
    R (.returned (Value.bool false)) w_19) (
    callF P F_blob_Store_Bytes #[(Value.pointer t15)] [.int .i64] false w_19 fun (t119 : Int) w_20 =>
    iteP (t119 != t29) (
    R (.returned (Value.bool false)) w_20) (
    ldA P 32 (⟨b9, 0, none⟩ : Addr) w_20 fun t125 =>
    callF P F_blob_Store_Has #[(Value.pointer t15), (Value.agg t125)] [.bool] false w_20 fun (t126 : Bool) w_21 =>
    iteP t126 (
    R (.returned (Value.bool false)) w_21) (
    k_8 () w_21)))))) (fun _ w_22 =>
    ixS list list_l 1 s fun t131 =>
    ld .slc t131 w_22 fun (t132 : (Option Addr × Nat × Nat)) =>
    callF P F_blob_Store_Put #[(Value.pointer t15), (Value.slice t132.1 t132.2.1 t132.2.2)] [.any, .int .i64] true w_22 fun (_ : (Value × Int)) w_23 =>
    k_4 () w_23)) (
    k_4 () w_16)) (
    k_4 () w_16)))))) (fun _ w_24 =>
    k_3 () w_24)) (fun _ w_25 =>
    addI .i64 s 1 fun t27 =>
    k_1 t27 w_25))) 0 w_2) (fun _ w_26 =>
    R (.returned (Value.bool true)) w_26)))
theorem eq_l05_BlobRoom (quota : Int) (list : Option Addr) (list_l list_c : Nat) (R : Ending → World → Prop) (w : World) : tr P qs ((Tryd.f4.body).getD .skip) ann_l05_BlobRoom (env0 0 [(0, (Value.int .i64 quota)), (0, (Value.slice list list_l list_c))]) (topK P Tryd.f4.results.toList R) w = T_l05_BlobRoom quota list list_l list_c R w := by kernel_rfl
/-- veneer/veneerlaw05.BlobRoom -/
theorem fn_l05_BlobRoom {quota : Int} {list : Option Addr} {list_l list_c : Nat} {R : Ending → World → Prop} {w : World} (hT : T_l05_BlobRoom quota list list_l list_c R w) : CallF P F_l05_BlobRoom #[(Value.int .i64 quota), (Value.slice list list_l list_c)] w R :=
  fn_of_tr (fn := Tryd.f4) (c := (Tryd.f4.body).getD .skip) (ann := ann_l05_BlobRoom) (args := [(0, (Value.int .i64 quota)), (0, (Value.slice list list_l list_c))]) (qs := qs) mixed Tryd.func4 rfl (by kernel_rfl) (by kernel_rfl) ok_l05_BlobRoom ((eq_l05_BlobRoom quota list list_l list_c R w).symm ▸ hT)
def ann_l05_awake : Ann := (.seq .leaf (.seq .leaf (.seq (.seq .leaf (.cond (.seq .leaf .leaf) .leaf)) (.seq .leaf (.seq .leaf (.seq .leaf (.seq .leaf .leaf)))))))
theorem ok_l05_awake : okC P qs Tryd.f7.ntmps ((Tryd.f7.body).getD .skip) ann_l05_awake = true := by kernel_rfl
def T_l05_awake  (R : Ending → World → Prop) (w : World) : Prop :=
    callF P F_blob_New #[(Value.int .i64 3)] [.ptr] false w fun (t8 : (Option Addr)) w_1 =>
    iteP (Option.isNone t8) (
    R (.returned (Value.bool false)) w_1) (
    genL P (Instr.buildSlice y_S_uint8 2 #[(0, (Value.int .u8 97)), (1, (Value.int .u8 98))]) .slc w_1 fun (t13 : (Option Addr × Nat × Nat)) w_2 =>
    genL P (convert y_S_uint8 y_S_uint8 (Value.slice t13.1 t13.2.1 t13.2.2)) .slc w_2 fun (t14 : (Option Addr × Nat × Nat)) w_3 =>
    callF P F_blob_Store_Put #[(Value.pointer t8), (Value.slice t14.1 t14.2.1 t14.2.2)] [.any, .int .i64] true w_3 fun (t15 : (Value × Int)) w_4 =>
    newB (zc P y_api_Digest) y_api_Digest w_4 fun b2 w_5 =>
    genU P (storeVar y_api_Digest (⟨b2, 0, none⟩ : Addr) t15.1) w_5 fun w_6 =>
    genL P (Instr.buildSlice y_S_uint8 2 #[(0, (Value.int .u8 99)), (1, (Value.int .u8 100))]) .slc w_6 fun (t20 : (Option Addr × Nat × Nat)) w_7 =>
    genL P (convert y_S_uint8 y_S_uint8 (Value.slice t20.1 t20.2.1 t20.2.2)) .slc w_7 fun (t21 : (Option Addr × Nat × Nat)) w_8 =>
    callF P F_blob_Store_Put #[(Value.pointer t8), (Value.slice t21.1 t21.2.1 t21.2.2)] [.any, .int .i64] true w_8 fun (t22 : (Value × Int)) w_9 =>
    newB (zc P y_api_Digest) y_api_Digest w_9 fun b4 w_10 =>
    genU P (storeVar y_api_Digest (⟨b4, 0, none⟩ : Addr) t22.1) w_10 fun w_11 =>
    ldA P 32 (⟨b2, 0, none⟩ : Addr) w_11 fun t27 =>
    callF P F_blob_Store_Get #[(Value.pointer t8), (Value.agg t27)] [.slc, .int .i64] true w_11 fun (t28 : ((Option Addr × Nat × Nat) × Int)) w_12 =>
    iteP (t15.2 == 0) (
    iteP (t22.2 == 3) (
    iteP (t28.2 == 0) (
    genQ P (convert y_S_uint8 y_string (Value.slice t28.1.1 t28.1.2.1 t28.1.2.2)) .str w_12 fun (t43 : ByteArray) =>
    iteP (t43.toList == (ByteArray.mk #[97, 98]).toList) (
    callF P F_blob_Store_Bytes #[(Value.pointer t8)] [.int .i64] false w_12 fun (t48 : Int) w_13 =>
    iteP (t48 == 2) (
    callF P F_blob_Store_Count #[(Value.pointer t8)] [.int .i64] false w_13 fun (t53 : Int) w_14 =>
    R (.returned (Value.bool (t53 == 1))) w_14) (
    R (.returned (Value.bool false)) w_13)) (
    R (.returned (Value.bool false)) w_12)) (
    R (.returned (Value.bool false)) w_12)) (
    R (.returned (Value.bool false)) w_12)) (
    R (.returned (Value.bool false)) w_12))
theorem eq_l05_awake  (R : Ending → World → Prop) (w : World) : tr P qs ((Tryd.f7.body).getD .skip) ann_l05_awake (env0 0 []) (topK P Tryd.f7.results.toList R) w = T_l05_awake  R w := by kernel_rfl
/-- veneer/veneerlaw05.awake -/
theorem fn_l05_awake  {R : Ending → World → Prop} {w : World} (hT : T_l05_awake  R w) : CallF P F_l05_awake #[] w R :=
  fn_of_tr (fn := Tryd.f7) (c := (Tryd.f7.body).getD .skip) (ann := ann_l05_awake) (args := []) (qs := qs) mixed Tryd.func7 rfl (by kernel_rfl) (by kernel_rfl) ok_l05_awake ((eq_l05_awake  R w).symm ▸ hT)
def ann_blob_New : Ann := (.seq .leaf (.seq .leaf .leaf))
theorem ok_blob_New : okC P qs Tryd.f8.ntmps ((Tryd.f8.body).getD .skip) ann_blob_New = true := by kernel_rfl
def T_blob_New (quota : Int) (R : Ending → World → Prop) (w : World) : Prop :=
    genQ P (Builtin.max_ #[y_int, y_int] y_int #[(Value.int .i64 quota), (Value.int .i64 0)]) (.int .i64) w fun (t4 : Int) =>
    genL P (Instr.makeMap y_M_api_Digest_S_uint8 none) .map w fun (t5 : (Option Nat)) w_1 =>
    genQ P (Instr.build y_blob_Store #[(0, (Value.int .i64 t4)), (2, (Value.map t5))]) .any w_1 fun (t6 : Value) =>
    newB (Value.cells t6) y_blob_Store w_1 fun b7 w_2 =>
    R (.returned (Value.pointer (some (⟨b7, 0, none⟩ : Addr)))) w_2
theorem eq_blob_New (quota : Int) (R : Ending → World → Prop) (w : World) : tr P qs ((Tryd.f8.body).getD .skip) ann_blob_New (env0 0 [(0, (Value.int .i64 quota))]) (topK P Tryd.f8.results.toList R) w = T_blob_New quota R w := by kernel_rfl
/-- veneer/blob.New -/
theorem fn_blob_New {quota : Int} {R : Ending → World → Prop} {w : World} (hT : T_blob_New quota R w) : CallF P F_blob_New #[(Value.int .i64 quota)] w R :=
  fn_of_tr (fn := Tryd.f8) (c := (Tryd.f8.body).getD .skip) (ann := ann_blob_New) (args := [(0, (Value.int .i64 quota))]) (qs := qs) mixed Tryd.func8 rfl (by kernel_rfl) (by kernel_rfl) ok_blob_New ((eq_blob_New quota R w).symm ▸ hT)
def ann_blob_Store_Put : Ann := (.seq .leaf (.seq (.seq .leaf (.seq .leaf (.cond (.seq .leaf .leaf) .leaf))) (.seq .leaf .leaf)))
theorem ok_blob_Store_Put : okC P qs Tryd.f9.ntmps ((Tryd.f9.body).getD .skip) ann_blob_Store_Put = true := by kernel_rfl
def T_blob_Store_Put (s : Option Addr) (b : Option Addr) (b_l b_c : Nat) (R : Ending → World → Prop) (w : World) : Prop :=
    newB (zc P y_api_Digest) y_api_Digest w fun b4 w_1 =>
    genL P (Instr.buildSlice y_S_S_uint8 1 #[(0, (Value.slice b b_l b_c))]) .slc w_1 fun (t9 : (Option Addr × Nat × Nat)) w_2 =>
    callF P F_blob_Store_PutAll #[(Value.pointer s), (Value.slice t9.1 t9.2.1 t9.2.2)] [.int .i64] false w_2 fun (t10 : Int) w_3 =>
    iteP (t10 != 0) (
    genQ P (Instr.build y_api_Digest #[]) .any w_3 fun (t13 : Value) =>
    genU P (storeVar y_api_Digest (⟨b4, 0, none⟩ : Addr) t13) w_3 fun w_4 =>
    ldA P 32 (⟨b4, 0, none⟩ : Addr) w_4 fun t4 =>
    R (.returned (Value.tuple #[(Value.agg t4), (Value.int .i64 t10)])) w_4) (
    callF P F_sha_Sum #[(Value.slice b b_l b_c)] [.any] false w_3 fun (t16 : Value) w_5 =>
    genU P (storeVar y_api_Digest (⟨b4, 0, none⟩ : Addr) t16) w_5 fun w_6 =>
    ldA P 32 (⟨b4, 0, none⟩ : Addr) w_6 fun t4_1 =>
    R (.returned (Value.tuple #[(Value.agg t4_1), (Value.int .i64 0)])) w_6)
theorem eq_blob_Store_Put (s : Option Addr) (b : Option Addr) (b_l b_c : Nat) (R : Ending → World → Prop) (w : World) : tr P qs ((Tryd.f9.body).getD .skip) ann_blob_Store_Put (env0 0 [(0, (Value.pointer s)), (0, (Value.slice b b_l b_c))]) (topK P Tryd.f9.results.toList R) w = T_blob_Store_Put s b b_l b_c R w := by kernel_rfl
/-- (*veneer/blob.Store).Put -/
theorem fn_blob_Store_Put {s : Option Addr} {b : Option Addr} {b_l b_c : Nat} {R : Ending → World → Prop} {w : World} (hT : T_blob_Store_Put s b b_l b_c R w) : CallF P F_blob_Store_Put #[(Value.pointer s), (Value.slice b b_l b_c)] w R :=
  fn_of_tr (fn := Tryd.f9) (c := (Tryd.f9.body).getD .skip) (ann := ann_blob_Store_Put) (args := [(0, (Value.pointer s)), (0, (Value.slice b b_l b_c))]) (qs := qs) mixed Tryd.func9 rfl (by kernel_rfl) (by kernel_rfl) ok_blob_Store_Put ((eq_blob_Store_Put s b b_l b_c R w).symm ▸ hT)
def ann_blob_Store_Count : Ann := (.seq .leaf (.seq (.seq .leaf (.cond (.seq .leaf .leaf) .leaf)) (.seq .leaf .leaf)))
theorem ok_blob_Store_Count : okC P qs Tryd.f10.ntmps ((Tryd.f10.body).getD .skip) ann_blob_Store_Count = true := by kernel_rfl
def T_blob_Store_Count (s : Option Addr) (R : Ending → World → Prop) (w : World) : Prop :=
    iteP (Option.isNone s) (
    R (.returned (Value.int .i64 0)) w) (
    withAddr s fun p =>
    ld .map (Addr.add p 2) w fun (t8 : (Option Nat)) =>
    genQ P (Builtin.len_ #[y_M_api_Digest_S_uint8] y_int #[(Value.map t8)]) (.int .i64) w fun (t9 : Int) =>
    R (.returned (Value.int .i64 t9)) w)
theorem eq_blob_Store_Count (s : Option Addr) (R : Ending → World → Prop) (w : World) : tr P qs ((Tryd.f10.body).getD .skip) ann_blob_Store_Count (env0 0 [(0, (Value.pointer s))]) (topK P Tryd.f10.results.toList R) w = T_blob_Store_Count s R w := by kernel_rfl
/-- (*veneer/blob.Store).Count -/
theorem fn_blob_Store_Count {s : Option Addr} {R : Ending → World → Prop} {w : World} (hT : T_blob_Store_Count s R w) : CallF P F_blob_Store_Count #[(Value.pointer s)] w R :=
  fn_of_tr (fn := Tryd.f10) (c := (Tryd.f10.body).getD .skip) (ann := ann_blob_Store_Count) (args := [(0, (Value.pointer s))]) (qs := qs) mixed Tryd.func10 rfl (by kernel_rfl) (by kernel_rfl) ok_blob_Store_Count ((eq_blob_Store_Count s R w).symm ▸ hT)
def ann_blob_Store_Get : Ann := (.seq .leaf (.seq (.seq .leaf (.cond (.seq .leaf .leaf) .leaf)) (.seq (.tree (.op 0 [] (.op 1 [] (.op 2 [] (.op 3 [] (.op 4 [] (.op 5 [] (.op 6 [] (.op 7 [] (.op 8 [] (.op 9 [] (.op 10 [] .done)))))))))))) (.seq (.seq .leaf (.cond (.seq .leaf .leaf) .leaf)) (.seq (.seq (.tree (.op 0 [] (.op 2 [] (.op 1 [2] (.op 3 [] .done))))) (.cond (.seq .leaf .leaf) .leaf)) (.seq .leaf .leaf))))))
theorem ok_blob_Store_Get : okC P qs Tryd.f11.ntmps ((Tryd.f11.body).getD .skip) ann_blob_Store_Get = true := by kernel_rfl
def T_blob_Store_Get (s : Option Addr) (d : Value) (R : Ending → World → Prop) (w : World) : Prop :=
    newB (Value.cells d) y_api_Digest w fun b3 w_1 =>
    iteP (Option.isNone s) (
    R (.returned (Value.tuple #[(Value.slice none 0 0), (Value.int .i64 7)])) w_1) (
    drewP w_1 fun w_2 =>
    withAddr s fun p =>
    ld .map (Addr.add p 2) w_2 fun (t14 : (Option Nat)) =>
    ldA P 32 (⟨b3, 0, none⟩ : Addr) w_2 fun t15 =>
    genT P (Instr.lookup y_M_api_Digest_S_uint8 (Value.map t14) (Value.agg t15) true) [.slc, .bool] w_2 fun (t16 : ((Option Addr × Nat × Nat) × Bool)) =>
    iteP (!t16.2) (
    R (.returned (Value.tuple #[(Value.slice none 0 0), (Value.int .i64 50)])) w_2) (
    drewP w_2 fun w_3 =>
    ldA P 32 (⟨b3, 0, none⟩ : Addr) w_3 fun t23 =>
    callF P F_sha_Sum #[(Value.slice t16.1.1 t16.1.2.1 t16.1.2.2)] [.any] false w_3 fun (t22 : Value) w_4 =>
    ((ldA P 32 (⟨b3, 0, none⟩ : Addr) w_4 fun t23_1 =>
    (Value.agg t23_1) = (Value.agg t23)) ∧
    genQ P (eqM .neq y_api_Digest (.tmp 22) (.tmp 23) t22 (Value.agg t23)) .bool w_4 fun (t24 : Bool) =>
    iteP t24 (
    R (.returned (Value.tuple #[(Value.slice none 0 0), (Value.int .i64 51)])) w_4) (
    callF P F_slices_Clone_S_byte_byte #[(Value.slice t16.1.1 t16.1.2.1 t16.1.2.2)] [.slc] false w_4 fun (t26 : (Option Addr × Nat × Nat)) w_5 =>
    R (.returned (Value.tuple #[(Value.slice t26.1 t26.2.1 t26.2.2), (Value.int .i64 0)])) w_5))))
theorem eq_blob_Store_Get (s : Option Addr) (d : Value) (R : Ending → World → Prop) (w : World) : tr P qs ((Tryd.f11.body).getD .skip) ann_blob_Store_Get (env0 0 [(0, (Value.pointer s)), (1, d)]) (topK P Tryd.f11.results.toList R) w = T_blob_Store_Get s d R w := by kernel_rfl
/-- (*veneer/blob.Store).Get -/
theorem fn_blob_Store_Get {s : Option Addr} {d : Value} {R : Ending → World → Prop} {w : World} (hT : T_blob_Store_Get s d R w) : CallF P F_blob_Store_Get #[(Value.pointer s), d] w R :=
  fn_of_tr (fn := Tryd.f11) (c := (Tryd.f11.body).getD .skip) (ann := ann_blob_Store_Get) (args := [(0, (Value.pointer s)), (1, d)]) (qs := qs) mixed Tryd.func11 rfl (by kernel_rfl) (by kernel_rfl) ok_blob_Store_Get ((eq_blob_Store_Get s d R w).symm ▸ hT)
def ann_blob_Store_Spoil : Ann := (.seq .leaf (.seq (.seq .leaf (.cond (.seq .leaf .leaf) .leaf)) (.seq (.tree (.op 0 [] (.op 1 [] (.op 2 [] (.op 3 [] (.op 4 [] (.op 5 [] (.op 6 [] (.op 7 [] (.op 8 [] (.op 9 [] (.op 10 [] .done)))))))))))) (.seq (.seq .leaf (.cond (.seq .leaf .leaf) .leaf)) (.join [] (.seq .leaf (.cond (.seq .leaf .leaf) .leaf)) (.seq .leaf (.seq .leaf .leaf)))))))
theorem ok_blob_Store_Spoil : okC P qs Tryd.f13.ntmps ((Tryd.f13.body).getD .skip) ann_blob_Store_Spoil = true := by kernel_rfl
def T_blob_Store_Spoil (s : Option Addr) (d : Value) (atv : Int) (turn : Int) (R : Ending → World → Prop) (w : World) : Prop :=
    newB (Value.cells d) y_api_Digest w fun b5 w_1 =>
    iteP (Option.isNone s) (
    R (.returned (Value.int .i64 7)) w_1) (
    drewP w_1 fun w_2 =>
    withAddr s fun p =>
    ld .map (Addr.add p 2) w_2 fun (t17 : (Option Nat)) =>
    ldA P 32 (⟨b5, 0, none⟩ : Addr) w_2 fun t18 =>
    genT P (Instr.lookup y_M_api_Digest_S_uint8 (Value.map t17) (Value.agg t18) true) [.slc, .bool] w_2 fun (t19 : ((Option Addr × Nat × Nat) × Bool)) =>
    iteP (!t19.2) (
    R (.returned (Value.int .i64 50)) w_2) (
    joinP Unit (fun k =>
    iteP (decide (atv < 0)) (
    R (.returned (Value.int .i64 1)) w_2) (
    iteP (decide (atv ≥ (t19.1.2.1 : Int))) (
    R (.returned (Value.int .i64 1)) w_2) (
    iteP (turn == 0) (
    R (.returned (Value.int .i64 1)) w_2) (
    k () w_2)))) (fun _ w_3 =>
    ixS t19.1.1 t19.1.2.1 1 atv fun t38 =>
    ld (.int .u8) t38 w_3 fun (t39 : Int) =>
    xorI .u8 t39 turn fun t41 =>
    ixS t19.1.1 t19.1.2.1 1 atv fun t42 =>
    stC t42 (Value.int .u8 t41) w_3 fun w_4 =>
    R (.returned (Value.int .i64 0)) w_4)))
theorem eq_blob_Store_Spoil (s : Option Addr) (d : Value) (atv : Int) (turn : Int) (R : Ending → World → Prop) (w : World) : tr P qs ((Tryd.f13.body).getD .skip) ann_blob_Store_Spoil (env0 0 [(0, (Value.pointer s)), (1, d), (0, (Value.int .i64 atv)), (0, (Value.int .u8 turn))]) (topK P Tryd.f13.results.toList R) w = T_blob_Store_Spoil s d atv turn R w := by kernel_rfl
/-- (*veneer/blob.Store).Spoil -/
theorem fn_blob_Store_Spoil {s : Option Addr} {d : Value} {atv : Int} {turn : Int} {R : Ending → World → Prop} {w : World} (hT : T_blob_Store_Spoil s d atv turn R w) : CallF P F_blob_Store_Spoil #[(Value.pointer s), d, (Value.int .i64 atv), (Value.int .u8 turn)] w R :=
  fn_of_tr (fn := Tryd.f13) (c := (Tryd.f13.body).getD .skip) (ann := ann_blob_Store_Spoil) (args := [(0, (Value.pointer s)), (1, d), (0, (Value.int .i64 atv)), (0, (Value.int .u8 turn))]) (qs := qs) mixed Tryd.func13 rfl (by kernel_rfl) (by kernel_rfl) ok_blob_Store_Spoil ((eq_blob_Store_Spoil s d atv turn R w).symm ▸ hT)
def ann_blob_Store_Bytes : Ann := (.seq .leaf (.seq (.seq .leaf (.cond (.seq .leaf .leaf) .leaf)) (.seq .leaf .leaf)))
theorem ok_blob_Store_Bytes : okC P qs Tryd.f14.ntmps ((Tryd.f14.body).getD .skip) ann_blob_Store_Bytes = true := by kernel_rfl
def T_blob_Store_Bytes (s : Option Addr) (R : Ending → World → Prop) (w : World) : Prop :=
    iteP (Option.isNone s) (
    R (.returned (Value.int .i64 0)) w) (
    withAddr s fun p =>
    ld (.int .i64) (Addr.add p 1) w fun (t8 : Int) =>
    R (.returned (Value.int .i64 t8)) w)
theorem eq_blob_Store_Bytes (s : Option Addr) (R : Ending → World → Prop) (w : World) : tr P qs ((Tryd.f14.body).getD .skip) ann_blob_Store_Bytes (env0 0 [(0, (Value.pointer s))]) (topK P Tryd.f14.results.toList R) w = T_blob_Store_Bytes s R w := by kernel_rfl
/-- (*veneer/blob.Store).Bytes -/
theorem fn_blob_Store_Bytes {s : Option Addr} {R : Ending → World → Prop} {w : World} (hT : T_blob_Store_Bytes s R w) : CallF P F_blob_Store_Bytes #[(Value.pointer s)] w R :=
  fn_of_tr (fn := Tryd.f14) (c := (Tryd.f14.body).getD .skip) (ann := ann_blob_Store_Bytes) (args := [(0, (Value.pointer s))]) (qs := qs) mixed Tryd.func14 rfl (by kernel_rfl) (by kernel_rfl) ok_blob_Store_Bytes ((eq_blob_Store_Bytes s R w).symm ▸ hT)
def ann_blob_Store_Has : Ann := (.seq .leaf (.seq (.seq .leaf (.cond (.seq .leaf .leaf) .leaf)) (.seq (.tree (.op 0 [] (.op 1 [] (.op 2 [] (.op 3 [] (.op 4 [] (.op 5 [] (.op 6 [] (.op 7 [] (.op 8 [] (.op 9 [] (.op 10 [] .done)))))))))))) (.seq .leaf .leaf))))
theorem ok_blob_Store_Has : okC P qs Tryd.f15.ntmps ((Tryd.f15.body).getD .skip) ann_blob_Store_Has = true := by kernel_rfl
def T_blob_Store_Has (s : Option Addr) (d : Value) (R : Ending → World → Prop) (w : World) : Prop :=
    newB (Value.cells d) y_api_Digest w fun b3 w_1 =>
    iteP (Option.isNone s) (
    R (.returned (Value.bool false)) w_1) (
    drewP w_1 fun w_2 =>
    withAddr s fun p =>
    ld .map (Addr.add p 2) w_2 fun (t13 : (Option Nat)) =>
    ldA P 32 (⟨b3, 0, none⟩ : Addr) w_2 fun t14 =>
    genT P (Instr.lookup y_M_api_Digest_S_uint8 (Value.map t13) (Value.agg t14) true) [.slc, .bool] w_2 fun (t15 : ((Option Addr × Nat × Nat) × Bool)) =>
    R (.returned (Value.bool t15.2)) w_2)
theorem eq_blob_Store_Has (s : Option Addr) (d : Value) (R : Ending → World → Prop) (w : World) : tr P qs ((Tryd.f15.body).getD .skip) ann_blob_Store_Has (env0 0 [(0, (Value.pointer s)), (1, d)]) (topK P Tryd.f15.results.toList R) w = T_blob_Store_Has s d R w := by kernel_rfl
/-- (*veneer/blob.Store).Has -/
theorem fn_blob_Store_Has {s : Option Addr} {d : Value} {R : Ending → World → Prop} {w : World} (hT : T_blob_Store_Has s d R w) : CallF P F_blob_Store_Has #[(Value.pointer s), d] w R :=
  fn_of_tr (fn := Tryd.f15) (c := (Tryd.f15.body).getD .skip) (ann := ann_blob_Store_Has) (args := [(0, (Value.pointer s)), (1, d)]) (qs := qs) mixed Tryd.func15 rfl (by kernel_rfl) (by kernel_rfl) ok_blob_Store_Has ((eq_blob_Store_Has s d R w).symm ▸ hT)
def ann_blob_Store_Drop : Ann := (.seq .leaf (.seq (.seq .leaf (.cond (.seq .leaf .leaf) .leaf)) (.seq (.tree (.op 0 [] (.op 1 [] (.op 2 [] (.op 3 [] (.op 4 [] (.op 5 [] (.op 6 [] (.op 7 [] (.op 8 [] (.op 9 [] (.op 10 [] .done)))))))))))) (.seq (.seq .leaf (.cond (.seq .leaf .leaf) .leaf)) (.seq .leaf (.seq (.tree (.op 0 [] (.op 1 [] (.op 2 [] (.op 3 [] (.op 4 [] (.op 5 [] .done))))))) (.seq .leaf .leaf)))))))
theorem ok_blob_Store_Drop : okC P qs Tryd.f16.ntmps ((Tryd.f16.body).getD .skip) ann_blob_Store_Drop = true := by kernel_rfl
def T_blob_Store_Drop (s : Option Addr) (d : Value) (R : Ending → World → Prop) (w : World) : Prop :=
    newB (Value.cells d) y_api_Digest w fun b3 w_1 =>
    iteP (Option.isNone s) (
    R (.returned (Value.int .i64 7)) w_1) (
    drewP w_1 fun w_2 =>
    withAddr s fun p =>
    ld .map (Addr.add p 2) w_2 fun (t13 : (Option Nat)) =>
    ldA P 32 (⟨b3, 0, none⟩ : Addr) w_2 fun t14 =>
    genT P (Instr.lookup y_M_api_Digest_S_uint8 (Value.map t13) (Value.agg t14) true) [.slc, .bool] w_2 fun (t15 : ((Option Addr × Nat × Nat) × Bool)) =>
    iteP (!t15.2) (
    R (.returned (Value.int .i64 50)) w_2) (
    withAddr s fun p_1 =>
    ld (.int .i64) (Addr.add p_1 1) w_2 fun (t23 : Int) =>
    subI .i64 t23 (t15.1.2.1 : Int) fun t26 =>
    withAddr s fun p_2 =>
    stC (Addr.add p_2 1) (Value.int .i64 t26) w_2 fun w_3 =>
    drewP w_3 fun w_4 =>
    withAddr s fun p_3 =>
    ld .map (Addr.add p_3 2) w_4 fun (t32 : (Option Nat)) =>
    ldA P 32 (⟨b3, 0, none⟩ : Addr) w_4 fun t33 =>
    genL P (Builtin.delete_ #[y_M_api_Digest_S_uint8, y_api_Digest] y_tuple_bcd8b0 #[(Value.map t32), (Value.agg t33)]) .any w_4 fun (_ : Value) w_5 =>
    R (.returned (Value.int .i64 0)) w_5))
theorem eq_blob_Store_Drop (s : Option Addr) (d : Value) (R : Ending → World → Prop) (w : World) : tr P qs ((Tryd.f16.body).getD .skip) ann_blob_Store_Drop (env0 0 [(0, (Value.pointer s)), (1, d)]) (topK P Tryd.f16.results.toList R) w = T_blob_Store_Drop s d R w := by kernel_rfl
/-- (*veneer/blob.Store).Drop -/
theorem fn_blob_Store_Drop {s : Option Addr} {d : Value} {R : Ending → World → Prop} {w : World} (hT : T_blob_Store_Drop s d R w) : CallF P F_blob_Store_Drop #[(Value.pointer s), d] w R :=
  fn_of_tr (fn := Tryd.f16) (c := (Tryd.f16.body).getD .skip) (ann := ann_blob_Store_Drop) (args := [(0, (Value.pointer s)), (1, d)]) (qs := qs) mixed Tryd.func16 rfl (by kernel_rfl) (by kernel_rfl) ok_blob_Store_Drop ((eq_blob_Store_Drop s d R w).symm ▸ hT)
def ann_blob_Store_PutAll : Ann := (.seq .leaf (.seq (.seq .leaf (.cond (.seq .leaf .leaf) .leaf)) (.seq .leaf (.seq .leaf (.seq (.seq .leaf (.blk (.loop [(6, .int .i64), (23, .int .i64)] (.seq .leaf (.seq (.cond .leaf .leaf) (.seq (.jblk [(6, .int .i64)] (.seq .leaf (.seq (.seq .leaf (.cond (.seq .leaf .leaf) .leaf)) (.seq .leaf (.seq (.seq .leaf (.seq .leaf (.cond .leaf .leaf))) (.seq (.tree (.op 0 [] (.op 2 [] (.op 1 [] (.op 3 [1] (.op 4 [] .done)))))) (.seq (.tree (.op 0 [] (.op 1 [] (.op 2 [] (.op 3 [] (.op 4 [] (.op 5 [] (.op 6 [] (.op 7 [] (.op 8 [] (.op 9 [] (.op 10 [] .done)))))))))))) (.seq .leaf (.cond .leaf .leaf))))))))) .leaf)))))) (.seq (.seq (.tree (.op 0 [] (.op 1 [] (.op 2 [] (.op 3 [] (.op 5 [] (.op 6 [] (.op 7 [] (.op 4 [] (.op 8 [] (.op 9 [] (.op 10 [] .done)))))))))))) (.cond (.seq .leaf .leaf) .leaf)) (.seq (.seq .leaf (.blk (.loop [] (.seq .leaf (.seq (.cond .leaf .leaf) (.jblk [] (.seq .leaf (.seq (.tree (.op 0 [] (.op 1 [] (.op 2 [] (.op 3 [] (.op 4 [] (.op 5 [] (.op 6 [] (.op 7 [] (.op 8 [] (.op 9 [] (.op 10 [] .done)))))))))))) (.join [] (.seq (.tree (.op 0 [] (.op 1 [] (.op 2 [] (.op 4 [] (.op 3 [4] (.op 5 [] (.op 6 [] .done)))))))) (.cond .leaf .leaf)) (.seq .leaf (.tree (.op 0 [] (.op 1 [] (.op 2 [] (.op 5 [] (.op 3 [] (.op 4 [] (.op 6 [] .done)))))))))))))))))) (.seq .leaf .leaf))))))))
theorem ok_blob_Store_PutAll : okC P qs Tryd.f25.ntmps ((Tryd.f25.body).getD .skip) ann_blob_Store_PutAll = true := by kernel_rfl
def T_blob_Store_PutAll (s : Option Addr) (list : Option Addr) (list_l list_c : Nat) (R : Ending → World → Prop) (w : World) : Prop :=
    iteP (Option.isNone s) (
    R (.returned (Value.int .i64 7)) w) (
    genL P (Instr.makeMap y_M_api_Digest_S_uint8 none) .map w fun (t20 : (Option Nat)) w_1 =>
    loopP (Int × Int) (fun s_1 w_2 k =>
    iteP (decide (s_1.2 < (list_l : Int))) (
    joinP Int (fun k_1 =>
    ixS list list_l 1 s_1.2 fun t25 =>
    ld .slc t25 w_2 fun (t26 : (Option Addr × Nat × Nat)) =>
    iteP (decide ((t26.2.1 : Int) > 4096)) (
    R (.returned (Value.int .i64 2)) w_2) (
    callF P F_sha_Sum #[(Value.slice t26.1 t26.2.1 t26.2.2)] [.any] false w_2 fun (t31 : Value) w_3 =>
    newB (zc P y_api_Digest) y_api_Digest w_3 fun b9 w_4 =>
    genU P (storeVar y_api_Digest (⟨b9, 0, none⟩ : Addr) t31) w_4 fun w_5 =>
    ldA P 32 (⟨b9, 0, none⟩ : Addr) w_5 fun t34 =>
    genT P (Instr.lookup y_M_api_Digest_S_uint8 (Value.map t20) (Value.agg t34) true) [.slc, .bool] w_5 fun (t35 : ((Option Addr × Nat × Nat) × Bool)) =>
    iteP t35.2 (
    k_1 s_1.1 w_5) (
    drewP w_5 fun w_6 =>
    ldA P 32 (⟨b9, 0, none⟩ : Addr) w_6 fun t40 =>
    callF P F_slices_Clone_S_byte_byte #[(Value.slice t26.1 t26.2.1 t26.2.2)] [.slc] false w_6 fun (t42 : (Option Addr × Nat × Nat)) w_7 =>
    ((ldA P 32 (⟨b9, 0, none⟩ : Addr) w_7 fun t40_1 =>
    (Value.agg t40_1) = (Value.agg t40)) ∧
    genU P (Instr.mapUpdate y_M_api_Digest_S_uint8 (Value.map t20) (Value.agg t40) (Value.slice t42.1 t42.2.1 t42.2.2)) w_7 fun w_8 =>
    drewP w_8 fun w_9 =>
    withAddr s fun p =>
    ld .map (Addr.add p 2) w_9 fun (t47 : (Option Nat)) =>
    ldA P 32 (⟨b9, 0, none⟩ : Addr) w_9 fun t48 =>
    genT P (Instr.lookup y_M_api_Digest_S_uint8 (Value.map t47) (Value.agg t48) true) [.slc, .bool] w_9 fun (t49 : ((Option Addr × Nat × Nat) × Bool)) =>
    iteP (!t49.2) (
    addI .i64 s_1.1 (t26.2.1 : Int) fun t57 =>
    k_1 t57 w_9) (
    k_1 s_1.1 w_9))))) (fun s_2 w_10 =>
    addI .i64 s_1.2 1 fun t58 =>
    k (s_2, t58) w_10)) (
    drewP w_2 fun w_11 =>
    withAddr s fun p_1 =>
    withAddr s fun p_2 =>
    ld (.int .i64) p_1 w_11 fun (t63 : Int) =>
    ld (.int .i64) (Addr.add p_2 1) w_11 fun (t67 : Int) =>
    subI .i64 t63 t67 fun t68 =>
    iteP (decide (s_1.1 > t68)) (
    R (.returned (Value.int .i64 3)) w_11) (
    genL P (Instr.range y_M_api_Digest_S_uint8 (Value.map t20)) .ptr w_11 fun (t71 : (Option Addr)) w_12 =>
    loopP Unit (fun _ w_13 k_2 =>
    genL P (Instr.next (Value.pointer t71) false y_tuple_bcd8b0) .any w_13 fun (t72 : Value) w_14 =>
    exV t72 0 .bool fun (t73 : Bool) =>
    iteP t73 (
    joinP Unit (fun k_3 =>
    genQ P (Instr.entry (Value.pointer t71)) .any w_14 fun (t74 : Value) =>
    exV t74 0 .any fun (t75 : Value) =>
    exV t74 1 .slc fun (t76 : (Option Addr × Nat × Nat)) =>
    newB (zc P y_api_Digest) y_api_Digest w_14 fun b14 w_15 =>
    genU P (storeVar y_api_Digest (⟨b14, 0, none⟩ : Addr) t75) w_15 fun w_16 =>
    drewP w_16 fun w_17 =>
    withAddr s fun p_3 =>
    ld .map (Addr.add p_3 2) w_17 fun (t81 : (Option Nat)) =>
    ldA P 32 (⟨b14, 0, none⟩ : Addr) w_17 fun t82 =>
    genT P (Instr.lookup y_M_api_Digest_S_uint8 (Value.map t81) (Value.agg t82) true) [.slc, .bool] w_17 fun (t83 : ((Option Addr × Nat × Nat) × Bool)) =>
    joinP Unit (fun k_4 =>
    drewP w_17 fun w_18 =>
    iteP t83.2 (
    ldA P 32 (⟨b14, 0, none⟩ : Addr) w_18 fun t90 =>
    callF P F_sha_Sum #[(Value.slice t83.1.1 t83.1.2.1 t83.1.2.2)] [.any] false w_18 fun (t89 : Value) w_19 =>
    ((ldA P 32 (⟨b14, 0, none⟩ : Addr) w_19 fun t90_1 =>
    (Value.agg t90_1) = (Value.agg t90)) ∧
    genQ P (eqM .eql y_api_Digest (.tmp 89) (.tmp 90) t89 (Value.agg t90)) .bool w_19 fun (t91 : Bool) =>
    iteP t91 (
    k_3 () w_19) (
    k_4 () w_19))) (
    ((undef = undef) ∧
    k_4 () w_18))) (fun _ w_20 =>
    withAddr s fun p_4 =>
    ld (.int .i64) (Addr.add p_4 1) w_20 fun (t96 : Int) =>
    subI .i64 (t76.2.1 : Int) (t83.1.2.1 : Int) fun t101 =>
    addI .i64 t96 t101 fun t102 =>
    withAddr s fun p_5 =>
    stC (Addr.add p_5 1) (Value.int .i64 t102) w_20 fun w_21 =>
    drewP w_21 fun w_22 =>
    withAddr s fun p_6 =>
    ld .map (Addr.add p_6 2) w_22 fun (t108 : (Option Nat)) =>
    ldA P 32 (⟨b14, 0, none⟩ : Addr) w_22 fun t109 =>
    genU P (Instr.mapUpdate y_M_api_Digest_S_uint8 (Value.map t108) (Value.agg t109) (Value.slice t76.1 t76.2.1 t76.2.2)) w_22 fun w_23 =>
    k_3 () w_23)) (fun _ w_24 =>
    k_2 () w_24)) (
    R (.returned (Value.int .i64 0)) w_14)) () w_12))) (0, 0) w_1)
theorem eq_blob_Store_PutAll (s : Option Addr) (list : Option Addr) (list_l list_c : Nat) (R : Ending → World → Prop) (w : World) : tr P qs ((Tryd.f25.body).getD .skip) ann_blob_Store_PutAll (env0 0 [(0, (Value.pointer s)), (0, (Value.slice list list_l list_c))]) (topK P Tryd.f25.results.toList R) w = T_blob_Store_PutAll s list list_l list_c R w := by kernel_rfl
/-- (*veneer/blob.Store).PutAll -/
theorem fn_blob_Store_PutAll {s : Option Addr} {list : Option Addr} {list_l list_c : Nat} {R : Ending → World → Prop} {w : World} (hT : T_blob_Store_PutAll s list list_l list_c R w) : CallF P F_blob_Store_PutAll #[(Value.pointer s), (Value.slice list list_l list_c)] w R :=
  fn_of_tr (fn := Tryd.f25) (c := (Tryd.f25.body).getD .skip) (ann := ann_blob_Store_PutAll) (args := [(0, (Value.pointer s)), (0, (Value.slice list list_l list_c))]) (qs := qs) mixed Tryd.func25 rfl (by kernel_rfl) (by kernel_rfl) ok_blob_Store_PutAll ((eq_blob_Store_PutAll s list list_l list_c R w).symm ▸ hT)
def ann_slices_Clone_S_byte_byte : Ann := (.seq .leaf (.seq (.seq .leaf (.cond (.seq .leaf .leaf) .leaf)) (.seq .leaf .leaf)))
theorem ok_slices_Clone_S_byte_byte : okC P qs Tryd.f27.ntmps ((Tryd.f27.body).getD .skip) ann_slices_Clone_S_byte_byte = true := by kernel_rfl
def T_slices_Clone_S_byte_byte (s : Option Addr) (s_l s_c : Nat) (R : Ending → World → Prop) (w : World) : Prop :=
    iteP (Option.isNone s) (
    R (.returned (Value.slice none 0 0)) w) (
    genL P (Instr.buildSlice y_S_uint8 0 #[]) .slc w fun (t5 : (Option Addr × Nat × Nat)) w_1 =>
    genL P (Builtin.append_ #[y_S_uint8, y_S_uint8] y_S_uint8 #[(Value.slice t5.1 t5.2.1 t5.2.2), (Value.slice s s_l s_c)]) .slc w_1 fun (t7 : (Option Addr × Nat × Nat)) w_2 =>
    R (.returned (Value.slice t7.1 t7.2.1 t7.2.2)) w_2)
theorem eq_slices_Clone_S_byte_byte (s : Option Addr) (s_l s_c : Nat) (R : Ending → World → Prop) (w : World) : tr P qs ((Tryd.f27.body).getD .skip) ann_slices_Clone_S_byte_byte (env0 0 [(0, (Value.slice s s_l s_c))]) (topK P Tryd.f27.results.toList R) w = T_slices_Clone_S_byte_byte s s_l s_c R w := by kernel_rfl
/-- slices.Clone[[]byte,byte] -/
theorem fn_slices_Clone_S_byte_byte {s : Option Addr} {s_l s_c : Nat} {R : Ending → World → Prop} {w : World} (hT : T_slices_Clone_S_byte_byte s s_l s_c R w) : CallF P F_slices_Clone_S_byte_byte #[(Value.slice s s_l s_c)] w R :=
  fn_of_tr (fn := Tryd.f27) (c := (Tryd.f27.body).getD .skip) (ann := ann_slices_Clone_S_byte_byte) (args := [(0, (Value.slice s s_l s_c))]) (qs := qs) mixed Tryd.func27 rfl (by kernel_rfl) (by kernel_rfl) ok_slices_Clone_S_byte_byte ((eq_slices_Clone_S_byte_byte s s_l s_c R w).symm ▸ hT)
end Go.Proofs.YtkolbfjheleoaaaDoor
