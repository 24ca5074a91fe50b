/- Functions of the program as propositions; printed by wip/tools/fw.py, checked by the kernel. -/
import Derived.Test.YtkolbfjheleoaaaDoorTb
namespace Go.Proofs.YtkolbfjheleoaaaDoor
open Go Go.Fw Go.Proofs
set_option maxRecDepth 100000
/-- internal/bytealg.Compare -/
theorem x_internal_bytealg_Compare {e : Array Value → Sem Value} (he : Extern.find Tryd.f55 = some e) (args : Array Value) (w : World) : (callFunc F_internal_bytealg_Compare args).run P w = ((e args).run P w).andThen fun v w1 => .ok (.value v) w1 :=
  run_callFunc_extern Tryd.func55 (by kernel_rfl) (by kernel_rfl) (by kernel_rfl) he args w
def ann_l05_BlobPlays : Ann := (.seq .leaf (.seq (.seq .leaf (.cond (.seq .leaf .leaf) .leaf)) (.seq (.seq .leaf (.cond (.seq .leaf .leaf) .leaf)) (.seq .leaf (.seq .leaf (.seq (.seq .leaf (.cond (.seq .leaf .leaf) .leaf)) (.seq (.seq .leaf (.jblk [(5, .ptr), (6, .ptr)] (.loop [(5, .ptr), (6, .ptr), (7, .int .i64)] (.join [] (.seq .leaf (.cond .leaf .leaf)) (.seq (.jblk [(5, .ptr), (6, .ptr)] (.seq .leaf (.cond (.seq .leaf (.seq .leaf (.seq .leaf (.seq .leaf (.seq .leaf .leaf))))) (.seq .leaf (.cond (.seq .leaf .leaf) .leaf))))) .leaf))))) (.seq .leaf .leaf))))))))
theorem ok_l05_BlobPlays : okC P qs Tryd.f5.ntmps ((Tryd.f5.body).getD .skip) ann_l05_BlobPlays = true := by kernel_rfl
def T_l05_BlobPlays (quota : Int) (script : Option Addr) (script_l script_c : Nat) (R : Ending → World → Prop) (w : World) : Prop :=
    callF P F_l05_awake #[] [.bool] false w fun (t10 : Bool) w_1 =>
    iteP (!t10) (
    R (.returned (Value.bool false)) w_1) (
    callF P F_l05_heavy #[(Value.slice script script_l script_c)] [.bool] false w_1 fun (t13 : Bool) w_2 =>
    iteP t13 (
    R (.returned (Value.bool true)) w_2) (
    callF P F_blob_New #[(Value.int .i64 quota)] [.ptr] false w_2 fun (t15 : (Option Addr)) w_3 =>
    callF P F_r05_New #[(Value.int .i64 quota)] [.ptr] false w_3 fun (t17 : (Option Addr)) w_4 =>
    iteP (Option.isNone t15) (
    R (.returned (Value.bool false)) w_4) (
    joinP ((Option Addr) × (Option Addr)) (fun k =>
    loopP ((Option Addr) × (Option Addr) × Int) (fun s w_5 k_1 =>
    joinP Unit (fun k_2 =>
    iteP (decide (s.2.2 < (script_l : Int))) (
    iteP (decide (s.2.2 < 100)) (
    k_2 () w_5) (
    k (s.1, s.2.1) w_5)) (
    k (s.1, s.2.1) w_5)) (fun _ w_6 =>
    joinP ((Option Addr) × (Option Addr)) (fun k_3 =>
    ixS script script_l 5 s.2.2 fun t32 =>
    ld (.int .i64) t32 w_6 fun (t34 : Int) =>
    cvI .u64 t34 fun t35 =>
    remI t35 6 fun t36 =>
    iteP (t36 == 5) (
    callF P F_blob_Store_Clone #[(Value.pointer s.1)] [.ptr] false w_6 fun (t39 : (Option Addr)) w_7 =>
    callF P F_r05_Store_Clone #[(Value.pointer s.2.1)] [.ptr] false w_7 fun (t41 : (Option Addr)) w_8 =>
    ixS script script_l 5 s.2.2 fun t45 =>
    ld .slc (Addr.add t45 1) w_8 fun (t47 : (Option Addr × Nat × Nat)) =>
    callF P F_r01_Sum #[(Value.slice t47.1 t47.2.1 t47.2.2)] [.any] false w_8 fun (t48 : Value) w_9 =>
    callF P F_blob_Store_Drop #[(Value.pointer s.1), t48] [.int .i64] false w_9 fun (_ : Int) w_10 =>
    genL P (Instr.buildSlice y_S_uint8 5 #[(0, (Value.int .u8 97)), (1, (Value.int .u8 112)), (2, (Value.int .u8 97)), (3, (Value.int .u8 114)), (4, (Value.int .u8 116))]) .slc w_10 fun (t51 : (Option Addr × Nat × Nat)) w_11 =>
    genL P (convert y_S_uint8 y_S_uint8 (Value.slice t51.1 t51.2.1 t51.2.2)) .slc w_11 fun (t52 : (Option Addr × Nat × Nat)) w_12 =>
    callF P F_blob_Store_Put #[(Value.pointer s.1), (Value.slice t52.1 t52.2.1 t52.2.2)] [.any, .int .i64] true w_12 fun (_ : (Value × Int)) w_13 =>
    k_3 (t39, t41) w_13) (
    ixS script script_l 5 s.2.2 fun t60 =>
    ldA P 5 t60 w_6 fun t61 =>
    callF P F_l05_do #[(Value.pointer s.1), (Value.pointer s.2.1), (Value.agg t61)] [.bool] false w_6 fun (t62 : Bool) w_14 =>
    iteP (!t62) (
    R (.returned (Value.bool false)) w_14) (
    k_3 (s.1, s.2.1) w_14))) (fun s_2 w_15 =>
    addI .i64 s.2.2 1 fun t29 =>
    k_1 (s_2.1, s_2.2, t29) w_15))) (t15, t17, 0) w_4) (fun s_3 w_16 =>
    callF P F_r01_Sum #[(Value.slice none 0 0)] [.any] false w_16 fun (t65 : Value) w_17 =>
    callF P F_blob_Store_Has #[(Value.pointer s_3.1), t65] [.bool] false w_17 fun (t66 : Bool) w_18 =>
    callF P F_r01_Sum #[(Value.slice none 0 0)] [.any] false w_18 fun (t68 : Value) w_19 =>
    callF P F_r05_Store_Has #[(Value.pointer s_3.2), t68] [.bool] false w_19 fun (t69 : Bool) w_20 =>
    genQ P (eqM .eql y_bool (.tmp 66) (.tmp 69) (Value.bool t66) (Value.bool t69)) .bool w_20 fun (t70 : Bool) =>
    iteP t70 (
    callF P F_l05_same #[(Value.pointer s_3.1), (Value.pointer s_3.2)] [.bool] false w_20 fun (t74 : Bool) w_21 =>
    R (.returned (Value.bool t74)) w_21) (
    R (.returned (Value.bool false)) w_20)))))
theorem eq_l05_BlobPlays (quota : Int) (script : Option Addr) (script_l script_c : Nat) (R : Ending → World → Prop) (w : World) : tr P qs ((Tryd.f5.body).getD .skip) ann_l05_BlobPlays (env0 0 [(0, (Value.int .i64 quota)), (0, (Value.slice script script_l script_c))]) (topK P Tryd.f5.results.toList R) w = T_l05_BlobPlays quota script script_l script_c R w := by kernel_rfl
/-- veneer/veneerlaw05.BlobPlays -/
theorem fn_l05_BlobPlays {quota : Int} {script : Option Addr} {script_l script_c : Nat} {R : Ending → World → Prop} {w : World} (hT : T_l05_BlobPlays quota script script_l script_c R w) : CallF P F_l05_BlobPlays #[(Value.int .i64 quota), (Value.slice script script_l script_c)] w R :=
  fn_of_tr (fn := Tryd.f5) (c := (Tryd.f5.body).getD .skip) (ann := ann_l05_BlobPlays) (args := [(0, (Value.int .i64 quota)), (0, (Value.slice script script_l script_c))]) (qs := qs) mixed Tryd.func5 rfl (by kernel_rfl) (by kernel_rfl) ok_l05_BlobPlays ((eq_l05_BlobPlays quota script script_l script_c R w).symm ▸ hT)
def ann_l05_BlobApart : Ann2 := (.seq (.pure .leaf) (.seq (.pure (.seq .leaf (.cond (.seq .leaf .leaf) .leaf))) (.seq (.pure (.seq .leaf (.cond (.seq .leaf .leaf) .leaf))) (.seq (.pure .leaf) (.seq (.pure (.seq .leaf (.blk (.loop [(6, .int .i64)] (.seq (.seq .leaf (.cond .leaf .leaf)) (.seq (.blk .leaf) .leaf)))))) (.seq (.pure .leaf) (.seq (.pure .leaf) (.seq (.pure .leaf) (.seq (.pure (.seq .leaf (.blk (.loop [(10, .int .i64)] (.seq (.seq .leaf (.cond .leaf .leaf)) (.seq (.blk (.seq .leaf (.seq .leaf .leaf))) .leaf)))))) (.seq (.pure .leaf) (.seq (.seq (.pure .leaf) (.blk (.rng [(63, .any)] true [] .leaf (.jblk [] (.seq .leaf (.join [] (.seq (.tree (.op 0 [] (.op 1 [] (.op 2 [] (.op 3 [] (.op 5 [] (.op 4 [5] (.op 6 [] (.op 7 [] .done))))))))) (.cond (.seq .leaf .leaf) .leaf)) .leaf)))))) (.pure (.seq .leaf (.seq .leaf (.seq .leaf (.seq .leaf (.seq .leaf .leaf)))))))))))))))))
theorem ok_l05_BlobApart : okC2 P qs Tryd.f6.ntmps ((Tryd.f6.body).getD .skip) ann_l05_BlobApart = true := by kernel_rfl
def T_l05_BlobApart (list : Option Addr) (list_l list_c : Nat) (more : Option Addr) (more_l more_c : Nat) (R : Ending → World → Prop) (w : World) : Prop :=
    newB (zc P y_bool) y_bool w fun b4 w_1 =>
    callF P F_l05_awake #[] [.bool] false w_1 fun (t21 : Bool) w_2 =>
    iteP (!t21) (
    stC (⟨b4, 0, none⟩ : Addr) (Value.bool false) w_2 fun w_3 =>
    ld .bool (⟨b4, 0, none⟩ : Addr) w_3 fun (t4 : Bool) =>
    R (.returned (Value.bool t4)) w_3) (
    iteP (decide ((list_l : Int) > 60)) (
    stC (⟨b4, 0, none⟩ : Addr) (Value.bool true) w_2 fun w_4 =>
    ld .bool (⟨b4, 0, none⟩ : Addr) w_4 fun (t4_1 : Bool) =>
    R (.returned (Value.bool t4_1)) w_4) (
    callF P F_blob_New #[(Value.int .i64 1073741824)] [.ptr] false w_2 fun (t26 : (Option Addr)) w_5 =>
    loopP Int (fun s w_6 k =>
    iteP (decide (s < (list_l : Int))) (
    ixS list list_l 1 s fun t36 =>
    ld .slc t36 w_6 fun (t37 : (Option Addr × Nat × Nat)) =>
    callF P F_blob_Store_Put #[(Value.pointer t26), (Value.slice t37.1 t37.2.1 t37.2.2)] [.any, .int .i64] true w_6 fun (_ : (Value × Int)) w_7 =>
    addI .i64 s 1 fun t32 =>
    k t32 w_7) (
    callF P F_blob_Store_Count #[(Value.pointer t26)] [.int .i64] false w_6 fun (t40 : Int) w_8 =>
    callF P F_blob_Store_Clone #[(Value.pointer t26)] [.ptr] false w_8 fun (t42 : (Option Addr)) w_9 =>
    newB (zc P y_p_blob_Store) y_p_blob_Store w_9 fun b8 w_10 =>
    stC (⟨b8, 0, none⟩ : Addr) (Value.pointer t42) w_10 fun w_11 =>
    callF P F_blob_Store_All #[(Value.pointer t26)] [.any] false w_11 fun (t44 : Value) w_12 =>
    loopP Int (fun s_1 w_13 k_1 =>
    iteP (decide (s_1 < (list_l : Int))) (
    ixS list list_l 1 s_1 fun t53 =>
    ld .slc t53 w_13 fun (t54 : (Option Addr × Nat × Nat)) =>
    callF P F_r01_Sum #[(Value.slice t54.1 t54.2.1 t54.2.2)] [.any] false w_13 fun (t55 : Value) w_14 =>
    newB (zc P y_api_Digest) y_api_Digest w_14 fun b11 w_15 =>
    genU P (storeVar y_api_Digest (⟨b11, 0, none⟩ : Addr) t55) w_15 fun w_16 =>
    ldA P 32 (⟨b11, 0, none⟩ : Addr) w_16 fun t57 =>
    callF P F_blob_Store_Spoil #[(Value.pointer t26), (Value.agg t57), (Value.int .i64 0), (Value.int .u8 1)] [.int .i64] false w_16 fun (_ : Int) w_17 =>
    ldA P 32 (⟨b11, 0, none⟩ : Addr) w_17 fun t60 =>
    callF P F_blob_Store_Drop #[(Value.pointer t26), (Value.agg t60)] [.int .i64] false w_17 fun (_ : Int) w_18 =>
    addI .i64 s_1 1 fun t50 =>
    k_1 t50 w_18) (
    newB (zc P y_int) y_int w_13 fun b12 w_19 =>
    stC (⟨b12, 0, none⟩ : Addr) (Value.int .i64 0) w_19 fun w_20 =>
    rangeP P [.any] t44 w_20 (fun (x : Value) w_21 beg kc kr _ =>
    newB (zc P y_api_Digest) y_api_Digest w_21 fun b13 w_23 =>
    genU P (storeVar y_api_Digest (⟨b13, 0, none⟩ : Addr) x) w_23 fun w_24 =>
    beg w_24 fun w_22 =>
    joinP Unit (fun k_2 =>
    ld .ptr (⟨b8, 0, none⟩ : Addr) w_22 fun (t65 : (Option Addr)) =>
    ldA P 32 (⟨b13, 0, none⟩ : Addr) w_22 fun t66 =>
    callF P F_blob_Store_Get #[(Value.pointer t65), (Value.agg t66)] [.slc, .int .i64] true w_22 fun (t67 : ((Option Addr × Nat × Nat) × Int)) w_25 =>
    joinP Unit (fun k_3 =>
    drewP w_25 fun w_26 =>
    iteP (t67.2 != 0) (
    ((undef = undef) ∧
    stC (⟨b4, 0, none⟩ : Addr) (Value.bool false) w_26 fun w_27 =>
    kr w_27)) (
    ldA P 32 (⟨b13, 0, none⟩ : Addr) w_26 fun t75 =>
    callF P F_r01_Sum #[(Value.slice t67.1.1 t67.1.2.1 t67.1.2.2)] [.any] false w_26 fun (t74 : Value) w_28 =>
    ((ldA P 32 (⟨b13, 0, none⟩ : Addr) w_28 fun t75_1 =>
    (Value.agg t75_1) = (Value.agg t75)) ∧
    genQ P (eqM .neq y_api_Digest (.tmp 74) (.tmp 75) t74 (Value.agg t75)) .bool w_28 fun (t76 : Bool) =>
    iteP t76 (
    stC (⟨b4, 0, none⟩ : Addr) (Value.bool false) w_28 fun w_29 =>
    kr w_29) (
    k_3 () w_28)))) (fun _ w_30 =>
    ld (.int .i64) (⟨b12, 0, none⟩ : Addr) w_30 fun (t78 : Int) =>
    addI .i64 t78 1 fun t79 =>
    stC (⟨b12, 0, none⟩ : Addr) (Value.int .i64 t79) w_30 fun w_31 =>
    k_2 () w_31)) (fun _ w_32 =>
    kc w_32)) (fun D w_33 =>
    ld .ptr (⟨b8, 0, none⟩ : Addr) w_33 fun (t80 : (Option Addr)) =>
    callF P F_blob_Store_Put #[(Value.pointer t80), (Value.slice more more_l more_c)] [.any, .int .i64] true w_33 fun (_ : (Value × Int)) w_34 =>
    callF P F_blob_Store_Put #[(Value.pointer none), (Value.slice more more_l more_c)] [.any, .int .i64] true w_34 fun (t86 : (Value × Int)) w_35 =>
    newB (zc P y_api_Digest) y_api_Digest w_35 fun b17 w_36 =>
    genU P (storeVar y_api_Digest (⟨b17, 0, none⟩ : Addr) t86.1) w_36 fun w_37 =>
    genQ P (Instr.build y_api_Digest #[]) .any w_37 fun (t91 : Value) =>
    callF P F_blob_Store_Get #[(Value.pointer none), t91] [.slc, .int .i64] true w_37 fun (t92 : ((Option Addr × Nat × Nat) × Int)) w_38 =>
    ld (.int .i64) (⟨b12, 0, none⟩ : Addr) w_38 fun (t95 : Int) =>
    iteP (t95 == t40) (
    callF P F_blob_Store_Count #[(Value.pointer t26)] [.int .i64] false w_38 fun (t100 : Int) w_39 =>
    iteP (t100 == 0) (
    callF P F_blob_Store_Bytes #[(Value.pointer t26)] [.int .i64] false w_39 fun (t105 : Int) w_40 =>
    iteP (t105 == 0) (
    iteP (t86.2 == 7) (
    iteP (t92.2 == 7) (
    genQ P (Instr.build y_api_Digest #[]) .any w_40 fun (t118 : Value) =>
    callF P F_blob_Store_Drop #[(Value.pointer none), t118] [.int .i64] false w_40 fun (t119 : Int) w_41 =>
    iteP (t119 == 7) (
    genQ P (Instr.build y_api_Digest #[]) .any w_41 fun (t124 : Value) =>
    callF P F_blob_Store_Spoil #[(Value.pointer none), t124, (Value.int .i64 0), (Value.int .u8 1)] [.int .i64] false w_41 fun (t125 : Int) w_42 =>
    iteP (t125 == 7) (
    genQ P (Instr.build y_api_Digest #[]) .any w_42 fun (t130 : Value) =>
    callF P F_blob_Store_Has #[(Value.pointer none), t130] [.bool] false w_42 fun (t131 : Bool) w_43 =>
    iteP (!t131) (
    callF P F_blob_Store_Count #[(Value.pointer none)] [.int .i64] false w_43 fun (t136 : Int) w_44 =>
    iteP (t136 == 0) (
    callF P F_blob_Store_Clone #[(Value.pointer none)] [.ptr] false w_44 fun (t141 : (Option Addr)) w_45 =>
    stC (⟨b4, 0, none⟩ : Addr) (Value.bool (Option.isNone t141)) w_45 fun w_46 =>
    (w_46.heap[D]? = some (.deferred (some [])) ∧ ∀ w_47, w_47 = World.putObj w_46 D (.deferred none) →
    ld .bool (⟨b4, 0, none⟩ : Addr) w_47 fun (t4_2 : Bool) =>
    R (.returned (Value.bool t4_2)) w_47)) (
    stC (⟨b4, 0, none⟩ : Addr) (Value.bool false) w_44 fun w_48 =>
    (w_48.heap[D]? = some (.deferred (some [])) ∧ ∀ w_49, w_49 = World.putObj w_48 D (.deferred none) →
    ld .bool (⟨b4, 0, none⟩ : Addr) w_49 fun (t4_3 : Bool) =>
    R (.returned (Value.bool t4_3)) w_49))) (
    stC (⟨b4, 0, none⟩ : Addr) (Value.bool false) w_43 fun w_50 =>
    (w_50.heap[D]? = some (.deferred (some [])) ∧ ∀ w_51, w_51 = World.putObj w_50 D (.deferred none) →
    ld .bool (⟨b4, 0, none⟩ : Addr) w_51 fun (t4_4 : Bool) =>
    R (.returned (Value.bool t4_4)) w_51))) (
    stC (⟨b4, 0, none⟩ : Addr) (Value.bool false) w_42 fun w_52 =>
    (w_52.heap[D]? = some (.deferred (some [])) ∧ ∀ w_53, w_53 = World.putObj w_52 D (.deferred none) →
    ld .bool (⟨b4, 0, none⟩ : Addr) w_53 fun (t4_5 : Bool) =>
    R (.returned (Value.bool t4_5)) w_53))) (
    stC (⟨b4, 0, none⟩ : Addr) (Value.bool false) w_41 fun w_54 =>
    (w_54.heap[D]? = some (.deferred (some [])) ∧ ∀ w_55, w_55 = World.putObj w_54 D (.deferred none) →
    ld .bool (⟨b4, 0, none⟩ : Addr) w_55 fun (t4_6 : Bool) =>
    R (.returned (Value.bool t4_6)) w_55))) (
    stC (⟨b4, 0, none⟩ : Addr) (Value.bool false) w_40 fun w_56 =>
    (w_56.heap[D]? = some (.deferred (some [])) ∧ ∀ w_57, w_57 = World.putObj w_56 D (.deferred none) →
    ld .bool (⟨b4, 0, none⟩ : Addr) w_57 fun (t4_7 : Bool) =>
    R (.returned (Value.bool t4_7)) w_57))) (
    stC (⟨b4, 0, none⟩ : Addr) (Value.bool false) w_40 fun w_58 =>
    (w_58.heap[D]? = some (.deferred (some [])) ∧ ∀ w_59, w_59 = World.putObj w_58 D (.deferred none) →
    ld .bool (⟨b4, 0, none⟩ : Addr) w_59 fun (t4_8 : Bool) =>
    R (.returned (Value.bool t4_8)) w_59))) (
    stC (⟨b4, 0, none⟩ : Addr) (Value.bool false) w_40 fun w_60 =>
    (w_60.heap[D]? = some (.deferred (some [])) ∧ ∀ w_61, w_61 = World.putObj w_60 D (.deferred none) →
    ld .bool (⟨b4, 0, none⟩ : Addr) w_61 fun (t4_9 : Bool) =>
    R (.returned (Value.bool t4_9)) w_61))) (
    stC (⟨b4, 0, none⟩ : Addr) (Value.bool false) w_39 fun w_62 =>
    (w_62.heap[D]? = some (.deferred (some [])) ∧ ∀ w_63, w_63 = World.putObj w_62 D (.deferred none) →
    ld .bool (⟨b4, 0, none⟩ : Addr) w_63 fun (t4_10 : Bool) =>
    R (.returned (Value.bool t4_10)) w_63))) (
    stC (⟨b4, 0, none⟩ : Addr) (Value.bool false) w_38 fun w_64 =>
    (w_64.heap[D]? = some (.deferred (some [])) ∧ ∀ w_65, w_65 = World.putObj w_64 D (.deferred none) →
    ld .bool (⟨b4, 0, none⟩ : Addr) w_65 fun (t4_11 : Bool) =>
    R (.returned (Value.bool t4_11)) w_65))) (fun D_1 w_66 =>
    (w_66.heap[D_1]? = some (.deferred (some [])) ∧ ∀ w_67, w_67 = World.putObj w_66 D_1 (.deferred none) →
    ld .bool (⟨b4, 0, none⟩ : Addr) w_67 fun (t4_12 : Bool) =>
    R (.returned (Value.bool t4_12)) w_67)) (fun _ _ _ => False))) 0 w_12)) 0 w_5))
theorem eq_l05_BlobApart (list : Option Addr) (list_l list_c : Nat) (more : Option Addr) (more_l more_c : Nat) (R : Ending → World → Prop) (w : World) : tr2 P qs ((Tryd.f6.body).getD .skip) ann_l05_BlobApart [] (env0 0 [(0, (Value.slice list list_l list_c)), (0, (Value.slice more more_l more_c))]) (topK2 P Tryd.f6.results.toList R) w = T_l05_BlobApart list list_l list_c more more_l more_c R w := by kernel_rfl
/-- veneer/veneerlaw05.BlobApart -/
theorem fn_l05_BlobApart {list : Option Addr} {list_l list_c : Nat} {more : Option Addr} {more_l more_c : Nat} {R : Ending → World → Prop} {w : World} (hT : T_l05_BlobApart list list_l list_c more more_l more_c R w) : CallF P F_l05_BlobApart #[(Value.slice list list_l list_c), (Value.slice more more_l more_c)] w R :=
  fn_of_tr2 (fn := Tryd.f6) (c := (Tryd.f6.body).getD .skip) (ann := ann_l05_BlobApart) (args := [(0, (Value.slice list list_l list_c)), (0, (Value.slice more more_l more_c))]) (qs := qs) mixed Tryd.func6 rfl (by kernel_rfl) (by kernel_rfl) ok_l05_BlobApart ((eq_l05_BlobApart list list_l list_c more more_l more_c R w).symm ▸ hT)
def ann_l05_heavy : Ann := (.seq .leaf (.seq .leaf (.seq (.seq .leaf (.blk (.loop [(3, .int .i64), (4, .int .i64)] (.seq (.seq .leaf (.cond .leaf .leaf)) (.seq (.blk (.seq .leaf (.seq .leaf (.blk (.loop [(3, .int .i64), (5, .int .i64)] (.seq (.seq .leaf (.cond .leaf .leaf)) (.seq (.blk .leaf) .leaf))))))) .leaf))))) (.seq .leaf .leaf))))
theorem ok_l05_heavy : okC P qs Tryd.f17.ntmps ((Tryd.f17.body).getD .skip) ann_l05_heavy = true := by kernel_rfl
def T_l05_heavy (script : Option Addr) (script_l script_c : Nat) (R : Ending → World → Prop) (w : World) : Prop :=
    loopP (Int × Int) (fun s w_1 k =>
    iteP (decide (s.2 < (script_l : Int))) (
    ixS script script_l 5 s.2 fun t15 =>
    ld .slc (Addr.add t15 1) w_1 fun (t17 : (Option Addr × Nat × Nat)) =>
    addI .i64 s.1 (t17.2.1 : Int) fun t19 =>
    loopP (Int × Int) (fun s_1 w_2 k_1 =>
    ixS script script_l 5 s.2 fun t23 =>
    ld .slc (Addr.add t23 2) w_2 fun (t25 : (Option Addr × Nat × Nat)) =>
    iteP (decide (s_1.2 < (t25.2.1 : Int))) (
    ixS script script_l 5 s.2 fun t33 =>
    ld .slc (Addr.add t33 2) w_2 fun (t35 : (Option Addr × Nat × Nat)) =>
    ixS t35.1 t35.2.1 1 s_1.2 fun t37 =>
    ld .slc t37 w_2 fun (t38 : (Option Addr × Nat × Nat)) =>
    addI .i64 s_1.1 (t38.2.1 : Int) fun t40 =>
    addI .i64 s_1.2 1 fun t29 =>
    k_1 (t40, t29) w_2) (
    addI .i64 s.2 1 fun t11 =>
    k (s_1.1, t11) w_2)) (t19, 0) w_1) (
    R (.returned (Value.bool (decide (s.1 > 40000)))) w_1)) (0, 0) w
theorem eq_l05_heavy (script : Option Addr) (script_l script_c : Nat) (R : Ending → World → Prop) (w : World) : tr P qs ((Tryd.f17.body).getD .skip) ann_l05_heavy (env0 0 [(0, (Value.slice script script_l script_c))]) (topK P Tryd.f17.results.toList R) w = T_l05_heavy script script_l script_c R w := by kernel_rfl
/-- veneer/veneerlaw05.heavy -/
theorem fn_l05_heavy {script : Option Addr} {script_l script_c : Nat} {R : Ending → World → Prop} {w : World} (hT : T_l05_heavy script script_l script_c R w) : CallF P F_l05_heavy #[(Value.slice script script_l script_c)] w R :=
  fn_of_tr (fn := Tryd.f17) (c := (Tryd.f17.body).getD .skip) (ann := ann_l05_heavy) (args := [(0, (Value.slice script script_l script_c))]) (qs := qs) mixed Tryd.func17 rfl (by kernel_rfl) (by kernel_rfl) ok_l05_heavy ((eq_l05_heavy script script_l script_c R w).symm ▸ hT)
def ann_r05_New : Ann := (.seq .leaf (.seq .leaf .leaf))
theorem ok_r05_New : okC P qs Tryd.f18.ntmps ((Tryd.f18.body).getD .skip) ann_r05_New = true := by kernel_rfl
def T_r05_New (quota : Int) (R : Ending → World → Prop) (w : World) : Prop :=
    genQ P (Builtin.max_ #[y_int, y_int] y_int #[(Value.int .i64 quota), (Value.int .i64 0)]) (.int .i64) w fun (t4 : Int) =>
    genQ P (Instr.build y_r05_Store #[(0, (Value.int .i64 t4))]) .any w fun (t5 : Value) =>
    newB (Value.cells t5) y_r05_Store w fun b6 w_1 =>
    R (.returned (Value.pointer (some (⟨b6, 0, none⟩ : Addr)))) w_1
theorem eq_r05_New (quota : Int) (R : Ending → World → Prop) (w : World) : tr P qs ((Tryd.f18.body).getD .skip) ann_r05_New (env0 0 [(0, (Value.int .i64 quota))]) (topK P Tryd.f18.results.toList R) w = T_r05_New quota R w := by kernel_rfl
/-- veneer/veneerref05.New -/
theorem fn_r05_New {quota : Int} {R : Ending → World → Prop} {w : World} (hT : T_r05_New quota R w) : CallF P F_r05_New #[(Value.int .i64 quota)] w R :=
  fn_of_tr (fn := Tryd.f18) (c := (Tryd.f18.body).getD .skip) (ann := ann_r05_New) (args := [(0, (Value.int .i64 quota))]) (qs := qs) mixed Tryd.func18 rfl (by kernel_rfl) (by kernel_rfl) ok_r05_New ((eq_r05_New quota R w).symm ▸ hT)
def ann_blob_Store_Clone : Ann := (.seq .leaf (.seq (.seq .leaf (.cond (.seq .leaf .leaf) .leaf)) (.seq .leaf (.seq .leaf (.seq (.seq .leaf (.blk (.loop [] (.seq .leaf (.seq (.cond .leaf .leaf) (.blk (.seq .leaf (.tree (.op 0 [] (.op 1 [] (.op 2 [] (.op 5 [] (.op 3 [] (.op 4 [] (.op 6 [3, 4] (.op 7 [] .done)))))))))))))))) (.seq .leaf .leaf))))))
theorem ok_blob_Store_Clone : okC P qs Tryd.f19.ntmps ((Tryd.f19.body).getD .skip) ann_blob_Store_Clone = true := by kernel_rfl
def T_blob_Store_Clone (s : Option Addr) (R : Ending → World → Prop) (w : World) : Prop :=
    iteP (Option.isNone s) (
    R (.returned (Value.pointer none)) w) (
    withAddr s fun p =>
    ld (.int .i64) p w fun (t11 : Int) =>
    callF P F_blob_New #[(Value.int .i64 t11)] [.ptr] false w fun (t12 : (Option Addr)) w_1 =>
    withAddr s fun p_1 =>
    ld (.int .i64) (Addr.add p_1 1) w_1 fun (t17 : Int) =>
    withAddr t12 fun p_2 =>
    stC (Addr.add p_2 1) (Value.int .i64 t17) w_1 fun w_2 =>
    withAddr s fun p_3 =>
    ld .map (Addr.add p_3 2) w_2 fun (t23 : (Option Nat)) =>
    genL P (Instr.range y_M_api_Digest_S_uint8 (Value.map t23)) .ptr w_2 fun (t24 : (Option Addr)) w_3 =>
    loopP Unit (fun _ w_4 k =>
    genL P (Instr.next (Value.pointer t24) false y_tuple_bcd8b0) .any w_4 fun (t25 : Value) w_5 =>
    exV t25 0 .bool fun (t26 : Bool) =>
    iteP t26 (
    genQ P (Instr.entry (Value.pointer t24)) .any w_5 fun (t27 : Value) =>
    exV t27 0 .any fun (t28 : Value) =>
    exV t27 1 .slc fun (t29 : (Option Addr × Nat × Nat)) =>
    newB (zc P y_api_Digest) y_api_Digest w_5 fun b4 w_6 =>
    genU P (storeVar y_api_Digest (⟨b4, 0, none⟩ : Addr) t28) w_6 fun w_7 =>
    drewP w_7 fun w_8 =>
    withAddr t12 fun p_4 =>
    ld .map (Addr.add p_4 2) w_8 fun (t33 : (Option Nat)) =>
    ldA P 32 (⟨b4, 0, none⟩ : Addr) w_8 fun t34 =>
    callF P F_slices_Clone_S_byte_byte #[(Value.slice t29.1 t29.2.1 t29.2.2)] [.slc] false w_8 fun (t36 : (Option Addr × Nat × Nat)) w_9 =>
    ((ldA P 32 (⟨b4, 0, none⟩ : Addr) w_9 fun t34_1 =>
    (Value.agg t34_1) = (Value.agg t34)) ∧
    ((ld .map (Addr.add p_4 2) w_9 fun (t33_1 : (Option Nat)) =>
    (Value.map t33_1) = (Value.map t33)) ∧
    genU P (Instr.mapUpdate y_M_api_Digest_S_uint8 (Value.map t33) (Value.agg t34) (Value.slice t36.1 t36.2.1 t36.2.2)) w_9 fun w_10 =>
    k () w_10))) (
    R (.returned (Value.pointer t12)) w_5)) () w_3)
theorem eq_blob_Store_Clone (s : Option Addr) (R : Ending → World → Prop) (w : World) : tr P qs ((Tryd.f19.body).getD .skip) ann_blob_Store_Clone (env0 0 [(0, (Value.pointer s))]) (topK P Tryd.f19.results.toList R) w = T_blob_Store_Clone s R w := by kernel_rfl
/-- (*veneer/blob.Store).Clone -/
theorem fn_blob_Store_Clone {s : Option Addr} {R : Ending → World → Prop} {w : World} (hT : T_blob_Store_Clone s R w) : CallF P F_blob_Store_Clone #[(Value.pointer s)] w R :=
  fn_of_tr (fn := Tryd.f19) (c := (Tryd.f19.body).getD .skip) (ann := ann_blob_Store_Clone) (args := [(0, (Value.pointer s))]) (qs := qs) mixed Tryd.func19 rfl (by kernel_rfl) (by kernel_rfl) ok_blob_Store_Clone ((eq_blob_Store_Clone s R w).symm ▸ hT)
def ann_r05_Store_Clone : Ann := (.seq .leaf (.seq .leaf (.seq (.seq .leaf (.blk (.loop [(4, .int .i64)] (.seq (.seq .leaf (.cond .leaf .leaf)) (.seq (.blk (.tree (.op 0 [] (.op 1 [] (.op 2 [] (.op 3 [] (.op 5 [] (.op 6 [] (.op 7 [] (.op 9 [] (.op 14 [] (.op 15 [] (.op 16 [] (.op 18 [] (.op 4 [] (.op 8 [] (.op 10 [] (.op 11 [] (.op 12 [] (.op 17 [] (.op 19 [] (.op 20 [] (.op 21 [] (.op 13 [4, 8, 12, 17, 21] (.op 22 [4, 8, 12] (.op 23 [] (.op 24 [4] (.op 25 [] (.op 26 [] (.op 27 [] (.op 28 [] .done))))))))))))))))))))))))))))))) .leaf))))) (.seq .leaf .leaf))))
theorem ok_r05_Store_Clone : okC P qs Tryd.f20.ntmps ((Tryd.f20.body).getD .skip) ann_r05_Store_Clone = true := by kernel_rfl
def T_r05_Store_Clone (s : Option Addr) (R : Ending → World → Prop) (w : World) : Prop :=
    withAddr s fun p =>
    ld (.int .i64) p w fun (t8 : Int) =>
    genQ P (Instr.build y_r05_Store #[(0, (Value.int .i64 t8))]) .any w fun (t9 : Value) =>
    newB (Value.cells t9) y_r05_Store w fun b10 w_1 =>
    loopP Int (fun s_1 w_2 k =>
    withAddr s fun p_1 =>
    ld .slc (Addr.add p_1 1) w_2 fun (t15 : (Option Addr × Nat × Nat)) =>
    iteP (decide (s_1 < (t15.2.1 : Int))) (
    drewP w_2 fun w_3 =>
    withAddr s fun p_2 =>
    withAddr s fun p_3 =>
    ld .slc (⟨b10, 1, none⟩ : Addr) w_3 fun (t24 : (Option Addr × Nat × Nat)) =>
    ld .slc (Addr.add p_2 1) w_3 fun (t28 : (Option Addr × Nat × Nat)) =>
    ixS t28.1 t28.2.1 33 s_1 fun t30 =>
    ldA P 32 t30 w_3 fun t32 =>
    ld .slc (Addr.add p_3 1) w_3 fun (t37 : (Option Addr × Nat × Nat)) =>
    ixS t37.1 t37.2.1 33 s_1 fun t39 =>
    ld .slc (Addr.add t39 32) w_3 fun (t41 : (Option Addr × Nat × Nat)) =>
    genL P (Instr.buildSlice y_S_uint8 0 #[]) .slc w_3 fun (t33 : (Option Addr × Nat × Nat)) w_4 =>
    ((ld .slc (Addr.add t39 32) w_4 fun (t41_1 : (Option Addr × Nat × Nat)) =>
    (Value.slice t41_1.1 t41_1.2.1 t41_1.2.2) = (Value.slice t41.1 t41.2.1 t41.2.2)) ∧
    ((ld .slc (Addr.add p_3 1) w_4 fun (t37_1 : (Option Addr × Nat × Nat)) =>
    (Value.slice t37_1.1 t37_1.2.1 t37_1.2.2) = (Value.slice t37.1 t37.2.1 t37.2.2)) ∧
    ((ldA P 32 t30 w_4 fun t32_1 =>
    (Value.agg t32_1) = (Value.agg t32)) ∧
    ((ld .slc (Addr.add p_2 1) w_4 fun (t28_1 : (Option Addr × Nat × Nat)) =>
    (Value.slice t28_1.1 t28_1.2.1 t28_1.2.2) = (Value.slice t28.1 t28.2.1 t28.2.2)) ∧
    ((ld .slc (⟨b10, 1, none⟩ : Addr) w_4 fun (t24_1 : (Option Addr × Nat × Nat)) =>
    (Value.slice t24_1.1 t24_1.2.1 t24_1.2.2) = (Value.slice t24.1 t24.2.1 t24.2.2)) ∧
    genL P (Builtin.append_ #[y_S_uint8, y_S_uint8] y_S_uint8 #[(Value.slice t33.1 t33.2.1 t33.2.2), (Value.slice t41.1 t41.2.1 t41.2.2)]) .slc w_4 fun (t42 : (Option Addr × Nat × Nat)) w_5 =>
    ((ldA P 32 t30 w_5 fun t32_2 =>
    (Value.agg t32_2) = (Value.agg t32)) ∧
    ((ld .slc (Addr.add p_2 1) w_5 fun (t28_2 : (Option Addr × Nat × Nat)) =>
    (Value.slice t28_2.1 t28_2.2.1 t28_2.2.2) = (Value.slice t28.1 t28.2.1 t28.2.2)) ∧
    ((ld .slc (⟨b10, 1, none⟩ : Addr) w_5 fun (t24_2 : (Option Addr × Nat × Nat)) =>
    (Value.slice t24_2.1 t24_2.2.1 t24_2.2.2) = (Value.slice t24.1 t24.2.1 t24.2.2)) ∧
    genQ P (Instr.build y_r05_Blob #[(0, (Value.agg t32)), (1, (Value.slice t42.1 t42.2.1 t42.2.2))]) .any w_5 fun (t43 : Value) =>
    genL P (Instr.buildSlice y_S_r05_Blob 1 #[(0, t43)]) .slc w_5 fun (t44 : (Option Addr × Nat × Nat)) w_6 =>
    ((ld .slc (⟨b10, 1, none⟩ : Addr) w_6 fun (t24_3 : (Option Addr × Nat × Nat)) =>
    (Value.slice t24_3.1 t24_3.2.1 t24_3.2.2) = (Value.slice t24.1 t24.2.1 t24.2.2)) ∧
    genL P (Builtin.append_ #[y_S_r05_Blob, y_S_r05_Blob] y_S_r05_Blob #[(Value.slice t24.1 t24.2.1 t24.2.2), (Value.slice t44.1 t44.2.1 t44.2.2)]) .slc w_6 fun (t45 : (Option Addr × Nat × Nat)) w_7 =>
    stC (⟨b10, 1, none⟩ : Addr) (Value.slice t45.1 t45.2.1 t45.2.2) w_7 fun w_8 =>
    addI .i64 s_1 1 fun t19 =>
    k t19 w_8)))))))))) (
    R (.returned (Value.pointer (some (⟨b10, 0, none⟩ : Addr)))) w_2)) 0 w_1
theorem eq_r05_Store_Clone (s : Option Addr) (R : Ending → World → Prop) (w : World) : tr P qs ((Tryd.f20.body).getD .skip) ann_r05_Store_Clone (env0 0 [(0, (Value.pointer s))]) (topK P Tryd.f20.results.toList R) w = T_r05_Store_Clone s R w := by kernel_rfl
/-- (*veneer/veneerref05.Store).Clone -/
theorem fn_r05_Store_Clone {s : Option Addr} {R : Ending → World → Prop} {w : World} (hT : T_r05_Store_Clone s R w) : CallF P F_r05_Store_Clone #[(Value.pointer s)] w R :=
  fn_of_tr (fn := Tryd.f20) (c := (Tryd.f20.body).getD .skip) (ann := ann_r05_Store_Clone) (args := [(0, (Value.pointer s))]) (qs := qs) mixed Tryd.func20 rfl (by kernel_rfl) (by kernel_rfl) ok_r05_Store_Clone ((eq_r05_Store_Clone s R w).symm ▸ hT)
def ann_l05_do : Ann := (.seq .leaf (.seq .leaf (.seq (.seq .leaf (.blk (.seq .leaf (.cond (.seq .leaf (.seq .leaf (.seq .leaf .leaf))) (.seq .leaf (.cond (.seq .leaf (.seq .leaf (.join [(16, .bool)] .leaf (.seq (.seq .leaf (.blk (.loop [(17, .int .i64)] (.seq (.seq .leaf (.cond .leaf .leaf)) (.seq (.blk .leaf) .leaf))))) (.seq .leaf .leaf))))) (.seq .leaf (.cond (.seq (.tree (.op 0 [] (.op 3 [] (.op 1 [] (.op 4 [] (.op 2 [4] (.op 5 [] (.op 6 [] (.op 7 [] .done))))))))) .leaf) (.seq .leaf (.cond (.seq (.tree (.op 0 [] (.op 2 [] (.op 4 [] (.op 7 [] (.op 9 [] (.op 11 [] (.op 1 [] (.op 3 [] (.op 5 [] (.op 8 [] (.op 10 [] (.op 12 [] (.op 6 [8, 10, 12] (.op 13 [] (.op 14 [] (.op 15 [] .done))))))))))))))))) .leaf) .leaf)))))))))) (.seq (.tree (.op 0 [] (.op 1 [] (.op 4 [] (.op 5 [] (.op 2 [] (.op 6 [] (.op 3 [6] (.op 7 [] (.op 8 [] (.op 9 [] .done))))))))))) .leaf))))
theorem ok_l05_do : okC P qs Tryd.f21.ntmps ((Tryd.f21.body).getD .skip) ann_l05_do = true := by kernel_rfl
def T_l05_do (s : Option Addr) (r : Option Addr) (c : Value) (R : Ending → World → Prop) (w : World) : Prop :=
    newB (Value.cells c) y_l05_Do w fun b5 w_1 =>
    ld .slc (⟨b5, 1, none⟩ : Addr) w_1 fun (t19 : (Option Addr × Nat × Nat)) =>
    callF P F_r01_Sum #[(Value.slice t19.1 t19.2.1 t19.2.2)] [.any] false w_1 fun (t20 : Value) w_2 =>
    newB (zc P y_api_Digest) y_api_Digest w_2 fun b7 w_3 =>
    genU P (storeVar y_api_Digest (⟨b7, 0, none⟩ : Addr) t20) w_3 fun w_4 =>
    ld (.int .i64) (⟨b5, 0, none⟩ : Addr) w_4 fun (t22 : Int) =>
    cvI .u64 t22 fun t23 =>
    remI t23 5 fun t24 =>
    iteP (t24 == 0) (
    ld .slc (⟨b5, 1, none⟩ : Addr) w_4 fun (t30 : (Option Addr × Nat × Nat)) =>
    callF P F_blob_Store_Put #[(Value.pointer s), (Value.slice t30.1 t30.2.1 t30.2.2)] [.any, .int .i64] true w_4 fun (t31 : (Value × Int)) w_5 =>
    newB (zc P y_api_Digest) y_api_Digest w_5 fun b8 w_6 =>
    genU P (storeVar y_api_Digest (⟨b8, 0, none⟩ : Addr) t31.1) w_6 fun w_7 =>
    ld .slc (⟨b5, 1, none⟩ : Addr) w_7 fun (t37 : (Option Addr × Nat × Nat)) =>
    callF P F_r05_Store_Put #[(Value.pointer r), (Value.slice t37.1 t37.2.1 t37.2.2)] [.any, .int .i64] true w_7 fun (t38 : (Value × Int)) w_8 =>
    newB (zc P y_api_Digest) y_api_Digest w_8 fun b10 w_9 =>
    genU P (storeVar y_api_Digest (⟨b10, 0, none⟩ : Addr) t38.1) w_9 fun w_10 =>
    ldA P 32 (⟨b8, 0, none⟩ : Addr) w_10 fun t41 =>
    ldA P 32 (⟨b10, 0, none⟩ : Addr) w_10 fun t42 =>
    genQ P (eqM .eql y_api_Digest (.tmp 41) (.tmp 42) (Value.agg t41) (Value.agg t42)) .bool w_10 fun (t43 : Bool) =>
    iteP t43 (
    R (.returned (Value.bool (t31.2 == t38.2))) w_10) (
    R (.returned (Value.bool false)) w_10)) (
    iteP (t24 == 1) (
    ldA P 32 (⟨b7, 0, none⟩ : Addr) w_4 fun t53 =>
    callF P F_blob_Store_Get #[(Value.pointer s), (Value.agg t53)] [.slc, .int .i64] true w_4 fun (t54 : ((Option Addr × Nat × Nat) × Int)) w_11 =>
    ldA P 32 (⟨b7, 0, none⟩ : Addr) w_11 fun t59 =>
    callF P F_r05_Store_Get #[(Value.pointer r), (Value.agg t59)] [.slc, .int .i64] true w_11 fun (t60 : ((Option Addr × Nat × Nat) × Int)) w_12 =>
    joinP Bool (fun k =>
    genQ P (convert y_S_uint8 y_string (Value.slice t54.1.1 t54.1.2.1 t54.1.2.2)) .str w_12 fun (t64 : ByteArray) =>
    genQ P (convert y_S_uint8 y_string (Value.slice t60.1.1 t60.1.2.1 t60.1.2.2)) .str w_12 fun (t66 : ByteArray) =>
    iteP (t64.toList == t66.toList) (
    k (t54.2 == t60.2) w_12) (
    k false w_12)) (fun s_1 w_13 =>
    loopP Int (fun s_2 w_14 k_1 =>
    iteP (decide (s_2 < (t54.1.2.1 : Int))) (
    ixS t54.1.1 t54.1.2.1 1 s_2 fun t81 =>
    stC t81 (Value.int .u8 238) w_14 fun w_15 =>
    addI .i64 s_2 1 fun t78 =>
    k_1 t78 w_15) (
    R (.returned (Value.bool s_1)) w_14)) 0 w_13)) (
    iteP (t24 == 2) (
    drewP w_4 fun w_16 =>
    ldA P 32 (⟨b7, 0, none⟩ : Addr) w_16 fun t86 =>
    ldA P 32 (⟨b7, 0, none⟩ : Addr) w_16 fun t89 =>
    callF P F_blob_Store_Drop #[(Value.pointer s), (Value.agg t86)] [.int .i64] false w_16 fun (t87 : Int) w_17 =>
    ((ldA P 32 (⟨b7, 0, none⟩ : Addr) w_17 fun t89_1 =>
    (Value.agg t89_1) = (Value.agg t89)) ∧
    callF P F_r05_Store_Drop #[(Value.pointer r), (Value.agg t89)] [.int .i64] false w_17 fun (t90 : Int) w_18 =>
    R (.returned (Value.bool (t87 == t90))) w_18)) (
    iteP (t24 == 3) (
    drewP w_4 fun w_19 =>
    ldA P 32 (⟨b7, 0, none⟩ : Addr) w_19 fun t95 =>
    ld (.int .i64) (⟨b5, 3, none⟩ : Addr) w_19 fun (t97 : Int) =>
    ld (.int .u8) (⟨b5, 4, none⟩ : Addr) w_19 fun (t99 : Int) =>
    ldA P 32 (⟨b7, 0, none⟩ : Addr) w_19 fun t102 =>
    ld (.int .i64) (⟨b5, 3, none⟩ : Addr) w_19 fun (t104 : Int) =>
    ld (.int .u8) (⟨b5, 4, none⟩ : Addr) w_19 fun (t106 : Int) =>
    callF P F_blob_Store_Spoil #[(Value.pointer s), (Value.agg t95), (Value.int .i64 t97), (Value.int .u8 t99)] [.int .i64] false w_19 fun (t100 : Int) w_20 =>
    ((ld (.int .u8) (⟨b5, 4, none⟩ : Addr) w_20 fun (t106_1 : Int) =>
    (Value.int .u8 t106_1) = (Value.int .u8 t106)) ∧
    ((ld (.int .i64) (⟨b5, 3, none⟩ : Addr) w_20 fun (t104_1 : Int) =>
    (Value.int .i64 t104_1) = (Value.int .i64 t104)) ∧
    ((ldA P 32 (⟨b7, 0, none⟩ : Addr) w_20 fun t102_1 =>
    (Value.agg t102_1) = (Value.agg t102)) ∧
    callF P F_r05_Store_Spoil #[(Value.pointer r), (Value.agg t102), (Value.int .i64 t104), (Value.int .u8 t106)] [.int .i64] false w_20 fun (t107 : Int) w_21 =>
    R (.returned (Value.bool (t100 == t107))) w_21)))) (
    drewP w_4 fun w_22 =>
    ld .slc (⟨b5, 2, none⟩ : Addr) w_22 fun (t111 : (Option Addr × Nat × Nat)) =>
    ld .slc (⟨b5, 2, none⟩ : Addr) w_22 fun (t115 : (Option Addr × Nat × Nat)) =>
    callF P F_blob_Store_PutAll #[(Value.pointer s), (Value.slice t111.1 t111.2.1 t111.2.2)] [.int .i64] false w_22 fun (t112 : Int) w_23 =>
    ((ld .slc (⟨b5, 2, none⟩ : Addr) w_23 fun (t115_1 : (Option Addr × Nat × Nat)) =>
    (Value.slice t115_1.1 t115_1.2.1 t115_1.2.2) = (Value.slice t115.1 t115.2.1 t115.2.2)) ∧
    callF P F_r05_Store_PutAll #[(Value.pointer r), (Value.slice t115.1 t115.2.1 t115.2.2)] [.int .i64] false w_23 fun (t116 : Int) w_24 =>
    R (.returned (Value.bool (t112 == t116))) w_24)))))
theorem eq_l05_do (s : Option Addr) (r : Option Addr) (c : Value) (R : Ending → World → Prop) (w : World) : tr P qs ((Tryd.f21.body).getD .skip) ann_l05_do (env0 0 [(0, (Value.pointer s)), (0, (Value.pointer r)), (1, c)]) (topK P Tryd.f21.results.toList R) w = T_l05_do s r c R w := by kernel_rfl
/-- veneer/veneerlaw05.do -/
theorem fn_l05_do {s : Option Addr} {r : Option Addr} {c : Value} {R : Ending → World → Prop} {w : World} (hT : T_l05_do s r c R w) : CallF P F_l05_do #[(Value.pointer s), (Value.pointer r), c] w R :=
  fn_of_tr (fn := Tryd.f21) (c := (Tryd.f21.body).getD .skip) (ann := ann_l05_do) (args := [(0, (Value.pointer s)), (0, (Value.pointer r)), (1, c)]) (qs := qs) mixed Tryd.func21 rfl (by kernel_rfl) (by kernel_rfl) ok_l05_do ((eq_l05_do s r c R w).symm ▸ hT)
def ann_r05_Store_Has : Ann := (.seq .leaf (.seq .leaf (.seq .leaf .leaf)))
theorem ok_r05_Store_Has : okC P qs Tryd.f22.ntmps ((Tryd.f22.body).getD .skip) ann_r05_Store_Has = true := by kernel_rfl
def T_r05_Store_Has (s : Option Addr) (d : Value) (R : Ending → World → Prop) (w : World) : Prop :=
    newB (Value.cells d) y_api_Digest w fun b3 w_1 =>
    ldA P 32 (⟨b3, 0, none⟩ : Addr) w_1 fun t9 =>
    callF P F_r05_Store_find #[(Value.pointer s), (Value.agg t9)] [.int .i64, .bool] true w_1 fun (t10 : (Int × Bool)) w_2 =>
    R (.returned (Value.bool t10.2)) w_2
theorem eq_r05_Store_Has (s : Option Addr) (d : Value) (R : Ending → World → Prop) (w : World) : tr P qs ((Tryd.f22.body).getD .skip) ann_r05_Store_Has (env0 0 [(0, (Value.pointer s)), (1, d)]) (topK P Tryd.f22.results.toList R) w = T_r05_Store_Has s d R w := by kernel_rfl
/-- (*veneer/veneerref05.Store).Has -/
theorem fn_r05_Store_Has {s : Option Addr} {d : Value} {R : Ending → World → Prop} {w : World} (hT : T_r05_Store_Has s d R w) : CallF P F_r05_Store_Has #[(Value.pointer s), d] w R :=
  fn_of_tr (fn := Tryd.f22) (c := (Tryd.f22.body).getD .skip) (ann := ann_r05_Store_Has) (args := [(0, (Value.pointer s)), (1, d)]) (qs := qs) mixed Tryd.func22 rfl (by kernel_rfl) (by kernel_rfl) ok_r05_Store_Has ((eq_r05_Store_Has s d R w).symm ▸ hT)
def ann_l05_same : Ann2 := (.seq (.pure .leaf) (.seq (.pure (.seq (.tree (.op 0 [] (.op 2 [] (.op 3 [] (.op 4 [] (.op 5 [] (.op 6 [] (.op 1 [2, 5] (.op 7 [] (.op 8 [] (.op 9 [] (.op 11 [] (.op 10 [11] (.op 12 [] (.op 13 [] (.op 14 [] .done)))))))))))))))) (.cond (.seq .leaf .leaf) .leaf))) (.seq (.pure .leaf) (.seq (.seq (.pure .leaf) (.blk (.rng [(28, .any)] true [] .leaf (.jblk [] (.join [] (.seq (.tree (.op 0 [] (.op 1 [] (.op 2 [] (.op 3 [] (.op 4 [] (.op 5 [] (.op 6 [] (.op 7 [] (.op 8 [] (.op 9 [] (.op 10 [] (.op 11 [] (.op 12 [] (.op 13 [] (.op 14 [] (.op 15 [] (.op 16 [] (.op 17 [] (.op 18 [] (.op 19 [] (.op 20 [] (.op 21 [] (.op 22 [] (.op 23 [] (.op 24 [] .done)))))))))))))))))))))))))) (.cond (.seq .leaf .leaf) .leaf)) (.seq .leaf (.seq .leaf (.join [] (.seq .leaf (.cond (.seq .leaf .leaf) .leaf)) .leaf)))))))) (.pure (.seq (.tree (.op 0 [] (.op 1 [] (.op 2 [] (.op 3 [] (.op 4 [] (.op 5 [] (.op 6 [] (.op 7 [] .done))))))))) .leaf))))))
theorem ok_l05_same : okC2 P qs Tryd.f23.ntmps ((Tryd.f23.body).getD .skip) ann_l05_same = true := by kernel_rfl
def T_l05_same (s : Option Addr) (r : Option Addr) (R : Ending → World → Prop) (w : World) : Prop :=
    newB #[(Value.pointer s)] y_p_blob_Store w fun b2 w_1 =>
    newB #[(Value.pointer r)] y_p_r05_Store w_1 fun b3 w_2 =>
    newB (zc P y_bool) y_bool w_2 fun b4 w_3 =>
    drewP w_3 fun w_4 =>
    ld .ptr (⟨b2, 0, none⟩ : Addr) w_4 fun (t11 : (Option Addr)) =>
    ld .ptr (⟨b3, 0, none⟩ : Addr) w_4 fun (t13 : (Option Addr)) =>
    withAddr t13 fun p =>
    ld .slc (Addr.add p 1) w_4 fun (t16 : (Option Addr × Nat × Nat)) =>
    callF P F_blob_Store_Count #[(Value.pointer t11)] [.int .i64] false w_4 fun (t12 : Int) w_5 =>
    ((ld .slc (Addr.add p 1) w_5 fun (t16_1 : (Option Addr × Nat × Nat)) =>
    (Value.slice t16_1.1 t16_1.2.1 t16_1.2.2) = (Value.slice t16.1 t16.2.1 t16.2.2)) ∧
    ((ld .ptr (⟨b3, 0, none⟩ : Addr) w_5 fun (t13_1 : (Option Addr)) =>
    (Value.pointer t13_1) = (Value.pointer t13)) ∧
    iteP (t12 != (t16.2.1 : Int)) (
    ((undef = undef) ∧
    stC (⟨b4, 0, none⟩ : Addr) (Value.bool false) w_5 fun w_6 =>
    ld .bool (⟨b4, 0, none⟩ : Addr) w_6 fun (t4 : Bool) =>
    R (.returned (Value.bool t4)) w_6)) (
    ld .ptr (⟨b2, 0, none⟩ : Addr) w_5 fun (t20 : (Option Addr)) =>
    ld .ptr (⟨b3, 0, none⟩ : Addr) w_5 fun (t22 : (Option Addr)) =>
    callF P F_blob_Store_Bytes #[(Value.pointer t20)] [.int .i64] false w_5 fun (t21 : Int) w_7 =>
    ((ld .ptr (⟨b3, 0, none⟩ : Addr) w_7 fun (t22_1 : (Option Addr)) =>
    (Value.pointer t22_1) = (Value.pointer t22)) ∧
    callF P F_r05_Store_Bytes #[(Value.pointer t22)] [.int .i64] false w_7 fun (t23 : Int) w_8 =>
    iteP (t21 != t23) (
    stC (⟨b4, 0, none⟩ : Addr) (Value.bool false) w_8 fun w_9 =>
    ld .bool (⟨b4, 0, none⟩ : Addr) w_9 fun (t4_1 : Bool) =>
    R (.returned (Value.bool t4_1)) w_9) (
    newB (zc P y_int) y_int w_8 fun b5 w_10 =>
    stC (⟨b5, 0, none⟩ : Addr) (Value.int .i64 0) w_10 fun w_11 =>
    ld .ptr (⟨b2, 0, none⟩ : Addr) w_11 fun (t26 : (Option Addr)) =>
    callF P F_blob_Store_All #[(Value.pointer t26)] [.any] false w_11 fun (t27 : Value) w_12 =>
    rangeP P [.any] t27 w_12 (fun (x : Value) w_13 beg kc kr _ =>
    newB (zc P y_api_Digest) y_api_Digest w_13 fun b6 w_15 =>
    genU P (storeVar y_api_Digest (⟨b6, 0, none⟩ : Addr) x) w_15 fun w_16 =>
    beg w_16 fun w_14 =>
    joinP Unit (fun k =>
    joinP Unit (fun k_1 =>
    drewP w_14 fun w_17 =>
    ld (.int .i64) (⟨b5, 0, none⟩ : Addr) w_17 fun (t29 : Int) =>
    ld .ptr (⟨b3, 0, none⟩ : Addr) w_17 fun (t30 : (Option Addr)) =>
    withAddr t30 fun p_1 =>
    ld .slc (Addr.add p_1 1) w_17 fun (t33 : (Option Addr × Nat × Nat)) =>
    iteP (decide (t29 ≥ (t33.2.1 : Int))) (
    stC (⟨b4, 0, none⟩ : Addr) (Value.bool false) w_17 fun w_18 =>
    kr w_18) (
    ld .ptr (⟨b3, 0, none⟩ : Addr) w_17 fun (t37 : (Option Addr)) =>
    withAddr t37 fun p_2 =>
    ld .slc (Addr.add p_2 1) w_17 fun (t40 : (Option Addr × Nat × Nat)) =>
    ld (.int .i64) (⟨b5, 0, none⟩ : Addr) w_17 fun (t41 : Int) =>
    ixS t40.1 t40.2.1 33 t41 fun t42 =>
    ldA P 32 t42 w_17 fun t44 =>
    ldA P 32 (⟨b6, 0, none⟩ : Addr) w_17 fun t45 =>
    genQ P (eqM .neq y_api_Digest (.tmp 44) (.tmp 45) (Value.agg t44) (Value.agg t45)) .bool w_17 fun (t46 : Bool) =>
    iteP t46 (
    stC (⟨b4, 0, none⟩ : Addr) (Value.bool false) w_17 fun w_19 =>
    kr w_19) (
    ld .ptr (⟨b2, 0, none⟩ : Addr) w_17 fun (t49 : (Option Addr)) =>
    ldA P 32 (⟨b6, 0, none⟩ : Addr) w_17 fun t50 =>
    callF P F_blob_Store_Has #[(Value.pointer t49), (Value.agg t50)] [.bool] false w_17 fun (t51 : Bool) w_20 =>
    iteP (!t51) (
    stC (⟨b4, 0, none⟩ : Addr) (Value.bool false) w_20 fun w_21 =>
    kr w_21) (
    k_1 () w_20)))) (fun _ w_22 =>
    ld .ptr (⟨b2, 0, none⟩ : Addr) w_22 fun (t55 : (Option Addr)) =>
    ldA P 32 (⟨b6, 0, none⟩ : Addr) w_22 fun t56 =>
    callF P F_blob_Store_Get #[(Value.pointer t55), (Value.agg t56)] [.slc, .int .i64] true w_22 fun (t57 : ((Option Addr × Nat × Nat) × Int)) w_23 =>
    ld .ptr (⟨b3, 0, none⟩ : Addr) w_23 fun (t61 : (Option Addr)) =>
    ldA P 32 (⟨b6, 0, none⟩ : Addr) w_23 fun t62 =>
    callF P F_r05_Store_Get #[(Value.pointer t61), (Value.agg t62)] [.slc, .int .i64] true w_23 fun (t63 : ((Option Addr × Nat × Nat) × Int)) w_24 =>
    joinP Unit (fun k_2 =>
    genQ P (convert y_S_uint8 y_string (Value.slice t57.1.1 t57.1.2.1 t57.1.2.2)) .str w_24 fun (t67 : ByteArray) =>
    genQ P (convert y_S_uint8 y_string (Value.slice t63.1.1 t63.1.2.1 t63.1.2.2)) .str w_24 fun (t69 : ByteArray) =>
    iteP (!(t67.toList == t69.toList)) (
    stC (⟨b4, 0, none⟩ : Addr) (Value.bool false) w_24 fun w_25 =>
    kr w_25) (
    iteP (t57.2 != t63.2) (
    stC (⟨b4, 0, none⟩ : Addr) (Value.bool false) w_24 fun w_26 =>
    kr w_26) (
    k_2 () w_24))) (fun _ w_27 =>
    ld (.int .i64) (⟨b5, 0, none⟩ : Addr) w_27 fun (t76 : Int) =>
    addI .i64 t76 1 fun t77 =>
    stC (⟨b5, 0, none⟩ : Addr) (Value.int .i64 t77) w_27 fun w_28 =>
    k () w_28))) (fun _ w_29 =>
    kc w_29)) (fun D w_30 =>
    drewP w_30 fun w_31 =>
    ld (.int .i64) (⟨b5, 0, none⟩ : Addr) w_31 fun (t78 : Int) =>
    ld .ptr (⟨b3, 0, none⟩ : Addr) w_31 fun (t79 : (Option Addr)) =>
    withAddr t79 fun p_3 =>
    ld .slc (Addr.add p_3 1) w_31 fun (t82 : (Option Addr × Nat × Nat)) =>
    stC (⟨b4, 0, none⟩ : Addr) (Value.bool (t78 == (t82.2.1 : Int))) w_31 fun w_32 =>
    (w_32.heap[D]? = some (.deferred (some [])) ∧ ∀ w_33, w_33 = World.putObj w_32 D (.deferred none) →
    ld .bool (⟨b4, 0, none⟩ : Addr) w_33 fun (t4_2 : Bool) =>
    R (.returned (Value.bool t4_2)) w_33)) (fun D_1 w_34 =>
    (w_34.heap[D_1]? = some (.deferred (some [])) ∧ ∀ w_35, w_35 = World.putObj w_34 D_1 (.deferred none) →
    ld .bool (⟨b4, 0, none⟩ : Addr) w_35 fun (t4_3 : Bool) =>
    R (.returned (Value.bool t4_3)) w_35)) (fun _ _ _ => False))))))
theorem eq_l05_same (s : Option Addr) (r : Option Addr) (R : Ending → World → Prop) (w : World) : tr2 P qs ((Tryd.f23.body).getD .skip) ann_l05_same [] (env0 0 [(0, (Value.pointer s)), (0, (Value.pointer r))]) (topK2 P Tryd.f23.results.toList R) w = T_l05_same s r R w := by kernel_rfl
/-- veneer/veneerlaw05.same -/
theorem fn_l05_same {s : Option Addr} {r : Option Addr} {R : Ending → World → Prop} {w : World} (hT : T_l05_same s r R w) : CallF P F_l05_same #[(Value.pointer s), (Value.pointer r)] w R :=
  fn_of_tr2 (fn := Tryd.f23) (c := (Tryd.f23.body).getD .skip) (ann := ann_l05_same) (args := [(0, (Value.pointer s)), (0, (Value.pointer r))]) (qs := qs) mixed Tryd.func23 rfl (by kernel_rfl) (by kernel_rfl) ok_l05_same ((eq_l05_same s r R w).symm ▸ hT)
def ann_blob_Store_All : Ann := (.seq .leaf (.seq .leaf (.join [(3, .slc)] (.seq .leaf (.cond .leaf .leaf)) (.seq .leaf .leaf))))
theorem ok_blob_Store_All : okC P qs Tryd.f24.ntmps ((Tryd.f24.body).getD .skip) ann_blob_Store_All = true := by kernel_rfl
def T_blob_Store_All (s : Option Addr) (R : Ending → World → Prop) (w : World) : Prop :=
    joinP (Option Addr × Nat × Nat) (fun k =>
    iteP (!(Option.isNone s)) (
    withAddr s fun p =>
    ld .map (Addr.add p 2) w fun (t9 : (Option Nat)) =>
    callF P F_maps_Keys_M_api_Digest_S_byte_api_Digest_S_byte #[(Value.map t9)] [.any] false w fun (t10 : Value) w_1 =>
    callF P F_slices_SortedFunc_api_Digest #[t10, (Value.func (.func F_sha_Compare) #[] #[])] [.slc] false w_1 fun (t11 : (Option Addr × Nat × Nat)) w_2 =>
    k (t11.1, t11.2.1, t11.2.2) w_2) (
    k (none, 0, 0) w)) (fun s_1 w_3 =>
    callF P F_slices_Values_S_api_Digest_api_Digest #[(Value.slice s_1.1 s_1.2.1 s_1.2.2)] [.any] false w_3 fun (t13 : Value) w_4 =>
    R (.returned t13) w_4)
theorem eq_blob_Store_All (s : Option Addr) (R : Ending → World → Prop) (w : World) : tr P qs ((Tryd.f24.body).getD .skip) ann_blob_Store_All (env0 0 [(0, (Value.pointer s))]) (topK P Tryd.f24.results.toList R) w = T_blob_Store_All s R w := by kernel_rfl
/-- (*veneer/blob.Store).All -/
theorem fn_blob_Store_All {s : Option Addr} {R : Ending → World → Prop} {w : World} (hT : T_blob_Store_All s R w) : CallF P F_blob_Store_All #[(Value.pointer s)] w R :=
  fn_of_tr (fn := Tryd.f24) (c := (Tryd.f24.body).getD .skip) (ann := ann_blob_Store_All) (args := [(0, (Value.pointer s))]) (qs := qs) mixed Tryd.func24 rfl (by kernel_rfl) (by kernel_rfl) ok_blob_Store_All ((eq_blob_Store_All s R w).symm ▸ hT)
def ann_r05_Store_Put : Ann := (.seq .leaf (.seq .leaf (.seq (.seq .leaf (.cond (.seq .leaf .leaf) .leaf)) (.seq .leaf .leaf))))
theorem ok_r05_Store_Put : okC P qs Tryd.f30.ntmps ((Tryd.f30.body).getD .skip) ann_r05_Store_Put = true := by kernel_rfl
def T_r05_Store_Put (s : Option Addr) (b : Option Addr) (b_l b_c : Nat) (R : Ending → World → Prop) (w : World) : Prop :=
    newB (zc P y_api_Digest) y_api_Digest w fun b4 w_1 =>
    genL P (Instr.buildSlice y_S_S_uint8 1 #[(0, (Value.slice b b_l b_c))]) .slc w_1 fun (t9 : (Option Addr × Nat × Nat)) w_2 =>
    callF P F_r05_Store_PutAll #[(Value.pointer s), (Value.slice t9.1 t9.2.1 t9.2.2)] [.int .i64] false w_2 fun (t10 : Int) w_3 =>
    iteP (t10 != 0) (
    genQ P (Instr.build y_api_Digest #[]) .any w_3 fun (t13 : Value) =>
    genU P (storeVar y_api_Digest (⟨b4, 0, none⟩ : Addr) t13) w_3 fun w_4 =>
    ldA P 32 (⟨b4, 0, none⟩ : Addr) w_4 fun t4 =>
    R (.returned (Value.tuple #[(Value.agg t4), (Value.int .i64 t10)])) w_4) (
    callF P F_r01_Sum #[(Value.slice b b_l b_c)] [.any] false w_3 fun (t16 : Value) w_5 =>
    genU P (storeVar y_api_Digest (⟨b4, 0, none⟩ : Addr) t16) w_5 fun w_6 =>
    ldA P 32 (⟨b4, 0, none⟩ : Addr) w_6 fun t4_1 =>
    R (.returned (Value.tuple #[(Value.agg t4_1), (Value.int .i64 0)])) w_6)
theorem eq_r05_Store_Put (s : Option Addr) (b : Option Addr) (b_l b_c : Nat) (R : Ending → World → Prop) (w : World) : tr P qs ((Tryd.f30.body).getD .skip) ann_r05_Store_Put (env0 0 [(0, (Value.pointer s)), (0, (Value.slice b b_l b_c))]) (topK P Tryd.f30.results.toList R) w = T_r05_Store_Put s b b_l b_c R w := by kernel_rfl
/-- (*veneer/veneerref05.Store).Put -/
theorem fn_r05_Store_Put {s : Option Addr} {b : Option Addr} {b_l b_c : Nat} {R : Ending → World → Prop} {w : World} (hT : T_r05_Store_Put s b b_l b_c R w) : CallF P F_r05_Store_Put #[(Value.pointer s), (Value.slice b b_l b_c)] w R :=
  fn_of_tr (fn := Tryd.f30) (c := (Tryd.f30.body).getD .skip) (ann := ann_r05_Store_Put) (args := [(0, (Value.pointer s)), (0, (Value.slice b b_l b_c))]) (qs := qs) mixed Tryd.func30 rfl (by kernel_rfl) (by kernel_rfl) ok_r05_Store_Put ((eq_r05_Store_Put s b b_l b_c R w).symm ▸ hT)
def ann_r05_Store_Get : Ann := (.seq .leaf (.seq .leaf (.seq (.seq .leaf (.cond (.seq .leaf .leaf) .leaf)) (.seq (.seq (.tree (.op 0 [] (.op 1 [] (.op 2 [] (.op 4 [] (.op 3 [] (.op 5 [] (.op 6 [] (.op 7 [] (.op 9 [] (.op 8 [9] (.op 10 [] .done)))))))))))) (.cond (.seq .leaf .leaf) .leaf)) (.seq .leaf .leaf)))))
theorem ok_r05_Store_Get : okC P qs Tryd.f31.ntmps ((Tryd.f31.body).getD .skip) ann_r05_Store_Get = true := by kernel_rfl
def T_r05_Store_Get (s : Option Addr) (d : Value) (R : Ending → World → Prop) (w : World) : Prop :=
    newB (Value.cells d) y_api_Digest w fun b3 w_1 =>
    ldA P 32 (⟨b3, 0, none⟩ : Addr) w_1 fun t10 =>
    callF P F_r05_Store_find #[(Value.pointer s), (Value.agg t10)] [.int .i64, .bool] true w_1 fun (t11 : (Int × Bool)) w_2 =>
    iteP (!t11.2) (
    R (.returned (Value.tuple #[(Value.slice none 0 0), (Value.int .i64 50)])) w_2) (
    drewP w_2 fun w_3 =>
    withAddr s fun p =>
    ld .slc (Addr.add p 1) w_3 fun (t19 : (Option Addr × Nat × Nat)) =>
    ixS t19.1 t19.2.1 33 t11.1 fun t21 =>
    ld .slc (Addr.add t21 32) w_3 fun (t23 : (Option Addr × Nat × Nat)) =>
    ldA P 32 (⟨b3, 0, none⟩ : Addr) w_3 fun t25 =>
    callF P F_r01_Sum #[(Value.slice t23.1 t23.2.1 t23.2.2)] [.any] false w_3 fun (t24 : Value) w_4 =>
    ((ldA P 32 (⟨b3, 0, none⟩ : Addr) w_4 fun t25_1 =>
    (Value.agg t25_1) = (Value.agg t25)) ∧
    genQ P (eqM .neq y_api_Digest (.tmp 24) (.tmp 25) t24 (Value.agg t25)) .bool w_4 fun (t26 : Bool) =>
    iteP t26 (
    R (.returned (Value.tuple #[(Value.slice none 0 0), (Value.int .i64 51)])) w_4) (
    genL P (Instr.buildSlice y_S_uint8 0 #[]) .slc w_4 fun (t27 : (Option Addr × Nat × Nat)) w_5 =>
    withAddr s fun p_1 =>
    ld .slc (Addr.add p_1 1) w_5 fun (t31 : (Option Addr × Nat × Nat)) =>
    ixS t31.1 t31.2.1 33 t11.1 fun t33 =>
    ld .slc (Addr.add t33 32) w_5 fun (t35 : (Option Addr × Nat × Nat)) =>
    genL P (Builtin.append_ #[y_S_uint8, y_S_uint8] y_S_uint8 #[(Value.slice t27.1 t27.2.1 t27.2.2), (Value.slice t35.1 t35.2.1 t35.2.2)]) .slc w_5 fun (t36 : (Option Addr × Nat × Nat)) w_6 =>
    R (.returned (Value.tuple #[(Value.slice t36.1 t36.2.1 t36.2.2), (Value.int .i64 0)])) w_6)))
theorem eq_r05_Store_Get (s : Option Addr) (d : Value) (R : Ending → World → Prop) (w : World) : tr P qs ((Tryd.f31.body).getD .skip) ann_r05_Store_Get (env0 0 [(0, (Value.pointer s)), (1, d)]) (topK P Tryd.f31.results.toList R) w = T_r05_Store_Get s d R w := by kernel_rfl
/-- (*veneer/veneerref05.Store).Get -/
theorem fn_r05_Store_Get {s : Option Addr} {d : Value} {R : Ending → World → Prop} {w : World} (hT : T_r05_Store_Get s d R w) : CallF P F_r05_Store_Get #[(Value.pointer s), d] w R :=
  fn_of_tr (fn := Tryd.f31) (c := (Tryd.f31.body).getD .skip) (ann := ann_r05_Store_Get) (args := [(0, (Value.pointer s)), (1, d)]) (qs := qs) mixed Tryd.func31 rfl (by kernel_rfl) (by kernel_rfl) ok_r05_Store_Get ((eq_r05_Store_Get s d R w).symm ▸ hT)
def ann_r05_Store_Drop : Ann := (.seq .leaf (.seq .leaf (.seq (.seq .leaf (.cond (.seq .leaf .leaf) .leaf)) (.seq (.tree (.op 0 [] (.op 2 [] (.op 3 [] (.op 4 [] (.op 6 [] (.op 9 [] (.op 10 [] (.op 11 [] (.op 13 [] (.op 14 [] (.op 5 [] (.op 7 [] (.op 12 [] (.op 15 [] (.op 1 [5, 7, 12, 15] (.op 8 [12, 15] (.op 16 [] (.op 17 [] (.op 18 [] (.op 19 [] .done))))))))))))))))))))) (.seq .leaf .leaf)))))
theorem ok_r05_Store_Drop : okC P qs Tryd.f32.ntmps ((Tryd.f32.body).getD .skip) ann_r05_Store_Drop = true := by kernel_rfl
def T_r05_Store_Drop (s : Option Addr) (d : Value) (R : Ending → World → Prop) (w : World) : Prop :=
    newB (Value.cells d) y_api_Digest w fun b3 w_1 =>
    ldA P 32 (⟨b3, 0, none⟩ : Addr) w_1 fun t9 =>
    callF P F_r05_Store_find #[(Value.pointer s), (Value.agg t9)] [.int .i64, .bool] true w_1 fun (t10 : (Int × Bool)) w_2 =>
    iteP (!t10.2) (
    R (.returned (Value.int .i64 50)) w_2) (
    drewP w_2 fun w_3 =>
    withAddr s fun p =>
    withAddr s fun p_1 =>
    addI .i64 t10.1 1 fun t29 =>
    ld .slc (Addr.add p 1) w_3 fun (t20 : (Option Addr × Nat × Nat)) =>
    genQ P (Instr.sliceAt y_S_r05_Blob (Value.slice t20.1 t20.2.1 t20.2.2) none (some (Value.int .i64 t10.1)) none) .slc w_3 fun (t22 : (Option Addr × Nat × Nat)) =>
    ld .slc (Addr.add p_1 1) w_3 fun (t27 : (Option Addr × Nat × Nat)) =>
    genQ P (Instr.sliceAt y_S_r05_Blob (Value.slice t27.1 t27.2.1 t27.2.2) (some (Value.int .i64 t29)) none none) .slc w_3 fun (t30 : (Option Addr × Nat × Nat)) =>
    genL P (Instr.buildSlice y_S_r05_Blob 0 #[]) .slc w_3 fun (t16 : (Option Addr × Nat × Nat)) w_4 =>
    ((genQ P (Instr.sliceAt y_S_r05_Blob (Value.slice t27.1 t27.2.1 t27.2.2) (some (Value.int .i64 t29)) none none) .slc w_4 fun (t30_1 : (Option Addr × Nat × Nat)) =>
    (Value.slice t30_1.1 t30_1.2.1 t30_1.2.2) = (Value.slice t30.1 t30.2.1 t30.2.2)) ∧
    ((ld .slc (Addr.add p_1 1) w_4 fun (t27_1 : (Option Addr × Nat × Nat)) =>
    (Value.slice t27_1.1 t27_1.2.1 t27_1.2.2) = (Value.slice t27.1 t27.2.1 t27.2.2)) ∧
    ((genQ P (Instr.sliceAt y_S_r05_Blob (Value.slice t20.1 t20.2.1 t20.2.2) none (some (Value.int .i64 t10.1)) none) .slc w_4 fun (t22_1 : (Option Addr × Nat × Nat)) =>
    (Value.slice t22_1.1 t22_1.2.1 t22_1.2.2) = (Value.slice t22.1 t22.2.1 t22.2.2)) ∧
    ((ld .slc (Addr.add p 1) w_4 fun (t20_1 : (Option Addr × Nat × Nat)) =>
    (Value.slice t20_1.1 t20_1.2.1 t20_1.2.2) = (Value.slice t20.1 t20.2.1 t20.2.2)) ∧
    genL P (Builtin.append_ #[y_S_r05_Blob, y_S_r05_Blob] y_S_r05_Blob #[(Value.slice t16.1 t16.2.1 t16.2.2), (Value.slice t22.1 t22.2.1 t22.2.2)]) .slc w_4 fun (t23 : (Option Addr × Nat × Nat)) w_5 =>
    ((genQ P (Instr.sliceAt y_S_r05_Blob (Value.slice t27.1 t27.2.1 t27.2.2) (some (Value.int .i64 t29)) none none) .slc w_5 fun (t30_2 : (Option Addr × Nat × Nat)) =>
    (Value.slice t30_2.1 t30_2.2.1 t30_2.2.2) = (Value.slice t30.1 t30.2.1 t30.2.2)) ∧
    ((ld .slc (Addr.add p_1 1) w_5 fun (t27_2 : (Option Addr × Nat × Nat)) =>
    (Value.slice t27_2.1 t27_2.2.1 t27_2.2.2) = (Value.slice t27.1 t27.2.1 t27.2.2)) ∧
    genL P (Builtin.append_ #[y_S_r05_Blob, y_S_r05_Blob] y_S_r05_Blob #[(Value.slice t23.1 t23.2.1 t23.2.2), (Value.slice t30.1 t30.2.1 t30.2.2)]) .slc w_5 fun (t31 : (Option Addr × Nat × Nat)) w_6 =>
    withAddr s fun p_2 =>
    stC (Addr.add p_2 1) (Value.slice t31.1 t31.2.1 t31.2.2) w_6 fun w_7 =>
    R (.returned (Value.int .i64 0)) w_7)))))))
theorem eq_r05_Store_Drop (s : Option Addr) (d : Value) (R : Ending → World → Prop) (w : World) : tr P qs ((Tryd.f32.body).getD .skip) ann_r05_Store_Drop (env0 0 [(0, (Value.pointer s)), (1, d)]) (topK P Tryd.f32.results.toList R) w = T_r05_Store_Drop s d R w := by kernel_rfl
/-- (*veneer/veneerref05.Store).Drop -/
theorem fn_r05_Store_Drop {s : Option Addr} {d : Value} {R : Ending → World → Prop} {w : World} (hT : T_r05_Store_Drop s d R w) : CallF P F_r05_Store_Drop #[(Value.pointer s), d] w R :=
  fn_of_tr (fn := Tryd.f32) (c := (Tryd.f32.body).getD .skip) (ann := ann_r05_Store_Drop) (args := [(0, (Value.pointer s)), (1, d)]) (qs := qs) mixed Tryd.func32 rfl (by kernel_rfl) (by kernel_rfl) ok_r05_Store_Drop ((eq_r05_Store_Drop s d R w).symm ▸ hT)
def ann_r05_Store_Spoil : Ann := (.seq .leaf (.seq .leaf (.seq (.seq .leaf (.cond (.seq .leaf .leaf) .leaf)) (.join [] (.seq .leaf (.cond (.seq .leaf .leaf) .leaf)) (.seq .leaf (.seq .leaf .leaf))))))
theorem ok_r05_Store_Spoil : okC P qs Tryd.f33.ntmps ((Tryd.f33.body).getD .skip) ann_r05_Store_Spoil = true := by kernel_rfl
def T_r05_Store_Spoil (s : Option Addr) (d : Value) (atv : Int) (turn : Int) (R : Ending → World → Prop) (w : World) : Prop :=
    newB (Value.cells d) y_api_Digest w fun b5 w_1 =>
    ldA P 32 (⟨b5, 0, none⟩ : Addr) w_1 fun t13 =>
    callF P F_r05_Store_find #[(Value.pointer s), (Value.agg t13)] [.int .i64, .bool] true w_1 fun (t14 : (Int × Bool)) w_2 =>
    iteP (!t14.2) (
    R (.returned (Value.int .i64 50)) w_2) (
    joinP Unit (fun k =>
    iteP (decide (atv < 0)) (
    R (.returned (Value.int .i64 1)) w_2) (
    withAddr s fun p =>
    ld .slc (Addr.add p 1) w_2 fun (t26 : (Option Addr × Nat × Nat)) =>
    ixS t26.1 t26.2.1 33 t14.1 fun t28 =>
    ld .slc (Addr.add t28 32) w_2 fun (t30 : (Option Addr × Nat × Nat)) =>
    iteP (decide (atv ≥ (t30.2.1 : Int))) (
    R (.returned (Value.int .i64 1)) w_2) (
    iteP (turn == 0) (
    R (.returned (Value.int .i64 1)) w_2) (
    k () w_2)))) (fun _ w_3 =>
    withAddr s fun p_1 =>
    ld .slc (Addr.add p_1 1) w_3 fun (t41 : (Option Addr × Nat × Nat)) =>
    ixS t41.1 t41.2.1 33 t14.1 fun t43 =>
    ld .slc (Addr.add t43 32) w_3 fun (t45 : (Option Addr × Nat × Nat)) =>
    ixS t45.1 t45.2.1 1 atv fun t47 =>
    ld (.int .u8) t47 w_3 fun (t48 : Int) =>
    xorI .u8 t48 turn fun t50 =>
    ixS t45.1 t45.2.1 1 atv fun t51 =>
    stC t51 (Value.int .u8 t50) w_3 fun w_4 =>
    R (.returned (Value.int .i64 0)) w_4))
theorem eq_r05_Store_Spoil (s : Option Addr) (d : Value) (atv : Int) (turn : Int) (R : Ending → World → Prop) (w : World) : tr P qs ((Tryd.f33.body).getD .skip) ann_r05_Store_Spoil (env0 0 [(0, (Value.pointer s)), (1, d), (0, (Value.int .i64 atv)), (0, (Value.int .u8 turn))]) (topK P Tryd.f33.results.toList R) w = T_r05_Store_Spoil s d atv turn R w := by kernel_rfl
/-- (*veneer/veneerref05.Store).Spoil -/
theorem fn_r05_Store_Spoil {s : Option Addr} {d : Value} {atv : Int} {turn : Int} {R : Ending → World → Prop} {w : World} (hT : T_r05_Store_Spoil s d atv turn R w) : CallF P F_r05_Store_Spoil #[(Value.pointer s), d, (Value.int .i64 atv), (Value.int .u8 turn)] w R :=
  fn_of_tr (fn := Tryd.f33) (c := (Tryd.f33.body).getD .skip) (ann := ann_r05_Store_Spoil) (args := [(0, (Value.pointer s)), (1, d), (0, (Value.int .i64 atv)), (0, (Value.int .u8 turn))]) (qs := qs) mixed Tryd.func33 rfl (by kernel_rfl) (by kernel_rfl) ok_r05_Store_Spoil ((eq_r05_Store_Spoil s d atv turn R w).symm ▸ hT)
def ann_r05_Store_PutAll : Ann := (.seq .leaf (.seq (.seq .leaf (.blk (.loop [(5, .int .i64)] (.seq (.seq .leaf (.cond .leaf .leaf)) (.seq (.blk (.seq .leaf (.cond (.seq .leaf .leaf) .leaf))) .leaf))))) (.seq .leaf (.seq (.seq .leaf (.blk (.loop [(7, .int .i64)] (.seq (.seq .leaf (.cond .leaf .leaf)) (.join [] (.jblk [] (.seq .leaf (.seq .leaf (.seq .leaf (.cond (.seq .leaf (.seq (.tree (.op 0 [] (.op 3 [] (.op 4 [] (.op 5 [] (.op 1 [] (.op 6 [] (.op 2 [1, 6] (.op 7 [1] (.op 8 [] (.op 9 [] (.op 10 [] (.op 11 [] .done))))))))))))) .leaf)) (.seq (.tree (.op 0 [] (.op 1 [] (.op 2 [] (.op 4 [] (.op 3 [] (.op 5 [] (.op 6 [] (.op 7 [] (.op 9 [] (.op 8 [9] (.op 10 [] .done)))))))))))) (.cond (.tree (.op 0 [] (.op 1 [] (.op 2 [] (.op 4 [] (.op 6 [] (.op 7 [] (.op 8 [] (.op 3 [] (.op 9 [] (.op 5 [3, 9] (.op 10 [3] (.op 11 [] (.op 12 [] (.op 13 [] .done))))))))))))))) .leaf))))))) .leaf))))) (.seq (.seq (.tree (.op 0 [] (.op 1 [] (.op 3 [] (.op 4 [] (.op 5 [] (.op 7 [] (.op 6 [] (.op 2 [6] (.op 8 [6] (.op 9 [] (.op 10 [] .done)))))))))))) (.cond (.seq .leaf .leaf) .leaf)) (.seq .leaf (.seq .leaf .leaf)))))))
theorem ok_r05_Store_PutAll : okC P qs Tryd.f34.ntmps ((Tryd.f34.body).getD .skip) ann_r05_Store_PutAll = true := by kernel_rfl
def T_r05_Store_PutAll (s : Option Addr) (list : Option Addr) (list_l list_c : Nat) (R : Ending → World → Prop) (w : World) : Prop :=
    loopP Int (fun s_1 w_1 k =>
    iteP (decide (s_1 < (list_l : Int))) (
    ixS list list_l 1 s_1 fun t20 =>
    ld .slc t20 w_1 fun (t21 : (Option Addr × Nat × Nat)) =>
    iteP (decide ((t21.2.1 : Int) > 4096)) (
    R (.returned (Value.int .i64 2)) w_1) (
    addI .i64 s_1 1 fun t17 =>
    k t17 w_1)) (
    callF P F_r05_Store_Clone #[(Value.pointer s)] [.ptr] false w_1 fun (t25 : (Option Addr)) w_2 =>
    loopP Int (fun s_2 w_3 k_1 =>
    iteP (decide (s_2 < (list_l : Int))) (
    joinP Unit (fun k_2 =>
    joinP Unit (fun k_3 =>
    ixS list list_l 1 s_2 fun t34 =>
    ld .slc t34 w_3 fun (t35 : (Option Addr × Nat × Nat)) =>
    callF P F_r01_Sum #[(Value.slice t35.1 t35.2.1 t35.2.2)] [.any] false w_3 fun (t36 : Value) w_4 =>
    newB (zc P y_api_Digest) y_api_Digest w_4 fun b8 w_5 =>
    genU P (storeVar y_api_Digest (⟨b8, 0, none⟩ : Addr) t36) w_5 fun w_6 =>
    ldA P 32 (⟨b8, 0, none⟩ : Addr) w_6 fun t39 =>
    callF P F_r05_Store_find #[(Value.pointer t25), (Value.agg t39)] [.int .i64, .bool] true w_6 fun (t40 : (Int × Bool)) w_7 =>
    iteP (!t40.2) (
    genL P (Instr.buildSlice y_S_r05_Blob 0 #[]) .slc w_7 fun (t45 : (Option Addr × Nat × Nat)) w_8 =>
    withAddr t25 fun p =>
    ld .slc (Addr.add p 1) w_8 fun (t49 : (Option Addr × Nat × Nat)) =>
    genQ P (Instr.sliceAt y_S_r05_Blob (Value.slice t49.1 t49.2.1 t49.2.2) none (some (Value.int .i64 t40.1)) none) .slc w_8 fun (t51 : (Option Addr × Nat × Nat)) =>
    genL P (Builtin.append_ #[y_S_r05_Blob, y_S_r05_Blob] y_S_r05_Blob #[(Value.slice t45.1 t45.2.1 t45.2.2), (Value.slice t51.1 t51.2.1 t51.2.2)]) .slc w_8 fun (t52 : (Option Addr × Nat × Nat)) w_9 =>
    drewP w_9 fun w_10 =>
    ixS list list_l 1 s_2 fun t58 =>
    ldA P 32 (⟨b8, 0, none⟩ : Addr) w_10 fun t54 =>
    ld .slc t58 w_10 fun (t59 : (Option Addr × Nat × Nat)) =>
    genL P (Instr.buildSlice y_S_uint8 0 #[]) .slc w_10 fun (t55 : (Option Addr × Nat × Nat)) w_11 =>
    ((ld .slc t58 w_11 fun (t59_1 : (Option Addr × Nat × Nat)) =>
    (Value.slice t59_1.1 t59_1.2.1 t59_1.2.2) = (Value.slice t59.1 t59.2.1 t59.2.2)) ∧
    ((ldA P 32 (⟨b8, 0, none⟩ : Addr) w_11 fun t54_1 =>
    (Value.agg t54_1) = (Value.agg t54)) ∧
    genL P (Builtin.append_ #[y_S_uint8, y_S_uint8] y_S_uint8 #[(Value.slice t55.1 t55.2.1 t55.2.2), (Value.slice t59.1 t59.2.1 t59.2.2)]) .slc w_11 fun (t60 : (Option Addr × Nat × Nat)) w_12 =>
    ((ldA P 32 (⟨b8, 0, none⟩ : Addr) w_12 fun t54_2 =>
    (Value.agg t54_2) = (Value.agg t54)) ∧
    genQ P (Instr.build y_r05_Blob #[(0, (Value.agg t54)), (1, (Value.slice t60.1 t60.2.1 t60.2.2))]) .any w_12 fun (t61 : Value) =>
    genL P (Instr.buildSlice y_S_r05_Blob 1 #[(0, t61)]) .slc w_12 fun (t62 : (Option Addr × Nat × Nat)) w_13 =>
    genL P (Builtin.append_ #[y_S_r05_Blob, y_S_r05_Blob] y_S_r05_Blob #[(Value.slice t52.1 t52.2.1 t52.2.2), (Value.slice t62.1 t62.2.1 t62.2.2)]) .slc w_13 fun (t63 : (Option Addr × Nat × Nat)) w_14 =>
    withAddr t25 fun p_1 =>
    ld .slc (Addr.add p_1 1) w_14 fun (t69 : (Option Addr × Nat × Nat)) =>
    genQ P (Instr.sliceAt y_S_r05_Blob (Value.slice t69.1 t69.2.1 t69.2.2) (some (Value.int .i64 t40.1)) none none) .slc w_14 fun (t71 : (Option Addr × Nat × Nat)) =>
    genL P (Builtin.append_ #[y_S_r05_Blob, y_S_r05_Blob] y_S_r05_Blob #[(Value.slice t63.1 t63.2.1 t63.2.2), (Value.slice t71.1 t71.2.1 t71.2.2)]) .slc w_14 fun (t72 : (Option Addr × Nat × Nat)) w_15 =>
    withAddr t25 fun p_2 =>
    stC (Addr.add p_2 1) (Value.slice t72.1 t72.2.1 t72.2.2) w_15 fun w_16 =>
    k_3 () w_16)))) (
    drewP w_7 fun w_17 =>
    withAddr t25 fun p_3 =>
    ld .slc (Addr.add p_3 1) w_17 fun (t78 : (Option Addr × Nat × Nat)) =>
    ixS t78.1 t78.2.1 33 t40.1 fun t80 =>
    ld .slc (Addr.add t80 32) w_17 fun (t82 : (Option Addr × Nat × Nat)) =>
    ldA P 32 (⟨b8, 0, none⟩ : Addr) w_17 fun t84 =>
    callF P F_r01_Sum #[(Value.slice t82.1 t82.2.1 t82.2.2)] [.any] false w_17 fun (t83 : Value) w_18 =>
    ((ldA P 32 (⟨b8, 0, none⟩ : Addr) w_18 fun t84_1 =>
    (Value.agg t84_1) = (Value.agg t84)) ∧
    genQ P (eqM .neq y_api_Digest (.tmp 83) (.tmp 84) t83 (Value.agg t84)) .bool w_18 fun (t85 : Bool) =>
    iteP t85 (
    drewP w_18 fun w_19 =>
    withAddr t25 fun p_4 =>
    ixS list list_l 1 s_2 fun t94 =>
    ld .slc (Addr.add p_4 1) w_19 fun (t89 : (Option Addr × Nat × Nat)) =>
    ld .slc t94 w_19 fun (t95 : (Option Addr × Nat × Nat)) =>
    genL P (Instr.buildSlice y_S_uint8 0 #[]) .slc w_19 fun (t91 : (Option Addr × Nat × Nat)) w_20 =>
    ((ld .slc t94 w_20 fun (t95_1 : (Option Addr × Nat × Nat)) =>
    (Value.slice t95_1.1 t95_1.2.1 t95_1.2.2) = (Value.slice t95.1 t95.2.1 t95.2.2)) ∧
    ((ld .slc (Addr.add p_4 1) w_20 fun (t89_1 : (Option Addr × Nat × Nat)) =>
    (Value.slice t89_1.1 t89_1.2.1 t89_1.2.2) = (Value.slice t89.1 t89.2.1 t89.2.2)) ∧
    genL P (Builtin.append_ #[y_S_uint8, y_S_uint8] y_S_uint8 #[(Value.slice t91.1 t91.2.1 t91.2.2), (Value.slice t95.1 t95.2.1 t95.2.2)]) .slc w_20 fun (t96 : (Option Addr × Nat × Nat)) w_21 =>
    ((ld .slc (Addr.add p_4 1) w_21 fun (t89_2 : (Option Addr × Nat × Nat)) =>
    (Value.slice t89_2.1 t89_2.2.1 t89_2.2.2) = (Value.slice t89.1 t89.2.1 t89.2.2)) ∧
    ixS t89.1 t89.2.1 33 t40.1 fun t97 =>
    stC (Addr.add t97 32) (Value.slice t96.1 t96.2.1 t96.2.2) w_21 fun w_22 =>
    k_3 () w_22)))) (
    k_3 () w_18)))) (fun _ w_23 =>
    k_2 () w_23)) (fun _ w_24 =>
    addI .i64 s_2 1 fun t31 =>
    k_1 t31 w_24)) (
    drewP w_3 fun w_25 =>
    withAddr s fun p_5 =>
    ld (.int .i64) p_5 w_25 fun (t105 : Int) =>
    callF P F_r05_Store_fresh #[(Value.pointer t25), (Value.pointer s)] [.int .i64] false w_25 fun (t101 : Int) w_26 =>
    ((ld (.int .i64) p_5 w_26 fun (t105_1 : Int) =>
    (Value.int .i64 t105_1) = (Value.int .i64 t105)) ∧
    callF P F_r05_Store_Bytes #[(Value.pointer s)] [.int .i64] false w_26 fun (t107 : Int) w_27 =>
    ((ld (.int .i64) p_5 w_27 fun (t105_2 : Int) =>
    (Value.int .i64 t105_2) = (Value.int .i64 t105)) ∧
    subI .i64 t105 t107 fun t108 =>
    iteP (decide (t101 > t108)) (
    R (.returned (Value.int .i64 3)) w_27) (
    withAddr t25 fun p_6 =>
    ld .slc (Addr.add p_6 1) w_27 fun (t114 : (Option Addr × Nat × Nat)) =>
    withAddr s fun p_7 =>
    stC (Addr.add p_7 1) (Value.slice t114.1 t114.2.1 t114.2.2) w_27 fun w_28 =>
    R (.returned (Value.int .i64 0)) w_28))))) 0 w_2)) 0 w
theorem eq_r05_Store_PutAll (s : Option Addr) (list : Option Addr) (list_l list_c : Nat) (R : Ending → World → Prop) (w : World) : tr P qs ((Tryd.f34.body).getD .skip) ann_r05_Store_PutAll (env0 0 [(0, (Value.pointer s)), (0, (Value.slice list list_l list_c))]) (topK P Tryd.f34.results.toList R) w = T_r05_Store_PutAll s list list_l list_c R w := by kernel_rfl
/-- (*veneer/veneerref05.Store).PutAll -/
theorem fn_r05_Store_PutAll {s : Option Addr} {list : Option Addr} {list_l list_c : Nat} {R : Ending → World → Prop} {w : World} (hT : T_r05_Store_PutAll s list list_l list_c R w) : CallF P F_r05_Store_PutAll #[(Value.pointer s), (Value.slice list list_l list_c)] w R :=
  fn_of_tr (fn := Tryd.f34) (c := (Tryd.f34.body).getD .skip) (ann := ann_r05_Store_PutAll) (args := [(0, (Value.pointer s)), (0, (Value.slice list list_l list_c))]) (qs := qs) mixed Tryd.func34 rfl (by kernel_rfl) (by kernel_rfl) ok_r05_Store_PutAll ((eq_r05_Store_PutAll s list list_l list_c R w).symm ▸ hT)
def ann_r05_Store_find : Ann := (.seq .leaf (.seq .leaf (.seq (.jblk [(6, .int .i64)] (.loop [(6, .int .i64)] (.join [] (.seq (.tree (.op 0 [] (.op 1 [] (.op 2 [] (.op 3 [] (.op 4 [] (.op 5 [] (.op 6 [] (.op 7 [] (.op 8 [] (.op 9 [] (.op 10 [] (.op 12 [] (.op 11 [] (.op 13 [] (.op 14 [] (.op 15 [] (.op 16 [] (.op 17 [] (.op 18 [] (.op 19 [] .done))))))))))))))))))))) (.cond .leaf .leaf)) (.blk .leaf)))) (.seq (.tree (.op 0 [] (.op 1 [] (.op 2 [] (.op 3 [] (.op 4 [] (.op 5 [] (.op 6 [] (.op 7 [] (.op 8 [] (.op 9 [] (.op 10 [] (.op 11 [] (.op 13 [] (.op 20 [] (.op 12 [] (.op 14 [] (.op 15 [] (.op 16 [] (.op 17 [] (.op 18 [] (.op 19 [] (.op 21 [] .done))))))))))))))))))))))) .leaf))))
theorem ok_r05_Store_find : okC P qs Tryd.f35.ntmps ((Tryd.f35.body).getD .skip) ann_r05_Store_find = true := by kernel_rfl
def T_r05_Store_find (s : Option Addr) (d : Value) (R : Ending → World → Prop) (w : World) : Prop :=
    newB (Value.cells d) y_api_Digest w fun b3 w_1 =>
    joinP Int (fun k =>
    loopP Int (fun s_1 w_2 k_1 =>
    joinP Unit (fun k_2 =>
    drewP w_2 fun w_3 =>
    withAddr s fun p =>
    ld .slc (Addr.add p 1) w_3 fun (t11 : (Option Addr × Nat × Nat)) =>
    iteP (decide (s_1 < (t11.2.1 : Int))) (
    withAddr s fun p_1 =>
    ld .slc (Addr.add p_1 1) w_3 fun (t18 : (Option Addr × Nat × Nat)) =>
    ixS t18.1 t18.2.1 33 s_1 fun t20 =>
    ldA P 32 t20 w_3 fun t22 =>
    ldA P 32 (⟨b3, 0, none⟩ : Addr) w_3 fun t23 =>
    callF P F_r01_Compare #[(Value.agg t22), (Value.agg t23)] [.int .i64] false w_3 fun (t24 : Int) w_4 =>
    iteP (decide (t24 < 0)) (
    k_2 () w_4) (
    k s_1 w_4)) (
    k s_1 w_3)) (fun _ w_5 =>
    addI .i64 s_1 1 fun t28 =>
    k_1 t28 w_5)) 0 w_1) (fun s_3 w_6 =>
    drewP w_6 fun w_7 =>
    withAddr s fun p_2 =>
    ld .slc (Addr.add p_2 1) w_7 fun (t34 : (Option Addr × Nat × Nat)) =>
    iteP (decide (s_3 < (t34.2.1 : Int))) (
    withAddr s fun p_3 =>
    ld .slc (Addr.add p_3 1) w_7 fun (t41 : (Option Addr × Nat × Nat)) =>
    ixS t41.1 t41.2.1 33 s_3 fun t43 =>
    ldA P 32 t43 w_7 fun t45 =>
    ldA P 32 (⟨b3, 0, none⟩ : Addr) w_7 fun t46 =>
    genQ P (eqM .eql y_api_Digest (.tmp 45) (.tmp 46) (Value.agg t45) (Value.agg t46)) .bool w_7 fun (t47 : Bool) =>
    R (.returned (Value.tuple #[(Value.int .i64 s_3), (Value.bool t47)])) w_7) (
    R (.returned (Value.tuple #[(Value.int .i64 s_3), (Value.bool false)])) w_7))
theorem eq_r05_Store_find (s : Option Addr) (d : Value) (R : Ending → World → Prop) (w : World) : tr P qs ((Tryd.f35.body).getD .skip) ann_r05_Store_find (env0 0 [(0, (Value.pointer s)), (1, d)]) (topK P Tryd.f35.results.toList R) w = T_r05_Store_find s d R w := by kernel_rfl
/-- (*veneer/veneerref05.Store).find -/
theorem fn_r05_Store_find {s : Option Addr} {d : Value} {R : Ending → World → Prop} {w : World} (hT : T_r05_Store_find s d R w) : CallF P F_r05_Store_find #[(Value.pointer s), d] w R :=
  fn_of_tr (fn := Tryd.f35) (c := (Tryd.f35.body).getD .skip) (ann := ann_r05_Store_find) (args := [(0, (Value.pointer s)), (1, d)]) (qs := qs) mixed Tryd.func35 rfl (by kernel_rfl) (by kernel_rfl) ok_r05_Store_find ((eq_r05_Store_find s d R w).symm ▸ hT)
def ann_r05_Store_Bytes : Ann := (.seq .leaf (.seq .leaf (.seq (.seq .leaf (.blk (.loop [(3, .int .i64), (4, .int .i64)] (.seq (.seq .leaf (.cond .leaf .leaf)) (.seq (.blk .leaf) .leaf))))) (.seq .leaf .leaf))))
theorem ok_r05_Store_Bytes : okC P qs Tryd.f36.ntmps ((Tryd.f36.body).getD .skip) ann_r05_Store_Bytes = true := by kernel_rfl
def T_r05_Store_Bytes (s : Option Addr) (R : Ending → World → Prop) (w : World) : Prop :=
    loopP (Int × Int) (fun s_1 w_1 k =>
    withAddr s fun p =>
    ld .slc (Addr.add p 1) w_1 fun (t9 : (Option Addr × Nat × Nat)) =>
    iteP (decide (s_1.2 < (t9.2.1 : Int))) (
    withAddr s fun p_1 =>
    ld .slc (Addr.add p_1 1) w_1 fun (t18 : (Option Addr × Nat × Nat)) =>
    ixS t18.1 t18.2.1 33 s_1.2 fun t20 =>
    ld .slc (Addr.add t20 32) w_1 fun (t22 : (Option Addr × Nat × Nat)) =>
    addI .i64 s_1.1 (t22.2.1 : Int) fun t24 =>
    addI .i64 s_1.2 1 fun t13 =>
    k (t24, t13) w_1) (
    R (.returned (Value.int .i64 s_1.1)) w_1)) (0, 0) w
theorem eq_r05_Store_Bytes (s : Option Addr) (R : Ending → World → Prop) (w : World) : tr P qs ((Tryd.f36.body).getD .skip) ann_r05_Store_Bytes (env0 0 [(0, (Value.pointer s))]) (topK P Tryd.f36.results.toList R) w = T_r05_Store_Bytes s R w := by kernel_rfl
/-- (*veneer/veneerref05.Store).Bytes -/
theorem fn_r05_Store_Bytes {s : Option Addr} {R : Ending → World → Prop} {w : World} (hT : T_r05_Store_Bytes s R w) : CallF P F_r05_Store_Bytes #[(Value.pointer s)] w R :=
  fn_of_tr (fn := Tryd.f36) (c := (Tryd.f36.body).getD .skip) (ann := ann_r05_Store_Bytes) (args := [(0, (Value.pointer s))]) (qs := qs) mixed Tryd.func36 rfl (by kernel_rfl) (by kernel_rfl) ok_r05_Store_Bytes ((eq_r05_Store_Bytes s R w).symm ▸ hT)
def ann_slices_SortedFunc_api_Digest : Ann := (.seq .leaf (.seq .leaf (.seq .leaf (.seq .leaf .leaf))))
theorem ok_slices_SortedFunc_api_Digest : okC P qs Tryd.f37.ntmps ((Tryd.f37.body).getD .skip) ann_slices_SortedFunc_api_Digest = true := by kernel_rfl
def T_slices_SortedFunc_api_Digest (seq : Value) (cmp : Value) (R : Ending → World → Prop) (w : World) : Prop :=
    callF P F_slices_Collect_api_Digest #[seq] [.slc] false w fun (t7 : (Option Addr × Nat × Nat)) w_1 =>
    callF P F_slices_SortFunc_S_api_Digest_api_Digest #[(Value.slice t7.1 t7.2.1 t7.2.2), cmp] [] true w_1 fun (_ : Unit) w_2 =>
    R (.returned (Value.slice t7.1 t7.2.1 t7.2.2)) w_2
theorem eq_slices_SortedFunc_api_Digest (seq : Value) (cmp : Value) (R : Ending → World → Prop) (w : World) : tr P qs ((Tryd.f37.body).getD .skip) ann_slices_SortedFunc_api_Digest (env0 0 [(1, seq), (1, cmp)]) (topK P Tryd.f37.results.toList R) w = T_slices_SortedFunc_api_Digest seq cmp R w := by kernel_rfl
/-- slices.SortedFunc[veneer/api.Digest] -/
theorem fn_slices_SortedFunc_api_Digest {seq : Value} {cmp : Value} {R : Ending → World → Prop} {w : World} (hT : T_slices_SortedFunc_api_Digest seq cmp R w) : CallF P F_slices_SortedFunc_api_Digest #[seq, cmp] w R :=
  fn_of_tr (fn := Tryd.f37) (c := (Tryd.f37.body).getD .skip) (ann := ann_slices_SortedFunc_api_Digest) (args := [(1, seq), (1, cmp)]) (qs := qs) mixed Tryd.func37 rfl (by kernel_rfl) (by kernel_rfl) ok_slices_SortedFunc_api_Digest ((eq_slices_SortedFunc_api_Digest seq cmp R w).symm ▸ hT)
def ann_maps_Keys_M_api_Digest_S_byte_api_Digest_S_byte : Ann := (.seq .leaf (.seq .leaf .leaf))
theorem ok_maps_Keys_M_api_Digest_S_byte_api_Digest_S_byte : okC P qs Tryd.f38.ntmps ((Tryd.f38.body).getD .skip) ann_maps_Keys_M_api_Digest_S_byte_api_Digest_S_byte = true := by kernel_rfl
def T_maps_Keys_M_api_Digest_S_byte_api_Digest_S_byte (m : Option Nat) (R : Ending → World → Prop) (w : World) : Prop :=
    newB #[(Value.map m)] y_M_api_Digest_S_uint8 w fun b1 w_1 =>
    genQ P (Instr.makeFunc (Go.Fn.func F_maps_Keys_M_api_Digest_S_byte_api_Digest_S_byte_1) #[] #[(Value.pointer (some (⟨b1, 0, none⟩ : Addr)))]) .any w_1 fun (t3 : Value) =>
    R (.returned t3) w_1
theorem eq_maps_Keys_M_api_Digest_S_byte_api_Digest_S_byte (m : Option Nat) (R : Ending → World → Prop) (w : World) : tr P qs ((Tryd.f38.body).getD .skip) ann_maps_Keys_M_api_Digest_S_byte_api_Digest_S_byte (env0 0 [(0, (Value.map m))]) (topK P Tryd.f38.results.toList R) w = T_maps_Keys_M_api_Digest_S_byte_api_Digest_S_byte m R w := by kernel_rfl
/-- maps.Keys[map[veneer/api.Digest][]byte,veneer/api.Digest,[]byte] -/
theorem fn_maps_Keys_M_api_Digest_S_byte_api_Digest_S_byte {m : Option Nat} {R : Ending → World → Prop} {w : World} (hT : T_maps_Keys_M_api_Digest_S_byte_api_Digest_S_byte m R w) : CallF P F_maps_Keys_M_api_Digest_S_byte_api_Digest_S_byte #[(Value.map m)] w R :=
  fn_of_tr (fn := Tryd.f38) (c := (Tryd.f38.body).getD .skip) (ann := ann_maps_Keys_M_api_Digest_S_byte_api_Digest_S_byte) (args := [(0, (Value.map m))]) (qs := qs) mixed Tryd.func38 rfl (by kernel_rfl) (by kernel_rfl) ok_maps_Keys_M_api_Digest_S_byte_api_Digest_S_byte ((eq_maps_Keys_M_api_Digest_S_byte_api_Digest_S_byte m R w).symm ▸ hT)
def ann_sha_Compare : Ann := (.seq .leaf (.seq (.tree (.op 0 [] (.op 1 [] (.op 2 [] (.op 3 [] .done))))) .leaf))
theorem ok_sha_Compare : okC P qs Tryd.f39.ntmps ((Tryd.f39.body).getD .skip) ann_sha_Compare = true := by kernel_rfl
def T_sha_Compare (a : Value) (b : Value) (R : Ending → World → Prop) (w : World) : Prop :=
    newB (Value.cells a) y_api_Digest w fun b2 w_1 =>
    newB (Value.cells b) y_api_Digest w_1 fun b3 w_2 =>
    drewP w_2 fun w_3 =>
    genQ P (Instr.sliceAt y_api_Digest (Value.pointer (some (⟨b2, 0, none⟩ : Addr))) none none none) .slc w_3 fun (t5 : (Option Addr × Nat × Nat)) =>
    genQ P (Instr.sliceAt y_api_Digest (Value.pointer (some (⟨b3, 0, none⟩ : Addr))) none none none) .slc w_3 fun (t6 : (Option Addr × Nat × Nat)) =>
    callF P F_bytes_Compare #[(Value.slice t5.1 t5.2.1 t5.2.2), (Value.slice t6.1 t6.2.1 t6.2.2)] [.int .i64] false w_3 fun (t7 : Int) w_4 =>
    R (.returned (Value.int .i64 t7)) w_4
theorem eq_sha_Compare (a : Value) (b : Value) (R : Ending → World → Prop) (w : World) : tr P qs ((Tryd.f39.body).getD .skip) ann_sha_Compare (env0 0 [(1, a), (1, b)]) (topK P Tryd.f39.results.toList R) w = T_sha_Compare a b R w := by kernel_rfl
/-- veneer/sha.Compare -/
theorem fn_sha_Compare {a : Value} {b : Value} {R : Ending → World → Prop} {w : World} (hT : T_sha_Compare a b R w) : CallF P F_sha_Compare #[a, b] w R :=
  fn_of_tr (fn := Tryd.f39) (c := (Tryd.f39.body).getD .skip) (ann := ann_sha_Compare) (args := [(1, a), (1, b)]) (qs := qs) mixed Tryd.func39 rfl (by kernel_rfl) (by kernel_rfl) ok_sha_Compare ((eq_sha_Compare a b R w).symm ▸ hT)
def ann_slices_Values_S_api_Digest_api_Digest : Ann := (.seq .leaf (.seq .leaf .leaf))
theorem ok_slices_Values_S_api_Digest_api_Digest : okC P qs Tryd.f40.ntmps ((Tryd.f40.body).getD .skip) ann_slices_Values_S_api_Digest_api_Digest = true := by kernel_rfl
def T_slices_Values_S_api_Digest_api_Digest (s : Option Addr) (s_l s_c : Nat) (R : Ending → World → Prop) (w : World) : Prop :=
    newB #[(Value.slice s s_l s_c)] y_S_api_Digest w fun b1 w_1 =>
    genQ P (Instr.makeFunc (Go.Fn.func F_slices_Values_S_api_Digest_api_Digest_1) #[] #[(Value.pointer (some (⟨b1, 0, none⟩ : Addr)))]) .any w_1 fun (t3 : Value) =>
    R (.returned t3) w_1
theorem eq_slices_Values_S_api_Digest_api_Digest (s : Option Addr) (s_l s_c : Nat) (R : Ending → World → Prop) (w : World) : tr P qs ((Tryd.f40.body).getD .skip) ann_slices_Values_S_api_Digest_api_Digest (env0 0 [(0, (Value.slice s s_l s_c))]) (topK P Tryd.f40.results.toList R) w = T_slices_Values_S_api_Digest_api_Digest s s_l s_c R w := by kernel_rfl
/-- slices.Values[[]veneer/api.Digest,veneer/api.Digest] -/
theorem fn_slices_Values_S_api_Digest_api_Digest {s : Option Addr} {s_l s_c : Nat} {R : Ending → World → Prop} {w : World} (hT : T_slices_Values_S_api_Digest_api_Digest s s_l s_c R w) : CallF P F_slices_Values_S_api_Digest_api_Digest #[(Value.slice s s_l s_c)] w R :=
  fn_of_tr (fn := Tryd.f40) (c := (Tryd.f40.body).getD .skip) (ann := ann_slices_Values_S_api_Digest_api_Digest) (args := [(0, (Value.slice s s_l s_c))]) (qs := qs) mixed Tryd.func40 rfl (by kernel_rfl) (by kernel_rfl) ok_slices_Values_S_api_Digest_api_Digest ((eq_slices_Values_S_api_Digest_api_Digest s s_l s_c R w).symm ▸ hT)
def ann_r05_Store_fresh : Ann := (.seq .leaf (.seq .leaf (.seq (.seq .leaf (.blk (.loop [(5, .int .i64), (6, .int .i64)] (.seq (.seq .leaf (.cond .leaf .leaf)) (.seq (.jblk [(5, .int .i64)] (.seq .leaf (.seq .leaf (.cond .leaf .leaf)))) .leaf))))) (.seq .leaf .leaf))))
theorem ok_r05_Store_fresh : okC P qs Tryd.f44.ntmps ((Tryd.f44.body).getD .skip) ann_r05_Store_fresh = true := by kernel_rfl
def T_r05_Store_fresh (s : Option Addr) (o : Option Addr) (R : Ending → World → Prop) (w : World) : Prop :=
    loopP (Int × Int) (fun s_1 w_1 k =>
    withAddr s fun p =>
    ld .slc (Addr.add p 1) w_1 fun (t13 : (Option Addr × Nat × Nat)) =>
    iteP (decide (s_1.2 < (t13.2.1 : Int))) (
    joinP Int (fun k_1 =>
    withAddr s fun p_1 =>
    ld .slc (Addr.add p_1 1) w_1 fun (t23 : (Option Addr × Nat × Nat)) =>
    ixS t23.1 t23.2.1 33 s_1.2 fun t25 =>
    ldA P 32 t25 w_1 fun t27 =>
    callF P F_r05_Store_find #[(Value.pointer o), (Value.agg t27)] [.int .i64, .bool] true w_1 fun (t28 : (Int × Bool)) w_2 =>
    iteP (!t28.2) (
    withAddr s fun p_2 =>
    ld .slc (Addr.add p_2 1) w_2 fun (t37 : (Option Addr × Nat × Nat)) =>
    ixS t37.1 t37.2.1 33 s_1.2 fun t39 =>
    ld .slc (Addr.add t39 32) w_2 fun (t41 : (Option Addr × Nat × Nat)) =>
    addI .i64 s_1.1 (t41.2.1 : Int) fun t43 =>
    k_1 t43 w_2) (
    k_1 s_1.1 w_2)) (fun s_2 w_3 =>
    addI .i64 s_1.2 1 fun t17 =>
    k (s_2, t17) w_3)) (
    R (.returned (Value.int .i64 s_1.1)) w_1)) (0, 0) w
theorem eq_r05_Store_fresh (s : Option Addr) (o : Option Addr) (R : Ending → World → Prop) (w : World) : tr P qs ((Tryd.f44.body).getD .skip) ann_r05_Store_fresh (env0 0 [(0, (Value.pointer s)), (0, (Value.pointer o))]) (topK P Tryd.f44.results.toList R) w = T_r05_Store_fresh s o R w := by kernel_rfl
/-- (*veneer/veneerref05.Store).fresh -/
theorem fn_r05_Store_fresh {s : Option Addr} {o : Option Addr} {R : Ending → World → Prop} {w : World} (hT : T_r05_Store_fresh s o R w) : CallF P F_r05_Store_fresh #[(Value.pointer s), (Value.pointer o)] w R :=
  fn_of_tr (fn := Tryd.f44) (c := (Tryd.f44.body).getD .skip) (ann := ann_r05_Store_fresh) (args := [(0, (Value.pointer s)), (0, (Value.pointer o))]) (qs := qs) mixed Tryd.func44 rfl (by kernel_rfl) (by kernel_rfl) ok_r05_Store_fresh ((eq_r05_Store_fresh s o R w).symm ▸ hT)
def ann_r01_Compare : Ann := (.seq .leaf (.seq (.seq .leaf (.blk (.loop [(5, .int .i64)] (.seq (.seq .leaf (.cond .leaf .leaf)) (.seq (.blk (.seq (.seq (.tree (.op 0 [] (.op 1 [] (.op 3 [] (.op 4 [] (.op 2 [] (.op 5 [] (.op 6 [] .done)))))))) (.cond (.seq .leaf .leaf) .leaf)) (.seq (.tree (.op 0 [] (.op 1 [] (.op 3 [] (.op 4 [] (.op 2 [] (.op 5 [] (.op 6 [] .done)))))))) (.cond (.seq .leaf .leaf) .leaf)))) .leaf))))) (.seq .leaf .leaf)))
theorem ok_r01_Compare : okC P qs Tryd.f45.ntmps ((Tryd.f45.body).getD .skip) ann_r01_Compare = true := by kernel_rfl
def T_r01_Compare (a : Value) (b : Value) (R : Ending → World → Prop) (w : World) : Prop :=
    newB (Value.cells a) y_api_Digest w fun b2 w_1 =>
    newB (Value.cells b) y_api_Digest w_1 fun b3 w_2 =>
    loopP Int (fun s w_3 k =>
    iteP (decide (s < 32)) (
    drewP w_3 fun w_4 =>
    ixR (⟨b2, 0, none⟩ : Addr) 32 1 s fun t11 =>
    ixR (⟨b3, 0, none⟩ : Addr) 32 1 s fun t14 =>
    ld (.int .u8) t11 w_4 fun (t12 : Int) =>
    ld (.int .u8) t14 w_4 fun (t15 : Int) =>
    iteP (decide (t12 < t15)) (
    R (.returned (Value.int .i64 (-1))) w_4) (
    drewP w_4 fun w_5 =>
    ixR (⟨b2, 0, none⟩ : Addr) 32 1 s fun t18 =>
    ixR (⟨b3, 0, none⟩ : Addr) 32 1 s fun t21 =>
    ld (.int .u8) t18 w_5 fun (t19 : Int) =>
    ld (.int .u8) t21 w_5 fun (t22 : Int) =>
    iteP (decide (t19 > t22)) (
    R (.returned (Value.int .i64 1)) w_5) (
    addI .i64 s 1 fun t9 =>
    k t9 w_5))) (
    R (.returned (Value.int .i64 0)) w_3)) 0 w_2
theorem eq_r01_Compare (a : Value) (b : Value) (R : Ending → World → Prop) (w : World) : tr P qs ((Tryd.f45.body).getD .skip) ann_r01_Compare (env0 0 [(1, a), (1, b)]) (topK P Tryd.f45.results.toList R) w = T_r01_Compare a b R w := by kernel_rfl
/-- veneer/veneerref01.Compare -/
theorem fn_r01_Compare {a : Value} {b : Value} {R : Ending → World → Prop} {w : World} (hT : T_r01_Compare a b R w) : CallF P F_r01_Compare #[a, b] w R :=
  fn_of_tr (fn := Tryd.f45) (c := (Tryd.f45.body).getD .skip) (ann := ann_r01_Compare) (args := [(1, a), (1, b)]) (qs := qs) mixed Tryd.func45 rfl (by kernel_rfl) (by kernel_rfl) ok_r01_Compare ((eq_r01_Compare a b R w).symm ▸ hT)
def ann_slices_Collect_api_Digest : Ann := (.seq .leaf (.seq .leaf .leaf))
theorem ok_slices_Collect_api_Digest : okC P qs Tryd.f46.ntmps ((Tryd.f46.body).getD .skip) ann_slices_Collect_api_Digest = true := by kernel_rfl
def T_slices_Collect_api_Digest (seq : Value) (R : Ending → World → Prop) (w : World) : Prop :=
    callF P F_slices_AppendSeq_S_api_Digest_api_Digest #[(Value.slice none 0 0), seq] [.slc] false w fun (t4 : (Option Addr × Nat × Nat)) w_1 =>
    R (.returned (Value.slice t4.1 t4.2.1 t4.2.2)) w_1
theorem eq_slices_Collect_api_Digest (seq : Value) (R : Ending → World → Prop) (w : World) : tr P qs ((Tryd.f46.body).getD .skip) ann_slices_Collect_api_Digest (env0 0 [(1, seq)]) (topK P Tryd.f46.results.toList R) w = T_slices_Collect_api_Digest seq R w := by kernel_rfl
/-- slices.Collect[veneer/api.Digest] -/
theorem fn_slices_Collect_api_Digest {seq : Value} {R : Ending → World → Prop} {w : World} (hT : T_slices_Collect_api_Digest seq R w) : CallF P F_slices_Collect_api_Digest #[seq] w R :=
  fn_of_tr (fn := Tryd.f46) (c := (Tryd.f46.body).getD .skip) (ann := ann_slices_Collect_api_Digest) (args := [(1, seq)]) (qs := qs) mixed Tryd.func46 rfl (by kernel_rfl) (by kernel_rfl) ok_slices_Collect_api_Digest ((eq_slices_Collect_api_Digest seq R w).symm ▸ hT)
def ann_maps_Keys_M_api_Digest_S_byte_api_Digest_S_byte_1 : Ann := (.seq .leaf (.blk (.loop [] (.seq .leaf (.seq (.cond .leaf .leaf) (.blk (.seq .leaf (.seq .leaf (.cond .leaf .leaf)))))))))
theorem ok_maps_Keys_M_api_Digest_S_byte_api_Digest_S_byte_1 : okC P qs Tryd.f48.ntmps ((Tryd.f48.body).getD .skip) ann_maps_Keys_M_api_Digest_S_byte_api_Digest_S_byte_1 = true := by kernel_rfl
def T_maps_Keys_M_api_Digest_S_byte_api_Digest_S_byte_1 (yield : Value) (c0 : Option Addr) (R : Ending → World → Prop) (w : World) : Prop :=
    withAddr c0 fun p =>
    ld .map p w fun (t4 : (Option Nat)) =>
    genL P (Instr.range y_M_api_Digest_S_uint8 (Value.map t4)) .ptr w fun (t5 : (Option Addr)) w_1 =>
    loopP Unit (fun _ w_2 k =>
    genL P (Instr.next (Value.pointer t5) false y_tuple_bcd8b0) .any w_2 fun (t6 : Value) w_3 =>
    exV t6 0 .bool fun (t7 : Bool) =>
    iteP t7 (
    genQ P (Instr.entry (Value.pointer t5)) .any w_3 fun (t8 : Value) =>
    exV t8 0 .any fun (t9 : Value) =>
    newB (zc P y_api_Digest) y_api_Digest w_3 fun b3 w_4 =>
    genU P (storeVar y_api_Digest (⟨b3, 0, none⟩ : Addr) t9) w_4 fun w_5 =>
    ldA P 32 (⟨b3, 0, none⟩ : Addr) w_5 fun t11 =>
    callV P yield #[(Value.agg t11)] [.bool] false w_5 fun (t12 : Bool) w_6 =>
    iteP (!t12) (
    R (.returned (Value.tuple #[])) w_6) (
    k () w_6)) (
    R (.returned (Value.tuple #[])) w_3)) () w_1
theorem eq_maps_Keys_M_api_Digest_S_byte_api_Digest_S_byte_1 (yield : Value) (c0 : Option Addr) (R : Ending → World → Prop) (w : World) : tr P qs ((Tryd.f48.body).getD .skip) ann_maps_Keys_M_api_Digest_S_byte_api_Digest_S_byte_1 (env0 0 [(1, yield), (0, (Value.pointer c0))]) (topK P Tryd.f48.results.toList R) w = T_maps_Keys_M_api_Digest_S_byte_api_Digest_S_byte_1 yield c0 R w := by kernel_rfl
/-- maps.Keys[map[veneer/api.Digest][]byte,veneer/api.Digest,[]byte]$1 -/
theorem fn_maps_Keys_M_api_Digest_S_byte_api_Digest_S_byte_1 {yield : Value} {c0 : Option Addr} {R : Ending → World → Prop} {w : World} (hT : T_maps_Keys_M_api_Digest_S_byte_api_Digest_S_byte_1 yield c0 R w) : CallF P F_maps_Keys_M_api_Digest_S_byte_api_Digest_S_byte_1 #[yield, (Value.pointer c0)] w R :=
  fn_of_tr (fn := Tryd.f48) (c := (Tryd.f48.body).getD .skip) (ann := ann_maps_Keys_M_api_Digest_S_byte_api_Digest_S_byte_1) (args := [(1, yield), (0, (Value.pointer c0))]) (qs := qs) mixed Tryd.func48 rfl (by kernel_rfl) (by kernel_rfl) ok_maps_Keys_M_api_Digest_S_byte_api_Digest_S_byte_1 ((eq_maps_Keys_M_api_Digest_S_byte_api_Digest_S_byte_1 yield c0 R w).symm ▸ hT)
def ann_bytes_Compare : Ann := (.seq .leaf (.seq .leaf .leaf))
theorem ok_bytes_Compare : okC P qs Tryd.f49.ntmps ((Tryd.f49.body).getD .skip) ann_bytes_Compare = true := by kernel_rfl
def T_bytes_Compare (a : Option Addr) (a_l a_c : Nat) (b : Option Addr) (b_l b_c : Nat) (R : Ending → World → Prop) (w : World) : Prop :=
    callF P F_internal_bytealg_Compare #[(Value.slice a a_l a_c), (Value.slice b b_l b_c)] [.int .i64] false w fun (t7 : Int) w_1 =>
    R (.returned (Value.int .i64 t7)) w_1
theorem eq_bytes_Compare (a : Option Addr) (a_l a_c : Nat) (b : Option Addr) (b_l b_c : Nat) (R : Ending → World → Prop) (w : World) : tr P qs ((Tryd.f49.body).getD .skip) ann_bytes_Compare (env0 0 [(0, (Value.slice a a_l a_c)), (0, (Value.slice b b_l b_c))]) (topK P Tryd.f49.results.toList R) w = T_bytes_Compare a a_l a_c b b_l b_c R w := by kernel_rfl
/-- bytes.Compare -/
theorem fn_bytes_Compare {a : Option Addr} {a_l a_c : Nat} {b : Option Addr} {b_l b_c : Nat} {R : Ending → World → Prop} {w : World} (hT : T_bytes_Compare a a_l a_c b b_l b_c R w) : CallF P F_bytes_Compare #[(Value.slice a a_l a_c), (Value.slice b b_l b_c)] w R :=
  fn_of_tr (fn := Tryd.f49) (c := (Tryd.f49.body).getD .skip) (ann := ann_bytes_Compare) (args := [(0, (Value.slice a a_l a_c)), (0, (Value.slice b b_l b_c))]) (qs := qs) mixed Tryd.func49 rfl (by kernel_rfl) (by kernel_rfl) ok_bytes_Compare ((eq_bytes_Compare a a_l a_c b b_l b_c R w).symm ▸ hT)
def ann_slices_Values_S_api_Digest_api_Digest_1 : Ann := (.seq .leaf (.blk (.loop [(7, .int .i64)] (.seq .leaf (.seq (.cond .leaf .leaf) (.seq (.blk (.seq .leaf (.seq .leaf (.cond .leaf .leaf)))) .leaf))))))
theorem ok_slices_Values_S_api_Digest_api_Digest_1 : okC P qs Tryd.f50.ntmps ((Tryd.f50.body).getD .skip) ann_slices_Values_S_api_Digest_api_Digest_1 = true := by kernel_rfl
def T_slices_Values_S_api_Digest_api_Digest_1 (yield : Value) (c0 : Option Addr) (R : Ending → World → Prop) (w : World) : Prop :=
    withAddr c0 fun p =>
    ld .slc p w fun (t5 : (Option Addr × Nat × Nat)) =>
    loopP Int (fun s w_1 k =>
    iteP (decide (s < (t5.2.1 : Int))) (
    ixS t5.1 t5.2.1 32 s fun t9 =>
    ldA P 32 t9 w_1 fun t10 =>
    newB (zc P y_api_Digest) y_api_Digest w_1 fun b4 w_2 =>
    genU P (storeVar y_api_Digest (⟨b4, 0, none⟩ : Addr) (Value.agg t10)) w_2 fun w_3 =>
    ldA P 32 (⟨b4, 0, none⟩ : Addr) w_3 fun t12 =>
    callV P yield #[(Value.agg t12)] [.bool] false w_3 fun (t13 : Bool) w_4 =>
    iteP (!t13) (
    R (.returned (Value.tuple #[])) w_4) (
    addI .i64 s 1 fun t15 =>
    k t15 w_4)) (
    R (.returned (Value.tuple #[])) w_1)) 0 w
theorem eq_slices_Values_S_api_Digest_api_Digest_1 (yield : Value) (c0 : Option Addr) (R : Ending → World → Prop) (w : World) : tr P qs ((Tryd.f50.body).getD .skip) ann_slices_Values_S_api_Digest_api_Digest_1 (env0 0 [(1, yield), (0, (Value.pointer c0))]) (topK P Tryd.f50.results.toList R) w = T_slices_Values_S_api_Digest_api_Digest_1 yield c0 R w := by kernel_rfl
/-- slices.Values[[]veneer/api.Digest,veneer/api.Digest]$1 -/
theorem fn_slices_Values_S_api_Digest_api_Digest_1 {yield : Value} {c0 : Option Addr} {R : Ending → World → Prop} {w : World} (hT : T_slices_Values_S_api_Digest_api_Digest_1 yield c0 R w) : CallF P F_slices_Values_S_api_Digest_api_Digest_1 #[yield, (Value.pointer c0)] w R :=
  fn_of_tr (fn := Tryd.f50) (c := (Tryd.f50.body).getD .skip) (ann := ann_slices_Values_S_api_Digest_api_Digest_1) (args := [(1, yield), (0, (Value.pointer c0))]) (qs := qs) mixed Tryd.func50 rfl (by kernel_rfl) (by kernel_rfl) ok_slices_Values_S_api_Digest_api_Digest_1 ((eq_slices_Values_S_api_Digest_api_Digest_1 yield c0 R w).symm ▸ hT)
def ann_slices_AppendSeq_S_api_Digest_api_Digest : Ann2 := (.seq (.pure .leaf) (.seq (.seq (.pure .leaf) (.blk (.rng [(7, .any)] false [] .leaf (.blk .leaf)))) (.pure (.seq .leaf .leaf))))
theorem ok_slices_AppendSeq_S_api_Digest_api_Digest : okC2 P qs Tryd.f52.ntmps ((Tryd.f52.body).getD .skip) ann_slices_AppendSeq_S_api_Digest_api_Digest = true := by kernel_rfl
def T_slices_AppendSeq_S_api_Digest_api_Digest (s : Option Addr) (s_l s_c : Nat) (seq : Value) (R : Ending → World → Prop) (w : World) : Prop :=
    newB #[(Value.slice s s_l s_c)] y_S_api_Digest w fun b2 w_1 =>
    rangeP P [.any] seq w_1 (fun (x : Value) w_2 beg kc _ _ =>
    newB (zc P y_api_Digest) y_api_Digest w_2 fun b5 w_4 =>
    genU P (storeVar y_api_Digest (⟨b5, 0, none⟩ : Addr) x) w_4 fun w_5 =>
    beg w_5 fun w_3 =>
    ld .slc (⟨b2, 0, none⟩ : Addr) w_3 fun (t8 : (Option Addr × Nat × Nat)) =>
    ldA P 32 (⟨b5, 0, none⟩ : Addr) w_3 fun t9 =>
    genL P (Instr.buildSlice y_S_api_Digest 1 #[(0, (Value.agg t9))]) .slc w_3 fun (t10 : (Option Addr × Nat × Nat)) w_6 =>
    genL P (Builtin.append_ #[y_S_api_Digest, y_S_api_Digest] y_S_api_Digest #[(Value.slice t8.1 t8.2.1 t8.2.2), (Value.slice t10.1 t10.2.1 t10.2.2)]) .slc w_6 fun (t11 : (Option Addr × Nat × Nat)) w_7 =>
    stC (⟨b2, 0, none⟩ : Addr) (Value.slice t11.1 t11.2.1 t11.2.2) w_7 fun w_8 =>
    kc w_8) (fun D w_9 =>
    ld .slc (⟨b2, 0, none⟩ : Addr) w_9 fun (t12 : (Option Addr × Nat × Nat)) =>
    (w_9.heap[D]? = some (.deferred (some [])) ∧ ∀ w_10, w_10 = World.putObj w_9 D (.deferred none) →
    R (.returned (Value.slice t12.1 t12.2.1 t12.2.2)) w_10)) (fun _D _w => False) (fun _ _D _w => False)
theorem eq_slices_AppendSeq_S_api_Digest_api_Digest (s : Option Addr) (s_l s_c : Nat) (seq : Value) (R : Ending → World → Prop) (w : World) : tr2 P qs ((Tryd.f52.body).getD .skip) ann_slices_AppendSeq_S_api_Digest_api_Digest [] (env0 0 [(0, (Value.slice s s_l s_c)), (1, seq)]) (topK2 P Tryd.f52.results.toList R) w = T_slices_AppendSeq_S_api_Digest_api_Digest s s_l s_c seq R w := by kernel_rfl
/-- slices.AppendSeq[[]veneer/api.Digest,veneer/api.Digest] -/
theorem fn_slices_AppendSeq_S_api_Digest_api_Digest {s : Option Addr} {s_l s_c : Nat} {seq : Value} {R : Ending → World → Prop} {w : World} (hT : T_slices_AppendSeq_S_api_Digest_api_Digest s s_l s_c seq R w) : CallF P F_slices_AppendSeq_S_api_Digest_api_Digest #[(Value.slice s s_l s_c), seq] w R :=
  fn_of_tr2 (fn := Tryd.f52) (c := (Tryd.f52.body).getD .skip) (ann := ann_slices_AppendSeq_S_api_Digest_api_Digest) (args := [(0, (Value.slice s s_l s_c)), (1, seq)]) (qs := qs) mixed Tryd.func52 rfl (by kernel_rfl) (by kernel_rfl) ok_slices_AppendSeq_S_api_Digest_api_Digest ((eq_slices_AppendSeq_S_api_Digest_api_Digest s s_l s_c seq R w).symm ▸ hT)
end Go.Proofs.YtkolbfjheleoaaaDoor
