/- Part 3 of the texts below the card, joined. -/
import Derived.Test.YtbmegmbnlajbbaaGreatDoorTCrb
import Derived.Test.YtbmegmbnlajbbaaGreatDoorTCra
import Derived.DeepKeys3
import Derived.Maps.RangeRun
import Derived.Laws.BytesString
import Derived.Lib.BytesEntry
import Derived.Lib.Bytealg
import Derived.Laws.Externs
import Derived.Shelf.SlSortCmp.WholeK
import Derived.Shelf.SlSortCmp.NoneTotal
import Derived.Great.BuildSlice
import Derived.Sort.LotA
import Derived.Shelf.SlSortCmp.Insertion
import Derived.Laws.Strings
import Derived.Lib.Builder
import Derived.Lib.MakeNoZero
import Derived.Lib.UnsafeStr
namespace Go.Proofs.YtbmegmbnlajbbaaGreatDoor
open Go Go.Fw Go.Proofs
set_option maxRecDepth 100000
def ann_l08_CarryRefuses : Ann := (.seq .leaf (.seq (.seq .leaf (.cond (.seq .leaf .leaf) .leaf)) (.join [] (.seq .leaf (.cond (.seq .leaf .leaf) .leaf)) (.seq .leaf (.seq .leaf (.seq (.seq .leaf (.cond (.seq .leaf .leaf) .leaf)) (.seq .leaf (.seq .leaf (.seq .leaf (.join [] (.seq (.tree (.op 0 [] (.op 2 [] (.op 1 [2] (.op 3 [] (.op 4 [] (.op 5 [] (.op 6 [] (.op 7 [] (.op 8 [] (.op 9 [] (.op 10 [] (.op 11 [] (.op 12 [] (.op 13 [] (.op 14 [] (.op 15 [] (.op 17 [] (.op 16 [] (.op 18 [] (.op 19 [] (.op 20 [] (.op 21 [] .done))))))))))))))))))))))) (.cond (.seq .leaf .leaf) .leaf)) (.seq .leaf (.seq .leaf (.seq .leaf (.seq .leaf .leaf))))))))))))))
theorem ok_l08_CarryRefuses : okC P qs Tryz.f7.ntmps ((Tryz.f7.body).getD .skip) ann_l08_CarryRefuses = true := by kernel_rfl
def T_l08_CarryRefuses (list : Option Addr) (list_l list_c : Nat) (raw : Option Addr) (raw_l raw_c : Nat) (R : Ending → World → Prop) (w : World) : Prop :=
  callF P F_l08_awake #[] [.bool] false w fun (t17 : Bool) w_1 =>
  iteP (!t17) (
  R (.returned (Value.bool false)) w_1) (
  joinP Unit (fun k =>
  genL P (Instr.buildSlice y_S_S_api_File 1 #[(0, (Value.slice list list_l list_c))]) .slc w_1 fun (t20 : (Option Addr × Nat × Nat)) w_2 =>
  callF P F_l07_Few #[(Value.slice t20.1 t20.2.1 t20.2.2)] [.bool] false w_2 fun (t21 : Bool) w_3 =>
  iteP (!t21) (
  R (.returned (Value.bool true)) w_3) (
  iteP (decide ((list_l : Int) > 150)) (
  R (.returned (Value.bool true)) w_3) (
  k () w_3))) (fun _ w_4 =>
  callF P F_blob_New #[(Value.int .i64 16777216)] [.ptr] false w_4 fun (t28 : (Option Addr)) w_5 =>
  callF P F_tree_Build #[(Value.pointer t28), (Value.slice list list_l list_c)] [.any, .int .i64] true w_5 fun (t32 : (Value × Int)) w_6 =>
  newB (zc P y_api_Digest) y_api_Digest w_6 fun b6 w_7 =>
  genU P (storeVar y_api_Digest (⟨b6, 0, none⟩ : Addr) t32.1) w_7 fun w_8 =>
  iteP (t32.2 != 0) (
  R (.returned (Value.bool true)) w_8) (
  callF P F_blob_New #[(Value.int .i64 16777216)] [.ptr] false w_8 fun (t37 : (Option Addr)) w_9 =>
  ldA P 32 (⟨b6, 0, none⟩ : Addr) w_9 fun t40 =>
  callF P F_carry_New #[(Value.pointer t37), (Value.agg t40), (Value.int .i64 3)] [.ptr, .int .i64] true w_9 fun (t41 : ((Option Addr) × Int)) w_10 =>
  callF P F_carry_Carrier_Want #[(Value.pointer t41.1), (Value.int .i64 9)] [.slc] false w_10 fun (t45 : (Option Addr × Nat × Nat)) w_11 =>
  joinP Unit (fun k_1 =>
  drewP w_11 fun w_12 =>
  ldA P 32 (⟨b6, 0, none⟩ : Addr) w_12 fun t48 =>
  callF P F_r01_Sum #[(Value.slice raw raw_l raw_c)] [.any] false w_12 fun (t47 : Value) w_13 =>
  ((ldA P 32 (⟨b6, 0, none⟩ : Addr) w_13 fun t48_1 =>
  (Value.agg t48_1) = (Value.agg t48)) ∧
  genQ P (eqM .neq y_api_Digest (.tmp 47) (.tmp 48) t47 (Value.agg t48)) .bool w_13 fun (t49 : Bool) =>
  iteP t49 (
  callF P F_carry_Carrier_Offer #[(Value.pointer t41.1), (Value.slice raw raw_l raw_c)] [.int .i64] false w_13 fun (t53 : Int) w_14 =>
  iteP (t53 != 80) (
  R (.returned (Value.bool false)) w_14) (
  callF P F_blob_Store_Count #[(Value.pointer t37)] [.int .i64] false w_14 fun (t57 : Int) w_15 =>
  iteP (t57 != 0) (
  R (.returned (Value.bool false)) w_15) (
  callF P F_carry_Carrier_Want #[(Value.pointer t41.1), (Value.int .i64 9)] [.slc] false w_15 fun (t62 : (Option Addr × Nat × Nat)) w_16 =>
  callF P F_r08_Digests #[(Value.slice t62.1 t62.2.1 t62.2.2), (Value.slice t45.1 t45.2.1 t45.2.2)] [.bool] false w_16 fun (t64 : Bool) w_17 =>
  iteP (!t64) (
  R (.returned (Value.bool false)) w_17) (
  k_1 () w_17)))) (
  k_1 () w_13))) (fun _ w_18 =>
  ldA P 32 (⟨b6, 0, none⟩ : Addr) w_18 fun t69 =>
  callF P F_carry_New #[(Value.pointer none), (Value.agg t69), (Value.int .i64 3)] [.ptr, .int .i64] true w_18 fun (t70 : ((Option Addr) × Int)) w_19 =>
  ldA P 32 (⟨b6, 0, none⟩ : Addr) w_19 fun t74 =>
  callF P F_carry_Reach #[(Value.pointer none), (Value.agg t74), (Value.int .i64 3)] [.slc, .int .i64] true w_19 fun (t75 : ((Option Addr × Nat × Nat) × Int)) w_20 =>
  iteP (t70.2 == 7) (
  iteP (t75.2 == 7) (
  callF P F_carry_Carrier_Want #[(Value.pointer none), (Value.int .i64 9)] [.slc] false w_20 fun (t86 : (Option Addr × Nat × Nat)) w_21 =>
  iteP ((t86.2.1 : Int) == 0) (
  callF P F_carry_Carrier_Offer #[(Value.pointer none), (Value.slice raw raw_l raw_c)] [.int .i64] false w_21 fun (t93 : Int) w_22 =>
  iteP (t93 == 7) (
  callF P F_carry_Carrier_Done #[(Value.pointer none)] [.bool] false w_22 fun (t98 : Bool) w_23 =>
  iteP (!t98) (
  callF P F_carry_Carrier_Foul #[(Value.pointer none)] [.bool] false w_23 fun (t103 : Bool) w_24 =>
  R (.returned (Value.bool (!t103))) w_24) (
  R (.returned (Value.bool false)) w_23)) (
  R (.returned (Value.bool false)) w_22)) (
  R (.returned (Value.bool false)) w_21)) (
  R (.returned (Value.bool false)) w_20)) (
  R (.returned (Value.bool false)) w_20)))))
theorem eq_l08_CarryRefuses (list : Option Addr) (list_l list_c : Nat) (raw : Option Addr) (raw_l raw_c : Nat) (R : Ending → World → Prop) (w : World) : tr P qs ((Tryz.f7.body).getD .skip) ann_l08_CarryRefuses (env0 0 [(0, (Value.slice list list_l list_c)), (0, (Value.slice raw raw_l raw_c))]) (topK P Tryz.f7.results.toList R) w = T_l08_CarryRefuses list list_l list_c raw raw_l raw_c R w := by kernel_rfl
theorem fn_l08_CarryRefuses {list : Option Addr} {list_l list_c : Nat} {raw : Option Addr} {raw_l raw_c : Nat} {R : Ending → World → Prop} {w : World} (hT : T_l08_CarryRefuses list list_l list_c raw raw_l raw_c R w) : CallF P F_l08_CarryRefuses #[(Value.slice list list_l list_c), (Value.slice raw raw_l raw_c)] w R :=
 fn_of_tr (fn := Tryz.f7) (c := (Tryz.f7.body).getD .skip) (ann := ann_l08_CarryRefuses) (args := [(0, (Value.slice list list_l list_c)), (0, (Value.slice raw raw_l raw_c))]) (qs := qs) mixed Tryz.func7 rfl (by kernel_rfl) (by kernel_rfl) ok_l08_CarryRefuses ((eq_l08_CarryRefuses list list_l list_c raw raw_l raw_c R w).symm ▸ hT)
def ann_l07_Few : Ann := (.seq .leaf (.seq .leaf (.seq (.seq .leaf (.blk (.loop [(3, .int .i64), (4, .int .i64)] (.seq (.seq .leaf (.cond .leaf .leaf)) (.seq (.blk (.seq .leaf (.blk (.loop [(3, .int .i64), (5, .int .i64)] (.seq (.seq .leaf (.cond .leaf .leaf)) (.seq (.blk .leaf) .leaf)))))) .leaf))))) (.seq .leaf .leaf))))
theorem ok_l07_Few : okC P qs Tryz.f11.ntmps ((Tryz.f11.body).getD .skip) ann_l07_Few = true := by kernel_rfl
def T_l07_Few (l : Option Addr) (l_l l_c : Nat) (R : Ending → World → Prop) (w : World) : Prop :=
  loopP (Int × Int) (fun s w_1 k =>
  iteP (decide (s.2 < (l_l : Int))) (
  loopP (Int × Int) (fun s_1 w_2 k_1 =>
  ixS l l_l 1 s.2 fun t15 =>
  ld .slc t15 w_2 fun (t16 : (Option Addr × Nat × Nat)) =>
  iteP (decide (s_1.2 < (t16.2.1 : Int))) (
  ixS l l_l 1 s.2 fun t24 =>
  ld .slc t24 w_2 fun (t25 : (Option Addr × Nat × Nat)) =>
  ixS t25.1 t25.2.1 3 s_1.2 fun t27 =>
  ld .str (Addr.add t27 2) w_2 fun (t29 : ByteArray) =>
  addI .i64 20 (t29.size : Int) fun t31 =>
  addI .i64 s_1.1 t31 fun t32 =>
  addI .i64 s_1.2 1 fun t20 =>
  k_1 (t32, t20) w_2) (
  addI .i64 s.2 1 fun t11 =>
  k (s_1.1, t11) w_2)) (s.1, 0) w_1) (
  R (.returned (Value.bool (decide (s.1 ≤ 30000)))) w_1)) (0, 0) w
theorem eq_l07_Few (l : Option Addr) (l_l l_c : Nat) (R : Ending → World → Prop) (w : World) : tr P qs ((Tryz.f11.body).getD .skip) ann_l07_Few (env0 0 [(0, (Value.slice l l_l l_c))]) (topK P Tryz.f11.results.toList R) w = T_l07_Few l l_l l_c R w := by kernel_rfl
theorem fn_l07_Few {l : Option Addr} {l_l l_c : Nat} {R : Ending → World → Prop} {w : World} (hT : T_l07_Few l l_l l_c R w) : CallF P F_l07_Few #[(Value.slice l l_l l_c)] w R :=
 fn_of_tr (fn := Tryz.f11) (c := (Tryz.f11.body).getD .skip) (ann := ann_l07_Few) (args := [(0, (Value.slice l l_l l_c))]) (qs := qs) mixed Tryz.func11 rfl (by kernel_rfl) (by kernel_rfl) ok_l07_Few ((eq_l07_Few l l_l l_c R w).symm ▸ hT)
def ann_l08_awake : Ann := (.seq .leaf (.seq .leaf (.seq .leaf (.seq (.tree (.op 1 [] (.op 0 [1] (.op 2 [] (.op 3 [] (.op 4 [] (.op 5 [] (.op 6 [] (.op 7 [] .done))))))))) (.join [] (.seq .leaf (.cond (.seq .leaf .leaf) .leaf)) (.seq .leaf (.seq (.jblk [(6, .int .i64)] (.loop [(6, .int .i64)] (.join [] (.seq .leaf (.cond .leaf .leaf)) (.seq (.blk (.seq .leaf (.seq (.seq .leaf (.cond (.seq .leaf .leaf) .leaf)) (.seq .leaf (.seq .leaf (.cond (.seq .leaf .leaf) .leaf)))))) .leaf)))) (.seq .leaf .leaf))))))))
theorem ok_l08_awake : okC P qs Tryz.f28.ntmps ((Tryz.f28.body).getD .skip) ann_l08_awake = true := by kernel_rfl
def T_l08_awake  (R : Ending → World → Prop) (w : World) : Prop :=
  callF P F_blob_New #[(Value.int .i64 65536)] [.ptr] false w fun (t10 : (Option Addr)) w_1 =>
  genQ P (Instr.build y_api_File #[(0, (Value.string (ByteArray.mk #[47, 102]))), (2, (Value.string (ByteArray.mk #[104, 105])))]) .any w_1 fun (t13 : Value) =>
  genL P (Instr.buildSlice y_S_api_File 1 #[(0, t13)]) .slc w_1 fun (t14 : (Option Addr × Nat × Nat)) w_2 =>
  callF P F_tree_Build #[(Value.pointer t10), (Value.slice t14.1 t14.2.1 t14.2.2)] [.any, .int .i64] true w_2 fun (t15 : (Value × Int)) w_3 =>
  newB (zc P y_api_Digest) y_api_Digest w_3 fun b2 w_4 =>
  genU P (storeVar y_api_Digest (⟨b2, 0, none⟩ : Addr) t15.1) w_4 fun w_5 =>
  drewP w_5 fun w_6 =>
  ldA P 32 (⟨b2, 0, none⟩ : Addr) w_6 fun t20 =>
  callF P F_blob_New #[(Value.int .i64 65536)] [.ptr] false w_6 fun (t19 : (Option Addr)) w_7 =>
  ((ldA P 32 (⟨b2, 0, none⟩ : Addr) w_7 fun t20_1 =>
  (Value.agg t20_1) = (Value.agg t20)) ∧
  callF P F_carry_New #[(Value.pointer t19), (Value.agg t20), (Value.int .i64 3)] [.ptr, .int .i64] true w_7 fun (t21 : ((Option Addr) × Int)) w_8 =>
  joinP Unit (fun k =>
  iteP (t15.2 != 0) (
  R (.returned (Value.bool false)) w_8) (
  iteP (t21.2 != 0) (
  R (.returned (Value.bool false)) w_8) (
  iteP (Option.isNone t21.1) (
  R (.returned (Value.bool false)) w_8) (
  callF P F_carry_Carrier_Done #[(Value.pointer t21.1)] [.bool] false w_8 fun (t36 : Bool) w_9 =>
  iteP t36 (
  R (.returned (Value.bool false)) w_9) (
  genL P (Instr.buildSlice y_S_uint8 1 #[(0, (Value.int .u8 120))]) .slc w_9 fun (t40 : (Option Addr × Nat × Nat)) w_10 =>
  genL P (convert y_S_uint8 y_S_uint8 (Value.slice t40.1 t40.2.1 t40.2.2)) .slc w_10 fun (t41 : (Option Addr × Nat × Nat)) w_11 =>
  callF P F_carry_Carrier_Offer #[(Value.pointer t21.1), (Value.slice t41.1 t41.2.1 t41.2.2)] [.int .i64] false w_11 fun (t42 : Int) w_12 =>
  iteP (t42 != 80) (
  R (.returned (Value.bool false)) w_12) (
  k () w_12)))))) (fun _ w_13 =>
  joinP Int (fun k_1 =>
  loopP Int (fun s_1 w_14 k_2 =>
  joinP Unit (fun k_3 =>
  iteP (decide (s_1 < 9)) (
  callF P F_carry_Carrier_Done #[(Value.pointer t21.1)] [.bool] false w_14 fun (t49 : Bool) w_15 =>
  iteP (!t49) (
  k_3 () w_15) (
  k_1 s_1 w_15)) (
  k_1 s_1 w_14)) (fun _ w_16 =>
  callF P F_carry_Carrier_Want #[(Value.pointer t21.1), (Value.int .i64 9)] [.slc] false w_16 fun (t55 : (Option Addr × Nat × Nat)) w_17 =>
  iteP ((t55.2.1 : Int) != 1) (
  R (.returned (Value.bool false)) w_17) (
  ixS t55.1 t55.2.1 32 0 fun t62 =>
  ldA P 32 t62 w_17 fun t63 =>
  callF P F_blob_Store_Get #[(Value.pointer t10), (Value.agg t63)] [.slc, .int .i64] true w_17 fun (t64 : ((Option Addr × Nat × Nat) × Int)) w_18 =>
  callF P F_carry_Carrier_Offer #[(Value.pointer t21.1), (Value.slice t64.1.1 t64.1.2.1 t64.1.2.2)] [.int .i64] false w_18 fun (t69 : Int) w_19 =>
  iteP (t69 != 0) (
  R (.returned (Value.bool false)) w_19) (
  addI .i64 s_1 1 fun t53 =>
  k_2 t53 w_19)))) 0 w_13) (fun s_3 w_20 =>
  R (.returned (Value.bool (s_3 == 3))) w_20)))
theorem eq_l08_awake  (R : Ending → World → Prop) (w : World) : tr P qs ((Tryz.f28.body).getD .skip) ann_l08_awake (env0 0 []) (topK P Tryz.f28.results.toList R) w = T_l08_awake  R w := by kernel_rfl
theorem fn_l08_awake  {R : Ending → World → Prop} {w : World} (hT : T_l08_awake  R w) : CallF P F_l08_awake #[] w R :=
 fn_of_tr (fn := Tryz.f28) (c := (Tryz.f28.body).getD .skip) (ann := ann_l08_awake) (args := []) (qs := qs) mixed Tryz.func28 rfl (by kernel_rfl) (by kernel_rfl) ok_l08_awake ((eq_l08_awake  R w).symm ▸ hT)
end Go.Proofs.YtbmegmbnlajbbaaGreatDoor
namespace Go.Proofs.YtbmegmbnlajbbaaGreatDoor
open Go Go.Fw Go.Proofs
set_option maxRecDepth 100000
def ann_carry_New : Ann := (.seq .leaf (.join [] (.jblk [] (.seq .leaf (.cond (.seq .leaf .leaf) (.seq .leaf (.cond (.seq .leaf .leaf) .leaf))))) (.seq .leaf (.seq .leaf (.seq .leaf .leaf)))))
theorem ok_carry_New : okC P qs Tryz.f32.ntmps ((Tryz.f32.body).getD .skip) ann_carry_New = true := by kernel_rfl
def T_carry_New (s : Option Addr) (root : Value) (kind : Int) (R : Ending → World → Prop) (w : World) : Prop :=
  newB (Value.cells root) y_api_Digest w fun b4 w_1 =>
  joinP Unit (fun k =>
  joinP Unit (fun k_1 =>
  iteP (Option.isNone s) (
  R (.returned (Value.tuple #[(Value.pointer none), (Value.int .i64 7)])) w_1) (
  iteP (kind != 2) (
  iteP (kind != 3) (
  R (.returned (Value.tuple #[(Value.pointer none), (Value.int .i64 100)])) w_1) (
  k_1 () w_1)) (
  k_1 () w_1))) (fun _ w_2 =>
  k () w_2)) (fun _ w_3 =>
  genL P (Instr.makeMap y_M_carry_pair_int none) .map w_3 fun (t20 : (Option Nat)) w_4 =>
  genQ P (Instr.build y_carry_Carrier #[(0, (Value.pointer s)), (1, (Value.map t20))]) .any w_4 fun (t21 : Value) =>
  newB (Value.cells t21) y_carry_Carrier w_4 fun b22 w_5 =>
  ldA P 32 (⟨b4, 0, none⟩ : Addr) w_5 fun t24 =>
  genQ P (Instr.build y_carry_pair #[(0, (Value.agg t24)), (1, (Value.int .i64 kind))]) .any w_5 fun (t26 : Value) =>
  callF P F_carry_Carrier_look #[(Value.pointer (some (⟨b22, 0, none⟩ : Addr))), t26] [] true w_5 fun (_ : Unit) w_6 =>
  R (.returned (Value.tuple #[(Value.pointer (some (⟨b22, 0, none⟩ : Addr))), (Value.int .i64 0)])) w_6)
theorem eq_carry_New (s : Option Addr) (root : Value) (kind : Int) (R : Ending → World → Prop) (w : World) : tr P qs ((Tryz.f32.body).getD .skip) ann_carry_New (env0 0 [(0, (Value.pointer s)), (1, root), (0, (Value.int .i64 kind))]) (topK P Tryz.f32.results.toList R) w = T_carry_New s root kind R w := by kernel_rfl
theorem fn_carry_New {s : Option Addr} {root : Value} {kind : Int} {R : Ending → World → Prop} {w : World} (hT : T_carry_New s root kind R w) : CallF P F_carry_New #[(Value.pointer s), root, (Value.int .i64 kind)] w R :=
 fn_of_tr (fn := Tryz.f32) (c := (Tryz.f32.body).getD .skip) (ann := ann_carry_New) (args := [(0, (Value.pointer s)), (1, root), (0, (Value.int .i64 kind))]) (qs := qs) mixed Tryz.func32 rfl (by kernel_rfl) (by kernel_rfl) ok_carry_New ((eq_carry_New s root kind R w).symm ▸ hT)
def ann_carry_Carrier_Offer : Ann := (.seq .leaf (.seq (.seq .leaf (.cond (.seq .leaf .leaf) .leaf)) (.seq .leaf (.seq .leaf (.seq (.seq .leaf (.cond (.seq .leaf .leaf) .leaf)) (.seq .leaf (.join [] (.seq (.tree (.op 0 [] (.op 1 [] (.op 2 [] (.op 3 [] (.op 4 [] (.op 5 [] (.op 8 [] (.op 6 [] (.op 7 [] (.op 9 [] (.op 10 [] (.op 11 [] (.op 12 [] (.op 13 [] .done))))))))))))))) (.cond (.seq .leaf .leaf) .leaf)) (.seq (.seq .leaf (.seq .leaf (.cond (.seq .leaf .leaf) .leaf))) (.seq .leaf (.seq (.seq .leaf (.blk (.loop [(11, .slc), (64, .int .i64)] (.seq .leaf (.seq (.cond .leaf .leaf) (.seq (.jblk [(11, .slc)] (.seq .leaf (.seq .leaf (.cond .leaf .leaf)))) .leaf)))))) (.seq .leaf (.seq (.seq .leaf (.blk (.loop [(87, .int .i64)] (.seq .leaf (.seq (.cond .leaf .leaf) (.join [] (.jblk [] (.seq .leaf (.seq .leaf (.cond .leaf .leaf)))) .leaf)))))) (.seq .leaf .leaf)))))))))))))
theorem ok_carry_Carrier_Offer : okC P qs Tryz.f36.ntmps ((Tryz.f36.body).getD .skip) ann_carry_Carrier_Offer = true := by kernel_rfl
def T_carry_Carrier_Offer (c : Option Addr) (b : Option Addr) (b_l b_c : Nat) (R : Ending → World → Prop) (w : World) : Prop :=
  iteP (Option.isNone c) (
  R (.returned (Value.int .i64 7)) w) (
  callF P F_sha_Sum #[(Value.slice b b_l b_c)] [.any] false w fun (t19 : Value) w_1 =>
  newB (zc P y_api_Digest) y_api_Digest w_1 fun b5 w_2 =>
  genU P (storeVar y_api_Digest (⟨b5, 0, none⟩ : Addr) t19) w_2 fun w_3 =>
  genQ P (Instr.makeFunc (Go.Fn.func F_carry_Carrier_Offer_1) #[] #[(Value.pointer (some (⟨b5, 0, none⟩ : Addr)))]) .any w_3 fun (t20 : Value) =>
  withAddr c fun p =>
  ld .slc (Addr.add p 2) w_3 fun (t24 : (Option Addr × Nat × Nat)) =>
  callF P F_slices_ContainsFunc_S_carry_pair_carry_pair #[(Value.slice t24.1 t24.2.1 t24.2.2), t20] [.bool] false w_3 fun (t26 : Bool) w_4 =>
  iteP (!t26) (
  R (.returned (Value.int .i64 80)) w_4) (
  callF P F_node_Decode #[(Value.slice b b_l b_c)] [.any, .int .i64] true w_4 fun (t30 : (Value × Int)) w_5 =>
  newB (zc P y_api_Node) y_api_Node w_5 fun b7 w_6 =>
  genU P (storeVar y_api_Node (⟨b7, 0, none⟩ : Addr) t30.1) w_6 fun w_7 =>
  joinP Unit (fun k =>
  drewP w_7 fun w_8 =>
  iteP (t30.2 != 0) (
  R (.returned (Value.int .i64 21)) w_8) (
  withAddr c fun p_1 =>
  ld .slc (Addr.add p_1 2) w_8 fun (t39 : (Option Addr × Nat × Nat)) =>
  ldA P 32 (⟨b5, 0, none⟩ : Addr) w_8 fun t40 =>
  ld (.int .i64) (⟨b7, 0, none⟩ : Addr) w_8 fun (t42 : Int) =>
  genQ P (Instr.build y_carry_pair #[(0, (Value.agg t40)), (1, (Value.int .i64 t42))]) .any w_8 fun (t43 : Value) =>
  callF P F_slices_Contains_S_carry_pair_carry_pair #[(Value.slice t39.1 t39.2.1 t39.2.2), t43] [.bool] false w_8 fun (t44 : Bool) w_9 =>
  iteP (!t44) (
  R (.returned (Value.int .i64 21)) w_9) (
  k () w_9))) (fun _ w_10 =>
  withAddr c fun p_2 =>
  ld .ptr p_2 w_10 fun (t51 : (Option Addr)) =>
  callF P F_blob_Store_Put #[(Value.pointer t51), (Value.slice b b_l b_c)] [.any, .int .i64] true w_10 fun (t53 : (Value × Int)) w_11 =>
  newB (zc P y_api_Digest) y_api_Digest w_11 fun b9 w_12 =>
  genU P (storeVar y_api_Digest (⟨b9, 0, none⟩ : Addr) t53.1) w_12 fun w_13 =>
  iteP (t53.2 != 0) (
  R (.returned (Value.int .i64 t53.2)) w_13) (
  withAddr c fun p_3 =>
  ld .slc (Addr.add p_3 2) w_13 fun (t62 : (Option Addr × Nat × Nat)) =>
  loopP ((Option Addr × Nat × Nat) × Int) (fun s_1 w_14 k_1 =>
  iteP (decide (s_1.2 < (t62.2.1 : Int))) (
  joinP (Option Addr × Nat × Nat) (fun k_2 =>
  ixS t62.1 t62.2.1 33 s_1.2 fun t66 =>
  ldA P 33 t66 w_14 fun t67 =>
  newB (zc P y_carry_pair) y_carry_pair w_14 fun b13 w_15 =>
  genU P (storeVar y_carry_pair (⟨b13, 0, none⟩ : Addr) (Value.agg t67)) w_15 fun w_16 =>
  ldA P 33 (⟨b13, 0, none⟩ : Addr) w_16 fun t69 =>
  callV P t20 #[(Value.agg t69)] [.bool] false w_16 fun (t70 : Bool) w_17 =>
  iteP t70 (
  ldA P 33 (⟨b13, 0, none⟩ : Addr) w_17 fun t72 =>
  genL P (Instr.buildSlice y_S_carry_pair 1 #[(0, (Value.agg t72))]) .slc w_17 fun (t73 : (Option Addr × Nat × Nat)) w_18 =>
  genL P (Builtin.append_ #[y_S_carry_pair, y_S_carry_pair] y_S_carry_pair #[(Value.slice s_1.1.1 s_1.1.2.1 s_1.1.2.2), (Value.slice t73.1 t73.2.1 t73.2.2)]) .slc w_18 fun (t74 : (Option Addr × Nat × Nat)) w_19 =>
  k_2 (t74.1, t74.2.1, t74.2.2) w_19) (
  k_2 (s_1.1.1, s_1.1.2.1, s_1.1.2.2) w_17)) (fun s_2 w_20 =>
  addI .i64 s_1.2 1 fun t75 =>
  k_1 ((s_2.1, s_2.2.1, s_2.2.2), t75) w_20)) (
  withAddr c fun p_4 =>
  ld .slc (Addr.add p_4 2) w_14 fun (t80 : (Option Addr × Nat × Nat)) =>
  callF P F_slices_DeleteFunc_S_carry_pair_carry_pair #[(Value.slice t80.1 t80.2.1 t80.2.2), t20] [.slc] false w_14 fun (t82 : (Option Addr × Nat × Nat)) w_21 =>
  withAddr c fun p_5 =>
  stC (Addr.add p_5 2) (Value.slice t82.1 t82.2.1 t82.2.2) w_21 fun w_22 =>
  loopP Int (fun s_3 w_23 k_3 =>
  iteP (decide (s_3 < (s_1.1.2.1 : Int))) (
  joinP Unit (fun k_4 =>
  joinP Unit (fun k_5 =>
  ixS s_1.1.1 s_1.1.2.1 33 s_3 fun t89 =>
  ldA P 33 t89 w_23 fun t90 =>
  newB (zc P y_carry_pair) y_carry_pair w_23 fun b15 w_24 =>
  genU P (storeVar y_carry_pair (⟨b15, 0, none⟩ : Addr) (Value.agg t90)) w_24 fun w_25 =>
  ld (.int .i64) (⟨b15, 32, none⟩ : Addr) w_25 fun (t92 : Int) =>
  ld (.int .i64) (⟨b7, 0, none⟩ : Addr) w_25 fun (t94 : Int) =>
  iteP (t92 == t94) (
  ldA P 5 (⟨b7, 0, none⟩ : Addr) w_25 fun t97 =>
  callF P F_carry_Carrier_kids #[(Value.pointer c), (Value.agg t97)] [] true w_25 fun (_ : Unit) w_26 =>
  k_5 () w_26) (
  withAddr c fun p_6 =>
  stC (Addr.add p_6 3) (Value.bool true) w_25 fun w_27 =>
  k_5 () w_27)) (fun _ w_28 =>
  k_4 () w_28)) (fun _ w_29 =>
  addI .i64 s_3 1 fun t102 =>
  k_3 t102 w_29)) (
  R (.returned (Value.int .i64 0)) w_23)) 0 w_22)) ((none, 0, 0), 0) w_13))))
theorem eq_carry_Carrier_Offer (c : Option Addr) (b : Option Addr) (b_l b_c : Nat) (R : Ending → World → Prop) (w : World) : tr P qs ((Tryz.f36.body).getD .skip) ann_carry_Carrier_Offer (env0 0 [(0, (Value.pointer c)), (0, (Value.slice b b_l b_c))]) (topK P Tryz.f36.results.toList R) w = T_carry_Carrier_Offer c b b_l b_c R w := by kernel_rfl
theorem fn_carry_Carrier_Offer {c : Option Addr} {b : Option Addr} {b_l b_c : Nat} {R : Ending → World → Prop} {w : World} (hT : T_carry_Carrier_Offer c b b_l b_c R w) : CallF P F_carry_Carrier_Offer #[(Value.pointer c), (Value.slice b b_l b_c)] w R :=
 fn_of_tr (fn := Tryz.f36) (c := (Tryz.f36.body).getD .skip) (ann := ann_carry_Carrier_Offer) (args := [(0, (Value.pointer c)), (0, (Value.slice b b_l b_c))]) (qs := qs) mixed Tryz.func36 rfl (by kernel_rfl) (by kernel_rfl) ok_carry_Carrier_Offer ((eq_carry_Carrier_Offer c b b_l b_c R w).symm ▸ hT)
def ann_carry_Carrier_Want : Ann := (.seq .leaf (.seq .leaf (.seq (.seq .leaf (.cond (.seq .leaf .leaf) .leaf)) (.seq (.seq .leaf (.jblk [(5, .slc)] (.loop [(5, .slc), (15, .int .i64)] (.seq .leaf (.seq (.cond .leaf .leaf) (.seq (.jblk [(5, .slc)] (.seq .leaf (.seq (.seq .leaf (.cond .leaf .leaf)) (.seq .leaf (.cond .leaf .leaf))))) .leaf)))))) (.seq .leaf .leaf)))))
theorem ok_carry_Carrier_Want : okC P qs Tryz.f39.ntmps ((Tryz.f39.body).getD .skip) ann_carry_Carrier_Want = true := by kernel_rfl
def T_carry_Carrier_Want (c : Option Addr) (most : Int) (R : Ending → World → Prop) (w : World) : Prop :=
  iteP (Option.isNone c) (
  R (.returned (Value.slice none 0 0)) w) (
  withAddr c fun p =>
  ld .slc (Addr.add p 2) w fun (t13 : (Option Addr × Nat × Nat)) =>
  joinP (Option Addr × Nat × Nat) (fun k =>
  loopP ((Option Addr × Nat × Nat) × Int) (fun s w_1 k_1 =>
  iteP (decide (s.2 < (t13.2.1 : Int))) (
  joinP (Option Addr × Nat × Nat) (fun k_2 =>
  ixS t13.1 t13.2.1 33 s.2 fun t17 =>
  ldA P 33 t17 w_1 fun t18 =>
  newB (zc P y_carry_pair) y_carry_pair w_1 fun b7 w_2 =>
  genU P (storeVar y_carry_pair (⟨b7, 0, none⟩ : Addr) (Value.agg t18)) w_2 fun w_3 =>
  iteP (decide ((s.1.2.1 : Int) ≥ most)) (
  k (s.1.1, s.1.2.1, s.1.2.2) w_3) (
  ldA P 32 (⟨b7, 0, none⟩ : Addr) w_3 fun t25 =>
  callF P F_slices_Contains_S_api_Digest_api_Digest #[(Value.slice s.1.1 s.1.2.1 s.1.2.2), (Value.agg t25)] [.bool] false w_3 fun (t26 : Bool) w_4 =>
  iteP (!t26) (
  ldA P 32 (⟨b7, 0, none⟩ : Addr) w_4 fun t30 =>
  genL P (Instr.buildSlice y_S_api_Digest 1 #[(0, (Value.agg t30))]) .slc w_4 fun (t31 : (Option Addr × Nat × Nat)) w_5 =>
  genL P (Builtin.append_ #[y_S_api_Digest, y_S_api_Digest] y_S_api_Digest #[(Value.slice s.1.1 s.1.2.1 s.1.2.2), (Value.slice t31.1 t31.2.1 t31.2.2)]) .slc w_5 fun (t32 : (Option Addr × Nat × Nat)) w_6 =>
  k_2 (t32.1, t32.2.1, t32.2.2) w_6) (
  k_2 (s.1.1, s.1.2.1, s.1.2.2) w_4))) (fun s_1 w_7 =>
  addI .i64 s.2 1 fun t33 =>
  k_1 ((s_1.1, s_1.2.1, s_1.2.2), t33) w_7)) (
  k (s.1.1, s.1.2.1, s.1.2.2) w_1)) ((none, 0, 0), 0) w) (fun s_2 w_8 =>
  R (.returned (Value.slice s_2.1 s_2.2.1 s_2.2.2)) w_8))
theorem eq_carry_Carrier_Want (c : Option Addr) (most : Int) (R : Ending → World → Prop) (w : World) : tr P qs ((Tryz.f39.body).getD .skip) ann_carry_Carrier_Want (env0 0 [(0, (Value.pointer c)), (0, (Value.int .i64 most))]) (topK P Tryz.f39.results.toList R) w = T_carry_Carrier_Want c most R w := by kernel_rfl
theorem fn_carry_Carrier_Want {c : Option Addr} {most : Int} {R : Ending → World → Prop} {w : World} (hT : T_carry_Carrier_Want c most R w) : CallF P F_carry_Carrier_Want #[(Value.pointer c), (Value.int .i64 most)] w R :=
 fn_of_tr (fn := Tryz.f39) (c := (Tryz.f39.body).getD .skip) (ann := ann_carry_Carrier_Want) (args := [(0, (Value.pointer c)), (0, (Value.int .i64 most))]) (qs := qs) mixed Tryz.func39 rfl (by kernel_rfl) (by kernel_rfl) ok_carry_Carrier_Want ((eq_carry_Carrier_Want c most R w).symm ▸ hT)
def ann_r08_Digests : Ann := (.seq .leaf (.seq (.seq .leaf (.cond (.seq .leaf .leaf) .leaf)) (.seq (.seq .leaf (.blk (.loop [(5, .int .i64)] (.seq (.seq .leaf (.cond .leaf .leaf)) (.seq (.blk (.seq (.tree (.op 0 [] (.op 1 [] (.op 2 [] (.op 4 [] (.op 5 [] (.op 6 [] (.op 3 [] (.op 7 [] (.op 8 [] .done)))))))))) (.cond (.seq .leaf .leaf) .leaf))) .leaf))))) (.seq .leaf .leaf))))
theorem ok_r08_Digests : okC P qs Tryz.f41.ntmps ((Tryz.f41.body).getD .skip) ann_r08_Digests = true := by kernel_rfl
def T_r08_Digests (a : Option Addr) (a_l a_c : Nat) (b : Option Addr) (b_l b_c : Nat) (R : Ending → World → Prop) (w : World) : Prop :=
  iteP ((a_l : Int) != (b_l : Int)) (
  R (.returned (Value.bool false)) w) (
  loopP Int (fun s w_1 k =>
  iteP (decide (s < (a_l : Int))) (
  drewP w_1 fun w_2 =>
  ixS a a_l 32 s fun t19 =>
  ixS b b_l 32 s fun t23 =>
  ldA P 32 t19 w_2 fun t20 =>
  ldA P 32 t23 w_2 fun t24 =>
  genQ P (eqM .neq y_api_Digest (.tmp 20) (.tmp 24) (Value.agg t20) (Value.agg t24)) .bool w_2 fun (t25 : Bool) =>
  iteP t25 (
  R (.returned (Value.bool false)) w_2) (
  addI .i64 s 1 fun t16 =>
  k t16 w_2)) (
  R (.returned (Value.bool true)) w_1)) 0 w)
theorem eq_r08_Digests (a : Option Addr) (a_l a_c : Nat) (b : Option Addr) (b_l b_c : Nat) (R : Ending → World → Prop) (w : World) : tr P qs ((Tryz.f41.body).getD .skip) ann_r08_Digests (env0 0 [(0, (Value.slice a a_l a_c)), (0, (Value.slice b b_l b_c))]) (topK P Tryz.f41.results.toList R) w = T_r08_Digests a a_l a_c b b_l b_c R w := by kernel_rfl
theorem fn_r08_Digests {a : Option Addr} {a_l a_c : Nat} {b : Option Addr} {b_l b_c : Nat} {R : Ending → World → Prop} {w : World} (hT : T_r08_Digests a a_l a_c b b_l b_c R w) : CallF P F_r08_Digests #[(Value.slice a a_l a_c), (Value.slice b b_l b_c)] w R :=
 fn_of_tr (fn := Tryz.f41) (c := (Tryz.f41.body).getD .skip) (ann := ann_r08_Digests) (args := [(0, (Value.slice a a_l a_c)), (0, (Value.slice b b_l b_c))]) (qs := qs) mixed Tryz.func41 rfl (by kernel_rfl) (by kernel_rfl) ok_r08_Digests ((eq_r08_Digests a a_l a_c b b_l b_c R w).symm ▸ hT)
def ann_carry_Reach : Ann := (.seq .leaf (.join [] (.jblk [] (.seq .leaf (.cond (.seq .leaf .leaf) (.seq .leaf (.cond (.seq .leaf .leaf) .leaf))))) (.seq .leaf (.seq .leaf (.seq .leaf (.seq .leaf (.seq .leaf (.seq (.seq .leaf (.seq .leaf (.cond (.seq .leaf .leaf) .leaf))) (.seq .leaf .leaf)))))))))
theorem ok_carry_Reach : okC P qs Tryz.f42.ntmps ((Tryz.f42.body).getD .skip) ann_carry_Reach = true := by kernel_rfl
def T_carry_Reach (s : Option Addr) (root : Value) (kind : Int) (R : Ending → World → Prop) (w : World) : Prop :=
  newB #[(Value.pointer s)] y_p_blob_Store w fun b3 w_1 =>
  newB (Value.cells root) y_api_Digest w_1 fun b4 w_2 =>
  joinP Unit (fun k =>
  joinP Unit (fun k_1 =>
  ld .ptr (⟨b3, 0, none⟩ : Addr) w_2 fun (t14 : (Option Addr)) =>
  iteP (Option.isNone t14) (
  R (.returned (Value.tuple #[(Value.slice none 0 0), (Value.int .i64 7)])) w_2) (
  iteP (kind != 2) (
  iteP (kind != 3) (
  R (.returned (Value.tuple #[(Value.slice none 0 0), (Value.int .i64 100)])) w_2) (
  k_1 () w_2)) (
  k_1 () w_2))) (fun _ w_3 =>
  k () w_3)) (fun _ w_4 =>
  genL P (Instr.makeMap y_M_carry_pair_int none) .map w_4 fun (t23 : (Option Nat)) w_5 =>
  newB (zc P y_M_carry_pair_int) y_M_carry_pair_int w_5 fun b8 w_6 =>
  stC (⟨b8, 0, none⟩ : Addr) (Value.map t23) w_6 fun w_7 =>
  genL P (Instr.makeMap y_M_api_Digest_int none) .map w_7 fun (t24 : (Option Nat)) w_8 =>
  newB (zc P y_M_api_Digest_int) y_M_api_Digest_int w_8 fun b9 w_9 =>
  stC (⟨b9, 0, none⟩ : Addr) (Value.map t24) w_9 fun w_10 =>
  newB (zc P y_S_api_Digest) y_S_api_Digest w_10 fun b10 w_11 =>
  newB (zc P y_func_d5d261) y_func_d5d261 w_11 fun b11 w_12 =>
  genQ P (Instr.makeFunc (Go.Fn.func F_carry_Reach_1) #[] #[(Value.pointer (some (⟨b8, 0, none⟩ : Addr))), (Value.pointer (some (⟨b3, 0, none⟩ : Addr))), (Value.pointer (some (⟨b9, 0, none⟩ : Addr))), (Value.pointer (some (⟨b10, 0, none⟩ : Addr))), (Value.pointer (some (⟨b11, 0, none⟩ : Addr)))]) .any w_12 fun (t25 : Value) =>
  genU P (storeVar y_func_d5d261 (⟨b11, 0, none⟩ : Addr) t25) w_12 fun w_13 =>
  ld .any (⟨b11, 0, none⟩ : Addr) w_13 fun (t26 : Value) =>
  ldA P 32 (⟨b4, 0, none⟩ : Addr) w_13 fun t27 =>
  genQ P (Instr.build y_carry_pair #[(0, (Value.agg t27)), (1, (Value.int .i64 kind))]) .any w_13 fun (t29 : Value) =>
  callV P t26 #[t29] [.int .i64] false w_13 fun (t30 : Int) w_14 =>
  iteP (t30 != 0) (
  R (.returned (Value.tuple #[(Value.slice none 0 0), (Value.int .i64 t30)])) w_14) (
  ld .slc (⟨b10, 0, none⟩ : Addr) w_14 fun (t34 : (Option Addr × Nat × Nat)) =>
  R (.returned (Value.tuple #[(Value.slice t34.1 t34.2.1 t34.2.2), (Value.int .i64 0)])) w_14))
theorem eq_carry_Reach (s : Option Addr) (root : Value) (kind : Int) (R : Ending → World → Prop) (w : World) : tr P qs ((Tryz.f42.body).getD .skip) ann_carry_Reach (env0 0 [(0, (Value.pointer s)), (1, root), (0, (Value.int .i64 kind))]) (topK P Tryz.f42.results.toList R) w = T_carry_Reach s root kind R w := by kernel_rfl
theorem fn_carry_Reach {s : Option Addr} {root : Value} {kind : Int} {R : Ending → World → Prop} {w : World} (hT : T_carry_Reach s root kind R w) : CallF P F_carry_Reach #[(Value.pointer s), root, (Value.int .i64 kind)] w R :=
 fn_of_tr (fn := Tryz.f42) (c := (Tryz.f42.body).getD .skip) (ann := ann_carry_Reach) (args := [(0, (Value.pointer s)), (1, root), (0, (Value.int .i64 kind))]) (qs := qs) mixed Tryz.func42 rfl (by kernel_rfl) (by kernel_rfl) ok_carry_Reach ((eq_carry_Reach s root kind R w).symm ▸ hT)
def ann_carry_Carrier_Done : Ann := (.seq .leaf (.seq .leaf .leaf))
theorem ok_carry_Carrier_Done : okC P qs Tryz.f43.ntmps ((Tryz.f43.body).getD .skip) ann_carry_Carrier_Done = true := by kernel_rfl
def T_carry_Carrier_Done (c : Option Addr) (R : Ending → World → Prop) (w : World) : Prop :=
  iteP (!(Option.isNone c)) (
  withAddr c fun p =>
  ld .slc (Addr.add p 2) w fun (t9 : (Option Addr × Nat × Nat)) =>
  iteP ((t9.2.1 : Int) == 0) (
  withAddr c fun p_1 =>
  ld .bool (Addr.add p_1 3) w fun (t17 : Bool) =>
  R (.returned (Value.bool (!t17))) w) (
  R (.returned (Value.bool false)) w)) (
  R (.returned (Value.bool false)) w)
theorem eq_carry_Carrier_Done (c : Option Addr) (R : Ending → World → Prop) (w : World) : tr P qs ((Tryz.f43.body).getD .skip) ann_carry_Carrier_Done (env0 0 [(0, (Value.pointer c))]) (topK P Tryz.f43.results.toList R) w = T_carry_Carrier_Done c R w := by kernel_rfl
theorem fn_carry_Carrier_Done {c : Option Addr} {R : Ending → World → Prop} {w : World} (hT : T_carry_Carrier_Done c R w) : CallF P F_carry_Carrier_Done #[(Value.pointer c)] w R :=
 fn_of_tr (fn := Tryz.f43) (c := (Tryz.f43.body).getD .skip) (ann := ann_carry_Carrier_Done) (args := [(0, (Value.pointer c))]) (qs := qs) mixed Tryz.func43 rfl (by kernel_rfl) (by kernel_rfl) ok_carry_Carrier_Done ((eq_carry_Carrier_Done c R w).symm ▸ hT)
def ann_carry_Carrier_Foul : Ann := (.seq .leaf (.seq .leaf .leaf))
theorem ok_carry_Carrier_Foul : okC P qs Tryz.f44.ntmps ((Tryz.f44.body).getD .skip) ann_carry_Carrier_Foul = true := by kernel_rfl
def T_carry_Carrier_Foul (c : Option Addr) (R : Ending → World → Prop) (w : World) : Prop :=
  iteP (!(Option.isNone c)) (
  withAddr c fun p =>
  ld .bool (Addr.add p 3) w fun (t9 : Bool) =>
  R (.returned (Value.bool t9)) w) (
  R (.returned (Value.bool false)) w)
theorem eq_carry_Carrier_Foul (c : Option Addr) (R : Ending → World → Prop) (w : World) : tr P qs ((Tryz.f44.body).getD .skip) ann_carry_Carrier_Foul (env0 0 [(0, (Value.pointer c))]) (topK P Tryz.f44.results.toList R) w = T_carry_Carrier_Foul c R w := by kernel_rfl
theorem fn_carry_Carrier_Foul {c : Option Addr} {R : Ending → World → Prop} {w : World} (hT : T_carry_Carrier_Foul c R w) : CallF P F_carry_Carrier_Foul #[(Value.pointer c)] w R :=
 fn_of_tr (fn := Tryz.f44) (c := (Tryz.f44.body).getD .skip) (ann := ann_carry_Carrier_Foul) (args := [(0, (Value.pointer c))]) (qs := qs) mixed Tryz.func44 rfl (by kernel_rfl) (by kernel_rfl) ok_carry_Carrier_Foul ((eq_carry_Carrier_Foul c R w).symm ▸ hT)
def ann_carry_Carrier_look : Ann := (.seq .leaf (.seq (.seq (.tree (.op 0 [] (.op 1 [] (.op 2 [] (.op 3 [] (.op 4 [] (.op 5 [] (.op 6 [] .done)))))))) (.cond .leaf .leaf)) (.seq (.tree (.op 0 [] (.op 1 [] (.op 2 [] (.op 3 [] (.op 4 [] (.op 5 [] .done))))))) (.seq (.tree (.op 0 [] (.op 1 [] (.op 2 [] (.op 4 [] (.op 3 [] (.op 5 [] (.op 6 [] (.op 7 [] (.op 8 [] (.op 9 [] (.op 10 [] (.op 11 [] .done))))))))))))) (.seq (.seq .leaf (.cond (.seq (.tree (.op 0 [] (.op 1 [] (.op 2 [] (.op 3 [] (.op 4 [] (.op 5 [] (.op 6 [4] (.op 7 [] (.op 8 [] (.op 9 [] (.op 10 [] .done)))))))))))) .leaf) .leaf)) (.seq .leaf (.join [] (.seq .leaf (.cond (.seq .leaf .leaf) .leaf)) .leaf)))))))
theorem ok_carry_Carrier_look : okC P qs Tryz.f79.ntmps ((Tryz.f79.body).getD .skip) ann_carry_Carrier_look = true := by kernel_rfl
def T_carry_Carrier_look (c : Option Addr) (p : Value) (R : Ending → World → Prop) (w : World) : Prop :=
  newB (Value.cells p) y_carry_pair w fun b3 w_1 =>
  drewP w_1 fun w_2 =>
  withAddr c fun p_1 =>
  ld .map (Addr.add p_1 1) w_2 fun (t10 : (Option Nat)) =>
  ldA P 33 (⟨b3, 0, none⟩ : Addr) w_2 fun t11 =>
  genQ P (Instr.lookup y_M_carry_pair_int (Value.map t10) (Value.agg t11) false) (.int .i64) w_2 fun (t12 : Int) =>
  iteP (decide (t12 > 0)) (
  R (.returned (Value.tuple #[])) w_2) (
  drewP w_2 fun w_3 =>
  withAddr c fun p_2 =>
  ld .map (Addr.add p_2 1) w_3 fun (t17 : (Option Nat)) =>
  ldA P 33 (⟨b3, 0, none⟩ : Addr) w_3 fun t18 =>
  genU P (Instr.mapUpdate y_M_carry_pair_int (Value.map t17) (Value.agg t18) (Value.int .i64 1)) w_3 fun w_4 =>
  drewP w_4 fun w_5 =>
  withAddr c fun p_3 =>
  ld .ptr p_3 w_5 fun (t23 : (Option Addr)) =>
  ldA P 32 (⟨b3, 0, none⟩ : Addr) w_5 fun t25 =>
  callF P F_blob_Store_Get #[(Value.pointer t23), (Value.agg t25)] [.slc, .int .i64] true w_5 fun (t26 : ((Option Addr × Nat × Nat) × Int)) w_6 =>
  iteP (t26.2 != 0) (
  drewP w_6 fun w_7 =>
  withAddr c fun p_4 =>
  ld .slc (Addr.add p_4 2) w_7 fun (t35 : (Option Addr × Nat × Nat)) =>
  ldA P 33 (⟨b3, 0, none⟩ : Addr) w_7 fun t36 =>
  genL P (Instr.buildSlice y_S_carry_pair 1 #[(0, (Value.agg t36))]) .slc w_7 fun (t37 : (Option Addr × Nat × Nat)) w_8 =>
  ((ld .slc (Addr.add p_4 2) w_8 fun (t35_1 : (Option Addr × Nat × Nat)) =>
  (Value.slice t35_1.1 t35_1.2.1 t35_1.2.2) = (Value.slice t35.1 t35.2.1 t35.2.2)) ∧
  genL P (Builtin.append_ #[y_S_carry_pair, y_S_carry_pair] y_S_carry_pair #[(Value.slice t35.1 t35.2.1 t35.2.2), (Value.slice t37.1 t37.2.1 t37.2.2)]) .slc w_8 fun (t38 : (Option Addr × Nat × Nat)) w_9 =>
  withAddr c fun p_5 =>
  stC (Addr.add p_5 2) (Value.slice t38.1 t38.2.1 t38.2.2) w_9 fun w_10 =>
  R (.returned (Value.tuple #[])) w_10)) (
  callF P F_node_Decode #[(Value.slice t26.1.1 t26.1.2.1 t26.1.2.2)] [.any, .int .i64] true w_6 fun (t43 : (Value × Int)) w_11 =>
  newB (zc P y_api_Node) y_api_Node w_11 fun b6 w_12 =>
  genU P (storeVar y_api_Node (⟨b6, 0, none⟩ : Addr) t43.1) w_12 fun w_13 =>
  joinP Unit (fun k =>
  iteP (t43.2 != 0) (
  withAddr c fun p_6 =>
  stC (Addr.add p_6 3) (Value.bool true) w_13 fun w_14 =>
  R (.returned (Value.tuple #[])) w_14) (
  ld (.int .i64) (⟨b6, 0, none⟩ : Addr) w_13 fun (t50 : Int) =>
  ld (.int .i64) (⟨b3, 32, none⟩ : Addr) w_13 fun (t52 : Int) =>
  iteP (t50 != t52) (
  withAddr c fun p_7 =>
  stC (Addr.add p_7 3) (Value.bool true) w_13 fun w_15 =>
  R (.returned (Value.tuple #[])) w_15) (
  k () w_13))) (fun _ w_16 =>
  ldA P 5 (⟨b6, 0, none⟩ : Addr) w_16 fun t59 =>
  callF P F_carry_Carrier_kids #[(Value.pointer c), (Value.agg t59)] [] true w_16 fun (_ : Unit) w_17 =>
  R (.returned (Value.tuple #[])) w_17)))
theorem eq_carry_Carrier_look (c : Option Addr) (p : Value) (R : Ending → World → Prop) (w : World) : tr P qs ((Tryz.f79.body).getD .skip) ann_carry_Carrier_look (env0 0 [(0, (Value.pointer c)), (1, p)]) (topK P Tryz.f79.results.toList R) w = T_carry_Carrier_look c p R w := by kernel_rfl
theorem fn_carry_Carrier_look {c : Option Addr} {p : Value} {R : Ending → World → Prop} {w : World} (hT : T_carry_Carrier_look c p R w) : CallF P F_carry_Carrier_look #[(Value.pointer c), p] w R :=
 fn_of_tr (fn := Tryz.f79) (c := (Tryz.f79.body).getD .skip) (ann := ann_carry_Carrier_look) (args := [(0, (Value.pointer c)), (1, p)]) (qs := qs) mixed Tryz.func79 rfl (by kernel_rfl) (by kernel_rfl) ok_carry_Carrier_look ((eq_carry_Carrier_look c p R w).symm ▸ hT)
def ann_carry_Carrier_Offer_1 : Ann := (.seq .leaf (.seq .leaf .leaf))
theorem ok_carry_Carrier_Offer_1 : okC P qs Tryz.f83.ntmps ((Tryz.f83.body).getD .skip) ann_carry_Carrier_Offer_1 = true := by kernel_rfl
def T_carry_Carrier_Offer_1 (p : Value) (c0 : Option Addr) (R : Ending → World → Prop) (w : World) : Prop :=
  newB (Value.cells p) y_carry_pair w fun b2 w_1 =>
  ldA P 32 (⟨b2, 0, none⟩ : Addr) w_1 fun t5 =>
  withAddr c0 fun p_1 =>
  ldA P 32 p_1 w_1 fun t6 =>
  genQ P (eqM .eql y_api_Digest (.tmp 5) (.tmp 6) (Value.agg t5) (Value.agg t6)) .bool w_1 fun (t7 : Bool) =>
  R (.returned (Value.bool t7)) w_1
theorem eq_carry_Carrier_Offer_1 (p : Value) (c0 : Option Addr) (R : Ending → World → Prop) (w : World) : tr P qs ((Tryz.f83.body).getD .skip) ann_carry_Carrier_Offer_1 (env0 0 [(1, p), (0, (Value.pointer c0))]) (topK P Tryz.f83.results.toList R) w = T_carry_Carrier_Offer_1 p c0 R w := by kernel_rfl
theorem fn_carry_Carrier_Offer_1 {p : Value} {c0 : Option Addr} {R : Ending → World → Prop} {w : World} (hT : T_carry_Carrier_Offer_1 p c0 R w) : CallF P F_carry_Carrier_Offer_1 #[p, (Value.pointer c0)] w R :=
 fn_of_tr (fn := Tryz.f83) (c := (Tryz.f83.body).getD .skip) (ann := ann_carry_Carrier_Offer_1) (args := [(1, p), (0, (Value.pointer c0))]) (qs := qs) mixed Tryz.func83 rfl (by kernel_rfl) (by kernel_rfl) ok_carry_Carrier_Offer_1 ((eq_carry_Carrier_Offer_1 p c0 R w).symm ▸ hT)
def ann_slices_ContainsFunc_S_carry_pair_carry_pair : Ann := (.seq .leaf (.seq .leaf .leaf))
theorem ok_slices_ContainsFunc_S_carry_pair_carry_pair : okC P qs Tryz.f84.ntmps ((Tryz.f84.body).getD .skip) ann_slices_ContainsFunc_S_carry_pair_carry_pair = true := by kernel_rfl
def T_slices_ContainsFunc_S_carry_pair_carry_pair (s : Option Addr) (s_l s_c : Nat) (f : Value) (R : Ending → World → Prop) (w : World) : Prop :=
  callF P F_slices_IndexFunc_S_carry_pair_carry_pair #[(Value.slice s s_l s_c), f] [.int .i64] false w fun (t7 : Int) w_1 =>
  R (.returned (Value.bool (decide (t7 ≥ 0)))) w_1
theorem eq_slices_ContainsFunc_S_carry_pair_carry_pair (s : Option Addr) (s_l s_c : Nat) (f : Value) (R : Ending → World → Prop) (w : World) : tr P qs ((Tryz.f84.body).getD .skip) ann_slices_ContainsFunc_S_carry_pair_carry_pair (env0 0 [(0, (Value.slice s s_l s_c)), (1, f)]) (topK P Tryz.f84.results.toList R) w = T_slices_ContainsFunc_S_carry_pair_carry_pair s s_l s_c f R w := by kernel_rfl
theorem fn_slices_ContainsFunc_S_carry_pair_carry_pair {s : Option Addr} {s_l s_c : Nat} {f : Value} {R : Ending → World → Prop} {w : World} (hT : T_slices_ContainsFunc_S_carry_pair_carry_pair s s_l s_c f R w) : CallF P F_slices_ContainsFunc_S_carry_pair_carry_pair #[(Value.slice s s_l s_c), f] w R :=
 fn_of_tr (fn := Tryz.f84) (c := (Tryz.f84.body).getD .skip) (ann := ann_slices_ContainsFunc_S_carry_pair_carry_pair) (args := [(0, (Value.slice s s_l s_c)), (1, f)]) (qs := qs) mixed Tryz.func84 rfl (by kernel_rfl) (by kernel_rfl) ok_slices_ContainsFunc_S_carry_pair_carry_pair ((eq_slices_ContainsFunc_S_carry_pair_carry_pair s s_l s_c f R w).symm ▸ hT)
def ann_slices_Contains_S_carry_pair_carry_pair : Ann := (.seq .leaf (.seq .leaf .leaf))
theorem ok_slices_Contains_S_carry_pair_carry_pair : okC P qs Tryz.f86.ntmps ((Tryz.f86.body).getD .skip) ann_slices_Contains_S_carry_pair_carry_pair = true := by kernel_rfl
def T_slices_Contains_S_carry_pair_carry_pair (s : Option Addr) (s_l s_c : Nat) (v : Value) (R : Ending → World → Prop) (w : World) : Prop :=
  newB (Value.cells v) y_carry_pair w fun b3 w_1 =>
  ldA P 33 (⟨b3, 0, none⟩ : Addr) w_1 fun t6 =>
  callF P F_slices_Index_S_carry_pair_carry_pair #[(Value.slice s s_l s_c), (Value.agg t6)] [.int .i64] false w_1 fun (t7 : Int) w_2 =>
  R (.returned (Value.bool (decide (t7 ≥ 0)))) w_2
theorem eq_slices_Contains_S_carry_pair_carry_pair (s : Option Addr) (s_l s_c : Nat) (v : Value) (R : Ending → World → Prop) (w : World) : tr P qs ((Tryz.f86.body).getD .skip) ann_slices_Contains_S_carry_pair_carry_pair (env0 0 [(0, (Value.slice s s_l s_c)), (1, v)]) (topK P Tryz.f86.results.toList R) w = T_slices_Contains_S_carry_pair_carry_pair s s_l s_c v R w := by kernel_rfl
theorem fn_slices_Contains_S_carry_pair_carry_pair {s : Option Addr} {s_l s_c : Nat} {v : Value} {R : Ending → World → Prop} {w : World} (hT : T_slices_Contains_S_carry_pair_carry_pair s s_l s_c v R w) : CallF P F_slices_Contains_S_carry_pair_carry_pair #[(Value.slice s s_l s_c), v] w R :=
 fn_of_tr (fn := Tryz.f86) (c := (Tryz.f86.body).getD .skip) (ann := ann_slices_Contains_S_carry_pair_carry_pair) (args := [(0, (Value.slice s s_l s_c)), (1, v)]) (qs := qs) mixed Tryz.func86 rfl (by kernel_rfl) (by kernel_rfl) ok_slices_Contains_S_carry_pair_carry_pair ((eq_slices_Contains_S_carry_pair_carry_pair s s_l s_c v R w).symm ▸ hT)
def ann_slices_DeleteFunc_S_carry_pair_carry_pair : Ann := (.seq .leaf (.seq .leaf (.seq (.seq .leaf (.cond (.seq .leaf .leaf) .leaf)) (.seq (.seq .leaf (.blk (.loop [(5, .int .i64), (6, .int .i64)] (.seq (.seq .leaf (.cond .leaf .leaf)) (.seq (.jblk [(5, .int .i64)] (.seq .leaf (.seq .leaf (.cond (.seq .leaf .leaf) .leaf)))) .leaf))))) (.seq .leaf (.seq .leaf .leaf))))))
theorem ok_slices_DeleteFunc_S_carry_pair_carry_pair : okC P qs Tryz.f87.ntmps ((Tryz.f87.body).getD .skip) ann_slices_DeleteFunc_S_carry_pair_carry_pair = true := by kernel_rfl
def T_slices_DeleteFunc_S_carry_pair_carry_pair (s : Option Addr) (s_l s_c : Nat) (del : Value) (R : Ending → World → Prop) (w : World) : Prop :=
  callF P F_slices_IndexFunc_S_carry_pair_carry_pair #[(Value.slice s s_l s_c), del] [.int .i64] false w fun (t10 : Int) w_1 =>
  iteP (t10 == (-1)) (
  R (.returned (Value.slice s s_l s_c)) w_1) (
  addI .i64 t10 1 fun t15 =>
  loopP (Int × Int) (fun s_1 w_2 k =>
  iteP (decide (s_1.2 < (s_l : Int))) (
  joinP Int (fun k_1 =>
  ixS s s_l 33 s_1.2 fun t24 =>
  ldA P 33 t24 w_2 fun t25 =>
  newB (zc P y_carry_pair) y_carry_pair w_2 fun b7 w_3 =>
  genU P (storeVar y_carry_pair (⟨b7, 0, none⟩ : Addr) (Value.agg t25)) w_3 fun w_4 =>
  ldA P 33 (⟨b7, 0, none⟩ : Addr) w_4 fun t27 =>
  callV P del #[(Value.agg t27)] [.bool] false w_4 fun (t28 : Bool) w_5 =>
  iteP (!t28) (
  ldA P 33 (⟨b7, 0, none⟩ : Addr) w_5 fun t32 =>
  ixS s s_l 33 s_1.1 fun t33 =>
  genU P (storeVar y_carry_pair t33 (Value.agg t32)) w_5 fun w_6 =>
  addI .i64 s_1.1 1 fun t35 =>
  k_1 t35 w_6) (
  k_1 s_1.1 w_5)) (fun s_2 w_7 =>
  addI .i64 s_1.2 1 fun t21 =>
  k (s_2, t21) w_7)) (
  genQ P (Instr.sliceAt y_S_carry_pair (Value.slice s s_l s_c) (some (Value.int .i64 s_1.1)) none none) .slc w_2 fun (t38 : (Option Addr × Nat × Nat)) =>
  genL P (Builtin.clear_ #[y_S_carry_pair] y_tuple_bcd8b0 #[(Value.slice t38.1 t38.2.1 t38.2.2)]) .any w_2 fun (_ : Value) w_8 =>
  genQ P (Instr.sliceAt y_S_carry_pair (Value.slice s s_l s_c) none (some (Value.int .i64 s_1.1)) none) .slc w_8 fun (t41 : (Option Addr × Nat × Nat)) =>
  R (.returned (Value.slice t41.1 t41.2.1 t41.2.2)) w_8)) (t10, t15) w_1)
theorem eq_slices_DeleteFunc_S_carry_pair_carry_pair (s : Option Addr) (s_l s_c : Nat) (del : Value) (R : Ending → World → Prop) (w : World) : tr P qs ((Tryz.f87.body).getD .skip) ann_slices_DeleteFunc_S_carry_pair_carry_pair (env0 0 [(0, (Value.slice s s_l s_c)), (1, del)]) (topK P Tryz.f87.results.toList R) w = T_slices_DeleteFunc_S_carry_pair_carry_pair s s_l s_c del R w := by kernel_rfl
theorem fn_slices_DeleteFunc_S_carry_pair_carry_pair {s : Option Addr} {s_l s_c : Nat} {del : Value} {R : Ending → World → Prop} {w : World} (hT : T_slices_DeleteFunc_S_carry_pair_carry_pair s s_l s_c del R w) : CallF P F_slices_DeleteFunc_S_carry_pair_carry_pair #[(Value.slice s s_l s_c), del] w R :=
 fn_of_tr (fn := Tryz.f87) (c := (Tryz.f87.body).getD .skip) (ann := ann_slices_DeleteFunc_S_carry_pair_carry_pair) (args := [(0, (Value.slice s s_l s_c)), (1, del)]) (qs := qs) mixed Tryz.func87 rfl (by kernel_rfl) (by kernel_rfl) ok_slices_DeleteFunc_S_carry_pair_carry_pair ((eq_slices_DeleteFunc_S_carry_pair_carry_pair s s_l s_c del R w).symm ▸ hT)
def ann_carry_Carrier_kids : Ann := (.seq .leaf (.seq .leaf (.blk (.loop [(9, .int .i64)] (.seq .leaf (.seq (.cond .leaf .leaf) (.seq (.blk (.seq .leaf .leaf)) .leaf)))))))
theorem ok_carry_Carrier_kids : okC P qs Tryz.f88.ntmps ((Tryz.f88.body).getD .skip) ann_carry_Carrier_kids = true := by kernel_rfl
def T_carry_Carrier_kids (c : Option Addr) (n : Value) (R : Ending → World → Prop) (w : World) : Prop :=
  newB (Value.cells n) y_api_Node w fun b3 w_1 =>
  ldA P 5 (⟨b3, 0, none⟩ : Addr) w_1 fun t6 =>
  callF P F_node_Kids #[(Value.agg t6)] [.slc] false w_1 fun (t7 : (Option Addr × Nat × Nat)) w_2 =>
  loopP Int (fun s w_3 k =>
  iteP (decide (s < (t7.2.1 : Int))) (
  ixS t7.1 t7.2.1 34 s fun t11 =>
  ldA P 34 t11 w_3 fun t12 =>
  newB (zc P y_api_Item) y_api_Item w_3 fun b5 w_4 =>
  genU P (storeVar y_api_Item (⟨b5, 0, none⟩ : Addr) (Value.agg t12)) w_4 fun w_5 =>
  ldA P 32 (⟨b5, 2, none⟩ : Addr) w_5 fun t15 =>
  ld (.int .i64) (⟨b5, 1, none⟩ : Addr) w_5 fun (t17 : Int) =>
  genQ P (Instr.build y_carry_pair #[(0, (Value.agg t15)), (1, (Value.int .i64 t17))]) .any w_5 fun (t18 : Value) =>
  callF P F_carry_Carrier_look #[(Value.pointer c), t18] [] true w_5 fun (_ : Unit) w_6 =>
  addI .i64 s 1 fun t20 =>
  k t20 w_6) (
  R (.returned (Value.tuple #[])) w_3)) 0 w_2
theorem eq_carry_Carrier_kids (c : Option Addr) (n : Value) (R : Ending → World → Prop) (w : World) : tr P qs ((Tryz.f88.body).getD .skip) ann_carry_Carrier_kids (env0 0 [(0, (Value.pointer c)), (1, n)]) (topK P Tryz.f88.results.toList R) w = T_carry_Carrier_kids c n R w := by kernel_rfl
theorem fn_carry_Carrier_kids {c : Option Addr} {n : Value} {R : Ending → World → Prop} {w : World} (hT : T_carry_Carrier_kids c n R w) : CallF P F_carry_Carrier_kids #[(Value.pointer c), n] w R :=
 fn_of_tr (fn := Tryz.f88) (c := (Tryz.f88.body).getD .skip) (ann := ann_carry_Carrier_kids) (args := [(0, (Value.pointer c)), (1, n)]) (qs := qs) mixed Tryz.func88 rfl (by kernel_rfl) (by kernel_rfl) ok_carry_Carrier_kids ((eq_carry_Carrier_kids c n R w).symm ▸ hT)
def ann_slices_IndexFunc_S_carry_pair_carry_pair : Ann := (.seq .leaf (.seq (.seq .leaf (.blk (.loop [(8, .int .i64)] (.seq .leaf (.seq (.cond .leaf .leaf) (.seq (.blk (.seq .leaf (.seq .leaf (.cond (.seq .leaf .leaf) .leaf)))) .leaf)))))) (.seq .leaf .leaf)))
theorem ok_slices_IndexFunc_S_carry_pair_carry_pair : okC P qs Tryz.f136.ntmps ((Tryz.f136.body).getD .skip) ann_slices_IndexFunc_S_carry_pair_carry_pair = true := by kernel_rfl
def T_slices_IndexFunc_S_carry_pair_carry_pair (s : Option Addr) (s_l s_c : Nat) (f : Value) (R : Ending → World → Prop) (w : World) : Prop :=
  loopP Int (fun s_1 w_1 k =>
  iteP (decide (s_1 < (s_l : Int))) (
  ixS s s_l 33 s_1 fun t14 =>
  ldA P 33 t14 w_1 fun t15 =>
  callV P f #[(Value.agg t15)] [.bool] false w_1 fun (t16 : Bool) w_2 =>
  iteP t16 (
  R (.returned (Value.int .i64 s_1)) w_2) (
  addI .i64 s_1 1 fun t18 =>
  k t18 w_2)) (
  R (.returned (Value.int .i64 (-1))) w_1)) 0 w
theorem eq_slices_IndexFunc_S_carry_pair_carry_pair (s : Option Addr) (s_l s_c : Nat) (f : Value) (R : Ending → World → Prop) (w : World) : tr P qs ((Tryz.f136.body).getD .skip) ann_slices_IndexFunc_S_carry_pair_carry_pair (env0 0 [(0, (Value.slice s s_l s_c)), (1, f)]) (topK P Tryz.f136.results.toList R) w = T_slices_IndexFunc_S_carry_pair_carry_pair s s_l s_c f R w := by kernel_rfl
theorem fn_slices_IndexFunc_S_carry_pair_carry_pair {s : Option Addr} {s_l s_c : Nat} {f : Value} {R : Ending → World → Prop} {w : World} (hT : T_slices_IndexFunc_S_carry_pair_carry_pair s s_l s_c f R w) : CallF P F_slices_IndexFunc_S_carry_pair_carry_pair #[(Value.slice s s_l s_c), f] w R :=
 fn_of_tr (fn := Tryz.f136) (c := (Tryz.f136.body).getD .skip) (ann := ann_slices_IndexFunc_S_carry_pair_carry_pair) (args := [(0, (Value.slice s s_l s_c)), (1, f)]) (qs := qs) mixed Tryz.func136 rfl (by kernel_rfl) (by kernel_rfl) ok_slices_IndexFunc_S_carry_pair_carry_pair ((eq_slices_IndexFunc_S_carry_pair_carry_pair s s_l s_c f R w).symm ▸ hT)
def ann_slices_Index_S_carry_pair_carry_pair : Ann := (.seq .leaf (.seq (.seq .leaf (.blk (.loop [(8, .int .i64)] (.seq .leaf (.seq (.cond .leaf .leaf) (.seq (.blk (.seq .leaf (.seq (.tree (.op 1 [] (.op 2 [] (.op 3 [] (.op 0 [] (.op 4 [] (.op 5 [] .done))))))) (.cond (.seq .leaf .leaf) .leaf)))) .leaf)))))) (.seq .leaf .leaf)))
theorem ok_slices_Index_S_carry_pair_carry_pair : okC P qs Tryz.f141.ntmps ((Tryz.f141.body).getD .skip) ann_slices_Index_S_carry_pair_carry_pair = true := by kernel_rfl
def T_slices_Index_S_carry_pair_carry_pair (s : Option Addr) (s_l s_c : Nat) (v : Value) (R : Ending → World → Prop) (w : World) : Prop :=
  newB (Value.cells v) y_carry_pair w fun b3 w_1 =>
  loopP Int (fun s_1 w_2 k =>
  iteP (decide (s_1 < (s_l : Int))) (
  drewP w_2 fun w_3 =>
  ixS s s_l 33 s_1 fun t14 =>
  ldA P 33 (⟨b3, 0, none⟩ : Addr) w_3 fun t11 =>
  ldA P 33 t14 w_3 fun t15 =>
  genQ P (eqM .eql y_carry_pair (.tmp 11) (.tmp 15) (Value.agg t11) (Value.agg t15)) .bool w_3 fun (t16 : Bool) =>
  iteP t16 (
  R (.returned (Value.int .i64 s_1)) w_3) (
  addI .i64 s_1 1 fun t18 =>
  k t18 w_3)) (
  R (.returned (Value.int .i64 (-1))) w_2)) 0 w_1
theorem eq_slices_Index_S_carry_pair_carry_pair (s : Option Addr) (s_l s_c : Nat) (v : Value) (R : Ending → World → Prop) (w : World) : tr P qs ((Tryz.f141.body).getD .skip) ann_slices_Index_S_carry_pair_carry_pair (env0 0 [(0, (Value.slice s s_l s_c)), (1, v)]) (topK P Tryz.f141.results.toList R) w = T_slices_Index_S_carry_pair_carry_pair s s_l s_c v R w := by kernel_rfl
theorem fn_slices_Index_S_carry_pair_carry_pair {s : Option Addr} {s_l s_c : Nat} {v : Value} {R : Ending → World → Prop} {w : World} (hT : T_slices_Index_S_carry_pair_carry_pair s s_l s_c v R w) : CallF P F_slices_Index_S_carry_pair_carry_pair #[(Value.slice s s_l s_c), v] w R :=
 fn_of_tr (fn := Tryz.f141) (c := (Tryz.f141.body).getD .skip) (ann := ann_slices_Index_S_carry_pair_carry_pair) (args := [(0, (Value.slice s s_l s_c)), (1, v)]) (qs := qs) mixed Tryz.func141 rfl (by kernel_rfl) (by kernel_rfl) ok_slices_Index_S_carry_pair_carry_pair ((eq_slices_Index_S_carry_pair_carry_pair s s_l s_c v R w).symm ▸ hT)
end Go.Proofs.YtbmegmbnlajbbaaGreatDoor
namespace Go.Fw
open Go
abbrev Heap := Array Obj
@[simp] theorem withAddr_some {a : Addr} {K : Addr → Prop} : withAddr (some a) K = K a := rfl
theorem iteP_t {b : Bool} {A B : Prop} (h : b = true) (hA : A) : iteP b A B := ⟨fun _ => hA, fun h' => (by rw [h] at h'; cases h')⟩
theorem iteP_f {b : Bool} {A B : Prop} (h : b = false) (hB : B) : iteP b A B := ⟨fun h' => (by rw [h] at h'; cases h'), fun _ => hB⟩
theorem iteP_dec {p : Prop} [Decidable p] {A B : Prop} (hA : p → A) (hB : ¬ p → B) : iteP (decide p) A B := ⟨fun h => hA (of_decide_eq_true h), fun h => hB (of_decide_eq_false h)⟩
theorem iteP_of {p : Prop} {b : Bool} {A B : Prop} (h : b = true ↔ p) (hA : p → A) (hB : ¬ p → B) : iteP b A B :=
 ⟨fun h' => hA (h.1 h'), fun h' => hB fun hp => by rw [h.2 hp] at h'; cases h'⟩
theorem iteP_eq {a b : Int} {A B : Prop} (hA : a = b → A) (hB : a ≠ b → B) : iteP (a == b) A B := iteP_of (by simp) hA hB
theorem iteP_ne {a b : Int} {A B : Prop} (hA : a ≠ b → A) (hB : a = b → B) : iteP (a != b) A B := iteP_of (p := a ≠ b) (by simp) hA fun h => hB (by omega)
theorem wrap_i64 {n : Int} (h1 : -9223372036854775808 ≤ n) (h2 : n ≤ 9223372036854775807) : IntKind.i64.wrap n = n := by
 simp only [IntKind.wrap, IntKind.bits, IntKind.signed]
 have e : (2 : Int) ^ 64 = 18446744073709551616 := by decide
 have e' : (2 : Int) ^ (64 - 1) = 9223372036854775808 := by decide
 simp only [e, e', Bool.true_and]
 split
 ·rename_i h; simp at h; omega
 ·rename_i h; simp at h; omega
theorem wrap_u64 {n : Int} (h1 : 0 ≤ n) (h2 : n < 18446744073709551616) : IntKind.u64.wrap n = n := by
 simp only [IntKind.wrap, IntKind.bits, IntKind.signed]
 have e : (2 : Int) ^ 64 = 18446744073709551616 := by decide
 simp only [e, Bool.false_and, Bool.false_eq_true, if_false]
 omega
theorem addI_64 {a b : Int} {K : Int → Prop} (h1 : -9223372036854775808 ≤ a + b) (h2 : a + b ≤ 9223372036854775807) (hK : K (a + b)) : addI .i64 a b K := ⟨_, (wrap_i64 h1 h2).symm, hK⟩
theorem subI_64 {a b : Int} {K : Int → Prop} (h1 : -9223372036854775808 ≤ a - b) (h2 : a - b ≤ 9223372036854775807) (hK : K (a - b)) : subI .i64 a b K := ⟨_, (wrap_i64 h1 h2).symm, hK⟩
theorem mulI_64 {a b : Int} {K : Int → Prop} (h1 : -9223372036854775808 ≤ a * b) (h2 : a * b ≤ 9223372036854775807) (hK : K (a * b)) : mulI .i64 a b K := ⟨_, (wrap_i64 h1 h2).symm, hK⟩
theorem addI_to {a b : Int} {K : Int → Prop} (c : Int) (hc : a + b = c) (h1 : -9223372036854775808 ≤ c) (h2 : c ≤ 9223372036854775807) (hK : K c) : addI .i64 a b K := by subst hc; exact addI_64 h1 h2 hK
theorem subI_to {a b : Int} {K : Int → Prop} (c : Int) (hc : a - b = c) (h1 : -9223372036854775808 ≤ c) (h2 : c ≤ 9223372036854775807) (hK : K c) : subI .i64 a b K := by subst hc; exact subI_64 h1 h2 hK
theorem mulI_to {a b : Int} {K : Int → Prop} (c : Int) (hc : a * b = c) (h1 : -9223372036854775808 ≤ c) (h2 : c ≤ 9223372036854775807) (hK : K c) : mulI .i64 a b K := by subst hc; exact mulI_64 h1 h2 hK
theorem cvI_u64 {a : Int} {K : Int → Prop} (h1 : 0 ≤ a) (h2 : a < 18446744073709551616) (hK : K a) : cvI .u64 a K := ⟨_, (wrap_u64 h1 h2).symm, hK⟩
theorem cvI_i64 {a : Int} {K : Int → Prop} (h1 : -9223372036854775808 ≤ a) (h2 : a ≤ 9223372036854775807) (hK : K a) : cvI .i64 a K := ⟨_, (wrap_i64 h1 h2).symm, hK⟩
theorem ofInt_toNat {n : Nat} (x : BitVec n) : BitVec.ofInt n (x.toNat : Int) = x := by
 apply BitVec.eq_of_toNat_eq
 simp
theorem wrap32_nat (m : Nat) : IntKind.u32.wrap (m : Int) = ((m % 4294967296 : Nat) : Int) := by
 simp only [IntKind.wrap, IntKind.bits, IntKind.signed]
 have e : (2 : Int) ^ 32 = 4294967296 := by decide
 simp only [e, Bool.false_and, Bool.false_eq_true, if_false]
 omega
theorem wrap64_nat (m : Nat) : IntKind.u64.wrap (m : Int) = ((m % 18446744073709551616 : Nat) : Int) := by
 simp only [IntKind.wrap, IntKind.bits, IntKind.signed]
 have e : (2 : Int) ^ 64 = 18446744073709551616 := by decide
 simp only [e, Bool.false_and, Bool.false_eq_true, if_false]
 omega
theorem wrap8_nat (m : Nat) : IntKind.u8.wrap (m : Int) = ((m % 256 : Nat) : Int) := by
 simp only [IntKind.wrap, IntKind.bits, IntKind.signed]
 have e : (2 : Int) ^ 8 = 256 := by decide
 simp only [e, Bool.false_and, Bool.false_eq_true, if_false]
 omega
section w32
variable {K : Int → Prop} (x y : BitVec 32)
theorem addW (hK : K ((x + y).toNat : Int)) : addI .u32 (x.toNat : Int) (y.toNat : Int) K := by
 refine ⟨_, ?_, hK⟩
 rw [← Int.natCast_add, wrap32_nat]
 simp [BitVec.toNat_add]
theorem andW (hK : K ((x &&& y).toNat : Int)) : andI .u32 (x.toNat : Int) (y.toNat : Int) K := by
 refine ⟨_, ?_, hK⟩
 change _ = IntKind.u32.wrap ((BitVec.ofInt 32 (x.toNat : Int) &&& BitVec.ofInt 32 (y.toNat : Int)).toNat : Int)
 rw [ofInt_toNat, ofInt_toNat, wrap32_nat, Nat.mod_eq_of_lt (BitVec.isLt _)]
theorem orW (hK : K ((x ||| y).toNat : Int)) : orI .u32 (x.toNat : Int) (y.toNat : Int) K := by
 refine ⟨_, ?_, hK⟩
 change _ = IntKind.u32.wrap ((BitVec.ofInt 32 (x.toNat : Int) ||| BitVec.ofInt 32 (y.toNat : Int)).toNat : Int)
 rw [ofInt_toNat, ofInt_toNat, wrap32_nat, Nat.mod_eq_of_lt (BitVec.isLt _)]
theorem xorW (hK : K ((x ^^^ y).toNat : Int)) : xorI .u32 (x.toNat : Int) (y.toNat : Int) K := by
 refine ⟨_, ?_, hK⟩
 change _ = IntKind.u32.wrap ((BitVec.ofInt 32 (x.toNat : Int) ^^^ BitVec.ofInt 32 (y.toNat : Int)).toNat : Int)
 rw [ofInt_toNat, ofInt_toNat, wrap32_nat, Nat.mod_eq_of_lt (BitVec.isLt _)]
theorem xorW_max (hK : K ((~~~ x).toNat : Int)) : xorI .u32 (IntKind.max .u32) (x.toNat : Int) K := by
 refine ⟨_, ?_, hK⟩
 change _ = IntKind.u32.wrap ((BitVec.ofInt 32 (IntKind.max .u32) ^^^ BitVec.ofInt 32 (x.toNat : Int)).toNat : Int)
 rw [ofInt_toNat, wrap32_nat, Nat.mod_eq_of_lt (BitVec.isLt _)]
 have : BitVec.ofInt 32 (IntKind.max .u32) = BitVec.allOnes 32 := by decide
 rw [this, BitVec.allOnes_xor]
theorem xorW_lit (hK : K ((~~~ x).toNat : Int)) : xorI .u32 4294967295 (x.toNat : Int) K := xorW_max x hK
theorem shlW {i : Int} (n : Nat) (hi : i = (n : Int)) (hn : n ≤ 32) (hK : K ((x <<< n).toNat : Int)) : shlI .u32 (x.toNat : Int) i K := by
 subst hi
 refine ⟨by omega, _, ?_, hK⟩
 have h1 : min (n : Int).toNat IntKind.u32.bits = n := by simp [IntKind.bits]; omega
 rw [h1]
 have h2 : ((x.toNat : Int) * 2 ^ n) = ((x.toNat * 2 ^ n : Nat) : Int) := by simp
 rw [h2, wrap32_nat]
 simp [BitVec.toNat_shiftLeft, Nat.shiftLeft_eq]
theorem shrW {i : Int} (n : Nat) (hi : i = (n : Int)) (hn : n ≤ 32) (hK : K ((x >>> n).toNat : Int)) : shrI .u32 (x.toNat : Int) i K := by
 subst hi
 refine ⟨by omega, _, ?_, hK⟩
 have h1 : min (n : Int).toNat IntKind.u32.bits = n := by simp [IntKind.bits]; omega
 rw [h1]
 have h2 : (2 : Int) ^ n = ((2 ^ n : Nat) : Int) := by simp
 rw [h2, BitVec.toNat_ushiftRight, Nat.shiftRight_eq_div_pow, Int.fdiv_eq_ediv_of_nonneg _ (Int.natCast_nonneg _)]
 rfl
end w32
theorem shr64 {i : Int} {m : Nat} (n : Nat) (hi : i = (n : Int)) (hn : n ≤ 64) {K : Int → Prop} (hK : K ((m / 2 ^ n : Nat) : Int)) : shrI .u64 (m : Int) i K := by
 subst hi
 refine ⟨by omega, _, ?_, hK⟩
 have h1 : min (n : Int).toNat IntKind.u64.bits = n := by simp [IntKind.bits]; omega
 rw [h1]
 have h2 : (2 : Int) ^ n = ((2 ^ n : Nat) : Int) := by simp
 rw [h2, Int.fdiv_eq_ediv_of_nonneg _ (Int.natCast_nonneg _)]
 rfl
theorem cv8 {m : Nat} {K : Int → Prop} (hK : K ((UInt8.ofNat m).toNat : Int)) : cvI .u8 (m : Int) K := by
 refine ⟨_, ?_, hK⟩
 rw [wrap8_nat]
 simp
theorem mul64u {a b : Int} {K : Int → Prop} (c : Int) (hc : a * b = c) (h1 : 0 ≤ c) (h2 : c < 18446744073709551616) (hK : K c) : mulI .u64 a b K := by
 subst hc
 exact ⟨_, (wrap_u64 h1 h2).symm, hK⟩
def b32 (b : UInt8) : BitVec 32 := BitVec.ofNat 32 b.toNat
theorem cvB {b : UInt8} {K : Int → Prop} (hK : K ((b32 b).toNat : Int)) : cvI .u32 (b.toNat : Int) K := by
 refine ⟨_, ?_, hK⟩
 rw [wrap32_nat]
 simp [b32]
def lo8 (x : BitVec 32) : UInt8 := UInt8.ofNat x.toNat
theorem cvL (x : BitVec 32) {K : Int → Prop} (hK : K ((lo8 x).toNat : Int)) : cvI .u8 (x.toNat : Int) K := by
 refine ⟨_, ?_, hK⟩
 rw [wrap8_nat]
 simp [lo8]
def Bytes (c : Array Value) (o : Nat) (f : Nat → UInt8) (n : Nat) : Prop := ∀ i, i < n → c[o + i]? = some (.int .u8 ((f i).toNat : Int))
def Words (c : Array Value) (o : Nat) (f : Nat → BitVec 32) (n : Nat) : Prop := ∀ i, i < n → c[o + i]? = some (.int .u32 ((f i).toNat : Int))
theorem Words.at {c : Array Value} {f : Nat → BitVec 32} {n : Nat} (h : Words c 0 f n) (i : Nat) (hi : i < n) : c[i]? = some (.int .u32 ((f i).toNat : Int)) := by simpa using h i hi
theorem Words.snoc {c : Array Value} {f : Nat → BitVec 32} {n : Nat} (h : Words c 0 f n) (hn : n < c.size) {x : BitVec 32} (hx : x = f n) : Words (c.setIfInBounds n (.int .u32 (x.toNat : Int))) 0 f (n + 1) := by
 intro i hi
 subst hx
 by_cases e : i = n
 ·subst e; simp [hn]
 ·rw [Array.getElem?_setIfInBounds_ne (by omega)]; exact h i (by omega)
theorem Bytes.at {c : Array Value} {f : Nat → UInt8} {n : Nat} (h : Bytes c 0 f n) (i : Nat) (hi : i < n) : c[i]? = some (.int .u8 ((f i).toNat : Int)) := by simpa using h i hi
theorem Bytes.snoc {c : Array Value} {f : Nat → UInt8} {n : Nat} (h : Bytes c 0 f n) (hn : n < c.size) {x : UInt8} (hx : x = f n) : Bytes (c.setIfInBounds n (.int .u8 (x.toNat : Int))) 0 f (n + 1) := by
 intro i hi
 subst hx
 by_cases e : i = n
 ·subst e; simp [hn]
 ·rw [Array.getElem?_setIfInBounds_ne (by omega)]; exact h i (by omega)
def Ext (M : List Nat) (H H' : Heap) : Prop := H.size ≤ H'.size ∧ ∀ b, b < H.size → b ∉ M → H'[b]? = H[b]?
theorem Ext.refl (M : List Nat) (H : Heap) : Ext M H H := ⟨Nat.le_refl _, fun _ _ _ => rfl⟩
theorem Ext.trans {M : List Nat} {H H' H'' : Heap} (h : Ext M H H') (h' : Ext M H' H'') : Ext M H H'' :=
 ⟨Nat.le_trans h.1 h'.1, fun b hb hn => (h'.2 b (Nat.lt_of_lt_of_le hb h.1) hn).trans (h.2 b hb hn)⟩
theorem Ext.mono {M M' : List Nat} {H H' : Heap} (hm : ∀ b, b ∈ M → b ∈ M') (h : Ext M H H') : Ext M' H H' := ⟨h.1, fun b hb hn => h.2 b hb fun hm' => hn (hm b hm')⟩
theorem Ext.own {M M' : List Nat} {H H' H'' : Heap} (h : Ext M H H') (h' : Ext M' H' H'') (hm : ∀ b, b ∈ M' → b < H.size → b ∈ M) : Ext M H H'' :=
 ⟨Nat.le_trans h.1 h'.1, fun b hb hn => (h'.2 b (Nat.lt_of_lt_of_le hb h.1) fun hm' => hn (hm b hm' hb)).trans (h.2 b hb hn)⟩
theorem Ext.push {M : List Nat} {H : Heap} (o : Obj) : Ext M H (H.push o) := ⟨by simp, fun b hb _ => by rw [Array.getElem?_push_lt hb, Array.getElem?_eq_getElem hb]⟩
theorem Ext.get {M : List Nat} {H H' : Heap} {b : Nat} {o : Obj} (h : Ext M H H') (hb : H[b]? = some o) (hn : b ∉ M) : H'[b]? = some o := by
 rw [h.2 b (Array.getElem?_eq_some_iff.1 hb).1 hn, hb]
theorem lt_of_get {H : Heap} {b : Nat} {o : Obj} (hb : H[b]? = some o) : b < H.size := (Array.getElem?_eq_some_iff.1 hb).1
theorem push_new {H : Heap} {o : Obj} : (H.push o)[H.size]? = some o := by simp
theorem push_old {H : Heap} {o x : Obj} {b : Nat} (h : H[b]? = some x) : (H.push o)[b]? = some x := by
 rw [Array.getElem?_push_lt (lt_of_get h), ← h, Array.getElem?_eq_getElem (lt_of_get h)]
theorem set_new {H : Heap} {o x : Obj} {b : Nat} (h : H[b]? = some x) : (H.setIfInBounds b o)[b]? = some o := by
 simp [lt_of_get h]
theorem set_old {H : Heap} {o x : Obj} {b c : Nat} (h : H[c]? = some x) (hne : c ≠ b) : (H.setIfInBounds b o)[c]? = some x := by
 rw [Array.getElem?_setIfInBounds_ne (Ne.symm hne), h]
theorem Ext.set {M : List Nat} {H : Heap} {b : Nat} (o : Obj) (hb : b ∈ M) : Ext M H (H.setIfInBounds b o) :=
 ⟨by simp, fun c _ hn => by rw [Array.getElem?_setIfInBounds_ne]; intro e; subst e; exact hn hb⟩
theorem Ext.set_own {M : List Nat} {H H' : Heap} {b : Nat} {o : Obj} (h : Ext M H H') (hb : H.size ≤ b ∨ b ∈ M) : Ext M H (H'.setIfInBounds b o) := by
 refine ⟨by simp; exact h.1, fun c hc hn => ?_⟩
 rw [Array.getElem?_setIfInBounds_ne]
 ·exact h.2 c hc hn
 ·intro e
  subst e
  rcases hb with hb | hb
  ·omega
  ·exact hn hb
theorem Ext.push_own {M : List Nat} {H H' : Heap} {o : Obj} (h : Ext M H H') : Ext M H (H'.push o) := h.trans (.push o)
section heap
variable {w : World} {H : Heap}
theorem cell_h (hw : w.heap = H) {b o : Nat} {c : Array Value} {T : TypeId} {fr : Nat × Nat} (hb : H[b]? = some (.cells c T fr)) : w.cell? ⟨b, o, none⟩ = c[o]? := by
 unfold World.cell?
 rw [hw]
 simp only [hb]
 simp
theorem ld_h {s : Sh} {b o : Nat} {c : Array Value} {T : TypeId} {fr : Nat × Nat} {K : s.T → Prop} {t : s.T} (hw : w.heap = H) (hb : H[b]? = some (.cells c T fr)) (hc : c[o]? = some (s.val t)) (hK : K t) :
  ld s ⟨b, o, none⟩ w K := ⟨t, by rw [cell_h hw hb, hc], hK⟩
theorem drewP_h {K : World → Prop} (hw : w.heap = H) (hK : ∀ w', w'.heap = H → K w') : drewP w K := by
 rintro w' rfl
 exact hK _ hw
theorem newB_h {c : Array Value} {T : TypeId} {K : Nat → World → Prop} (hw : w.heap = H) (hK : ∀ w', w'.heap = H.push (.cells c T) → K H.size w') : newB c T w K := by
 rintro b w' ⟨rfl, rfl⟩
 rw [hw]
 exact hK _ (by simp)
theorem setCell_h {b o : Nat} {c : Array Value} {T : TypeId} {fr : Nat × Nat} {v : Value} (hw : w.heap = H) (hb : H[b]? = some (.cells c T fr)) :
  (w.setCell ⟨b, o, none⟩ v).heap = H.setIfInBounds b (.cells (c.setIfInBounds o v) T fr) := by
 unfold World.setCell
 simp only [hw]
 apply Array.ext_getElem?
 intro i
 rw [Array.getElem?_modify]
 by_cases h : b = i
 ·subst h
  rw [if_pos rfl, hb, set_new hb]
  simp
 ·rw [if_neg h, Array.getElem?_setIfInBounds_ne h]
theorem frozen_h {b o : Nat} {c : Array Value} {T : TypeId} (hw : w.heap = H) (hb : H[b]? = some (.cells c T (0, 0))) : w.frozen? ⟨b, o, none⟩ = false := by
 unfold World.frozen?
 rw [hw]
 simp only [hb]
 simp
theorem stC_h {b o : Nat} {c : Array Value} {T : TypeId} {v : Value} {K : World → Prop} (hw : w.heap = H) (hb : H[b]? = some (.cells c T (0, 0))) (ho : o < c.size)
  (hK : ∀ w', w'.heap = H.setIfInBounds b (.cells (c.setIfInBounds o v) T (0, 0)) → K w') : stC ⟨b, o, none⟩ v w K := by
 refine ⟨⟨c[o], by rw [cell_h hw hb]; simp [ho]⟩, frozen_h hw hb, ?_⟩
 rintro w' rfl
 exact hK _ (setCell_h hw hb)
theorem add_none {b o n : Nat} : Addr.add ⟨b, o, none⟩ n = ⟨b, o + n, none⟩ := by
 unfold Addr.add
 split
 ·rename_i h; subst h; rfl
 ·rfl
theorem ixR_h {b o len size : Nat} {i : Int} {K : Addr → Prop} (k : Nat) (hi : i = (k : Int)) (hk : k < len) (hK : K ⟨b, o + k * size, none⟩) : ixR ⟨b, o, none⟩ len size i K := by
 subst hi
 refine ⟨by omega, by omega, ?_⟩
 rw [add_none]
 exact hK
theorem ixS_h {b o len size : Nat} {i : Int} {K : Addr → Prop} (k : Nat) (hi : i = (k : Int)) (hk : k < len) (hK : K ⟨b, o + k * size, none⟩) : ixS (some ⟨b, o, none⟩) len size i K := by
 subst hi
 refine ⟨_, rfl, by omega, by omega, ?_⟩
 rw [add_none]
 exact hK
theorem ixS_1 {b o len : Nat} {i : Int} {K : Addr → Prop} (k : Nat) (hi : i = (k : Int)) (hk : k < len) (hK : K ⟨b, o + k, none⟩) : ixS (some ⟨b, o, none⟩) len 1 i K := ixS_h k hi hk (by simpa using hK)
theorem ixR_0 {b len : Nat} {i : Int} {K : Addr → Prop} (k : Nat) (hi : i = (k : Int)) (hk : k < len) (hK : K ⟨b, k, none⟩) : ixR ⟨b, 0, none⟩ len 1 i K := ixR_h k hi hk (by simpa using hK)
end heap
theorem loadCells_h {P : Program} {w : World} {H : Heap} {b o n : Nat} {c : Array Value} {T : TypeId} {fr : Nat × Nat} (hw : w.heap = H) (hb : H[b]? = some (.cells c T fr)) (hn : o + n ≤ c.size) :
  (loadCells ⟨b, o, none⟩ n).run P w = .ok (c.extract o (o + n)) w := by
 have key : ∀ (m i : Nat) (acc : Array Value), o + i + m ≤ c.size → (loadCellsFrom ⟨b, o, none⟩ i m acc).run P w = .ok (acc ++ c.extract (o + i) (o + i + m)) w := by
  intro m
  induction m with
  | zero => intro i acc _; simp [loadCellsFrom]; omega
  | succ m ih =>
   intro i acc h
   have hc : w.cell? (Addr.add ⟨b, o, none⟩ i) = some c[o + i] := by
    rw [add_none, cell_h hw hb, Array.getElem?_eq_getElem (by omega)]
   simp only [loadCellsFrom, Sem.run_bind, run_load, hc, Result.andThen_ok]
   rw [ih (i + 1) _ (by omega)]
   congr 1
   apply Array.ext'
   simp only [Array.toList_append, Array.toList_push, Array.toList_extract, List.extract_eq_take_drop, List.append_assoc]
   congr 1
   have e1 : o + i + (m + 1) - (o + i) = m + 1 := by omega
   have e2 : o + (i + 1) + m - (o + (i + 1)) = m := by omega
   rw [e1, e2]
   have hlt : o + i < c.toList.length := by simp; omega
   rw [List.drop_eq_getElem_cons hlt]
   simp [List.take_succ_cons, Nat.add_assoc]
 have := key n 0 #[] (by omega)
 simpa [loadCells] using this
theorem ldA_h {P : Program} {w : World} {H : Heap} {b o n : Nat} {c : Array Value} {T : TypeId} {fr : Nat × Nat} {K : Array Value → Prop} (hw : w.heap = H) (hb : H[b]? = some (.cells c T fr)) (hn : o + n ≤ c.size)
  (hK : K (c.extract o (o + n))) : ldA P n ⟨b, o, none⟩ w K := ⟨_, loadCells_h hw hb hn, hK⟩
theorem ldA_all {P : Program} {w : World} {H : Heap} {b n : Nat} {c : Array Value} {T : TypeId} {fr : Nat × Nat} {K : Array Value → Prop} (hw : w.heap = H) (hb : H[b]? = some (.cells c T fr)) (hn : c.size = n)
  (hK : K c) : ldA P n ⟨b, 0, none⟩ w K := ldA_h hw hb (by omega) (by subst hn; simpa using hK)
def oneCells (vs : List Value) : Prop := ∀ v ∈ vs, v.oneCell' = true
def setCells (c : Array Value) (o : Nat) : List Value → Array Value
 | [] => c
 | v :: r => setCells (c.setIfInBounds o v) (o + 1) r
@[simp] theorem size_setCells {vs : List Value} : ∀ {c : Array Value} {o : Nat}, (setCells c o vs).size = c.size := by
 induction vs with
 | nil => intro c o; rfl
 | cons v r ih => intro c o; simp [setCells, ih]
theorem get_setCells {vs : List Value} : ∀ {c : Array Value} {o i : Nat}, o + vs.length ≤ c.size → (setCells c o vs)[i]? = if o ≤ i ∧ i < o + vs.length then vs[i - o]? else c[i]? := by
 induction vs with
 | nil =>
  intro c o i h
  simp only [setCells, List.length_nil, Nat.add_zero]
  rw [if_neg (by omega)]
 | cons v r ih =>
  intro c o i h
  simp only [List.length_cons] at h
  simp only [setCells, List.length_cons]
  rw [ih (by simp; omega)]
  by_cases h1 : i = o
  ·subst h1
   rw [if_neg (by omega), if_pos (by omega)]
   have : i < c.size := by omega
   simp [this]
  ·by_cases h2 : o + 1 ≤ i ∧ i < o + 1 + r.length
   ·rw [if_pos h2, if_pos (by omega)]
    have : i - o = (i - (o + 1)) + 1 := by omega
    rw [this]
    simp
   ·rw [if_neg h2, if_neg (by omega), Array.getElem?_setIfInBounds_ne (by omega)]
theorem setCells_all {vs : List Value} {c : Array Value} (h : vs.length = c.size) : setCells c 0 vs = vs.toArray := by
 apply Array.ext_getElem?
 intro i
 rw [get_setCells (by omega)]
 by_cases hi : i < vs.length
 ·rw [if_pos (by omega)]; simp
 ·rw [if_neg (by omega)]
  rw [Array.getElem?_eq_none (by omega), Array.getElem?_eq_none (by simp; omega)]
theorem set_set {H : Heap} {b : Nat} {x y : Obj} : (H.setIfInBounds b x).setIfInBounds b y = H.setIfInBounds b y := by
 apply Array.ext_getElem?
 intro i
 by_cases h : b = i
 ·subst h
  by_cases hb : b < H.size
  ·simp [hb]
  ·rw [Array.getElem?_eq_none (by simp; omega), Array.getElem?_eq_none (by simp; omega)]
 ·rw [Array.getElem?_setIfInBounds_ne h, Array.getElem?_setIfInBounds_ne h, Array.getElem?_setIfInBounds_ne h]
theorem storeCells_h {P : Program} {b : Nat} {T : TypeId} : ∀ (vs : List Value) (w : World) (H : Heap) (c : Array Value) (o i : Nat), oneCells vs → w.heap = H → H[b]? = some (.cells c T (0, 0)) → o + i + vs.length ≤ c.size →
  ∃ w', (storeCells ⟨b, o, none⟩ vs i).run P w = .ok () w' ∧ Calm w w' ∧ w'.heap = H.setIfInBounds b (.cells (setCells c (o + i) vs) T (0, 0)) := by
 intro vs
 induction vs with
 | nil =>
  intro w H c o i _ hw hb _
  refine ⟨w, by simp [storeCells], .refl w, ?_⟩
  simp only [setCells]
  rw [hw]
  apply Array.ext_getElem?
  intro j
  by_cases hj : b = j
  ·subst hj; rw [set_new hb, hb]
  ·rw [Array.getElem?_setIfInBounds_ne hj]
 | cons v r ih =>
  intro w H c o i h1 hw hb hn
  simp only [List.length_cons] at hn
  have hv := h1 v (by simp)
  have hc : w.cell? (Addr.add ⟨b, o, none⟩ i) = some c[o + i] := by
   rw [add_none, cell_h hw hb, Array.getElem?_eq_getElem (by omega)]
  have hf : w.frozen? (Addr.add ⟨b, o, none⟩ i) = false := by rw [add_none]; exact frozen_h hw hb
  obtain ⟨w', h2, h4, h3⟩ := ih (w.setCell (Addr.add ⟨b, o, none⟩ i) v) _ (c.setIfInBounds (o + i) v) o (i + 1) (fun x hx => h1 x (by simp [hx])) (by rw [add_none]; exact setCell_h hw hb) (set_new hb) (by simp; omega)
  refine ⟨w', ?_, h4, ?_⟩
  ·simp only [storeCells, Sem.run_bind, run_store P w _ v .plain hv, hc, hf, Bool.false_eq_true, if_false, Result.andThen_ok, h2]
  ·rw [h3, set_set]
   simp [setCells, Nat.add_assoc]
theorem storeVar_h {P : Program} {w : World} {H : Heap} {b o : Nat} {T t : TypeId} {c : Array Value} {v : Value} {K : World → Prop} (hs : P.cellsOf t = v.cells.size) (hs0 : v.cells.size ≠ 0) (h1 : oneCells v.cells.toList) (hw : w.heap = H)
  (hb : H[b]? = some (.cells c T (0, 0))) (hn : o + v.cells.size ≤ c.size) (hK : ∀ w', w'.heap = H.setIfInBounds b (.cells (setCells c o v.cells.toList) T (0, 0)) → K w') : genU P (storeVar t ⟨b, o, none⟩ v) w K := by
 obtain ⟨w', h2, h4, h3⟩ := storeCells_h (P := P) v.cells.toList w H c o 0 h1 hw hb (by simpa using hn)
 refine ⟨w', ?_, h4, hK w' (by simpa using h3)⟩
 have h0 : (sizeOf t).run P w = .ok v.cells.size w := by rw [run_sizeOf_cells (by omega), hs]
 simp only [storeVar, Sem.run_bind, h0, Result.andThen_ok, ne_eq, not_true_eq_false, if_false, h2]
def W32 (s : Nat → BitVec 32) (n : Nat) : Array Value := ((List.range n).map fun i => Value.int .u32 ((s i).toNat : Int)).toArray
def B8 (f : Nat → UInt8) (n : Nat) : Array Value := ((List.range n).map fun i => Value.int .u8 ((f i).toNat : Int)).toArray
@[simp] theorem size_W32 {s : Nat → BitVec 32} {n : Nat} : (W32 s n).size = n := by simp [W32]
@[simp] theorem size_B8 {f : Nat → UInt8} {n : Nat} : (B8 f n).size = n := by simp [B8]
theorem words_W32 {s : Nat → BitVec 32} {n : Nat} : Words (W32 s n) 0 s n := by
 intro i hi
 simp [W32, hi]
theorem bytes_B8 {f : Nat → UInt8} {n : Nat} : Bytes (B8 f n) 0 f n := by
 intro i hi
 simp [B8, hi]
theorem one_W32 {s : Nat → BitVec 32} {n : Nat} : oneCells (W32 s n).toList := by
 intro v hv
 simp only [W32, List.mem_map] at hv
 obtain ⟨i, _, rfl⟩ := hv
 rfl
theorem one_B8 {f : Nat → UInt8} {n : Nat} : oneCells (B8 f n).toList := by
 intro v hv
 simp only [B8, List.mem_map] at hv
 obtain ⟨i, _, rfl⟩ := hv
 rfl
theorem Words.extract {c : Array Value} {s : Nat → BitVec 32} {o n : Nat} (h : Words c o s n) (hn : o + n ≤ c.size) : c.extract o (o + n) = W32 s n := by
 apply Array.ext_getElem?
 intro i
 by_cases hi : i < n
 ·rw [Array.getElem?_extract, if_pos (by omega), h i hi, words_W32.at i hi]
 ·rw [Array.getElem?_eq_none (by simp; omega), Array.getElem?_eq_none (by simp; omega)]
theorem Bytes.extract {c : Array Value} {f : Nat → UInt8} {o n : Nat} (h : Bytes c o f n) (hn : o + n ≤ c.size) : c.extract o (o + n) = B8 f n := by
 apply Array.ext_getElem?
 intro i
 by_cases hi : i < n
 ·rw [Array.getElem?_extract, if_pos (by omega), h i hi, bytes_B8.at i hi]
 ·rw [Array.getElem?_eq_none (by simp; omega), Array.getElem?_eq_none (by simp; omega)]
theorem joinP_of {σ : Type} {m : (σ → World → Prop) → Prop} {k : σ → World → Prop} (J : σ → World → Prop) (h : m J) (hk : ∀ s w, J s w → k s w) : joinP σ m k := ⟨J, h, hk⟩
theorem joinP_in {σ : Type} {m : (σ → World → Prop) → Prop} {k : σ → World → Prop} (h : m k) : joinP σ m k := ⟨k, h, fun _ _ h => h⟩
theorem loopP_of {σ : Type} {m : σ → World → (σ → World → Prop) → Prop} {s : σ} {w : World} (I : σ → World → Prop) (μ : σ → World → Nat) (h0 : I s w) (hr : ∀ s w, I s w → m s w fun s' w' => I s' w' ∧ μ s' w' < μ s w) :
  loopP σ m s w := ⟨I, μ, h0, hr⟩
theorem least {p : Nat → Prop} (h : ∃ n, p n) : ∃ n, p n ∧ ∀ m, p m → n ≤ m := by
 obtain ⟨n, hn⟩ := h
 induction n using Nat.strongRecOn with
 | _ n ih =>
  by_cases hm : ∃ m, m < n ∧ p m
  ·obtain ⟨m, h1, h2⟩ := hm; exact ih m h1 h2
  ·exact ⟨n, hn, fun m h => Nat.le_of_not_lt fun h' => hm ⟨m, h', h⟩⟩
theorem loopP_ix {σ : Type} {m : σ → World → (σ → World → Prop) → Prop} {s : σ} {w : World} (I : Nat → σ → World → Prop) (n : Nat) (h0 : I n s w)
  (hr : ∀ n s w, I n s w → ∀ K : σ → World → Prop, (∀ n' s' w', n' < n → I n' s' w' → K s' w') → m s w K) : loopP σ m s w := by
 classical
 refine ⟨fun s w => ∃ n, I n s w, fun s w => if h : ∃ n, I n s w then Classical.choose (least h) else 0, ⟨n, h0⟩, fun s w h => ?_⟩
 refine hr _ s w (Classical.choose_spec (least h)).1 _ fun n' s' w' hn' hI => ⟨⟨n', hI⟩, ?_⟩
 have h' : ∃ n, I n s' w' := ⟨n', hI⟩
 have h : ∃ n, I n s w := h
 simp only [dif_pos h, dif_pos h']
 exact Nat.lt_of_le_of_lt ((Classical.choose_spec (least h')).2 n' hI) hn'
theorem CallF.mono {P : Program} {f : FuncId} {args : Array Value} {w : World} {R R' : Ending → World → Prop} (h : CallF P f args w R) (hr : ∀ e w', R e w' → R' e w') : CallF P f args w R' := ⟨h.1, h.2.mono fun e w' h => ⟨hr e w' h.1, h.2⟩⟩
theorem callQ_of {P : Program} {f : FuncId} {args : Array Value} {l : List Sh} {tup : Bool} {w : World} {K : Tup l → Prop} (t : Tup l) (h : CallF P f args w (fun e w' => e = .returned (retEV l tup t).2 ∧ w' = w)) (hK : K t) :
  callQ P f args l tup w K := ⟨t, h, hK⟩
theorem callF_of {P : Program} {f : FuncId} {args : Array Value} {l : List Sh} {tup : Bool} {w : World} {K : Tup l → World → Prop} {R : Ending → World → Prop} (h : CallF P f args w R)
  (hK : ∀ e w', R e w' → ∃ t, e = .returned (retEV l tup t).2 ∧ K t w') : callF P f args l tup w K := .go (h.mono hK)
theorem callF_ext {P : Program} {f : FuncId} {args : Array Value} {l : List Sh} {tup : Bool} {w : World} {K : Tup l → World → Prop} (t : Tup l) (h : (callFunc f args).run P w = .ok (.value (retEV l tup t).2) w) (hK : K t w) : callF P f args l tup w K := .own _ _ h (.refl w) ⟨t, rfl, hK⟩
theorem callF_extW {P : Program} {f : FuncId} {args : Array Value} {l : List Sh} {tup : Bool} {w : World} {K : Tup l → World → Prop} (t : Tup l) (w' : World) (h : (callFunc f args).run P w = .ok (.value (retEV l tup t).2) w') (hc : Calm w w') (hK : K t w') : callF P f args l tup w K := .own _ _ h hc ⟨t, rfl, hK⟩
theorem genQ_of {P : Program} {m : Sem Value} {s : Sh} {w : World} {K : s.T → Prop} (t : s.T) (h : m.run P w = .ok (s.val t) w) (hK : K t) : genQ P m s w K := ⟨t, h, hK⟩
theorem genL_of {P : Program} {m : Sem Value} {s : Sh} {w : World} {K : s.T → World → Prop} (t : s.T) (w' : World) (h : m.run P w = .ok (s.val t) w') (hK : K t w') (hc : Calm w w' := by first | exact ⟨rfl, rfl, rfl, Nat.le_refl _⟩ | exact ⟨rfl, rfl, rfl, Nat.le_succ _⟩) : genL P m s w K := ⟨t, w', h, hc, hK⟩
theorem remI_n {a b : Int} {K : Int → Prop} (m n : Nat) (ha : a = (m : Int)) (hb : b = (n : Int)) (hn : n ≠ 0) (hK : K ((m % n : Nat) : Int)) : remI a b K := by
 subst ha hb
 exact ⟨by omega, _, by rw [Int.tmod_eq_emod_of_nonneg (by omega)]; rfl, hK⟩
theorem quoI_n {a b : Int} {K : Int → Prop} (m n : Nat) (ha : a = (m : Int)) (hb : b = (n : Int)) (hn : n ≠ 0) (hm : m < 9223372036854775808) (hK : K ((m / n : Nat) : Int)) : quoI .i64 a b K := by
 subst ha hb
 have hd : m / n ≤ m := Nat.div_le_self _ _
 refine ⟨by omega, _, ?_, hK⟩
 have he : Int.tdiv (m : Int) (n : Int) = ((m / n : Nat) : Int) := by rw [Int.tdiv_eq_ediv_of_nonneg (by omega)]; rfl
 rw [he]
 generalize m / n = d at *
 rw [wrap_i64 (by omega) (by omega)]
theorem Words.put {c : Array Value} {f : Nat → BitVec 32} {n : Nat} (h : Words c 0 f n) (i : Nat) (hi : i < c.size) (x : BitVec 32) : Words (c.setIfInBounds i (.int .u32 (x.toNat : Int))) 0 (fun k => if k = i then x else f k) n := by
 intro k hk
 by_cases e : k = i
 ·subst e; simp [hi]
 ·rw [Array.getElem?_setIfInBounds_ne (by omega), h k hk]; simp only [if_neg e]
theorem Words.congr {c : Array Value} {f g : Nat → BitVec 32} {n : Nat} (h : Words c 0 f n) (hg : ∀ k, k < n → f k = g k) : Words c 0 g n := fun k hk => by rw [h k hk, hg k hk]
end Go.Fw
namespace Go.Fw
open Go
def IxO (v : Option Value) (d n : Nat) : Prop := (v = none ∧ n = d) ∨ ∃ k, v = some (.int k (n : Int))
theorem IxO.no {d : Nat} : IxO none d d := .inl ⟨rfl, rfl⟩
theorem IxO.yes {d n : Nat} {k : IntKind} {i : Int} (h : i = (n : Int)) : IxO (some (.int k i)) d n := .inr ⟨k, by rw [h]⟩
section
variable {P : Program} {w : World}
theorem run_bounds {isS : Bool} {len cap l h : Nat} {lo hi : Option Value} (hlo : IxO lo 0 l) (hhi : IxO hi len h) (h1 : l ≤ h) (h2 : h ≤ cap) :
  (Instr.sliceBounds isS len cap lo hi none).run P w = .ok (l, h, cap) w := by
 have eh : ∀ k code, (Instr.sliceBound (.int k (h : Int)) cap code).run P w = .ok h w := by
  intro k code
  simp [Instr.sliceBound, asIntOf, h2]
 have el : ∀ k code, (Instr.sliceBound (.int k (l : Int)) h code).run P w = .ok l w := by
  intro k code
  simp [Instr.sliceBound, asIntOf, h1]
 rcases hlo with ⟨rfl, rfl⟩ | ⟨k, rfl⟩ <;> rcases hhi with ⟨rfl, rfl⟩ | ⟨k', rfl⟩ <;> simp [Instr.sliceBounds, eh, el]
theorem run_slice_slc {t e : TypeId} {sz : Nat} {a : Option Addr} {len cap l h : Nat} {lo hi : Option Value} (hu : P.underlying t = some (.slice e)) (hs : (P.info? e).map (·.size) = some sz) (hlo : IxO lo 0 l) (hhi : IxO hi len h) (h1 : l ≤ h) (h2 : h ≤ cap) :
  (Instr.sliceAt t (.slice a len cap) lo hi none).run P w = .ok (.slice (if cap = l then a else a.map (·.add (l * sz))) (h - l) (cap - l)) w := by
 simp [Instr.sliceAt, Instr.slice, run_underlying' hu, run_bounds hlo hhi h1 h2, run_sizeOf_info hs]
theorem run_slice_arr {t e : TypeId} {sz n : Nat} {a : Addr} {l h : Nat} {lo hi : Option Value} (hu : P.underlying t = some (.array n e)) (hs : (P.info? e).map (·.size) = some sz) (hlo : IxO lo 0 l) (hhi : IxO hi n h) (h1 : l ≤ h) (h2 : h ≤ n) :
  (Instr.sliceAt t (.pointer (some a)) lo hi none).run P w = .ok (.slice (some (if n = l then a else a.add (l * sz))) (h - l) (n - l)) w := by
 simp [Instr.sliceAt, run_underlying' hu, Instr.sureAddr, run_bounds hlo hhi h1 h2, run_sizeOf_info hs]
theorem run_slice_str {t : TypeId} {s : ByteArray} {l h : Nat} {lo hi : Option Value} (hu : P.underlying t = some .string) (hlo : IxO lo 0 l) (hhi : IxO hi s.size h) (h1 : l ≤ h) (h2 : h ≤ s.size) :
  (Instr.sliceAt t (.string s) lo hi none).run P w = .ok (.string (s.extract l h)) w := by
 simp [Instr.sliceAt, Instr.slice, run_underlying' hu, run_bounds hlo hhi h1 h2]
def Cells (H : Heap) (a : Option Addr) (vs : List Value) : Prop :=
 vs = [] ∨ ∃ b o c T fr, a = some ⟨b, o, none⟩ ∧ H[b]? = some (.cells c T fr) ∧ o + vs.length ≤ c.size ∧ (c.extract o (o + vs.length)).toList = vs
theorem Cells.ext {M : List Nat} {H H' : Heap} {a : Option Addr} {vs : List Value} (h : Cells H a vs) (hx : Ext M H H') (hM : ∀ x, a = some x → vs ≠ [] → x.block ∉ M) : Cells H' a vs := by
 by_cases hv : vs = []
 ·exact .inl hv
 rcases h with h | ⟨b, o, c, T, fr, rfl, hb, hn, he⟩
 ·exact .inl h
 ·exact .inr ⟨b, o, c, T, fr, rfl, hx.get hb (hM _ rfl hv), hn, he⟩
theorem Cells.lt {H : Heap} {a : Option Addr} {vs : List Value} (h : Cells H a vs) (hne : vs ≠ []) : ∃ x, a = some x ∧ x.block < H.size := by
 rcases h with h | ⟨b, o, c, T, fr, rfl, hb, hn, he⟩
 ·exact absurd h hne
 ·exact ⟨_, rfl, lt_of_get hb⟩
theorem loadCells_zero {a : Addr} : (loadCells a 0).run P w = .ok #[] w := rfl
theorem run_first {H : Heap} {a : Option Addr} {l c sz n : Nat} {vs : List Value} (hw : w.heap = H) (h : Cells H a vs) (hn : n * sz = vs.length) : (Builtin.firstCells sz n (.slice a l c)).run P w = .ok vs.toArray w := by
 rcases h with rfl | ⟨b, o, c', T, fr, rfl, hb, hle, he⟩
 ·simp only [List.length_nil] at hn
  cases a with
  | none => rfl
  | some a => simp only [Builtin.firstCells, hn, loadCells_zero]
 ·simp only [Builtin.firstCells, hn]
  rw [loadCells_h hw hb hle]
  congr 1
  apply Array.ext'
  simpa using he
theorem Cells.part {H : Heap} {a : Option Addr} {vs : List Value} (h : Cells H a vs) (k m : Nat) (hk : k + m ≤ vs.length) : Cells H (a.map (·.add k)) ((vs.drop k).take m) := by
 rcases h with rfl | ⟨b, o, c, T, fr, rfl, hb, hle, he⟩
 ·left; simp
 ·right
  refine ⟨b, o + k, c, T, fr, by simp [add_none], hb, by simp; omega, ?_⟩
  have hl : ((vs.drop k).take m).length = m := by simp; omega
  rw [hl]
  conv => rhs; rw [← he]
  simp only [Array.toList_extract, List.extract_eq_take_drop, List.drop_take, List.take_take, List.drop_drop]
  congr 1
  omega
theorem Cells.take {H : Heap} {a : Option Addr} {vs : List Value} (h : Cells H a vs) (m : Nat) : Cells H a (vs.take m) := by
 by_cases hm : m ≤ vs.length
 ·have := h.part 0 m (by omega)
  cases a with
  | none =>
   rcases h with rfl | ⟨b, o, c, T, fr, h, _⟩
   ·left; simp
   ·cases h
  | some a => simpa [Addr.add] using this
 ·rw [List.take_of_length_le (by omega)]; exact h
theorem Cells.drop {H : Heap} {a : Option Addr} {vs : List Value} (h : Cells H a vs) (k cap : Nat) (hcap : vs.length ≤ cap) : Cells H (if cap = k then a else a.map (·.add k)) (vs.drop k) := by
 by_cases hk : k < vs.length
 ·rw [if_neg (by omega)]
  have := h.part k (vs.length - k) (by omega)
  rwa [List.take_of_length_le (by simp)] at this
 ·left; exact List.drop_eq_nil_of_le (by omega)
def byteCells (L : List UInt8) : List Value := L.map fun b => .int .u8 (b.toNat : Int)
@[simp] theorem length_byteCells {L : List UInt8} : (byteCells L).length = L.length := by simp [byteCells]
theorem one_byteCells {L : List UInt8} : oneCells (byteCells L) := by
 intro v hv
 simp only [byteCells, List.mem_map] at hv
 obtain ⟨b, _, rfl⟩ := hv
 rfl
theorem byteCells_take {L : List UInt8} {n : Nat} : (byteCells L).take n = byteCells (L.take n) := by simp [byteCells]
theorem byteCells_drop {L : List UInt8} {n : Nat} : (byteCells L).drop n = byteCells (L.drop n) := by simp [byteCells]
theorem byteCells_append {L M : List UInt8} : byteCells L ++ byteCells M = byteCells (L ++ M) := by simp [byteCells]
theorem byteCells_get {L : List UInt8} {i : Nat} (h : i < L.length) : (byteCells L)[i]? = some (.int .u8 ((L.getD i 0).toNat : Int)) := by
 simp [byteCells, List.getD_eq_getElem?_getD, List.getElem?_eq_getElem h]
theorem Cells.bytes {H : Heap} {a : Option Addr} {L : List UInt8} (h : Cells H a (byteCells L)) (hne : L ≠ []) : ∃ b o c T fr, a = some ⟨b, o, none⟩ ∧ H[b]? = some (.cells c T fr) ∧ o + L.length ≤ c.size ∧ Bytes c o (fun i => L.getD i 0) L.length := by
 rcases h with h | ⟨b, o, c, T, fr, rfl, hb, hn, he⟩
 ·exact absurd (by simpa [byteCells] using h) hne
 ·refine ⟨b, o, c, T, fr, rfl, hb, by simpa using hn, fun i hi => ?_⟩
  have h1 := byteCells_get hi
  rw [← he, Array.getElem?_toList, Array.getElem?_extract] at h1
  simp only [length_byteCells] at h1 hn
  rw [if_pos (by omega)] at h1
  exact h1
theorem cells_bytes {H : Heap} {b o : Nat} {c : Array Value} {T : TypeId} {fr : Nat × Nat} {L : List UInt8} (hb : H[b]? = some (.cells c T fr)) (hn : o + L.length ≤ c.size) (h : Bytes c o (fun i => L.getD i 0) L.length) : Cells H (some ⟨b, o, none⟩) (byteCells L) := by
 refine .inr ⟨b, o, c, T, fr, rfl, hb, by simpa using hn, ?_⟩
 apply List.ext_getElem?
 intro i
 simp only [length_byteCells]
 by_cases hi : i < L.length
 ·rw [byteCells_get hi, Array.getElem?_toList, Array.getElem?_extract, if_pos (by omega), h i hi]
 ·rw [List.getElem?_eq_none (by simp; omega), List.getElem?_eq_none (by simp; omega)]
def AllOne (c : Array Value) : Prop := ∀ (i : Nat) (v : Value), c[i]? = some v → v.oneCell' = true
theorem AllOne.set {c : Array Value} (h : AllOne c) {k : Nat} {x : Value} (hx : x.oneCell' = true) : AllOne (c.setIfInBounds k x) := by
 intro i v hv
 by_cases e : k = i
 ·subst e
  by_cases hk : k < c.size
  ·simp [hk] at hv; subst hv; exact hx
  ·rw [Array.getElem?_eq_none (by simp; omega)] at hv; cases hv
 ·rw [Array.getElem?_setIfInBounds_ne e] at hv
  exact h i v hv
theorem AllOne.setCells {vs : List Value} : ∀ {c : Array Value} {o : Nat}, AllOne c → oneCells vs → AllOne (setCells c o vs) := by
 induction vs with
 | nil => intro c o h _; exact h
 | cons v r ih => intro c o h h1; exact ih (h.set (h1 v (by simp))) fun x hx => h1 x (by simp [hx])
theorem AllOne.one {c : Array Value} (h : AllOne c) : oneCells c.toList := by
 intro v hv
 obtain ⟨i, hi⟩ := List.getElem?_of_mem hv
 exact h i v (by simpa using hi)
theorem copy_h {H : Heap} {st xt e ty : TypeId} {sz bd od dl dc sl sc : Nat} {sa : Option Addr} {cd : Array Value} {Td : TypeId} {vs : List Value} (hu : P.underlying st = some (.slice e)) (hs : (P.info? e).map (·.size) = some sz)
  (hw : w.heap = H) (hsrc : Cells H sa vs) (hn : min sl dl * sz = vs.length) (h1 : oneCells vs) (hd : H[bd]? = some (.cells cd Td (0, 0))) (hdn : od + vs.length ≤ cd.size) :
  ∃ w', (Builtin.copy_ #[st, xt] ty #[.slice (some ⟨bd, od, none⟩) dl dc, .slice sa sl sc]).run P w = .ok (.int .i64 ((min sl dl : Nat) : Int)) w' ∧ Calm w w' ∧ w'.heap = H.setIfInBounds bd (.cells (setCells cd od vs) Td (0, 0)) := by
 obtain ⟨w', h2, h4, h3⟩ := storeCells_h (P := P) vs w H cd od 0 h1 hw hd (by simpa using hdn)
 refine ⟨w', ?_, h4, by simpa using h3⟩
 have hf := run_first (P := P) (l := sl) (c := sc) (sz := sz) (n := min sl dl) hw hsrc hn
 have hmin : Nat.min sl dl = min sl dl := rfl
 simp only [Builtin.copy_, List.getElem?_toArray, List.getElem?_cons_zero, List.getElem?_cons_succ, Sem.run_bind, run_underlying' hu, Result.andThen_ok, Builtin.lenOf, Sem.run_pure, run_sizeOf_info hs, hmin, hf, h2, goInt]
def Mine (H : Heap) (B : Nat) (T : TypeId) (sz : Nat) (x : Option Addr × Nat × Nat) (vs : List Value) : Prop :=
 (x = (none, 0, 0) ∧ vs = []) ∨ ∃ b c, x.1 = some ⟨b, 0, none⟩ ∧ B ≤ b ∧ H[b]? = some (.cells c T (0, 0)) ∧ c.size = x.2.2 * sz ∧ vs.length = x.2.1 * sz ∧ x.2.1 ≤ x.2.2 ∧ (c.extract 0 vs.length).toList = vs
theorem Mine.cells {H : Heap} {B : Nat} {T : TypeId} {sz : Nat} {x : Option Addr × Nat × Nat} {vs : List Value} (h : Mine H B T sz x vs) : Cells H x.1 vs := by
 rcases h with ⟨_, rfl⟩ | ⟨b, c, hx, _, hb, hc, hl, hle, he⟩
 ·exact .inl rfl
 ·refine .inr ⟨b, 0, c, T, (0, 0), hx, hb, ?_, by simpa using he⟩
  rw [hl, hc]; simpa using Nat.mul_le_mul_right sz hle
theorem Mine.len {H : Heap} {B : Nat} {T : TypeId} {sz : Nat} {x : Option Addr × Nat × Nat} {vs : List Value} (h : Mine H B T sz x vs) : vs.length = x.2.1 * sz := by
 rcases h with ⟨rfl, rfl⟩ | ⟨b, c, hx, _, hb, hc, hl, hle, he⟩
 ·simp
 ·exact hl
def ownM (x : Option Addr × Nat × Nat) : List Nat := match x.1 with | some a => [a.block] | none => []
theorem Mine.ext {M : List Nat} {H H' : Heap} {B : Nat} {T : TypeId} {sz : Nat} {x : Option Addr × Nat × Nat} {vs : List Value} (h : Mine H B T sz x vs) (hx : Ext M H H') (hM : ∀ b, b ∈ ownM x → b ∉ M) : Mine H' B T sz x vs := by
 rcases h with h | ⟨b, c, hx1, hB, hb, hc, hl, hle, he⟩
 ·exact .inl h
 ·exact .inr ⟨b, c, hx1, hB, hx.get hb (hM b (by simp [ownM, hx1])), hc, hl, hle, he⟩
theorem Mine.mono {H : Heap} {B B' : Nat} {T : TypeId} {sz : Nat} {x : Option Addr × Nat × Nat} {vs : List Value} (h : Mine H B T sz x vs) (hB : B' ≤ B) : Mine H B' T sz x vs := by
 rcases h with h | ⟨b, c, hx1, hB1, hb⟩
 ·exact .inl h
 ·exact .inr ⟨b, c, hx1, Nat.le_trans hB hB1, hb⟩
theorem ownM_ge {H : Heap} {B : Nat} {T : TypeId} {sz : Nat} {x : Option Addr × Nat × Nat} {vs : List Value} (h : Mine H B T sz x vs) : ∀ b, b ∈ ownM x → B ≤ b := by
 rcases h with ⟨rfl, _⟩ | ⟨b, c, hx1, hB, _⟩
 ·simp [ownM]
 ·simp [ownM, hx1, hB]
theorem growBy_le (newLen : Nat) : ∀ (r c : Nat), c ≤ 2 * newLen → Builtin.growBy newLen r c ≤ 2 * newLen + 192 := by
 intro r
 induction r with
 | zero => intro c h; simp only [Builtin.growBy]; omega
 | succ r ih =>
  intro c h
  simp only [Builtin.growBy]
  split
  ·omega
  ·rename_i hlt
   by_cases hb : c + (c + 768) / 4 ≤ 2 * newLen
   ·exact ih _ hb
   ·cases r with
    | zero => simp only [Builtin.growBy]; omega
    | succ r =>
     simp only [Builtin.growBy]
     rw [if_pos (by omega)]
     omega
theorem nextcap_le {newLen oldCap : Nat} (h : oldCap < newLen) : Builtin.nextslicecap newLen oldCap ≤ 2 * newLen + 192 := by
 unfold Builtin.nextslicecap
 split
 ·omega
 ·split
  ·omega
  ·exact growBy_le _ _ _ (by omega)
def Src (P : Program) (w : World) (v : Value) (sz n : Nat) (vs : List Value) : Prop := (Builtin.lenOf v).run P w = .ok n w ∧ vs.length = n * sz ∧ ∀ w', w'.heap = w.heap → (Builtin.firstCells sz n v).run P w' = .ok vs.toArray w'
theorem Src.slc {H : Heap} {a : Option Addr} {l c sz : Nat} {vs : List Value} (hw : w.heap = H) (h : Cells H a vs) (hl : vs.length = l * sz) : Src P w (.slice a l c) sz l vs :=
 ⟨rfl, hl, fun w' hw' => run_first (hw'.trans hw) h hl.symm⟩
def strCells (s : ByteArray) : List Value := s.data.toList.map fun b => .int .u8 b.toNat
theorem Src.str {s : ByteArray} : Src P w (.string s) 1 s.size (strCells s) := by
 refine ⟨rfl, by simp [strCells], fun _ _ => ?_⟩
 have : s.extract 0 s.size = s := by
  ext1
  simp
 simp only [Builtin.firstCells, this, strCells, Sem.run_pure]
 congr 1
 apply Array.ext'
 simp
theorem append_h {H : Heap} {st xt e ty : TypeId} {info : TypeInfo} {z : Value} {sz B : Nat} {x : Option Addr × Nat × Nat} {y : Value} {n : Nat} {vs us : List Value} (hu : P.underlying st = some (.slice e)) (hx : ∃ d, P.underlying xt = some d ∧ ∀ k, d ≠ .int k)
  (hi : P.info? e = some info) (hsz : info.size = sz) (hz : info.zero = some z) (hzs : z.cells.size = sz) (hb0 : info.bytes ≠ 0) (hw : w.heap = H) (hown : Mine H B e sz x vs) (hB : B ≤ H.size) (hsrc : Src P w y sz n us) (h1 : oneCells us)
  (hroom : (2 * (x.2.1 + n) + 192) * info.bytes ≤ 281474976710656) :
  ∃ x' w', (Builtin.append_ #[st, xt] ty #[.slice x.1 x.2.1 x.2.2, y]).run P w = .ok (.slice x'.1 x'.2.1 x'.2.2) w' ∧ Calm w w' ∧ Mine w'.heap B e sz x' (vs ++ us) ∧ x'.2.1 = x.2.1 + n ∧ Ext (ownM x) H w'.heap ∧ (∀ b, b ∈ ownM x' → b ∈ ownM x ∨ H.size ≤ b) := by
 obtain ⟨hlen, hul, hfirst⟩ := hsrc
 obtain ⟨d, hxd, hxk⟩ := hx
 have hnoint : (d matches .int _) = false := by
  cases d <;> first | rfl | (exact absurd rfl (hxk _))
 have hse : (P.info? e).map (·.size) = some sz := by rw [hi]; simp [hsz]
 have hti : (typeInfo e).run P w = .ok info w := by simp [typeInfo, hi]
 by_cases hfit : x.2.1 + n ≤ x.2.2
 ·-- there is room
  rcases hown with ⟨rfl, rfl⟩ | ⟨b, c, hx1, hBb, hb, hc, hl, hle, he⟩
  ·simp only [Nat.zero_add, Nat.le_zero] at hfit
   subst hfit
   simp only [Nat.zero_mul] at hul
   obtain rfl : us = [] := List.length_eq_zero_iff.1 hul
   refine ⟨(none, 0, 0), w, ?_, .refl w, .inl ⟨rfl, rfl⟩, rfl, by rw [hw]; exact .refl _ _, fun b hb => .inl hb⟩
   simp only [Builtin.append_, List.getElem?_toArray, List.getElem?_cons_zero, List.getElem?_cons_succ, Sem.run_bind, run_underlying' hu, run_underlying' hxd, Result.andThen_ok, Sem.run_pure, hnoint, Bool.false_eq_true, if_false, run_sizeOf_info hse, hlen,
    Nat.add_zero, Nat.le_refl, if_true, Bool.not_false, hfirst w rfl]
  ·have hcs : vs.length + us.length ≤ c.size := by
    rw [hl, hul, hc, ← Nat.add_mul]
    exact Nat.mul_le_mul_right sz hfit
   obtain ⟨w', h2, h4, h3⟩ := storeCells_h (P := P) us w H c (x.2.1 * sz) 0 h1 hw hb (by rw [← hl]; simpa using hcs)
   refine ⟨(x.1, x.2.1 + n, x.2.2), w', ?_, h4, ?_, rfl, ?_, fun b hb => .inl hb⟩
   ·rw [hx1]
    simp only [Builtin.append_, List.getElem?_toArray, List.getElem?_cons_zero, List.getElem?_cons_succ, Sem.run_bind, run_underlying' hu, run_underlying' hxd, Result.andThen_ok, Sem.run_pure, hnoint, Bool.false_eq_true, if_false, run_sizeOf_info hse, hlen,
     if_pos hfit, Bool.not_false, if_true, hfirst w rfl, add_none, Nat.zero_add, h2]
   ·rw [h3]
    refine .inr ⟨b, _, hx1, hBb, set_new hb, by simp [hc], ?_, hfit, ?_⟩
    ·rw [List.length_append, hl, hul, ← Nat.add_mul]
    ·apply List.ext_getElem?
     intro i
     rw [Array.toList_extract, List.extract_eq_take_drop]
     simp only [List.drop_zero, Nat.sub_zero]
     rw [List.getElem?_take]
     by_cases hilt : i < (vs ++ us).length
     ·rw [if_pos hilt]
      rw [Array.getElem?_toList, get_setCells (by rw [Nat.add_zero, ← hl]; exact hcs)]
      simp only [Nat.add_zero]
      by_cases hiv : i < vs.length
      ·rw [if_neg (by omega), List.getElem?_append_left hiv]
       have : ((c.extract 0 vs.length).toList)[i]? = vs[i]? := by rw [he]
       rw [Array.getElem?_toList, Array.getElem?_extract, if_pos (by omega)] at this
       simpa using this
      ·rw [List.length_append] at hilt
       rw [if_pos (by omega), List.getElem?_append_right (by omega), hl]
     ·rw [if_neg hilt, List.getElem?_eq_none (by omega)]
   ·rw [h3]
    exact Ext.set _ (by simp [ownM, hx1])
 ·-- it grows
  subst hw
  have hcl := hown.cells
  have hll := hown.len
  have hgrow : Builtin.nextslicecap (x.2.1 + n) x.2.2 * info.bytes ≤ 281474976710656 :=
   Nat.le_trans (Nat.mul_le_mul_right _ (nextcap_le (by omega))) hroom
  have hcap : x.2.1 + n ≤ 281474976710656 := by
   have : (x.2.1 + n) * 1 ≤ (2 * (x.2.1 + n) + 192) * info.bytes := Nat.mul_le_mul (by omega) (by omega)
   omega
  have hold : ∀ w', w'.heap = w.heap → (Builtin.firstCells sz x.2.1 (.slice x.1 x.2.1 x.2.2)).run P w' = .ok vs.toArray w' := fun w' hw' => run_first hw' hcl hll.symm
  have hch : ∀ w : World, (choose (.appendCap (x.2.1 + n) x.2.2 e)).run P w = .ok (x.2.1 + n + w.tape w.drawn (.appendCap (x.2.1 + n) x.2.2 e) % (2 ^ 63 - (x.2.1 + n))) { w with drawn := w.drawn + 1 } :=
   fun w => by simp [Question.forced, Question.cut]
  generalize hq : x.2.1 + n + w.tape w.drawn (.appendCap (x.2.1 + n) x.2.2 e) % (2 ^ 63 - (x.2.1 + n)) = q at *
  have hqn : x.2.1 + n ≤ q := by omega
  have hzv : ∀ w', (zeroValue e).run P w' = .ok z w' := fun w' => by simp [zeroValue, typeInfo, hi, hz]
  refine ⟨(some ⟨w.heap.size, 0, none⟩, x.2.1 + n, q), { w with drawn := w.drawn + 1, heap := w.heap.push (.cells (vs.toArray ++ us.toArray ++ Builtin.zeroCells z.cells (q - (x.2.1 + n))) e) }, ?_, ⟨rfl, rfl, rfl, Nat.le_succ _⟩, ?_, rfl, ?_, ?_⟩
  ·have hn1 : ¬ ((x.2.1 + n : Nat) : Int) > IntKind.i64.max := by
    have : IntKind.i64.max = 9223372036854775807 := by decide
    rw [this]; omega
   have hn2 : ¬ Builtin.nextslicecap (x.2.1 + n) x.2.2 * info.bytes > 2 ^ 48 := by
    have : (2 : Nat) ^ 48 = 281474976710656 := by decide
    rw [this]; omega
   have hti' : ∀ w', (typeInfo e).run P w' = .ok info w' := fun w' => by simp [typeInfo, hi]
   simp only [Builtin.append_, List.getElem?_toArray, List.getElem?_cons_zero, List.getElem?_cons_succ, Sem.run_bind, run_underlying' hu, run_underlying' hxd, Result.andThen_ok, Sem.run_pure, hnoint, Bool.false_eq_true, if_false, run_sizeOf_info hse, hlen,
    if_neg hfit, Bool.not_false, if_true, hti', hn1, false_and, hn2, hch, hq, run_askRoom, hold { w with drawn := w.drawn + 1 } rfl, hfirst { w with drawn := w.drawn + 1 } rfl, hzv, newRow, run_newObj]
  ·refine .inr ⟨w.heap.size, vs.toArray ++ us.toArray ++ Builtin.zeroCells z.cells (q - (x.2.1 + n)), rfl, hB, ?_, ?_, ?_, hqn, ?_⟩
   ·simp
   ·simp only [Array.size_append, List.size_toArray, Builtin.zeroCells, Array.size_map, Array.size_range, hll, hul, hzs]
    rw [← Nat.add_mul, ← Nat.add_mul]
    congr 1
    omega
   ·rw [List.length_append, hll, hul, ← Nat.add_mul]
   ·rw [Array.toList_extract, List.extract_eq_take_drop]
    simp only [List.drop_zero, Nat.sub_zero, Array.toList_append, List.length_append]
    rw [← List.length_append, List.take_left]
  ·exact .push _
  ·intro b hb
   simp only [ownM, List.mem_singleton] at hb
   exact .inr (by omega)
end
theorem Mine.put {H : Heap} {B : Nat} {T : TypeId} {x : Option Addr × Nat × Nat} {vs : List Value} (h : Mine H B T 1 x vs) {i : Nat} (hi : i < vs.length) (v : Value) :
  ∃ b c, x.1 = some ⟨b, 0, none⟩ ∧ H[b]? = some (.cells c T (0, 0)) ∧ i < c.size ∧ c[i]? = vs[i]? ∧ Mine (H.setIfInBounds b (.cells (c.setIfInBounds i v) T (0, 0))) B T 1 x (vs.set i v) := by
 rcases h with ⟨_, rfl⟩ | ⟨b, c, hx, hB, hb, hc, hl, hle, he⟩
 ·cases hi
 ·have hvc : vs.length ≤ c.size := by omega
  have hget : ∀ j, j < vs.length → c[j]? = vs[j]? := by
   intro j hj
   have : ((c.extract 0 vs.length).toList)[j]? = vs[j]? := by rw [he]
   rw [Array.getElem?_toList, Array.getElem?_extract, if_pos (by omega)] at this
   simpa using this
  refine ⟨b, c, hx, hb, by omega, hget i hi, .inr ⟨b, _, hx, hB, set_new hb, by simpa using hc, by simpa using hl, hle, ?_⟩⟩
  apply List.ext_getElem?
  intro j
  rw [Array.getElem?_toList, Array.getElem?_extract]
  simp only [List.length_set, Nat.sub_zero, Nat.zero_add, Array.size_setIfInBounds]
  by_cases hj : j < vs.length
  ·rw [if_pos (by omega), Array.getElem?_setIfInBounds, List.getElem?_set]
   by_cases e : i = j
   ·subst e; simp [hi, show i < c.size by omega]
   ·simp only [e, if_false]; exact hget j hj
  ·rw [if_neg (by omega), List.getElem?_eq_none (by simp; omega)]
end Go.Fw
namespace Go.Fw
open Go
def arr (L : List UInt8) : Value := .agg (byteCells L).toArray
section
variable {P : Program}
theorem byte_at (L : List UInt8) (i : Nat) : (byteCells L).toArray[i]? = (L[i]?).map fun b => Value.int .u8 (b.toNat : Int) := by
 simp [byteCells]
theorem part_byte {e : TypeId} {info : TypeInfo} {w : World} (he : P.underlying e = some (.int .u8)) (L : List UInt8) {i : Nat} (hi : i < L.length) : (part e (byteCells L).toArray i).run P w = .ok (.int .u8 ((L[i]).toNat : Int)) w :=
 run_part_plain w (by simp [Program.plainKey, he]) (by rw [byte_at]; simp [hi])
theorem eqItems_bytes {e : TypeId} {d : Nat} {w : World} (he : P.underlying e = some (.int .u8)) (hc : P.cellsOf e = 1) (A B : List UInt8) : ∀ is : List Nat, (∀ i ∈ is, i < A.length ∧ i < B.length) →
  (Op.eqItems (d + 1) e (P.cellsOf e) (byteCells A).toArray (byteCells B).toArray is).run P w = .ok (decide (∀ i ∈ is, A[i]? = B[i]?)) w
 | [], _ => by simp [Op.eqItems]
 | i :: is, h => by
  have h1 := h i (by simp)
  have ih := eqItems_bytes (d := d) (w := w) he hc A B is fun j hj => h j (by simp [hj])
  simp only [Op.eqItems, Sem.run_bind, hc, Nat.mul_one]
  rw [part_byte (info := default) he A h1.1]
  simp only [Result.andThen_ok]
  rw [part_byte (info := default) he B h1.2]
  simp only [Result.andThen_ok]
  rw [run_equalIn_int w d e .u8 .u8 _ _ he]
  simp only [Result.andThen_ok]
  rw [hc] at ih
  by_cases hb : A[i] = B[i]
  ·have : (((A[i]).toNat : Int) == ((B[i]).toNat : Int)) = true := by rw [hb]; simp
   simp only [this, Bool.not_true, Bool.false_eq_true, if_false, ih]
   congr 1
   simp [List.getElem?_eq_getElem h1.1, List.getElem?_eq_getElem h1.2, hb]
  ·have : (((A[i]).toNat : Int) == ((B[i]).toNat : Int)) = false := by
    simp only [beq_eq_false_iff_ne, ne_eq]
    intro hh
    apply hb
    apply UInt8.toNat_inj.1
    omega
   simp only [this, Bool.not_false, if_true, Sem.run_pure]
   congr 1
   simp [List.getElem?_eq_getElem h1.1, List.getElem?_eq_getElem h1.2, hb]
theorem equal_arr {t e : TypeId} {n : Nat} {w : World} (hu : P.underlying t = some (.array n e)) (he : P.underlying e = some (.int .u8)) (hc : P.cellsOf e = 1) {A B : List UInt8} (hA : A.length = n) (hB : B.length = n) :
  (Op.equal t (arr A) (arr B)).run P w = .ok (decide (A = B)) w := by
 have hi : ∃ i, P.info? e = some i := info_of_underlying he
 obtain ⟨i, hi⟩ := hi
 unfold Op.equal Op.maxDepth arr
 rw [run_equalIn_array w 9999 _ _ hu hi, eqItems_bytes (d := 9998) he hc A B (List.range n) (by intro j hj; simp at hj; omega)]
 congr 1
 simp only [List.mem_range, decide_eq_decide]
 constructor
 ·intro h
  apply List.ext_getElem?
  intro j
  by_cases hj : j < n
  ·exact h j hj
  ·rw [List.getElem?_eq_none (by omega), List.getElem?_eq_none (by omega)]
 ·rintro rfl _ _; rfl
theorem check_arr {t e : TypeId} {n : Nat} {w : World} (hu : P.underlying t = some (.array n e)) (he : P.underlying e = some (.int .u8)) (hc : P.cellsOf e = 1) {A : List UInt8} (hA : A.length = n) (em : Bool) :
  (Instr.checkKey em 10000 t (arr A)).run P w = .ok () w := by
 have hi : ∃ i, P.info? e = some i := info_of_underlying he
 obtain ⟨i, hi⟩ := hi
 unfold arr
 rw [show (10000 : Nat) = 9998 + 1 + 1 from rfl, Instr.checkKey]
 simp only [Sem.run_bind, run_underlying' hu, Result.andThen_ok]
 simp only [Std.Legacy.Range.forIn_eq_forIn_range', Std.Legacy.Range.size, Nat.sub_zero, Nat.add_one_sub_one, Nat.div_one]
 have each : ∀ j ∈ List.range' 0 n, j < A.length := by intro j hj; simp [List.mem_range'] at hj; omega
 generalize List.range' 0 n = is at each
 induction is with
 | nil => simp
 | cons j is ih =>
  have p1 : (part e (byteCells A).toArray j).run P w = _ := part_byte (info := default) he A (each j (by simp))
  have p2 : (Instr.checkKey em (9998 + 1) e (.int .u8 ((A[j]'(each j (by simp))).toNat : Int))).run P w = .ok () w := by
   rw [Instr.checkKey]
   simp only [Sem.run_bind, run_underlying' he, Result.andThen_ok, Sem.run_pure]
  simp only [List.forIn_cons, Sem.run_bind, run_sizeOf w hi, Result.andThen_ok, hc, Nat.mul_one, p1, p2, Sem.run_pure]
  exact ih fun y hy => each y (by simp [hy])
end
structure KeyOk (P : Program) (kt : TypeId) (κ : Type) [DecidableEq κ] (ok : κ → Prop) (enc : κ → Value) : Prop where
 find : ∀ (w : World) (k : κ) (es : List MapEntry) (l : List (κ × Value × Nat)), ok k → (∀ x ∈ l, ok x.1) → es = l.map (fun x => ⟨enc x.1, x.2.1, x.2.2⟩) →
  (Instr.findKey kt (enc k) es).run P w = .ok ((l.findIdx? (fun x => x.1 == k)).bind fun i => (l[i]?).map fun x => (i, x.2.1)) w
 chk : ∀ (w : World) (k : κ) (e : Bool), ok k → (Instr.checkKey e 10000 kt (enc k)).run P w = .ok () w
 same : ∀ k : κ, ok k → Instr.sameBits 10000 (enc k) (enc k) = true
section
variable {P : Program} {κ : Type} [DecidableEq κ] {ok : κ → Prop} {enc : κ → Value}
theorem findAsking_arr {kt : TypeId} {w : World} (heq : ∀ (w : World) (a b : κ), ok a → ok b → (Op.equal kt (enc a) (enc b)).run P w = .ok (decide (a = b)) w) {k : κ} (hk : ok k) : ∀ (l : List (κ × Value × Nat)) (i : Nat), (∀ x ∈ l, ok x.1) →
  (Instr.findAsking kt (enc k) (l.map fun x => ⟨enc x.1, x.2.1, x.2.2⟩) i).run P w = .ok ((l.findIdx? (fun x => x.1 == k)).bind fun j => (l[j]?).map fun x => (i + j, x.2.1)) w
 | [], i, _ => by simp [Instr.findAsking]
 | x :: l, i, h => by
  have ih := findAsking_arr (w := w) heq hk l (i + 1) fun y hy => h y (by simp [hy])
  simp only [List.map_cons, Instr.findAsking, Sem.run_bind, heq w k x.1 hk (h x (by simp)), Result.andThen_ok]
  by_cases e : x.1 = k
  ·subst e
   simp [List.findIdx?_cons]
  ·have e' : ¬ k = x.1 := fun h => e h.symm
   simp only [e', decide_false, Bool.false_eq_true, if_false, ih]
   congr 1
   rw [List.findIdx?_cons]
   simp only [beq_eq_false_iff_ne.2 e]
   cases hf : List.findIdx? (fun x => x.1 == k) l with
   | none => simp
   | some j => simp [Nat.add_assoc, Nat.add_comm 1 j]
theorem KeyOk.wide {kt : TypeId} (heq : ∀ (w : World) (a b : κ), ok a → ok b → (Op.equal kt (enc a) (enc b)).run P w = .ok (decide (a = b)) w)
  (hw : (match P.underlying kt with | some (.array _ _) | some (.struct _) => true | _ => false) = true) (hc : ∀ (w : World) (k : κ) (e : Bool), ok k → (Instr.checkKey e 10000 kt (enc k)).run P w = .ok () w)
  (hs : ∀ k : κ, ok k → Instr.sameBits 10000 (enc k) (enc k) = true) : KeyOk P kt κ ok enc where
 find w k es l hk hl he := by
  subst he
  rw [run_findKey_eq w hw, findAsking_arr heq hk l 0 hl]
  simp
 chk := hc
 same := hs
end
theorem sameBits_arr (L : List UInt8) : Instr.sameBits 10000 (arr L) (arr L) = true := by
 unfold arr
 rw [show (10000 : Nat) = 9999 + 1 from rfl, Instr.sameBits]
 simp only [beq_self_eq_true, Bool.true_and, List.all_eq_true]
 intro x hx
 simp only [byteCells] at hx
 have : ∀ (l : List UInt8), x ∈ (l.map fun b => Value.int .u8 (b.toNat : Int)).zip (l.map fun b => Value.int .u8 (b.toNat : Int)) → ∃ b : UInt8, x = (Value.int .u8 (b.toNat : Int), Value.int .u8 (b.toNat : Int)) := by
  intro l
  induction l with
  | nil => intro h; cases h
  | cons b l ih =>
   intro h
   simp only [List.map_cons, List.zip_cons_cons, List.mem_cons] at h
   rcases h with rfl | h
   ·exact ⟨b, rfl⟩
   ·exact ih h
 obtain ⟨b, rfl⟩ := this L hx
 simp [Instr.sameBits]
theorem KeyOk.arr {P : Program} {t e : TypeId} {n : Nat} (hu : P.underlying t = some (.array n e)) (he : P.underlying e = some (.int .u8)) (hc : P.cellsOf e = 1) : KeyOk P t (List UInt8) (fun L => L.length = n) arr :=
 .wide (fun w a b ha hb => equal_arr hu he hc ha hb) (by rw [hu]) (fun w k e hk => check_arr hu he hc hk e) fun k _ => sameBits_arr k
def ents {κ : Type} (enc : κ → Value) (l : List (κ × Value × Nat)) : Array MapEntry := (l.map fun x => ⟨enc x.1, x.2.1, x.2.2⟩).toArray
set_option linter.unusedSectionVars false
section
variable {κ ν : Type} [DecidableEq κ]
abbrev ML (κ ν : Type) := List (κ × ν × Nat)
def mget (l : ML κ ν) (k : κ) : Option ν := (l.find? fun x => x.1 == k).map (·.2.1)
def mupd (l : ML κ ν) (k : κ) (v : ν) (c : Nat) : ML κ ν := if (mget l k).isSome then l.map (fun x => if x.1 = k then (x.1, v, x.2.2) else x) else l ++ [(k, v, c)]
def mclk (l : ML κ ν) (k : κ) (c : Nat) : Nat := if (mget l k).isSome then c else c + 1
def mdel (l : ML κ ν) (k : κ) : ML κ ν := l.filter fun x => x.1 != k
structure MOk (ok : κ → Prop) (l : ML κ ν) (c : Nat) : Prop where
 keys : (l.map (·.1)).Nodup
 born : (l.map (·.2.2)).Nodup
 old : ∀ x ∈ l, x.2.2 < c
 fine : ∀ x ∈ l, ok x.1
theorem mget_some_mem {l : ML κ ν} {k : κ} {v : ν} (h : mget l k = some v) : ∃ c, (k, v, c) ∈ l := by
 simp only [mget, Option.map_eq_some_iff] at h
 obtain ⟨x, hx, rfl⟩ := h
 have h1 := List.find?_some hx
 have h2 := List.mem_of_find?_eq_some hx
 simp at h1
 subst h1
 exact ⟨x.2.2, h2⟩
theorem mget_of_mem {l : ML κ ν} (hn : (l.map (·.1)).Nodup) {k : κ} {v : ν} {c : Nat} (h : (k, v, c) ∈ l) : mget l k = some v := by
 induction l with
 | nil => cases h
 | cons x l ih =>
  simp only [List.map_cons, List.nodup_cons] at hn
  simp only [mget, List.find?_cons]
  rcases List.mem_cons.1 h with h | h
  ·subst h; simp
  ·have hne : x.1 ≠ k := fun e => hn.1 (by rw [e]; exact List.mem_map.2 ⟨_, h, rfl⟩)
   simp only [beq_eq_false_iff_ne.2 hne]
   exact ih hn.2 h
theorem mget_cons_eq {l : ML κ ν} {k : κ} {x : κ × ν × Nat} (e : x.1 = k) : mget (x :: l) k = some x.2.1 := by simp [mget, e]
theorem mget_cons_ne {l : ML κ ν} {k : κ} {x : κ × ν × Nat} (e : x.1 ≠ k) : mget (x :: l) k = mget l k := by simp only [mget, List.find?_cons, beq_eq_false_iff_ne.2 e]
theorem mget_none {l : ML κ ν} {k : κ} (h : mget l k = none) : ∀ x ∈ l, x.1 ≠ k := by
 simp only [mget, Option.map_eq_none_iff, List.find?_eq_none] at h
 intro x hx e
 exact absurd (h x hx) (by simp [e])
theorem mget_none_of {l : ML κ ν} {k : κ} (h : ∀ x ∈ l, x.1 ≠ k) : mget l k = none := by
 simp only [mget, Option.map_eq_none_iff, List.find?_eq_none]
 intro x hx
 simp [h x hx]
theorem mupd_some {l : ML κ ν} {k : κ} {v : ν} {c : Nat} (h : (mget l k).isSome = true) : mupd l k v c = l.map (fun x => if x.1 = k then (x.1, v, x.2.2) else x) := by simp [mupd, h]
theorem mupd_none {l : ML κ ν} {k : κ} {v : ν} {c : Nat} (h : mget l k = none) : mupd l k v c = l ++ [(k, v, c)] := by simp [mupd, h]
theorem mem_upd {l : ML κ ν} {k : κ} {v : ν} {c : Nat} {x : κ × ν × Nat} (h : x ∈ mupd l k v c) : (x.1 = k ∧ x.2.1 = v) ∨ (x.1 ≠ k ∧ x ∈ l) := by
 cases hg : mget l k with
 | none =>
  rw [mupd_none hg] at h
  rcases List.mem_append.1 h with h | h
  ·exact .inr ⟨mget_none hg x h, h⟩
  ·simp at h; subst h; exact .inl ⟨rfl, rfl⟩
 | some v' =>
  rw [mupd_some (by rw [hg]; rfl)] at h
  obtain ⟨y, hy, rfl⟩ := List.mem_map.1 h
  by_cases e : y.1 = k
  ·rw [if_pos e]; exact .inl ⟨e, rfl⟩
  ·rw [if_neg e]; exact .inr ⟨e, hy⟩
theorem key_inj {ok : κ → Prop} {l : ML κ ν} {c : Nat} (h : MOk ok l c) {x y : κ × ν × Nat} (hx : x ∈ l) (hy : y ∈ l) (e : x.1 = y.1) : x = y := by
 have h1 := h.keys
 clear h
 induction l with
 | nil => cases hx
 | cons z l ih =>
  simp only [List.map_cons, List.nodup_cons] at h1
  rcases List.mem_cons.1 hx with e1 | hx1 <;> rcases List.mem_cons.1 hy with e2 | hy1
  ·rw [e1, e2]
  ·exact absurd (List.mem_map.2 ⟨y, hy1, by rw [← e, e1]⟩) h1.1
  ·exact absurd (List.mem_map.2 ⟨x, hx1, by rw [e, e2]⟩) h1.1
  ·exact ih hx1 hy1 h1.2
theorem born_inj {ok : κ → Prop} {l : ML κ ν} {c : Nat} (h : MOk ok l c) {x y : κ × ν × Nat} (hx : x ∈ l) (hy : y ∈ l) (e : x.2.2 = y.2.2) : x = y := by
 have h1 := h.born
 clear h
 induction l with
 | nil => cases hx
 | cons z l ih =>
  simp only [List.map_cons, List.nodup_cons] at h1
  rcases List.mem_cons.1 hx with e1 | hx1 <;> rcases List.mem_cons.1 hy with e2 | hy1
  ·rw [e1, e2]
  ·exact absurd (List.mem_map.2 ⟨y, hy1, by rw [← e, e1]⟩) h1.1
  ·exact absurd (List.mem_map.2 ⟨x, hx1, by rw [e, e2]⟩) h1.1
  ·exact ih hx1 hy1 h1.2
theorem map_put_keys {l : ML κ ν} {k : κ} {v : ν} : (l.map (fun x => if x.1 = k then (x.1, v, x.2.2) else x)).map (·.1) = l.map (·.1) := by
 rw [List.map_map]; congr 1; funext x; simp only [Function.comp]; split <;> rfl
theorem map_put_born {l : ML κ ν} {k : κ} {v : ν} : (l.map (fun x => if x.1 = k then (x.1, v, x.2.2) else x)).map (·.2.2) = l.map (·.2.2) := by
 rw [List.map_map]; congr 1; funext x; simp only [Function.comp]; split <;> rfl
theorem MOk.upd {ok : κ → Prop} {l : ML κ ν} {c : Nat} (h : MOk ok l c) {k : κ} (hk : ok k) (v : ν) : MOk ok (mupd l k v c) (mclk l k c) := by
 cases hg : mget l k with
 | some v' =>
  rw [mupd_some (by rw [hg]; rfl), show mclk l k c = c from by simp [mclk, hg]]
  refine ⟨by rw [map_put_keys]; exact h.keys, by rw [map_put_born]; exact h.born, ?_, ?_⟩
  ·intro x hx
   obtain ⟨y, hy, rfl⟩ := List.mem_map.1 hx
   split <;> exact h.old y hy
  ·intro x hx
   obtain ⟨y, hy, rfl⟩ := List.mem_map.1 hx
   split <;> exact h.fine y hy
 | none =>
  rw [mupd_none hg, show mclk l k c = c + 1 from by simp [mclk, hg]]
  have hn := mget_none hg
  refine ⟨?_, ?_, ?_, ?_⟩
  ·rw [List.map_append, List.nodup_append]
   refine ⟨h.keys, by simp, ?_⟩
   intro a ha b hb
   simp at hb; subst hb
   obtain ⟨y, hy, rfl⟩ := List.mem_map.1 ha
   exact hn y hy
  ·rw [List.map_append, List.nodup_append]
   refine ⟨h.born, by simp, ?_⟩
   intro a ha b hb
   simp at hb; subst hb
   obtain ⟨y, hy, rfl⟩ := List.mem_map.1 ha
   have := h.old y hy; omega
  ·intro x hx
   rcases List.mem_append.1 hx with hx | hx
   ·have := h.old x hx; omega
   ·simp at hx; subst hx; simp
  ·intro x hx
   rcases List.mem_append.1 hx with hx | hx
   ·exact h.fine x hx
   ·simp at hx; subst hx; exact hk
theorem MOk.del {ok : κ → Prop} {l : ML κ ν} {c : Nat} (h : MOk ok l c) (k : κ) : MOk ok (mdel l k) c :=
 ⟨h.keys.sublist (List.Sublist.map _ List.filter_sublist), h.born.sublist (List.Sublist.map _ List.filter_sublist), fun x hx => h.old x (List.mem_filter.1 hx).1, fun x hx => h.fine x (List.mem_filter.1 hx).1⟩
theorem MOk.nil {ok : κ → Prop} : MOk (κ := κ) (ν := ν) ok [] 0 := ⟨by simp, by simp, by simp, by simp⟩
theorem mget_upd {l : ML κ ν} {k k' : κ} {v : ν} {c : Nat} : mget (mupd l k v c) k' = if k' = k then some v else mget l k' := by
 cases hg : mget l k with
 | none =>
  rw [mupd_none hg]
  simp only [mget, List.find?_append]
  by_cases e : k' = k
  ·subst e
   have : l.find? (fun x => x.1 == k') = none := by simpa [mget] using hg
   simp [this]
  ·have e' : ¬ k = k' := fun h => e h.symm
   simp [e, e']
 | some v' =>
  rw [mupd_some (by rw [hg]; rfl)]
  obtain ⟨c', hm⟩ := mget_some_mem hg
  clear hg
  induction l with
  | nil => cases hm
  | cons x l ih =>
   simp only [mget, List.map_cons, List.find?_cons]
   by_cases ex : x.1 = k
   ·by_cases e : k' = k
    ·subst e; simp [ex]
    ·have e' : ¬ x.1 = k' := fun h => e (by rw [← h, ex])
     simp only [ex, if_true, beq_eq_false_iff_ne.2 (ex ▸ e'), e, if_false]
     by_cases hml : (k, v', c') ∈ l
     ·have := ih hml
      simp only [mget, e, if_false] at this
      exact this
     ·have hnk : ∀ y ∈ l, y.1 = k' → (if y.1 = k then (y.1, v, y.2.2) else y) = y := by
       intro y _ hy; rw [if_neg (by rw [hy]; exact e)]
      clear ih hm hml
      induction l with
      | nil => rfl
      | cons y l ih2 =>
       simp only [List.map_cons, List.find?_cons]
       by_cases ey : y.1 = k
       ·simp only [ey, if_true, beq_eq_false_iff_ne.2 (ex ▸ e')]
        exact ih2 fun z hz => hnk z (by simp [hz])
       ·simp only [ey, if_false]
        by_cases ey' : y.1 = k'
        ·simp [ey']
        ·simp only [beq_eq_false_iff_ne.2 ey']
         exact ih2 fun z hz => hnk z (by simp [hz])
   ·have hml : (k, v', c') ∈ l := by
     rcases List.mem_cons.1 hm with h | h
     ·exact absurd (by rw [← h]) ex
     ·exact h
    simp only [ex, if_false]
    by_cases ex' : x.1 = k'
    ·subst ex'; simp [ex]
    ·simp only [beq_eq_false_iff_ne.2 ex']
     exact ih hml
end
section heap
variable {P : Program} {w : World} {H : Heap} {κ : Type} [DecidableEq κ] {ok : κ → Prop} {enc : κ → Value} {mt kt et : TypeId} {m : Nat} {l : ML κ Value} {c : Nat}
theorem get_h {o : Obj} {r : Nat} (hw : w.heap = H) (h : H[r]? = some o) (hno : ∀ c e f, o ≠ .cells c e f) : (getObj r).run P w = .ok o w := by
 subst hw
 cases o <;> first | (exact absurd rfl (hno _ _ _)) | simp [getObj, Sem.run, h]
theorem setObj_h {o o' : Obj} {r : Nat} (hw : w.heap = H) (h : H[r]? = some o) (hno : ∀ c e f, o ≠ .cells c e f) : (setObj r o').run P w = .ok () { w with heap := H.setIfInBounds r o' } := by
 subst hw
 cases o <;> first | (exact absurd rfl (hno _ _ _)) | simp [setObj, Sem.run, h]
theorem findIdx_get {l : ML κ Value} {k : κ} : ((l.findIdx? (fun x => x.1 == k)).bind fun i => (l[i]?).map fun x => (i, x.2.1)).map (·.2) = mget l k := by
 induction l with
 | nil => rfl
 | cons x l ih =>
  simp only [List.findIdx?_cons, mget, List.find?_cons]
  by_cases e : x.1 = k
  ·simp [e]
  ·simp only [beq_eq_false_iff_ne.2 e]
   refine Eq.trans ?_ ih
   cases List.findIdx? (fun x => x.1 == k) l with
   | none => simp
   | some i =>
    simp only [Bool.false_eq_true, if_false, Option.map_some, Option.bind_some, List.getElem?_cons_succ]
    cases l[i]? <;> rfl
theorem lookup_h (K : KeyOk P kt κ ok enc) (hu : P.underlying mt = some (.map kt et)) {z : Value} (hz : ∀ w, (zeroValue et).run P w = .ok z w) (hw : w.heap = H) (hm : H[m]? = some (.map (ents enc l) c)) (hl : MOk ok l c) {k : κ} (hk : ok k) :
  (Instr.lookup mt (.map (some m)) (enc k) true).run P w = .ok (.tuple #[(mget l k).getD z, .bool (mget l k).isSome]) w := by
 have hf := K.find w k (ents enc l).toList l hk hl.fine (by simp [ents])
 have hg := findIdx_get (l := l) (k := k)
 generalize ((l.findIdx? (fun x => x.1 == k)).bind fun i => (l[i]?).map fun x => (i, x.2.1)) = r at hf hg
 simp only [Instr.lookup, Sem.run_bind, run_underlying' hu, Result.andThen_ok, get_h hw hm (by intros; simp), Sem.run_pure, K.chk w k _ hk, hf]
 rw [← hg]
 cases r with
 | none => simp [hz]
 | some x => simp
theorem modify_put (hn : (l.map (·.1)).Nodup) {k : κ} {v : Value} {i : Nat} {x : κ × Value × Nat} (hi : l.findIdx? (fun x => x.1 == k) = some i) (hx : l[i]? = some x) :
  (ents enc l).modify i (fun e => { e with key := enc k, val := v }) = ents enc (l.map (fun x => if x.1 = k then (x.1, v, x.2.2) else x)) := by
 rw [List.findIdx?_eq_some_iff_getElem] at hi
 obtain ⟨hlt, hk, _⟩ := hi
 simp only [beq_iff_eq] at hk
 apply Array.ext_getElem?
 intro j
 rw [Array.getElem?_modify]
 simp only [ents, List.getElem?_toArray, List.getElem?_map, List.map_map]
 by_cases hj : i = j
 ·subst hj
  simp only [if_true]
  rw [List.getElem?_eq_getElem hlt]
  simp [hk]
 ·simp only [hj, if_false]
  by_cases hjl : j < l.length
  ·rw [List.getElem?_eq_getElem hjl]
   simp only [Option.map_some, Function.comp]
   have hne : l[j].1 ≠ k := by
    intro e
    have := List.pairwise_iff_getElem.1 hn
    rcases Nat.lt_or_gt_of_ne hj with h | h
    ·exact this i j (by simpa using hlt) (by simpa using hjl) h (by simp [hk, e])
    ·exact this j i (by simpa using hjl) (by simpa using hlt) h (by simp [hk, e])
   simp [hne]
  ·rw [List.getElem?_eq_none (by omega)]; rfl
theorem findIdx_none {k : κ} (h : mget l k = none) : l.findIdx? (fun x => x.1 == k) = none := by
 rw [List.findIdx?_eq_none_iff]
 intro x hx
 simp [mget_none h x hx]
theorem findIdx_some {k : κ} {v : Value} (h : mget l k = some v) : ∃ i x, l.findIdx? (fun x => x.1 == k) = some i ∧ l[i]? = some x ∧ x.1 = k := by
 cases hf : l.findIdx? (fun x => x.1 == k) with
 | none =>
  rw [List.findIdx?_eq_none_iff] at hf
  obtain ⟨c, hm⟩ := mget_some_mem h
  have := hf _ hm
  simp at this
 | some i =>
  have h2 := List.findIdx?_eq_some_iff_getElem.1 hf
  obtain ⟨hlt, hk, _⟩ := h2
  simp only [beq_iff_eq] at hk
  exact ⟨i, l[i], rfl, List.getElem?_eq_getElem hlt, hk⟩
theorem update_h (K : KeyOk P kt κ ok enc) (hu : P.underlying mt = some (.map kt et)) (hw : w.heap = H) (hm : H[m]? = some (.map (ents enc l) c)) (hl : MOk ok l c) {k : κ} (hk : ok k) (v : Value) :
  (Instr.mapUpdate mt (.map (some m)) (enc k) v).run P w = .ok () { w with heap := H.setIfInBounds m (.map (ents enc (mupd l k v c)) (mclk l k c)) } := by
 have hf := K.find w k (ents enc l).toList l hk hl.fine (by simp [ents])
 simp only [Instr.mapUpdate, Sem.run_bind, run_underlying' hu, Result.andThen_ok, get_h hw hm (by intros; simp), K.chk w k _ hk, hf]
 cases hg : mget l k with
 | none =>
  simp only [findIdx_none hg, Option.bind_none]
  rw [setObj_h hw hm (by intros; simp)]
  congr 4
  rw [mupd_none hg]
  ·simp [ents]
  ·simp [mclk, hg]
 | some v' =>
  obtain ⟨i, x, hi, hx, hxk⟩ := findIdx_some hg
  simp only [hi, Option.bind_some, hx, Option.map_some]
  have hkey : ((ents enc l)[i]?.map (·.key)).getD (enc k) = enc k := by
   simp [ents, hx, hxk]
  simp only [Sem.run_bind, hkey, Instr.keyThatStays, K.same k hk, if_true, Sem.run_pure, Result.andThen_ok]
  rw [setObj_h hw hm (by intros; simp)]
  congr 4
  ·rw [modify_put hl.keys hi hx, mupd_some (by rw [hg]; rfl)]
  ·simp [mclk, hg]
theorem makeMap_h (hw : w.heap = H) : (Instr.makeMap mt none).run P w = .ok (.map (some H.size)) { w with heap := H.push (.map #[] 0) } := by
 subst hw; simp [Instr.makeMap]
theorem len_map_h {ty : TypeId} (hu : P.underlying mt = some (.map kt et)) (hw : w.heap = H) (hm : H[m]? = some (.map (ents enc l) c)) : (Builtin.len_ #[mt] ty #[.map (some m)]).run P w = .ok (.int .i64 (l.length : Int)) w := by
 simp only [Builtin.len_, List.getElem?_toArray, List.getElem?_cons_zero, Sem.run_bind, run_underlying' hu, get_h hw hm (by intros; simp), Result.andThen_ok, Sem.run_pure]
 simp [ents]
 rfl
theorem range_h (hu : P.underlying mt = some (.map kt et)) (hw : w.heap = H) (hm : H[m]? = some (.map (ents enc l) c)) :
  (Instr.range mt (.map (some m))).run P w = .ok (.pointer (some ⟨H.size, 0, none⟩)) { w with heap := H.push (.mapIter (some m) c #[] c) } := by
 subst hw
 simp only [Instr.range, Sem.run_bind, run_underlying' hu, get_h rfl hm (by intros; simp), Result.andThen_ok, Sem.run_pure, run_newObj]
theorem next_h {ty : TypeId} {r since last : Nat} {seen : Array Nat} (hw : w.heap = H) (hm : H[m]? = some (.map (ents enc l) c)) (hr : H[r]? = some (.mapIter (some m) since seen last)) (hold : ∀ x ∈ l, x.2.2 < since) (hsl : since ≤ last) :
  ((∀ x ∈ l, x.2.2 ∈ seen) ∧ ∃ w', (Instr.next (.pointer (some ⟨r, 0, none⟩)) false ty).run P w = .ok (.tuple #[.bool false]) w' ∧ Calm w w' ∧ w'.heap = H) ∨
  ∃ x ∈ l, x.2.2 ∉ seen ∧ ∃ w', (Instr.next (.pointer (some ⟨r, 0, none⟩)) false ty).run P w = .ok (.tuple #[.bool true, enc x.1, x.2.1]) w' ∧ Calm w w' ∧ w'.heap = H.setIfInBounds r (.mapIter (some m) since (seen.push x.2.2) c) := by
 subst hw
 rcases run_next_at (P := P) w ty r m since last seen (ents enc l) c hr hm (by intro x hx; simp only [ents] at hx; obtain ⟨y, hy, rfl⟩ := List.mem_map.1 hx; exact hold y hy) hsl with ⟨h0, h1⟩ | ⟨e, he, w1, hw1, h1⟩
 ·left
  refine ⟨fun x hx => ?_, w, h1, .refl w, rfl⟩
  have h2 : leftOf (ents enc l) seen = #[] := Array.eq_empty_of_size_eq_zero h0
  unfold leftOf at h2
  rw [Array.filter_eq_empty_iff] at h2
  have := h2 ⟨enc x.1, x.2.1, x.2.2⟩ (by simp [ents]; exact ⟨_, _, _, hx, rfl, rfl, rfl⟩)
  simpa using this
 ·right
  simp only [leftOf, ents, Array.toList_filter, List.mem_filter] at he
  obtain ⟨h2, h3⟩ := he
  obtain ⟨x, hx, rfl⟩ := List.mem_map.1 h2
  refine ⟨x, hx, by simpa using h3, _, h1, ?_, ?_⟩
  ·rcases hw1 with rfl | rfl <;> first | exact ⟨rfl, rfl, rfl, Nat.le_refl _⟩ | exact ⟨rfl, rfl, rfl, Nat.le_succ _⟩
  ·rcases hw1 with rfl | rfl <;> rfl
theorem entry_h {r since last : Nat} {seen : Array Nat} (hw : w.heap = H) (hm : H[m]? = some (.map (ents enc l) c)) {x : κ × Value × Nat} (hr : H[r]? = some (.mapIter (some m) since (seen.push x.2.2) c)) (hx : x ∈ l) (hl : MOk ok l c) :
  (Instr.entry (.pointer (some ⟨r, 0, none⟩))).run P w = .ok (.tuple #[enc x.1, x.2.1]) w := by
 subst hw
 refine run_entry_at w r m since seen (ents enc l) c ⟨enc x.1, x.2.1, x.2.2⟩ hr hm (by simp only [ents]; exact List.mem_map.2 ⟨x, hx, rfl⟩) ?_
 have := hl.born
 simp only [ents, List.map_map]
 exact this
end heap
def vl {κ ν : Type} (ev : ν → Value) (l : ML κ ν) : ML κ Value := l.map fun x => (x.1, ev x.2.1, x.2.2)
section views
variable {P : Program} {w : World} {H : Heap} {κ ν : Type} [DecidableEq κ] {ok : κ → Prop} {enc : κ → Value} {ev : ν → Value} {mt kt et : TypeId} {m : Nat} {l : ML κ ν} {c : Nat}
theorem mget_vl {k : κ} : mget (vl ev l) k = (mget l k).map ev := by
 induction l with
 | nil => rfl
 | cons x l ih =>
  simp only [vl, mget, List.map_cons, List.find?_cons] at ih ⊢
  by_cases e : x.1 = k
  ·simp [e]
  ·simp only [beq_eq_false_iff_ne.2 e]; exact ih
theorem mupd_vl {k : κ} {v : ν} : mupd (vl ev l) k (ev v) c = vl ev (mupd l k v c) := by
 unfold mupd
 rw [mget_vl]
 cases mget l k with
 | none => simp [vl]
 | some v' =>
  simp only [Option.map_some, Option.isSome_some, if_true]
  simp only [vl, List.map_map]
  congr 1
  funext x
  simp only [Function.comp]
  split <;> rfl
theorem mclk_vl {k : κ} : mclk (vl ev l) k c = mclk l k c := by
 unfold mclk; rw [mget_vl]; cases mget l k <;> rfl
theorem MOk.vl (h : MOk ok l c) : MOk ok (vl ev l) c := by
 refine ⟨?_, ?_, ?_, ?_⟩
 ·have := h.keys; simp only [Fw.vl, List.map_map]; exact this
 ·have := h.born; simp only [Fw.vl, List.map_map]; exact this
 ·intro x hx; obtain ⟨y, hy, rfl⟩ := List.mem_map.1 hx; exact h.old y hy
 ·intro x hx; obtain ⟨y, hy, rfl⟩ := List.mem_map.1 hx; exact h.fine y hy
theorem lookup_v (K : KeyOk P kt κ ok enc) (hu : P.underlying mt = some (.map kt et)) {z : Value} (hz : ∀ w, (zeroValue et).run P w = .ok z w) (hw : w.heap = H) (hm : H[m]? = some (.map (ents enc (vl ev l)) c)) (hl : MOk ok l c) {k : κ} (hk : ok k) :
  (Instr.lookup mt (.map (some m)) (enc k) true).run P w = .ok (.tuple #[((mget l k).map ev).getD z, .bool (mget l k).isSome]) w := by
 rw [lookup_h K hu hz hw hm hl.vl hk, mget_vl]
 cases mget l k <;> rfl
theorem update_v (K : KeyOk P kt κ ok enc) (hu : P.underlying mt = some (.map kt et)) (hw : w.heap = H) (hm : H[m]? = some (.map (ents enc (vl ev l)) c)) (hl : MOk ok l c) {k : κ} (hk : ok k) (v : ν) {y : Value} (hy : y = ev v) :
  (Instr.mapUpdate mt (.map (some m)) (enc k) y).run P w = .ok () { w with heap := H.setIfInBounds m (.map (ents enc (vl ev (mupd l k v c))) (mclk l k c)) } := by
 subst hy
 rw [update_h K hu hw hm hl.vl hk, mupd_vl, mclk_vl]
theorem len_map_v {ty : TypeId} (hu : P.underlying mt = some (.map kt et)) (hw : w.heap = H) (hm : H[m]? = some (.map (ents enc (vl ev l)) c)) : (Builtin.len_ #[mt] ty #[.map (some m)]).run P w = .ok (.int .i64 (l.length : Int)) w := by
 rw [len_map_h hu hw hm]; simp [vl]
theorem next_v {ty : TypeId} {r since last : Nat} {seen : Array Nat} (hw : w.heap = H) (hm : H[m]? = some (.map (ents enc (vl ev l)) c)) (hr : H[r]? = some (.mapIter (some m) since seen last)) (hold : ∀ x ∈ l, x.2.2 < since) (hsl : since ≤ last) :
  ((∀ x ∈ l, x.2.2 ∈ seen) ∧ ∃ w', (Instr.next (.pointer (some ⟨r, 0, none⟩)) false ty).run P w = .ok (.tuple #[.bool false]) w' ∧ Calm w w' ∧ w'.heap = H) ∨
  ∃ x ∈ l, x.2.2 ∉ seen ∧ ∃ w', (Instr.next (.pointer (some ⟨r, 0, none⟩)) false ty).run P w = .ok (.tuple #[.bool true, enc x.1, ev x.2.1]) w' ∧ Calm w w' ∧ w'.heap = H.setIfInBounds r (.mapIter (some m) since (seen.push x.2.2) c) := by
 rcases next_h (P := P) (ty := ty) hw hm hr (by intro x hx; obtain ⟨y, hy, rfl⟩ := List.mem_map.1 hx; exact hold y hy) hsl with ⟨h1, h2⟩ | ⟨x, hx, h1, h2⟩
 ·exact .inl ⟨fun x hx => h1 (x.1, ev x.2.1, x.2.2) (List.mem_map.2 ⟨x, hx, rfl⟩), h2⟩
 ·obtain ⟨y, hy, rfl⟩ := List.mem_map.1 hx
  exact .inr ⟨y, hy, h1, h2⟩
theorem entry_v {r since last : Nat} {seen : Array Nat} (hw : w.heap = H) (hm : H[m]? = some (.map (ents enc (vl ev l)) c)) {x : κ × ν × Nat} (hr : H[r]? = some (.mapIter (some m) since (seen.push x.2.2) c)) (hx : x ∈ l) (hl : MOk ok l c) :
  (Instr.entry (.pointer (some ⟨r, 0, none⟩))).run P w = .ok (.tuple #[enc x.1, ev x.2.1]) w :=
 entry_h (x := (x.1, ev x.2.1, x.2.2)) (last := last) hw hm hr (List.mem_map.2 ⟨x, hx, rfl⟩) hl.vl
theorem left_lt {seen : Array Nat} {x : κ × ν × Nat} (hx : x ∈ l) (hn : x.2.2 ∉ seen) :
  (l.filter fun y => !(seen.push x.2.2).contains y.2.2).length < (l.filter fun y => !seen.contains y.2.2).length := by
 have hsub : ∀ y : κ × ν × Nat, (!(seen.push x.2.2).contains y.2.2) = true → (!seen.contains y.2.2) = true := by
  intro y hy
  simp only [Bool.not_eq_true', Array.contains_eq_mem, Array.mem_push, decide_eq_false_iff_not, not_or] at hy ⊢
  exact hy.1
 induction l with
 | nil => cases hx
 | cons y l ih =>
  have hle : ∀ l : ML κ ν, (l.filter fun y => !(seen.push x.2.2).contains y.2.2).length ≤ (l.filter fun y => !seen.contains y.2.2).length := by
   intro l
   rw [← List.countP_eq_length_filter, ← List.countP_eq_length_filter]
   exact List.countP_mono_left fun z _ => hsub z
  rcases List.mem_cons.1 hx with rfl | hx
  ·have h1 : (!(seen.push x.2.2).contains x.2.2) = false := by simp
   have h2 : (!seen.contains x.2.2) = true := by simp [hn]
   simp only [List.filter_cons, h1, h2, Bool.false_eq_true, if_false, if_true, List.length_cons]
   have := hle l; omega
  ·have := ih hx
   simp only [List.filter_cons]
   by_cases h : (!(seen.push x.2.2).contains y.2.2) = true
   ·simp only [h, hsub y h, if_true, List.length_cons]; omega
   ·rw [if_neg h]
    by_cases h2 : (!seen.contains y.2.2) = true
    ·rw [if_pos h2, List.length_cons]; omega
    ·rw [if_neg h2]; exact this
end views
def slcV (x : Option Addr × Nat × Nat) : Value := .slice x.1 x.2.1 x.2.2
theorem genT_of {P : Program} {m : Sem Value} {l : List Sh} {w : World} {K : Tup l → Prop} (t : Tup l) (h : m.run P w = .ok (.tuple (Tup.vals l t).toArray) w) (hK : K t) : genT P m l w K := ⟨t, h, hK⟩
theorem exV_of {v : Value} {i : Nat} {s : Sh} {K : s.T → Prop} {vs : Array Value} (t : s.T) (hv : v = .tuple vs) (h : vs[i]? = some (s.val t)) (hK : K t) : exV v i s K := ⟨vs, t, hv, h, hK⟩
theorem genU_of {P : Program} {m : Sem Unit} {w : World} {K : World → Prop} (w' : World) (h : m.run P w = .ok () w') (hK : K w') (hc : Calm w w' := by first | exact ⟨rfl, rfl, rfl, Nat.le_refl _⟩ | exact ⟨rfl, rfl, rfl, Nat.le_succ _⟩) : genU P m w K := ⟨w', h, hc, hK⟩
section
variable {P : Program} {w : World}
theorem eqM_arr {t e : TypeId} {n : Nat} {x y : Operand} (hu : P.underlying t = some (.array n e)) (he : P.underlying e = some (.int .u8)) (hc : P.cellsOf e = 1) (hg : P.eqGuardType P.depth t = false) {A B : List UInt8} (hA : A.length = n) (hB : B.length = n) :
  (eqM .eql t x y (arr A) (arr B)).run P w = .ok (.bool (decide (A = B))) w := by
 have h := equal_arr (w := w) hu he hc hA hB
 unfold arr at h ⊢
 simp [eqM, eqGuard, binOp, hg, h]
theorem neqM_arr {t e : TypeId} {n : Nat} {x y : Operand} (hu : P.underlying t = some (.array n e)) (he : P.underlying e = some (.int .u8)) (hc : P.cellsOf e = 1) (hg : P.eqGuardType P.depth t = false) {A B : List UInt8} (hA : A.length = n) (hB : B.length = n) :
  (eqM .neq t x y (arr A) (arr B)).run P w = .ok (.bool (!decide (A = B))) w := by
 have h := equal_arr (w := w) hu he hc hA hB
 unfold arr at h ⊢
 simp [eqM, eqGuard, binOp, hg, h]
end
end Go.Fw
namespace Go.Fw
open Go
def strOf (L : List UInt8) : ByteArray := ⟨L.toArray⟩
theorem fold_push (L : List UInt8) : ∀ (s : ByteArray), (L.map fun b => (b.toNat : Int)).foldl (fun r n => r.push (UInt8.ofNat n.toNat)) s = ⟨s.data ++ L.toArray⟩ := by
 induction L with
 | nil => intro s; cases s; simp
 | cons b l ih =>
  intro s
  simp only [List.map_cons, List.foldl_cons]
  rw [ih]
  cases s
  simp [ByteArray.push]
section
variable {P : Program} {w : World} {H : Heap}
theorem convS_h {st sd e : TypeId} {a : Option Addr} {l c : Nat} {L : List UInt8} (hs : P.underlying st = some (.slice e)) (he : P.underlying e = some (.int .u8)) (hd : P.underlying sd = some .string) (hw : w.heap = H) (hL : Cells H a (byteCells L)) (hl : l = L.length) :
  (convert st sd (.slice a l c)).run P w = .ok (.string (strOf L)) w := by
 subst hl
 rw [run_convert_bytes_string w st sd e a _ c hs he hd]
 cases a with
 | none =>
  have : L = [] := by
   rcases hL with h | ⟨b, o, c, T, fr, h, _⟩
   ·simpa [byteCells] using h
   ·cases h
  subst this
  rfl
 | some a =>
  have hcs : (loadCells a L.length).run P w = .ok ((L.map fun b => (b.toNat : Int)).map (Value.int .u8)).toArray w := by
   rw [List.map_map]
   rcases hL with h | ⟨b, o, c, T, fr, h, hb, hn, hc⟩
   ·have : L = [] := by simpa [byteCells] using h
    subst this
    rfl
   ·cases h
    rw [length_byteCells] at hn
    rw [loadCells_h hw hb hn]
    congr 1
    rw [length_byteCells] at hc
    apply Array.ext'
    rw [hc]
    rfl
  rw [run_bytesToString w a L.length c _ hcs, fold_push]
  simp [strOf]
theorem mark_h {st e : TypeId} {b o l c : Nat} {cc : Array Value} {T : TypeId} (hs : P.underlying st = some (.slice e)) (he : P.underlying e = some (.int .u8)) (hw : w.heap = H) (hb : H[b]? = some (.cells cc T (0, 0))) :
  ∃ w', (convert st st (.slice (some ⟨b, o, none⟩) l c)).run P w = .ok (.slice (some ⟨b, o, none⟩) l c) w' ∧ Calm w w' ∧ w'.heap = H.setIfInBounds b (.cells cc T (cc.size, cc.size + 1)) := by
 subst hw
 refine ⟨w.freeze { block := b, off := cc.size } 1, ?_, ⟨rfl, rfl, rfl, Nat.le_refl _⟩, ?_⟩
 ·simp only [convert, Sem.run_bind, run_underlying' hs, run_underlying' he, Result.andThen_ok, beq_self_eq_true, markStringish, run_shape, World.shape?, hb, run_freeze, Sem.run_pure]
 ·simp only [World.freeze, Nat.succ_ne_zero, if_false]
  apply Array.ext_getElem?
  intro i
  rw [Array.getElem?_modify, Array.getElem?_setIfInBounds]
  by_cases e : b = i
  ·subst e
   have := lt_of_get hb
   simp only [if_true, this, hb, Option.map_some]
   rfl
  ·simp [e]
theorem cells_cell {a : Addr} {vs : List Value} (hw : w.heap = H) (h : Cells H (some a) vs) {i : Nat} {v : Value} (hi : vs[i]? = some v) : w.cell? (a.add i) = some v := by
 have hlt := (List.getElem?_eq_some_iff.1 hi).1
 rcases h with h | ⟨b, o, c, T, fr, h, hb, hn, hc⟩
 ·subst h; simp at hlt
 ·cases h
  rw [add_none, cell_h hw hb]
  rw [← hc, Array.getElem?_toList, Array.getElem?_extract] at hi
  split at hi
  ·exact hi
  ·cases hi
theorem run_bytesOf {a : Option Addr} {l c : Nat} {L : List UInt8} (hw : w.heap = H) (hL : Cells H a (byteCells L)) (hl : l = L.length) : (Extern.Bytes.bytesOf (.slice a l c)).run P w = .ok (strOf L) w := by
 subst hl
 cases a with
 | none =>
  have : L = [] := by
   rcases hL with h | ⟨b, o, c, T, fr, h, _⟩
   ·simpa [byteCells] using h
   ·cases h
  subst this
  rfl
 | some a =>
  simp only [Extern.Bytes.bytesOf]
  have h := Lib.run_loadBytesX (P := P) w (L.map fun b => (b.toNat : Int)) a .empty fun j x hj => cells_cell hw hL (by
   rw [List.getElem?_map] at hj
   obtain ⟨b, hb, rfl⟩ := Option.map_eq_some_iff.1 hj
   simp [byteCells, hb])
  rw [List.length_map] at h
  rw [h]
  simp [strOf, Lib.bytesOf, Function.comp_def]
theorem run_compare_sl {a a' : Option Addr} {l c l' c' : Nat} {L L' : List UInt8} (hw : w.heap = H) (hL : Cells H a (byteCells L)) (hl : l = L.length) (hL' : Cells H a' (byteCells L')) (hl' : l' = L'.length) :
  (Extern.BytealgCompare.compare #[.slice a l c, .slice a' l' c']).run P w = .ok (.int .i64 (Lib.compareBytes L L')) w := by
 change Sem.run P (do pure (goInt (Extern.BytealgCompare.cmp (← Extern.Bytes.bytesOf (.slice a l c)) (← Extern.Bytes.bytesOf (.slice a' l' c'))))) w = _
 simp only [Sem.run_bind, run_bytesOf hw hL hl, run_bytesOf hw hL' hl', Sem.run_pure, Result.andThen_ok]
 rw [Lib.cmp_eq]
 rfl
end
end Go.Fw
namespace Go.Fw
open Go Go.Proofs Go.Shelf Go.RowKit Go.Lib Go.Sort
theorem getElem_flatMap {α : Type} {k : Nat} (enc : α → List Value) (hk : ∀ x, (enc x).length = k) (h0 : 0 < k) : ∀ (xs : List α) (t : Nat), (xs.flatMap enc)[t]? = (xs[t / k]?).bind fun x => (enc x)[t % k]?
 | [], t => by simp
 | x :: xs, t => by
  rw [List.flatMap_cons]
  by_cases ht : t < k
  ·rw [List.getElem?_append_left (by rw [hk]; exact ht), Nat.div_eq_of_lt ht, Nat.mod_eq_of_lt ht]
   simp
  ·rw [List.getElem?_append_right (by rw [hk]; omega), hk, getElem_flatMap enc hk h0 xs (t - k)]
   have h1 : t / k = (t - k) / k + 1 := by
    rw [Nat.div_eq_sub_div h0 (by omega)]
   have h2 : t % k = (t - k) % k := by rw [Nat.mod_eq_sub_mod (by omega)]
   rw [h1, h2]
   simp
theorem length_flatMap_k {α : Type} {k : Nat} (enc : α → List Value) (hk : ∀ x, (enc x).length = k) (xs : List α) : (xs.flatMap enc).length = xs.length * k := by
 induction xs with
 | nil => simp
 | cons x r ih => rw [List.flatMap_cons, List.length_append, hk, ih, List.length_cons, Nat.add_mul]; omega
theorem flatK_get {α : Type} [Inhabited α] {k : Nat} (enc : α → List Value) (hk : ∀ x, (enc x).length = k) (h0 : 0 < k) (d : Array α) (t : Nat) (h : t < d.size * k) : (d.toList.flatMap enc)[t]? = some (flatK enc k d)[t]! := by
 rw [getElem_flatMap enc hk h0, get_flatK enc k d t h]
 have h1 : t / k < d.size := (Nat.div_lt_iff_lt_mul h0).2 h
 have h2 : t % k < k := Nat.mod_lt _ h0
 simp only [Array.getElem?_toList]
 rw [Array.getElem?_eq_getElem h1, Option.bind_some, List.getElem?_eq_getElem (by rw [hk]; exact h2), getElem!_pos d _ h1, getElem!_pos _ _ (by rw [hk]; exact h2)]
theorem grown_of {W W' : World} (hx : Ext [] W.heap W'.heap) (hc : Calm W W') : ∃ q os', W' = grow (W.drewN q) os' := by
 refine ⟨W'.drawn - W.drawn, W'.heap.extract W.heap.size W'.heap.size, ?_⟩
 obtain ⟨h1, h2⟩ := hx
 have hh : W'.heap = W.heap ++ W'.heap.extract W.heap.size W'.heap.size := by
  apply Array.ext_getElem?
  intro i
  by_cases hi : i < W.heap.size
  ·rw [Array.getElem?_append_left hi]; exact h2 i hi (by simp)
  ·rw [Array.getElem?_append_right (by omega), Array.getElem?_extract]
   by_cases hi' : i < W'.heap.size
   ·rw [if_pos (by omega)]; congr 1; omega
   ·rw [if_neg (by omega), Array.getElem?_eq_none (by omega)]
 obtain ⟨c1, c2, c3, c4⟩ := hc
 cases W' with
 | mk h t d o u =>
  simp only at hh c1 c2 c3 c4
  subst c1 c2 c3
  unfold grow World.drewN
  simp only [World.mk.injEq, and_self, and_true]
  exact ⟨hh, trivial, (Nat.add_sub_cancel' c4).symm⟩
variable {P : Program} {ρ : Ren} {α : Type} [Inhabited α]
end Go.Fw
namespace Go.Fw
open Go
def Beside (B : Nat) (W W' : World) : Prop := ∃ r, B ≤ r ∧ (∀ o, W.heap[r]? = some o → NoCells o) ∧ Ext [r] W.heap W'.heap
theorem Beside.new {B : Nat} {W W' : World} (hB : B ≤ W.heap.size) (hx : Ext [] W.heap W'.heap) : Beside B W W' :=
 ⟨W.heap.size, hB, fun o h => by have := (Array.getElem?_eq_some_iff.1 h).1; omega, hx.mono (by simp)⟩
theorem Beside.size {B : Nat} {W W' : World} (h : Beside B W W') : W.heap.size ≤ W'.heap.size := by
 obtain ⟨r, _, _, h⟩ := h; exact h.1
theorem Beside.cells {B : Nat} {W W' : World} (h : Beside B W W') {b : Nat} {c : Array Value} {T : TypeId} {fr : Nat × Nat} (hb : W.heap[b]? = some (.cells c T fr)) : W'.heap[b]? = some (.cells c T fr) := by
 obtain ⟨r, _, hn, hx⟩ := h
 refine hx.get hb fun hm => ?_
 simp only [List.mem_singleton] at hm
 subst hm
 exact hn _ hb c T fr rfl
theorem Beside.old {B : Nat} {W W' : World} (h : Beside B W W') {b : Nat} (hb : b < B) (hlt : b < W.heap.size) : W'.heap[b]? = W.heap[b]? := by
 obtain ⟨r, hB, _, hx⟩ := h
 exact hx.2 b hlt (by simp; omega)
theorem Beside.ext {B : Nat} {W W' : World} (h : Beside B W W') {M : List Nat} {H : Heap} (hH : H.size ≤ B) (hx : Ext M H W.heap) : Ext M H W'.heap :=
 ⟨Nat.le_trans hx.1 h.size, fun b hb hn => (h.old (Nat.lt_of_lt_of_le hb hH) (Nat.lt_of_lt_of_le hb hx.1)).trans (hx.2 b hb hn)⟩
theorem Beside.mine {B B' : Nat} {W W' : World} (h : Beside B' W W') {T : TypeId} {sz : Nat} {x : Option Addr × Nat × Nat} {vs : List Value} (hM : Mine W.heap B T sz x vs) : Mine W'.heap B T sz x vs := by
 rcases hM with h0 | ⟨b, c, h1, h2, h3, h4⟩
 ·exact .inl h0
 ·exact .inr ⟨b, c, h1, h2, h.cells h3, h4⟩
theorem Beside.own {B : Nat} {W W' : World} (h : Beside B W W') {a : Option Addr} {vs : List Value} (hM : Cells W.heap a vs) : Cells W'.heap a vs := by
 rcases hM with h0 | ⟨b, o, c, T, fr, h1, h2, h3⟩
 ·exact .inl h0
 ·exact .inr ⟨b, o, c, T, fr, h1, h.cells h2, h3⟩
theorem Beside.mono {B B' : Nat} {W W' : World} (h : Beside B W W') (hB : B' ≤ B) : Beside B' W W' := by
 obtain ⟨r, h2, h3⟩ := h; exact ⟨r, Nat.le_trans hB h2, h3⟩
theorem heap_putObj {W : World} {l : Nat} {o : Obj} : (W.putObj l o).heap = W.heap.setIfInBounds l o := by
 apply Array.ext_getElem?
 intro i
 by_cases h : l = i
 ·subst h
  by_cases hl : l < W.heap.size
  ·rw [World.putObj_heap_same hl, Array.getElem?_setIfInBounds_self_of_lt hl]
  ·rw [Array.getElem?_eq_none (by simp; omega), Array.getElem?_eq_none (by simpa [World.putObj] using hl)]
 ·rw [World.putObj_heap_other (by omega), Array.getElem?_setIfInBounds_ne h]
theorem Beside.put {B : Nat} {W : World} {l : Nat} {o o' : Obj} (hB : B ≤ l) (hl : W.heap[l]? = some o) (ho : NoCells o) : Beside B W (W.putObj l o') := by
 refine ⟨l, hB, fun x hx => ?_, ?_⟩
 ·rw [hl] at hx; cases hx; exact ho
 ·rw [heap_putObj]
  exact ⟨by simp, fun b _ hn => Array.getElem?_setIfInBounds_ne (by rintro rfl; exact hn (by simp))⟩
def Keep (M : List Nat) (B : Nat) (H H' : Heap) : Prop := H.size ≤ H'.size ∧ (∀ b, b < B → b < H.size → b ∉ M → H'[b]? = H[b]?) ∧ ∀ b o, B ≤ b → H[b]? = some o → NoCells o → H'[b]? = some o
theorem Keep.refl (M : List Nat) (B : Nat) (H : Heap) : Keep M B H H := ⟨Nat.le_refl _, fun _ _ _ _ => rfl, fun _ _ _ h _ => h⟩
theorem Keep.trans {M : List Nat} {B : Nat} {H H' H'' : Heap} (h : Keep M B H H') (h' : Keep M B H' H'') : Keep M B H H'' :=
 ⟨Nat.le_trans h.1 h'.1, fun b hb hl hn => (h'.2.1 b hb (Nat.lt_of_lt_of_le hl h.1) hn).trans (h.2.1 b hb hl hn), fun b o hb ho hn => h'.2.2 b o hb (h.2.2 b o hb ho hn) hn⟩
theorem Keep.of {M M' : List Nat} {B : Nat} {H H' : Heap} (h : Ext M' H H') (hM : ∀ b ∈ M', b ∈ M ∨ (B ≤ b ∧ ∃ c T fr, H[b]? = some (.cells c T fr))) (hlt : ∀ b ∈ M, b < B) : Keep M B H H' := by
 refine ⟨h.1, fun b hb hl hn => h.2 b hl fun hm => ?_, fun b o hb ho hn => ?_⟩
 ·rcases hM b hm with h1 | ⟨h1, _⟩
  ·exact hn h1
  ·omega
 ·refine h.get ho fun hm => ?_
  rcases hM b hm with h1 | ⟨_, c, T, fr, h1⟩
  ·have := hlt b h1; omega
  ·rw [ho] at h1; cases h1; exact hn c T fr rfl
theorem Keep.new {M : List Nat} {B : Nat} {H H' : Heap} (h : Ext [] H H') : Keep M B H H' := ⟨h.1, fun b _ hl _ => h.2 b hl (by simp), fun b o _ ho _ => h.get ho (by simp)⟩
theorem Keep.get {M : List Nat} {B : Nat} {H H' : Heap} (h : Keep M B H H') {b : Nat} {o : Obj} (hb : H[b]? = some o) (hB : b < B) (hM : b ∉ M) : H'[b]? = some o := (h.2.1 b hB (lt_of_get hb) hM).trans hb
theorem Keep.ext {M M0 : List Nat} {B : Nat} {H0 H H' : Heap} (h : Keep M B H H') (h0 : Ext M0 H0 H) (hB : H0.size ≤ B) (hM : ∀ b, b < H0.size → b ∈ M → b ∈ M0) : Ext M0 H0 H' :=
 ⟨Nat.le_trans h0.1 h.1, fun b hb hn => (h.2.1 b (Nat.lt_of_lt_of_le hb hB) (Nat.lt_of_lt_of_le hb h0.1) fun hm => hn (hM b hb hm)).trans (h0.2 b hb hn)⟩
def SeqC (P : Program) {α : Type} (gv : Value) (S : List α → Prop) (nx : List α → α → Prop) (enc : α → Array Value) (fp : List Nat) (w : World) : Prop :=
 ∃ gf lb, gv = .func (.func gf) #[] lb ∧ ∀ (l : Nat) (I : List α → World → Prop) (J : World → Prop) (w1 : World) (M : List Nat),
  Ext [] w.heap w1.heap → (∀ b ∈ M, b < w1.heap.size ∧ b ∉ fp) → (∀ pre W W', I pre W → Beside w1.heap.size W W' → I pre W') → I [] w1 →
  (∀ pre x W, nx pre x → I pre W → YieldF P l (enc x) W fun e W' => Keep M w1.heap.size W.heap W'.heap ∧ ((e = .returned (.bool true) ∧ I (pre ++ [x]) W') ∨ (e = .returned (.bool false) ∧ J W'))) →
  CallF P gf (#[.func (.yield l) #[] #[]] ++ lb) w1 fun e W => (∃ v, e = .returned v) ∧ ((∃ xs, S xs ∧ I xs W) ∨ J W)
theorem SeqC.later {P : Program} {α : Type} {gv : Value} {S : List α → Prop} {nx : List α → α → Prop} {enc : α → Array Value} {fp : List Nat} {w w' : World} (h : SeqC P gv S nx enc fp w) (hx : Ext [] w.heap w'.heap) : SeqC P gv S nx enc fp w' := by
 obtain ⟨gf, lb, hg, h⟩ := h
 exact ⟨gf, lb, hg, fun l I J w1 M h1 => h l I J w1 M (hx.trans h1)⟩
theorem YieldF.mono {P : Program} {l : Nat} {args : Array Value} {w : World} {R R' : Ending → World → Prop} (h : YieldF P l args w R) (hr : ∀ e w', R e w' → R' e w') : YieldF P l args w R' := by
 obtain ⟨fn, tm, as1, bd, h1, h2⟩ := h
 exact ⟨fn, tm, as1, bd, h1, h2.mono fun e w' ⟨h, hc⟩ => ⟨hr e w' h, hc⟩⟩
theorem callV_yield {P : Program} {l : Nat} {args : Array Value} {shs : List Sh} {tup : Bool} {w : World} {K : Tup shs → World → Prop} (h : YieldF P l args w fun e w' => ∃ t, e = .returned (retEV shs tup t).2 ∧ K t w') :
  callV P (.func (.yield l) #[] #[]) args shs tup w K := .yield l rfl h
theorem callV_func {P : Program} {f : Nat} {args cap : Array Value} {shs : List Sh} {tup : Bool} {w : World} {K : Tup shs → World → Prop} (h : CallF P f (args ++ cap) w fun e w' => ∃ t, e = .returned (retEV shs tup t).2 ∧ K t w') :
  callV P (.func (.func f) #[] cap) args shs tup w K := .func f #[] cap rfl (by simpa using h)
theorem range_of {P : Program} {α : Type} {gv : Value} {S : List α → Prop} {nx : List α → α → Prop} {shs : List Sh} {tv : α → Tup shs} {fp : List Nat} {w : World}
  {body : Tup shs → World → (World → (World → Prop) → Prop) → (World → Prop) → (World → Prop) → (Nat → World → Prop) → Prop} {done ret : Nat → World → Prop} {ext : Nat → Nat → World → Prop}
  (hseq : SeqC P gv S nx (fun x => (Tup.vals shs (tv x)).toArray) fp w) (M : List Nat) (hM : ∀ b ∈ M, b < w.heap.size ∧ b ∉ fp) (hfp : ∀ b ∈ fp, b < w.heap.size)
  (I : List α → World → Prop) (Jr : World → Prop) (Jx : Nat → World → Prop)
  (hI : ∀ pre W W', I pre W → Beside w.heap.size W W' → I pre W') (hJr : ∀ W W', Jr W → Beside w.heap.size W W' → Jr W') (hJx : ∀ i W W', Jx i W → Beside w.heap.size W W' → Jx i W')
  (h0 : I [] w)
  (hbody : ∀ pre x W, nx pre x → I pre W → w.heap.size + 2 ≤ W.heap.size → ∀ (beg : World → (World → Prop) → Prop) (kc kr : World → Prop) (kx : Nat → World → Prop),
   (∀ W1 (K : World → Prop), Ext [] W.heap W1.heap → (∀ W2, Beside w.heap.size W1 W2 → W2.heap.size = W1.heap.size →
    (∀ W3, Keep M w.heap.size W2.heap W3.heap → I (pre ++ [x]) W3 → kc W3) → (∀ W3, Keep M w.heap.size W2.heap W3.heap → Jr W3 → kr W3) → (∀ i W3, Keep M w.heap.size W2.heap W3.heap → Jx i W3 → kx i W3) → K W2) → beg W1 K) →
   body (tv x) W beg kc kr kx)
  (hdone : ∀ xs W, S xs → I xs W → W.heap[w.heap.size]? = some (.deferred (some [])) → done w.heap.size W)
  (hret : ∀ W, Jr W → W.heap[w.heap.size]? = some (.deferred (some [])) → ret w.heap.size W)
  (hext : ∀ i W, Jx i W → W.heap[w.heap.size]? = some (.deferred (some [])) → ext i w.heap.size W) :
  rangeP P shs gv w body done ret ext := by
 obtain ⟨gf, lb, hg, hseq⟩ := hseq
 refine ⟨gf, lb, hg, fun oD oL oB oX oE hD hno w1 hw1 hY => ?_⟩
 obtain ⟨hnL, hnB, hnX, hnE⟩ := hno
 have hx1 : Ext [] w.heap w1.heap := by rw [hw1]; exact (Ext.push _).trans (Ext.push _)
 have hs1 : w1.heap.size = w.heap.size + 2 := by rw [hw1]; simp
 have hD1 : w1.heap[w.heap.size]? = some oD := by rw [hw1]; exact push_old push_new
 have hL1 : w1.heap[w.heap.size + 1]? = some oL := by
  rw [hw1]
  have := push_new (H := w.heap.push oD) (o := oL)
  simpa using this
 have hDc : NoCells oD := by rw [hD]; intro c T fr h; cases h
 have key : ∀ {W W' : World} {r : Nat} {o : Obj}, (∀ o, W.heap[r]? = some o → NoCells o) → w1.heap.size ≤ r → Ext [r] W.heap W'.heap → ∀ b, b < w.heap.size + 2 → W.heap[b]? = some o → W'.heap[b]? = some o :=
  fun _ hr hx b hb hbo => hx.get hbo (by simp; omega)
 refine (hseq (w.heap.size + 1)
  (fun pre W => I pre W ∧ W.heap[w.heap.size]? = some oD ∧ W.heap[w.heap.size + 1]? = some oL)
  (fun W => W.heap[w.heap.size]? = some oD ∧ ((Jr W ∧ W.heap[w.heap.size + 1]? = some (oX .ret)) ∨ ∃ i, Jx i W ∧ W.heap[w.heap.size + 1]? = some (oX (.exit i))))
  w1 ((w.heap.size + 1) :: M) hx1 ?_ ?_ ⟨hI _ _ _ h0 (.new (Nat.le_refl _) hx1), hD1, hL1⟩ ?_).mono ?_
 ·intro b hb
  rcases List.mem_cons.1 hb with rfl | hb
  ·exact ⟨by omega, fun h => by have := hfp _ h; omega⟩
  ·exact ⟨by have := (hM b hb).1; omega, (hM b hb).2⟩
 ·rintro pre W W' ⟨h1, h2, h3⟩ hA
  have hA' := hA
  obtain ⟨r, hr, hn, hx⟩ := hA'
  exact ⟨hI _ _ _ h1 (hA.mono (by omega)), key hn hr hx _ (by omega) h2, key hn hr hx _ (by omega) h3⟩
 ·rintro pre x W hnx ⟨h1, h2, h3⟩
  have hlt : w.heap.size + 1 < W.heap.size := (Array.getElem?_eq_some_iff.1 h3).1
  refine hY (tv x) W _ h3 (hbody pre x W hnx h1 (by omega) _ _ _ _ ?_)
  intro W1 K hxW1 hK
  have h31 : W1.heap[w.heap.size + 1]? = some oL := hxW1.get h3 (by simp)
  have h21 : W1.heap[w.heap.size]? = some oD := hxW1.get h2 (by simp)
  refine ⟨h31, fun W2 hW2 => ?_⟩
  have hlt1 : w.heap.size + 1 < W1.heap.size := (Array.getElem?_eq_some_iff.1 h31).1
  have hh2 : W2.heap = W1.heap.setIfInBounds (w.heap.size + 1) oB := by rw [hW2, heap_putObj]
  have h32 : W2.heap[w.heap.size + 1]? = some oB := by rw [hh2]; exact Array.getElem?_setIfInBounds_self_of_lt hlt1
  have h22 : W2.heap[w.heap.size]? = some oD := by rw [hh2, Array.getElem?_setIfInBounds_ne (by omega)]; exact h21
  have fin : ∀ (o' : Obj) (W3 : World), Keep M w.heap.size W2.heap W3.heap → W3.heap[w.heap.size + 1]? = some oB ∧ Keep ((w.heap.size + 1) :: M) w1.heap.size W.heap (W3.putObj (w.heap.size + 1) o').heap ∧ (W3.putObj (w.heap.size + 1) o').heap[w.heap.size]? = some oD ∧
    (W3.putObj (w.heap.size + 1) o').heap[w.heap.size + 1]? = some o' ∧ Beside w.heap.size W3 (W3.putObj (w.heap.size + 1) o') := by
   intro o' W3 hx3
   have h33 : W3.heap[w.heap.size + 1]? = some oB := hx3.2.2 _ _ (by omega) h32 hnB
   have h23 : W3.heap[w.heap.size]? = some oD := hx3.2.2 _ _ (Nat.le_refl _) h22 hDc
   have hlt3 : w.heap.size + 1 < W3.heap.size := (Array.getElem?_eq_some_iff.1 h33).1
   have hn2 : ∀ b, b ≠ w.heap.size + 1 → W2.heap[b]? = W1.heap[b]? := fun b hb => by rw [hh2]; exact Array.getElem?_setIfInBounds_ne (Ne.symm hb)
   have hn4 : ∀ b, b ≠ w.heap.size + 1 → (W3.putObj (w.heap.size + 1) o').heap[b]? = W3.heap[b]? := fun b hb => by rw [heap_putObj]; exact Array.getElem?_setIfInBounds_ne (Ne.symm hb)
   have hs2 : W2.heap.size = W1.heap.size := by rw [hh2]; simp
   refine ⟨h33, ⟨?_, ?_, ?_⟩, ?_, ?_, .put (by omega) h33 hnB⟩
   ·rw [heap_putObj]
    have := hxW1.1; have := hx3.1
    simp; omega
   ·intro b hb hl hn
    simp only [List.mem_cons, not_or] at hn
    rw [hn4 b hn.1]
    by_cases hbD : b = w.heap.size
    ·rw [hbD, h23, h2]
    ·rw [hx3.2.1 b (by omega) (by have := hxW1.1; omega) hn.2, hn2 b hn.1]
     exact hxW1.2 b hl (by simp)
   ·intro b o hb ho hno
    rw [hn4 b (by omega)]
    exact hx3.2.2 b o (by omega) (by rw [hn2 b (by omega)]; exact hxW1.get ho (by simp)) hno
   ·rw [hn4 _ (by omega)]; exact h23
   ·rw [heap_putObj]; exact Array.getElem?_setIfInBounds_self_of_lt hlt3
  refine hK W2 (by rw [hW2]; exact .put (by omega) h31 hnL) (by rw [hh2]; simp) (fun W3 hx3 h => ?_) (fun W3 hx3 h => ?_) (fun i W3 hx3 h => ?_)
  ·obtain ⟨a, b, c, d, e⟩ := fin oL W3 hx3
   exact ⟨a, b, .inl ⟨rfl, hI _ _ _ h e, c, d⟩⟩
  ·obtain ⟨a, b, c, d, e⟩ := fin (oX .ret) W3 hx3
   exact ⟨a, b, .inr ⟨rfl, c, .inl ⟨hJr _ _ h e, d⟩⟩⟩
  ·obtain ⟨a, b, c, d, e⟩ := fin (oX (.exit i)) W3 hx3
   exact ⟨a, b, .inr ⟨rfl, c, .inr ⟨i, hJx _ _ _ h e, d⟩⟩⟩
 ·have put : ∀ {W : World} {o o' : Obj}, W.heap[w.heap.size]? = some oD → (W.putObj (w.heap.size + 1) o').heap[w.heap.size]? = some (.deferred (some [])) := by
   intro W o o' h
   rw [heap_putObj, Array.getElem?_setIfInBounds_ne (by omega), h, hD]
  rintro e W ⟨hv, ⟨xs, hS, h1, h2, h3⟩ | ⟨h2, ⟨h1, h3⟩ | ⟨i, h1, h3⟩⟩⟩
  ·exact ⟨hv, .inl ⟨h3, hdone xs _ hS (hI _ _ _ h1 (.put (by omega) h3 hnL)) (put (o := oD) h2)⟩⟩
  ·exact ⟨hv, .inr (.inl ⟨h3, hret _ (hJr _ _ h1 (.put (by omega) h3 (hnX _))) (put (o := oD) h2)⟩)⟩
  ·exact ⟨hv, .inr (.inr ⟨i, h3, hext i _ (hJx _ _ _ h1 (.put (by omega) h3 (hnX _))) (put (o := oD) h2)⟩)⟩
end Go.Fw
namespace Go.Fw
open Go
theorem var_g {P : Program} {w : World} {H : Heap} {y : TypeId} {v : Value} (hs : P.cellsOf y = v.cells.size) (hz : (zc P y).size = v.cells.size) (h0 : v.cells.size ≠ 0) (h1 : oneCells v.cells.toList) (hw : w.heap = H) {K : Nat → World → Prop}
  (hK : ∀ w', w'.heap = H.push (.cells v.cells y (0, 0)) → K H.size w') : newB (zc P y) y w fun b w1 => genU P (storeVar y (⟨b, 0, none⟩ : Addr) v) w1 fun w2 => K b w2 := by
 refine newB_h hw fun w1 hw1 => ?_
 refine storeVar_h hs h0 h1 hw1 push_new (by omega) fun w2 hw2 => hK w2 ?_
 rw [hw2, setCells_all (by simpa using hz.symm)]
 apply Array.ext_getElem?
 intro i
 by_cases h : H.size = i
 ·subst h
  simp
 ·rw [Array.getElem?_setIfInBounds_ne h]
  by_cases hi : i < H.size
  ·rw [push_old (Array.getElem?_eq_getElem hi), push_old (Array.getElem?_eq_getElem hi)]
  ·rw [Array.getElem?_eq_none (by simp; omega), Array.getElem?_eq_none (by simp; omega)]
def Elem (P : Program) (e : TypeId) (sz bts : Nat) : Prop := ∃ info z, P.info? e = some info ∧ info.size = sz ∧ info.zero = some z ∧ z.cells.size = sz ∧ info.bytes = bts
theorem elem_of {P : Program} {e : TypeId} {sz bts : Nat} {z : Value} (h : (P.info? e).map (fun i => (i.size, i.bytes, i.zero)) = some (sz, bts, some z)) (hz : z.cells.size = sz) : Elem P e sz bts := by
 obtain ⟨i, hi, h⟩ := Option.map_eq_some_iff.1 h
 simp only [Prod.mk.injEq] at h
 exact ⟨i, z, hi, h.1, h.2.2, hz, h.2.1⟩
theorem append_g {P : Program} {w : World} {H : Heap} {st xt e ty : TypeId} {sz bts B : Nat} {x : Option Addr × Nat × Nat} {y : Value} {n : Nat} {vs us : List Value} (E : Elem P e sz bts) (hb : bts ≠ 0) (hu : P.underlying st = some (.slice e)) (hx : ∃ d, P.underlying xt = some d ∧ ∀ k, d ≠ .int k)
  (hw : w.heap = H) (hown : Mine H B e sz x vs) (hB : B ≤ H.size) (hsrc : Src P w y sz n us) (h1 : oneCells us) (hroom : (2 * (x.2.1 + n) + 192) * bts ≤ 281474976710656) {K : (Option Addr × Nat × Nat) → World → Prop}
  (hK : ∀ x' w', Mine w'.heap B e sz x' (vs ++ us) → x'.2.1 = x.2.1 + n → Ext (ownM x) H w'.heap → (∀ b, b ∈ ownM x' → b ∈ ownM x ∨ H.size ≤ b) → K x' w') :
  genL P (Builtin.append_ #[st, xt] ty #[.slice x.1 x.2.1 x.2.2, y]) .slc w K := by
 obtain ⟨i, z, hi, hs, hz, hzs, hbb⟩ := E
 obtain ⟨x', w', h2, hc, h3, h4, h5, h6⟩ := append_h (ty := ty) hu hx hi hs hz hzs (by omega) hw hown hB hsrc h1 (by rw [hbb]; exact hroom)
 exact genL_of x' w' h2 (hK x' w' h3 h4 h5 h6) hc
theorem slice_noint {P : Program} {st e : TypeId} (hu : P.underlying st = some (.slice e)) : ∃ d, P.underlying st = some d ∧ ∀ k, d ≠ .int k := ⟨_, hu, by intro k h; cases h⟩
theorem elem_ld {P : Program} {w : World} {H : Heap} {a : Option Addr} {len sz : Nat} {α : Type} {enc : α → List Value} (hk : ∀ x, (enc x).length = sz) (h0 : 0 < sz) {xs : List α} {v : α} {i : Nat} {n : Int} (hw : w.heap = H) (hL : Cells H a (xs.flatMap enc))
  (hlen : len = xs.length) (hi : xs[i]? = some v) (hn : n = (i : Int)) {K : Array Value → Prop} (hK : K (enc v).toArray) : ixS a len sz n fun p => ldA P sz p w K := by
 have hlt := (List.getElem?_eq_some_iff.1 hi).1
 rcases hL with h | ⟨b, o, c, T, fr, rfl, hb, hsz, hc⟩
 ·have := congrArg List.length h
  rw [length_flatMap_k enc hk] at this
  have := Nat.mul_pos (show 0 < xs.length by omega) h0
  simp_all
 ·refine ixS_h i hn (by omega) ?_
  have hm : i * sz + sz ≤ xs.length * sz := by
   have := Nat.mul_le_mul_right sz (show i + 1 ≤ xs.length by omega)
   rw [Nat.add_mul] at this; omega
  rw [length_flatMap_k enc hk] at hsz
  refine ldA_h hw hb (by omega) ?_
  have : c.extract (o + i * sz) (o + i * sz + sz) = (enc v).toArray := by
   apply Array.ext_getElem?
   intro j
   rw [Array.getElem?_extract]
   by_cases hj : j < sz
   ·rw [if_pos (by omega)]
    have h2 : (xs.flatMap enc)[i * sz + j]? = (enc v)[j]? := by
     rw [getElem_flatMap enc hk h0]
     have h3 : (i * sz + j) / sz = i := by
      rw [Nat.mul_comm, Nat.mul_add_div h0, Nat.div_eq_of_lt hj]; rfl
     have h4 : (i * sz + j) % sz = j := by
      rw [Nat.mul_comm, Nat.mul_add_mod, Nat.mod_eq_of_lt hj]
     rw [h3, h4, hi]; rfl
    rw [← hc, Array.getElem?_toList, Array.getElem?_extract, length_flatMap_k enc hk, if_pos (by omega)] at h2
    rw [show o + i * sz + j = o + (i * sz + j) by omega, h2]
    simp
   ·rw [if_neg (by omega)]
    rw [Array.getElem?_eq_none (by simp [hk]; omega)]
  rw [this]; exact hK
theorem fold_setCells (off : Nat) : ∀ (vs : List Value) (k : Nat) (cs : Array Value), (vs.zipIdx k).foldl (fun cs x => cs.setIfInBounds (off + x.2) x.1) cs = setCells cs (off + k) vs
 | [], _, _ => rfl
 | v :: r, k, cs => by
  simp only [List.zipIdx_cons, List.foldl_cons, setCells]
  rw [fold_setCells off r (k + 1)]
  rfl
theorem fill_one {v : Value} {size : Nat} {cs : Array Value} (hs : v.cells.size = size) (hc : cs.size = size) : Instr.fill (fun i => some (i * size, size)) cs [(0, v)] = some v.cells := by
 simp only [Instr.fill, Nat.zero_mul, Nat.zero_add, hs, hc, ne_eq, not_true_eq_false, decide_false, Bool.false_or, Nat.lt_irrefl, decide_eq_true_eq, if_false, Bool.or_self, Bool.false_eq_true, gt_iff_lt]
 congr 1
 have h := fold_setCells 0 v.cells.toList 0 cs
 simp only [Nat.zero_add] at h
 rw [← Array.foldl_toList, Array.toList_zipIdx, h, setCells_all (by simpa [hc] using hs)]
theorem build1_g {P : Program} {w : World} {st e : TypeId} {sz bts : Nat} {v : Value} (E : Elem P e sz bts) (hu : P.underlying st = some (.slice e)) (hv : v.cells.size = sz) (h0 : 0 < sz) (h1 : sz ≤ 16777216) :
  (Instr.buildSlice st 1 #[(0, v)]).run P w = .ok (.slice (some ⟨w.heap.size, 0, none⟩) 1 1) { w with heap := w.heap.push (.cells v.cells e) } := by
 obtain ⟨i, z, hi, hs, hz, hzs, _⟩ := E
 have hn1 : ¬ (1 * i.size > 2 ^ 24) := by
  have : (2 : Nat) ^ 24 = 16777216 := by decide
  rw [this]; omega
 have hn2 : ¬ (1 * i.size = 0) := by omega
 have hf : Instr.fill (fun k => some (k * i.size, i.size)) ((Array.range (1 * i.size)).map (z.cells[· % z.cells.size]!)) [(0, v)] = some v.cells := fill_one (by omega) (by simp)
 exact run_buildSlice w st e 1 #[(0, v)] v.cells i z hu hi hz hn1 hn2 hf
end Go.Fw
namespace Go.Fw
open Go Go.Proofs Go.Sort
theorem cmpB_lt : ∀ {a b : List UInt8}, Lib.compareBytes a b < 0 ↔ a < b
 | [], [] => by simp [Lib.compareBytes]
 | [], b :: y => by simp [Lib.compareBytes]
 | a :: x, [] => by simp [Lib.compareBytes]
 | a :: x, b :: y => by
  have ih := cmpB_lt (a := x) (b := y)
  rw [List.cons_lt_cons_iff]
  simp only [Lib.compareBytes]
  by_cases h1 : a < b
  ·simp [h1]
  ·rw [if_neg h1]
   by_cases h2 : b < a
   ·rw [if_pos h2]
    have : a ≠ b := by rintro rfl; exact h1 h2
    simp [h1, this]
   ·rw [if_neg h2]
    have : a = b := UInt8.le_antisymm (UInt8.not_lt.1 h2) (UInt8.not_lt.1 h1)
    subst this
    simp [h1, ih]
theorem cmpB_eq : ∀ {a b : List UInt8}, Lib.compareBytes a b = 0 ↔ a = b
 | [], [] => by simp [Lib.compareBytes]
 | [], b :: y => by simp [Lib.compareBytes]
 | a :: x, [] => by simp [Lib.compareBytes]
 | a :: x, b :: y => by
  have ih := cmpB_eq (a := x) (b := y)
  simp only [Lib.compareBytes, List.cons.injEq]
  by_cases h1 : a < b
  ·have : a ≠ b := by rintro rfl; exact UInt8.lt_irrefl _ h1
   simp [h1, this]
  ·rw [if_neg h1]
   by_cases h2 : b < a
   ·have : a ≠ b := by rintro rfl; exact h1 h2
    simp [h2, this]
   ·rw [if_neg h2]
    have : a = b := UInt8.le_antisymm (UInt8.not_lt.1 h2) (UInt8.not_lt.1 h1)
    simp [this, ih]
theorem cmpB_neg : ∀ {a b : List UInt8}, Lib.compareBytes a b = - Lib.compareBytes b a
 | [], [] => by simp [Lib.compareBytes]
 | [], b :: y => by simp [Lib.compareBytes]
 | a :: x, [] => by simp [Lib.compareBytes]
 | a :: x, b :: y => by
  have ih := cmpB_neg (a := x) (b := y)
  simp only [Lib.compareBytes]
  by_cases h1 : a < b
  ·have : ¬ b < a := fun h => UInt8.lt_irrefl _ (UInt8.lt_trans h1 h)
   simp [h1, this]
  ·by_cases h2 : b < a
   ·simp [h1, h2]
   ·simp [h1, h2]; exact ih
theorem cmpB_range : ∀ {a b : List UInt8}, Lib.compareBytes a b = -1 ∨ Lib.compareBytes a b = 0 ∨ Lib.compareBytes a b = 1
 | [], [] => by simp [Lib.compareBytes]
 | [], b :: y => by simp [Lib.compareBytes]
 | a :: x, [] => by simp [Lib.compareBytes]
 | a :: x, b :: y => by
  simp only [Lib.compareBytes]
  split
  ·simp
  ·split
   ·simp
   ·exact cmpB_range
end Go.Fw
namespace Go.Fw
open Go
@[simp] theorem strOf_toList {L : List UInt8} : (strOf L).toList = L := by rw [ByteArray.toList_eq]; rfl
@[simp] theorem strOf_size {L : List UInt8} : (strOf L).size = L.length := rfl
theorem strOf_data {s : ByteArray} : strOf s.data.toList = s := rfl
theorem strOf_extract {L : List UInt8} {l h : Nat} : (strOf L).extract l h = strOf ((L.take h).drop l) := by
 apply ByteArray.ext
 simp only [ByteArray.data_extract, strOf]
 apply Array.ext'
 simp [List.extract_eq_take_drop, List.drop_take]
theorem strOf_append {A B : List UInt8} : strOf A ++ strOf B = strOf (A ++ B) := by
 apply ByteArray.ext
 simp [strOf, ByteArray.data_append]
theorem ixStr_h {L : List UInt8} {i : Int} {K : Int → Prop} (k : Nat) (hi : i = (k : Int)) (hk : k < L.length) (hK : K ((L[k]).toNat : Int)) : ixStr (strOf L) i K := by
 subst hi
 refine ⟨by omega, L[k], ?_, hK⟩
 show (strOf L)[((k : Int)).toNat]? = some L[k]
 rw [Int.toNat_natCast]
 have h : k < (strOf L).size := hk
 rw [getElem?_pos (strOf L) k h]
 rfl
theorem catS_h {A B : List UInt8} {K : ByteArray → Prop} (h : A.length + B.length ≤ 9223372036854775807) (hK : K (strOf (A ++ B))) : catS (strOf A) (strOf B) K := ⟨by simp only [strOf_size]; exact h, by rw [strOf_append]; exact hK⟩
theorem mk_toList (A : Array UInt8) : (ByteArray.mk A).toList = A.toList := ByteArray.toList_eq _
theorem beqStr {L : List UInt8} {A : Array UInt8} : ((strOf L).toList == (ByteArray.mk A).toList) = true ↔ L = A.toList := by rw [strOf_toList, mk_toList, beq_iff_eq]
section
variable {P : Program} {w : World}
theorem slStr_h {t : TypeId} {L : List UInt8} {l h : Nat} {lo hi : Option Value} (hu : P.underlying t = some .string) (hlo : IxO lo 0 l) (hhi : IxO hi L.length h) (h1 : l ≤ h) (h2 : h ≤ L.length) :
  (Instr.sliceAt t (.string (strOf L)) lo hi none).run P w = .ok (.string (strOf ((L.take h).drop l))) w := by
 rw [run_slice_str (s := strOf L) hu hlo hhi h1 h2, strOf_extract]
end
theorem beq_strOf {a b : List UInt8} : (strOf a == strOf b) = decide (a = b) := by
 show ((strOf a).data == (strOf b).data) = _
 rw [Bool.eq_iff_iff, beq_iff_eq, decide_eq_true_iff]
 simp [strOf]
theorem findNow_g {κ : Type} [DecidableEq κ] {enc : κ → ByteArray} (heq : ∀ a b, (enc a == enc b) = decide (a = b)) {k : κ} : ∀ (l : List (κ × Value × Nat)) (i : Nat),
  Instr.findNow .string (.string (enc k)) (l.map fun x => ⟨.string (enc x.1), x.2.1, x.2.2⟩) i = some ((l.findIdx? (fun x => x.1 == k)).bind fun j => (l[j]?).map fun x => (i + j, x.2.1))
 | [], i => by simp [Instr.findNow]
 | x :: l, i => by
  have ih := findNow_g heq (k := k) l (i + 1)
  simp only [List.map_cons, Instr.findNow, Instr.sameNow, heq]
  by_cases e : x.1 = k
  ·subst e
   simp [List.findIdx?_cons]
  ·have e2 : ¬ k = x.1 := fun h => e h.symm
   simp only [e2, decide_false, ih]
   congr 1
   rw [List.findIdx?_cons]
   simp only [beq_eq_false_iff_ne.2 e]
   cases hf : List.findIdx? (fun x => x.1 == k) l with
   | none => simp
   | some j => simp [Nat.add_assoc, Nat.add_comm 1 j]
theorem KeyOk.str {P : Program} {t : TypeId} (hu : P.underlying t = some .string) : KeyOk P t (List UInt8) (fun _ => True) (fun L => .string (strOf L)) where
 find w k es l _ _ he := by
  subst he
  have h := findNow_g (enc := strOf) (fun a b => beq_strOf) (k := k) l 0
  simp only [Nat.zero_add] at h
  simp only [Instr.findKey, Sem.run_bind, run_underlying' hu, Result.andThen_ok, h, Sem.run_pure]
 chk w k e _ := by
  rw [show (10000 : Nat) = 9999 + 1 from rfl, Instr.checkKey]
  simp only [Sem.run_bind, run_underlying' hu, Result.andThen_ok, Sem.run_pure]
 same k _ := by simp [Instr.sameBits, beq_strOf]
def strRow (xs : List (List UInt8)) : List Value := xs.map fun L => .string (strOf L)
@[simp] theorem length_strRow {xs : List (List UInt8)} : (strRow xs).length = xs.length := by simp [strRow]
theorem strRow_take {xs : List (List UInt8)} {n : Nat} : (strRow xs).take n = strRow (xs.take n) := by simp [strRow]
theorem strRow_drop {xs : List (List UInt8)} {n : Nat} : (strRow xs).drop n = strRow (xs.drop n) := by simp [strRow]
theorem strRow_append {xs ys : List (List UInt8)} : strRow xs ++ strRow ys = strRow (xs ++ ys) := by simp [strRow]
theorem strIx {w : World} {H : Heap} {a : Option Addr} {len i : Nat} {n : Int} {xs : List (List UInt8)} (hw : w.heap = H) (hL : Cells H a (strRow xs)) (hlen : len = xs.length) (hi : i < xs.length) (hn : n = (i : Int)) {K : ByteArray → Prop} (hK : K (strOf xs[i])) :
  ixS a len 1 n fun p => ld .str p w K := by
 rcases hL with h | ⟨b, o, c, T, fr, rfl, hb, hsz, hc⟩
 ·have := congrArg List.length h
  rw [length_strRow] at this; simp at this; subst this; simp at hi
 ·refine ixS_1 i hn (by omega) ?_
  refine ld_h (s := .str) hw hb ?_ hK
  have h2 : (strRow xs)[i]? = some (.string (strOf xs[i])) := by simp [strRow, hi]
  rw [← hc, Array.getElem?_toList, Array.getElem?_extract, length_strRow] at h2
  split at h2
  ·exact h2
  ·cases h2
end Go.Fw
namespace Go.Proofs.YtbmegmbnlajbbaaGreatDoor
open Go Go.Fw Go.Proofs
def plainI (c : Int) : Bool := decide (c = 46 ∨ c = 95 ∨ c = 45 ∨ (48 ≤ c ∧ c ≤ 57) ∨ (97 ≤ c ∧ c ≤ 122) ∨ (65 ≤ c ∧ c ≤ 90))
def plainB (b : UInt8) : Bool := plainI (b.toNat : Int)
def nameOk (L : List UInt8) : Bool := decide (L ≠ [] ∧ L.length ≤ 16 ∧ L ≠ [46] ∧ L ≠ [46, 46]) && L.all plainB
abbrev Path := List (List UInt8)
def checkP (p : Path) : Int := if p.all nameOk then (if 8 < p.length then 42 else 0) else 41
def cmpP : Path → Path → Int
 | [], [] => 0
 | [], _ :: _ => -1
 | _ :: _, [] => 1
 | x :: a, y :: b => if Lib.compareBytes x y ≠ 0 then Lib.compareBytes x y else cmpP a b
theorem plain_true {c : Int} {w : World} (h : c = 46 ∨ c = 95 ∨ c = 45 ∨ (48 ≤ c ∧ c ≤ 57) ∨ (97 ≤ c ∧ c ≤ 122) ∨ (65 ≤ c ∧ c ≤ 90)) : (Ending.returned (Value.bool true) = .returned (.bool (plainI c))) ∧ w = w := ⟨by simp only [plainI, decide_eq_true h], rfl⟩
theorem plain_false {c : Int} {w : World} (h : ¬ (c = 46 ∨ c = 95 ∨ c = 45 ∨ (48 ≤ c ∧ c ≤ 57) ∨ (97 ≤ c ∧ c ≤ 122) ∨ (65 ≤ c ∧ c ≤ 90))) : (Ending.returned (Value.bool false) = .returned (.bool (plainI c))) ∧ w = w := ⟨by simp only [plainI, decide_eq_false h], rfl⟩
theorem plain_beq {c : Int} {w : World} {b : Bool} (h : b = plainI c) : (Ending.returned (Value.bool b) = .returned (.bool (plainI c))) ∧ w = w := ⟨by rw [h], rfl⟩
theorem plain_c {w : World} (c : Int) : CallF P F_vpath_plain #[.int .u8 c] w fun e w' => e = .returned (.bool (plainI c)) ∧ w' = w := by
 refine fn_vpath_plain ?_
 unfold T_vpath_plain
 repeat' first
  | refine joinP_in ?_
  | refine iteP_eq (fun h => ?_) (fun h => ?_)
  | refine iteP_dec (fun h => ?_) (fun h => ?_)
  | exact plain_true (by omega)
  | exact plain_false (by omega)
  | exact plain_beq (decide_eq_decide.2 (by omega))
theorem all_take {L : List UInt8} {i : Nat} (hi : i < L.length) (h : ∀ b ∈ L.take i, plainB b = true) (hb : plainB L[i] = true) : ∀ b ∈ L.take (i + 1), plainB b = true := by
 intro b hm
 rw [List.take_add_one, List.getElem?_eq_getElem hi] at hm
 rcases List.mem_append.1 hm with hm | hm
 ·exact h b hm
 ·simp only [Option.toList_some, List.mem_singleton] at hm; subst hm; exact hb
theorem all_plain_no {L : List UInt8} {i : Nat} (hi : i < L.length) (hb : plainB L[i] = false) : L.all plainB = false := by
 rw [List.all_eq_false]
 exact ⟨L[i], List.getElem_mem hi, by simp [hb]⟩
theorem name_c {w : World} (L : List UInt8) (hL : L.length ≤ 9223372036854775807) : CallF P F_vpath_name #[.string (strOf L)] w fun e w' => e = .returned (.bool (nameOk L)) ∧ w' = w := by
 refine fn_vpath_name ?_
 unfold T_vpath_name
 have no : ∀ {w : World}, ¬ (L ≠ [] ∧ L.length ≤ 16 ∧ L ≠ [46] ∧ L ≠ [46, 46]) → (Ending.returned (Value.bool false) = .returned (.bool (nameOk L))) ∧ w = w := fun h => ⟨by simp only [nameOk, decide_eq_false h, Bool.false_and], rfl⟩
 refine joinP_in ?_
 refine iteP_of (p := L = []) beqStr (fun h => no fun h2 => h2.1 h) (fun h1 => ?_)
 refine iteP_dec (fun h => no fun h2 => by have := h2.2.1; simp only [strOf_size] at h; omega) (fun h2 => ?_)
 refine iteP_of (p := L = [46]) beqStr (fun h => no fun h2 => h2.2.2.1 h) (fun h3 => ?_)
 refine iteP_of (p := L = [46, 46]) beqStr (fun h => no fun h2 => h2.2.2.2 h) (fun h4 => ?_)
 have hc : (L ≠ [] ∧ L.length ≤ 16 ∧ L ≠ [46] ∧ L ≠ [46, 46]) := ⟨h1, by simp only [strOf_size] at h2; omega, h3, h4⟩
 have hno : nameOk L = L.all plainB := by simp only [nameOk, decide_eq_true hc, Bool.true_and]
 rw [hno]
 refine loopP_of (fun (s : Int) W => ∃ i : Nat, s = (i : Int) ∧ i ≤ L.length ∧ W = w ∧ ∀ b ∈ L.take i, plainB b = true) (fun s _ => (L.length - s).toNat) ⟨0, rfl, Nat.zero_le _, rfl, by simp⟩ ?_
 rintro _ w ⟨i, rfl, hi, rfl, hp⟩
 refine iteP_dec (fun hlt => ?_) (fun hge => ?_)
 ·have hil : i < L.length := by simp only [strOf_size] at hlt; omega
  refine ixStr_h i rfl hil ?_
  refine callQ_of (plainB L[i]) (plain_c _) ?_
  cases hb : plainB L[i] with
  | false => exact iteP_t rfl ⟨by rw [all_plain_no hil hb], rfl⟩
  | true =>
   refine iteP_f rfl ?_
   refine addI_to ((i + 1 : Nat) : Int) (by omega) (by omega) (by omega) ?_
   exact ⟨⟨i + 1, rfl, by omega, rfl, all_take hil hp hb⟩, by omega⟩
 ·have : i = L.length := by simp only [strOf_size] at hge; omega
  subst this
  rw [List.take_length] at hp
  exact ⟨by rw [List.all_eq_true.2 hp], rfl⟩
end Go.Proofs.YtbmegmbnlajbbaaGreatDoor
namespace Go.Proofs.YtbmegmbnlajbbaaGreatDoor
open Go Go.Fw Go.Proofs
theorem uSstr : P.underlying y_S_string = some (.slice y_string) := by kernel_rfl
theorem szStr : (P.info? y_string).map (·.size) = some 1 := by kernel_rfl
def Fit (p : Path) : Prop := ∀ L ∈ p, L.length ≤ 9223372036854775807
theorem all_name_no {p : Path} {i : Nat} (hi : i < p.length) (hb : nameOk p[i] = false) : p.all nameOk = false := by
 rw [List.all_eq_false]
 exact ⟨p[i], List.getElem_mem hi, by simp [hb]⟩
theorem all_name_take {p : Path} {i : Nat} (hi : i < p.length) (h : ∀ b ∈ p.take i, nameOk b = true) (hb : nameOk p[i] = true) : ∀ b ∈ p.take (i + 1), nameOk b = true := by
 intro b hm
 rw [List.take_add_one, List.getElem?_eq_getElem hi] at hm
 rcases List.mem_append.1 hm with hm | hm
 ·exact h b hm
 ·simp only [Option.toList_some, List.mem_singleton] at hm; subst hm; exact hb
theorem check_c {w : World} {H : Heap} {a : Option Addr} {n nc : Nat} {p : Path} (hw : w.heap = H) (hL : Cells H a (strRow p)) (hn : n = p.length) (hf : Fit p) (hp : p.length ≤ 9223372036854775807) : CallF P F_vpath_Check #[.slice a n nc] w fun e w' => e = .returned (.int .i64 (checkP p)) ∧ w' = w := by
 subst hn
 refine fn_vpath_Check ?_
 unfold T_vpath_Check
 refine loopP_of (fun (s : Int) W => ∃ i : Nat, s = (i : Int) ∧ i ≤ p.length ∧ W = w ∧ ∀ b ∈ p.take i, nameOk b = true) (fun s _ => (p.length - s).toNat) ⟨0, rfl, Nat.zero_le _, rfl, by simp⟩ ?_
 rintro _ w ⟨i, rfl, hi, rfl, hok⟩
 refine iteP_dec (fun hlt => ?_) (fun hge => ?_)
 ·have hil : i < p.length := by omega
  refine strIx hw hL rfl hil rfl ?_
  refine callF_of (name_c _ (hf _ (List.getElem_mem hil))) ?_
  rintro e w' ⟨rfl, rfl⟩
  refine ⟨_, rfl, ?_⟩
  cases hb : nameOk p[i] with
  | false => exact iteP_t rfl ⟨by simp [checkP, all_name_no hil hb], rfl⟩
  | true =>
   refine iteP_f rfl ?_
   refine addI_to ((i + 1 : Nat) : Int) (by omega) (by omega) (by omega) ?_
   exact ⟨⟨i + 1, rfl, by omega, rfl, all_name_take hil hok hb⟩, by omega⟩
 ·have : i = p.length := by omega
  subst this
  rw [List.take_length] at hok
  have hall : p.all nameOk = true := List.all_eq_true.2 hok
  refine iteP_dec (fun h => ⟨by simp only [checkP, hall, if_true]; rw [if_pos (by omega)], rfl⟩) (fun h => ⟨by simp only [checkP, hall, if_true]; rw [if_neg (by omega)], rfl⟩)
def withinP (p q : Path) : Bool := q.isPrefixOf p
theorem within_iff {p q : Path} : withinP p q = true ↔ q.length ≤ p.length ∧ p.take q.length = q := by
 unfold withinP
 rw [List.isPrefixOf_iff_prefix]
 constructor
 ·rintro ⟨t, rfl⟩
  exact ⟨by simp, by simp⟩
 ·rintro ⟨h1, h2⟩
  exact ⟨p.drop q.length, (congrArg (· ++ p.drop q.length) h2.symm).trans (List.take_append_drop _ _)⟩
theorem same_take {p q : Path} {i : Nat} (hip : i < p.length) (hiq : i < q.length) (h : p.take i = q.take i) (e : p[i] = q[i]) : p.take (i + 1) = q.take (i + 1) := by
 rw [List.take_add_one, List.take_add_one, List.getElem?_eq_getElem hip, List.getElem?_eq_getElem hiq, h, e]
theorem cmpstr_c {w : World} (x y : List UInt8) : CallF P F_cmp_Compare_string #[.string (strOf x), .string (strOf y)] w fun e w' => e = .returned (.int .i64 (Lib.compareBytes x y)) ∧ w' = w := by
 have nan : ∀ (w : World) (x : List UInt8), CallF P F_cmp_isNaN_string #[.string (strOf x)] w fun e w' => e = .returned (.bool false) ∧ w' = w := by
  intro w x
  refine fn_cmp_isNaN_string ?_
  unfold T_cmp_isNaN_string
  exact ⟨by simp, rfl⟩
 refine fn_cmp_Compare_string ?_
 unfold T_cmp_Compare_string
 refine callQ_of false (nan w x) ?_
 refine callQ_of false (nan w y) ?_
 refine iteP_f rfl ?_
 refine iteP_f rfl ?_
 rw [bytesLess_eq, strOf_toList, strOf_toList]
 have hr := cmpB_range (a := x) (b := y)
 refine iteP_dec (fun h => ?_) (fun h => ?_)
 ·have := cmpB_lt.2 h
  exact ⟨by congr 2; omega, rfl⟩
 ·have h1 : ¬ Lib.compareBytes x y < 0 := fun h2 => h (cmpB_lt.1 h2)
  by_cases e : x = y
  ·refine iteP_f (by simp [e]) ?_
   have := cmpB_eq.2 e
   exact ⟨by rw [this], rfl⟩
  ·refine iteP_t (by simp [e]; exact fun h2 => absurd h2 h) ?_
   have h2 : Lib.compareBytes x y ≠ 0 := fun h2 => e (cmpB_eq.1 h2)
   exact ⟨by congr 2; omega, rfl⟩
end Go.Proofs.YtbmegmbnlajbbaaGreatDoor
namespace Go.Proofs.YtbmegmbnlajbbaaGreatDoor
open Go Go.Fw Go.Proofs
theorem u8 : P.underlying y_uint8 = some (.int .u8) := by kernel_rfl
theorem uS8 : P.underlying y_S_uint8 = some (.slice y_uint8) := by kernel_rfl
theorem sz8 : (P.info? y_uint8).map (·.size) = some 1 := by kernel_rfl
theorem uStr : P.underlying y_string = some .string := by kernel_rfl
theorem E8 : Elem P y_uint8 1 1 := elem_of (z := .int .u8 0) (by kernel_rfl) rfl
theorem uB : P.underlying y_p_strings_Builder = some (.pointer y_strings_Builder) := by kernel_rfl
theorem uUP : P.underlying y_unsafe_Pointer = some .unsafePointer := by kernel_rfl
theorem iB : (P.info? y_strings_Builder).map (·.size) = some 2 := by kernel_rfl
theorem zcB : zc P y_strings_Builder = #[.pointer none, .slice none 0 0] := by kernel_rfl
theorem up8 : P.underlying y_p_uint8 = some (.pointer y_uint8) := by kernel_rfl
theorem lieB : liesAt P P.depth y_strings_Builder (2 / P.cellsOf y_strings_Builder) 0 y_strings_Builder 1 = true := by kernel_rfl
theorem c8 : P.cellsOf y_uint8 = 1 := by kernel_rfl
theorem info_ex {t : TypeId} {n : Nat} (h : (P.info? t).map (·.size) = some n) : ∃ j, P.info? t = some j ∧ j.size = n := by
 obtain ⟨j, h1, h2⟩ := Option.map_eq_some_iff.1 h
 exact ⟨j, h1, h2⟩
theorem shape_h {w : World} {H : Heap} {b : Nat} {c : Array Value} {T : TypeId} {fr : Nat × Nat} (hw : w.heap = H) (hb : H[b]? = some (.cells c T fr)) : w.shape? b = some (T, c.size) := by
 subst hw; simp [World.shape?, hb]
def Bd (H : Heap) (lo b : Nat) (L : List UInt8) : Prop := ∃ x p, H[b]? = some (.cells #[.pointer p, slcV x] y_strings_Builder (0, 0)) ∧ (p = none ∨ p = some ⟨b, 0, none⟩) ∧ b < lo ∧ Mine H lo y_uint8 1 x (byteCells L)
theorem copycheck_c {w : World} {H : Heap} {b : Nat} {x : Option Addr × Nat × Nat} {p : Option Addr} (hw : w.heap = H) (hb : H[b]? = some (.cells #[.pointer p, slcV x] y_strings_Builder (0, 0))) (hp : p = none ∨ p = some ⟨b, 0, none⟩) :
  CallF P F_strings_Builder_copyCheck #[.pointer (some ⟨b, 0, none⟩)] w fun e w' => e = .returned (.tuple #[]) ∧ w'.heap[b]? = some (.cells #[.pointer (some ⟨b, 0, none⟩), slcV x] y_strings_Builder (0, 0)) ∧ Ext [b] H w'.heap := by
 refine fn_strings_Builder_copyCheck ?_
 unfold T_strings_Builder_copyCheck
 obtain ⟨j, hj, hjs⟩ := info_ex iB
 simp only [withAddr_some]
 refine ld_h (s := .ptr) (t := p) hw hb rfl ?_
 rcases hp with rfl | rfl
 ·refine iteP_t rfl ?_
  have hsh := shape_h hw hb
  refine genL_of (s := .any) _ w (Lib.run_to_unsafe w ⟨b, 0, none⟩ uB uUP hj (by omega) hsh (by simp)) ?_
  refine callF_ext (l := [.any]) (.pointer (some ⟨b, 0, none⟩)) (by rw [x_internal_abi_NoEscape (e := Extern.AbiNoEscape.same) (by kernel_rfl)]; rfl) ?_
  refine genL_of (s := .ptr) (some ⟨b, 0, none⟩) w (Lib.run_from_unsafe w ⟨b, 0, none⟩ uUP uB hj hsh lieB) ?_
  refine stC_h hw hb (by simp) fun w1 hw1 => ?_
  exact ⟨by trivial, by rw [hw1]; exact set_new hb, by rw [hw1]; exact Ext.set _ (by simp)⟩
 ·refine iteP_f rfl ?_
  refine ld_h (s := .ptr) (t := some ⟨b, 0, none⟩) hw hb rfl ?_
  refine genQ_of (s := .bool) false ?_ ?_
  ·have h := Lib.run_neq_ptr_same (P := P) w ⟨b, 0, none⟩ uB hj
   simp [eqM, eqGuard, h]
   rfl
  ·refine iteP_f rfl ?_
   exact ⟨by trivial, by rw [hw]; exact hb, by rw [hw]; exact .refl _ _⟩
theorem grow_c {w : World} {H : Heap} {b : Nat} {n : Nat} (hw : w.heap = H) (hb : H[b]? = some (.cells #[.pointer none, .slice none 0 0] y_strings_Builder (0, 0))) (hn0 : 0 < n) (hn : n ≤ 140737488351232) :
  CallF P F_strings_Builder_Grow #[.pointer (some ⟨b, 0, none⟩), .int .i64 (n : Int)] w fun e w' => e = .returned (.tuple #[]) ∧ Bd w'.heap H.size b [] ∧ Ext [b] H w'.heap := by
 refine fn_strings_Builder_Grow ?_
 unfold T_strings_Builder_Grow
 refine callF_of (l := []) (copycheck_c (x := (none, 0, 0)) hw hb (.inl rfl)) ?_
 rintro e w1 ⟨rfl, hb1, hx1⟩
 refine ⟨(), rfl, ?_⟩
 refine joinP_in ?_
 refine iteP_dec (fun h => absurd h (by omega)) (fun _ => ?_)
 refine drewP_h rfl fun w2 hw2 => ?_
 have hb2 : w2.heap[b]? = some (.cells #[.pointer (some ⟨b, 0, none⟩), .slice none 0 0] y_strings_Builder (0, 0)) := by rw [hw2]; exact hb1
 have hx2 : Ext [b] H w2.heap := by rw [hw2]; exact hx1
 simp only [withAddr_some, add_none, Nat.zero_add]
 refine ld_h (s := .slc) (t := (none, 0, 0)) rfl hb2 rfl ?_
 refine genQ_of (s := .int .i64) 0 (by kernel_rfl) ?_
 refine ld_h (s := .slc) (t := (none, 0, 0)) rfl hb2 rfl ?_
 refine subI_to 0 rfl (by omega) (by omega) ?_
 refine iteP_dec (fun _ => ?_) (fun h => absurd h (by omega))
 have hgrow : CallF P F_strings_Builder_grow #[.pointer (some ⟨b, 0, none⟩), .int .i64 (n : Int)] w2 fun e w' => e = .returned (.tuple #[]) ∧ Bd w'.heap H.size b [] ∧ Ext [b] H w'.heap := by
  refine fn_strings_Builder_grow ?_
  unfold T_strings_Builder_grow
  refine drewP_h rfl fun w3 hw3 => ?_
  have hb3 : w3.heap[b]? = some (.cells #[.pointer (some ⟨b, 0, none⟩), .slice none 0 0] y_strings_Builder (0, 0)) := by rw [hw3]; exact hb2
  have hx3 : Ext [b] H w3.heap := by rw [hw3]; exact hx2
  simp only [withAddr_some, add_none, Nat.zero_add]
  refine ld_h (s := .slc) (t := (none, 0, 0)) rfl hb3 rfl ?_
  refine genQ_of (s := .int .i64) 0 (by kernel_rfl) ?_
  refine mulI_to 0 rfl (by omega) (by omega) ?_
  refine addI_to (n : Int) (by omega) (by omega) (by omega) ?_
  refine ld_h (s := .slc) (t := (none, 0, 0)) rfl hb3 rfl ?_
  obtain ⟨cs, hrun, hcs, hcs2⟩ := Lib.run_makeNoZero (P := P) (w := w3) #[y_int] y_S_uint8 y_uint8 uS8 n (by omega)
  refine callF_extW (l := [.slc]) (some ⟨w3.heap.size, 0, none⟩, n, cs.size) (w3.drew.drew.alloc (.cells cs y_uint8)) (by rw [x_internal_bytealg_MakeNoZero (e := Extern.BytealgMakeNoZero.makeNoZero #[y_int] #[y_S_uint8]) (by kernel_rfl), hrun]; rfl) ⟨rfl, rfl, rfl, by show w3.drawn ≤ w3.drawn + 1 + 1; omega⟩ ?_
  have hh4 : (w3.drew.drew.alloc (.cells cs y_uint8)).heap = w3.heap.push (.cells cs y_uint8) := rfl
  generalize w3.drew.drew.alloc (.cells cs y_uint8) = w4 at *
  have hx34 : Ext [] w3.heap w4.heap := by rw [hh4]; exact .push _
  have hb4 := hx34.get hb3 (by simp)
  refine ⟨ld_h (s := .slc) (t := (none, 0, 0)) rfl hb4 rfl rfl, ?_⟩
  have hne : cs.size ≠ 0 := by omega
  refine genQ_of (s := .slc) (some ⟨w3.heap.size, 0, none⟩, 0, cs.size) ((run_slice_slc (l := 0) (h := 0) uS8 sz8 .no (.yes rfl) (Nat.le_refl _) (Nat.zero_le _)).trans (by rw [if_neg hne]; simp [add_none, Sh.val])) ?_
  refine ld_h (s := .slc) (t := (none, 0, 0)) rfl hb4 rfl ?_
  have hg4 : w4.heap[w3.heap.size]? = some (.cells cs y_uint8 (0, 0)) := by rw [hh4]; exact push_new
  obtain ⟨w5, h5, hc5, hh5⟩ := copy_h (P := P) (w := w4) (ty := y_int) (xt := y_S_uint8) (sa := none) (sl := 0) (sc := 0) (dl := 0) (dc := cs.size) (od := 0) (vs := []) uS8 sz8 rfl (.inl rfl) (by simp) (by intro v hv; cases hv) hg4 (by simp)
  refine genL_of (s := .int .i64) ((min 0 0 : Nat) : Int) w5 h5 ?_ hc5
  have hh5' : w5.heap = w4.heap := by
   rw [hh5]
   apply Array.ext_getElem?
   intro i
   rw [Array.getElem?_setIfInBounds]
   by_cases e : w3.heap.size = i
   ·subst e; rw [if_pos rfl, hg4]; simp [lt_of_get hg4, setCells]
   ·rw [if_neg e]
  refine stC_h hh5' hb4 (by simp) fun w6 hw6 => ?_
  have hx46 : Ext [b] w4.heap w6.heap := by rw [hw6]; exact Ext.set _ (by simp)
  have hbl := lt_of_get hb
  have h3 := hx3.1
  refine ⟨by trivial, ⟨(some ⟨w3.heap.size, 0, none⟩, 0, cs.size), some ⟨b, 0, none⟩, by rw [hw6]; exact set_new hb4, .inr rfl, hbl, .inr ⟨w3.heap.size, cs, rfl, by omega, hx46.get hg4 (by simp only [List.mem_singleton]; omega), by simp, rfl, Nat.zero_le _, by simp [byteCells]⟩⟩, (hx3.trans (hx34.mono (by simp))).trans hx46⟩
 refine callF_of (l := []) hgrow ?_
 rintro e w7 ⟨rfl, h⟩
 exact ⟨(), rfl, by trivial, h⟩
theorem writestring_c {w : World} {H : Heap} {lo b : Nat} {L M : List UInt8} (hw : w.heap = H) (hB : Bd H lo b L) (hlo : lo ≤ H.size) (hlen : L.length + M.length ≤ 140737488351232) :
  CallF P F_strings_Builder_WriteString #[.pointer (some ⟨b, 0, none⟩), .string (strOf M)] w fun e w' => e = .returned (.tuple #[.int .i64 (M.length : Int), .nilIface]) ∧ Bd w'.heap lo b (L ++ M) ∧ ∃ F, Ext F H w'.heap ∧ ∀ c ∈ F, c = b ∨ lo ≤ c := by
 obtain ⟨x, p, hb, hp, hbl, hm⟩ := hB
 refine fn_strings_Builder_WriteString ?_
 unfold T_strings_Builder_WriteString
 refine callF_of (l := []) (copycheck_c hw hb hp) ?_
 rintro e w1 ⟨rfl, hb1, hx1⟩
 refine ⟨(), rfl, ?_⟩
 have hm1 : Mine w1.heap lo y_uint8 1 x (byteCells L) := hm.ext hx1 (fun c hc => by have := ownM_ge hm c hc; simp only [List.mem_singleton]; omega)
 have hxl : x.2.1 = L.length := by have := hm.len; simp at this; omega
 simp only [withAddr_some, add_none, Nat.zero_add]
 refine ld_h (s := .slc) (t := x) rfl hb1 rfl ?_
 refine append_g E8 (by omega) uS8 ⟨_, uStr, by intro k h; cases h⟩ rfl hm1 (by have := hx1.1; omega) (n := M.length) (us := byteCells M) Src.str one_byteCells (by omega) ?_
 intro x' w2 hm2 hl2 hx2 hs2
 have hb2 := hx2.get hb1 (fun h => by have := ownM_ge hm1 _ h; omega)
 refine stC_h rfl hb2 (by simp) fun w3 hw3 => ?_
 have hx3 : Ext [b] w2.heap w3.heap := by rw [hw3]; exact Ext.set _ (by simp)
 refine ⟨rfl, ⟨x', some ⟨b, 0, none⟩, by rw [hw3]; exact set_new hb2, .inr rfl, hbl, ?_⟩, [b] ++ ownM x, ((hx1.mono (by simp)).trans (hx2.mono fun c hc => List.mem_append_right _ hc)).trans (hx3.mono (by simp)), fun c hc => ?_⟩
 ·rw [← byteCells_append]
  exact hm2.ext hx3 (fun c hc => by have := ownM_ge hm2 c hc; simp only [List.mem_singleton]; omega)
 ·rcases List.mem_append.1 hc with hc | hc
  ·simp only [List.mem_singleton] at hc; exact .inl hc
  ·exact .inr (ownM_ge hm1 c hc)
theorem ext_freeze {w : World} {a : Addr} {n : Nat} : Ext [a.block] w.heap (w.freeze a n).heap := by
 unfold World.freeze
 split
 ·exact .refl _ _
 ·refine ⟨by simp, fun b _ hn => ?_⟩
  simp only
  rw [Array.getElem?_modify, if_neg (fun e => hn (by simp [e]))]
theorem string_c {w : World} {H : Heap} {lo b : Nat} {L : List UInt8} (hw : w.heap = H) (hB : Bd H lo b L) (hL : L ≠ []) (hlen : L.length ≤ 140737488351232) :
  CallF P F_strings_Builder_String #[.pointer (some ⟨b, 0, none⟩)] w fun e w' => e = .returned (.string (strOf L)) ∧ ∃ F, Ext F H w'.heap ∧ ∀ c ∈ F, lo ≤ c := by
 obtain ⟨x, p, hb, hp, hbl, hm⟩ := hB
 refine fn_strings_Builder_String ?_
 unfold T_strings_Builder_String
 refine drewP_h hw fun w1 hw1 => ?_
 simp only [withAddr_some, add_none, Nat.zero_add]
 refine ld_h (s := .slc) (t := x) hw1 hb rfl ?_
 refine ld_h (s := .slc) (t := x) hw1 hb rfl ?_
 have hxl : x.2.1 = L.length := by have := hm.len; simp at this; omega
 have hpos : 0 < L.length := by cases L with | nil => exact absurd rfl hL | cons a l => simp
 have hcs := hm.cells
 rcases hm with ⟨rfl, h⟩ | ⟨g, c, hxa, hge, hg, hcz, hvl, hle, he⟩
 ·simp at hxl; omega
 obtain ⟨xa, xl, xc⟩ := x
 simp only at hxl hxa hle hcz
 subst hxa hxl
 have hxc : xc ≠ 0 := by omega
 refine genL_of (s := .ptr) (some ⟨g, 0, none⟩) w1 (Lib.run_unsafeSliceData_row w1 _ _ _ _ _ hxc) ?_
 refine ⟨ld_h (s := .slc) (t := (some ⟨g, 0, none⟩, L.length, xc)) hw1 hb rfl rfl, ?_⟩
 refine genL_of (s := .str) (strOf L) (w1.freeze ⟨g, 0, none⟩ L.length) (Lib.run_unsafeString_row w1 y_p_uint8 y_int y_string y_uint8 up8 c8 g c.size (shape_h hw1 hg) L hL (by omega) (by omega) fun j y hj => ?_) ?_ ?_
 ·have := cells_cell (a := ⟨g, 0, none⟩) hw1 hcs (i := j) (v := .int .u8 (y.toNat : Int)) (by simp [byteCells, hj])
  exact this
 ·refine ⟨rfl, [g], by rw [← hw1]; exact ext_freeze, fun c hc => by simp only [List.mem_singleton] at hc; omega⟩
 ·unfold World.freeze; split <;> exact ⟨rfl, rfl, rfl, Nat.le_refl _⟩
end Go.Proofs.YtbmegmbnlajbbaaGreatDoor
namespace Go.Proofs.YtbmegmbnlajbbaaGreatDoor
open Go Go.Fw Go.Proofs
def joinP : Path → List UInt8
 | [] => []
 | x :: xs => x ++ xs.flatMap fun L => 47 :: L
def showP (p : Path) : List UInt8 := 47 :: joinP p
def tlen (p : Path) : Nat := (p.map (·.length)).sum
theorem tlen_flat : ∀ {p : Path}, (p.flatMap fun L => (47 : UInt8) :: L).length = tlen p + p.length
 | [] => rfl
 | x :: p => by
  have := tlen_flat (p := p)
  simp only [List.flatMap_cons, List.length_append, List.length_cons, tlen, List.map_cons, List.sum_cons] at this ⊢
  omega
theorem tlen_join {x : List UInt8} {p : Path} : (joinP (x :: p)).length = tlen (x :: p) + p.length := by
 simp only [joinP, List.length_append, tlen_flat, tlen, List.map_cons, List.sum_cons]
 omega
theorem tlen_take {p : Path} {i : Nat} (h : i < p.length) : tlen (p.take (i + 1)) = tlen (p.take i) + (p[i]).length := by
 unfold tlen
 rw [List.take_add_one, List.getElem?_eq_getElem h, List.map_append, List.sum_append]
 simp
theorem tlen_take_le {p : Path} {i : Nat} : tlen (p.take i) ≤ tlen p := by
 conv => rhs; rw [← List.take_append_drop i p]
 unfold tlen
 rw [List.map_append, List.sum_append]
 omega
set_option maxHeartbeats 4000000 in
theorem join_c {w : World} {H : Heap} {a : Option Addr} {n nc : Nat} {p : Path} (hw : w.heap = H) (hL : Cells H a (strRow p)) (hn : n = p.length) (hnc : n ≤ nc) (hlen : tlen p + p.length ≤ 1099511627776) :
  CallF P F_strings_Join #[.slice a n nc, .string (ByteArray.mk #[47])] w fun e w' => e = .returned (.string (strOf (joinP p))) ∧ Ext [] H w'.heap := by
 refine fn_strings_Join ?_
 unfold T_strings_Join
 have hsep : (ByteArray.mk #[47] : ByteArray) = strOf [47] := rfl
 have hsz : ((ByteArray.mk #[47] : ByteArray).size : Int) = 1 := rfl
 match p, hL, hn, hlen with
 | [], hL, hn, hlen =>
  subst hn
  exact iteP_t rfl ⟨rfl, by rw [hw]; exact .refl _ _⟩
 | [x], hL, hn, hlen =>
  subst hn
  refine iteP_f rfl ?_
  refine iteP_t rfl ?_
  refine strIx (i := 0) hw hL rfl (by simp) rfl ?_
  exact ⟨by simp [joinP], by rw [hw]; exact .refl _ _⟩
 | x :: y :: p, hL, hn, hlen =>
  generalize hq : x :: y :: p = q at *
  have hql : q.length = p.length + 2 := by rw [← hq]; simp
  have hjl : (joinP q).length = tlen q + (q.length - 1) := by rw [← hq, tlen_join]; simp
  refine iteP_f (by simp; omega) ?_
  refine iteP_f (by simp; omega) ?_
  refine joinP_of (fun (s : Int) W => s = ((q.length - 1 : Nat) : Int) ∧ W = w) ?_ ?_
  ·refine iteP_t rfl ?_
   refine joinP_in ?_
   refine subI_to ((q.length - 1 : Nat) : Int) (by omega) (by omega) (by omega) ?_
   refine quoI_n 9223372036854775807 (q.length - 1) rfl rfl (by omega) (by omega) ?_
   have hdiv : 2 ≤ 9223372036854775807 / (q.length - 1) := by
    rw [Nat.le_div_iff_mul_le (by omega)]; omega
   refine iteP_dec (fun h => absurd h (by rw [hsz]; omega)) (fun _ => ?_)
   refine subI_to ((q.length - 1 : Nat) : Int) (by omega) (by omega) (by omega) ?_
   refine mulI_to ((q.length - 1 : Nat) : Int) (by rw [hsz]; omega) (by omega) (by omega) ?_
   refine addI_to ((q.length - 1 : Nat) : Int) (by omega) (by omega) (by omega) ?_
   exact ⟨rfl, rfl⟩
  rintro _ w ⟨rfl, rfl⟩
  refine loopP_of (fun (s : Int × Int) W => ∃ i : Nat, s = (((q.length - 1 + tlen (q.take i) : Nat) : Int), (i : Int)) ∧ i ≤ q.length ∧ W = w) (fun s _ => (q.length - s.2).toNat) ⟨0, by simp [tlen], Nat.zero_le _, rfl⟩ ?_
  rintro _ w ⟨i, rfl, hi, rfl⟩
  refine iteP_dec (fun hlt => ?_) (fun hge => ?_)
  ·have hil : i < q.length := by simp only at hlt; omega
   have ht1 := tlen_take hil
   have ht2 := tlen_take_le (p := q) (i := i + 1)
   refine joinP_in ?_
   refine strIx hw hL hn hil rfl ?_
   refine joinP_in ?_
   refine subI_to (9223372036854775807 - ((q.length - 1 + tlen (q.take i) : Nat) : Int)) rfl (by omega) (by omega) ?_
   refine iteP_dec (fun h => absurd h (by simp only [strOf_size]; omega)) (fun _ => ?_)
   refine addI_to ((q.length - 1 + tlen (q.take (i + 1)) : Nat) : Int) (by simp only [strOf_size]; omega) (by omega) (by omega) ?_
   refine addI_to ((i + 1 : Nat) : Int) (by omega) (by omega) (by omega) ?_
   exact ⟨⟨i + 1, rfl, by omega, rfl⟩, by simp only; omega⟩
  have hie : i = q.length := by simp only at hge; omega
  subst hie
  rw [List.take_length]
  refine newB_h hw fun w1 hw1 => ?_
  rw [zcB] at hw1
  have hb1 : w1.heap[H.size]? = some (.cells #[.pointer none, .slice none 0 0] y_strings_Builder (0, 0)) := by rw [hw1]; exact push_new
  have hx1 : Ext [] H w1.heap := by rw [hw1]; exact .push _
  refine callF_of (l := []) (grow_c rfl hb1 (by omega) (by omega)) ?_
  rintro e w2 ⟨rfl, hB2, hx2⟩
  refine ⟨(), rfl, ?_⟩
  have hlo : H.size < w1.heap.size := lt_of_get hb1
  have hs2 := hx2.1
  have hx02 : Ext [] H w2.heap := hx1.own hx2 (by intro b hb hlt; simp at hb; omega)
  have h0q : 0 < q.length := by omega
  refine strIx (i := 0) rfl (hL.ext hx02 (by simp)) hn h0q rfl ?_
  have hq0 : q[0] = x := by simp only [← hq, List.getElem_cons_zero]
  have hqd : q.drop 1 = y :: p := by rw [← hq]; rfl
  have htx : x.length ≤ tlen q := by rw [← hq]; simp [tlen]
  rw [hq0]
  refine callF_of (writestring_c rfl hB2 hs2 (by simp; omega)) ?_
  rintro e w3 ⟨rfl, hB3, F3, hx3, hF3⟩
  refine ⟨((x.length : Int), .nilIface), rfl, ?_⟩
  have hx03 : Ext [] H w3.heap := hx02.own hx3 (by intro b hb hlt; rcases hF3 b hb with h | h <;> omega)
  have hs3 := hx3.1
  have hdr := (hL.ext hx03 (by simp)).drop 1 nc (by simp; omega)
  rw [strRow_drop] at hdr
  refine genQ_of (s := .slc) (if nc = 1 then a else a.map (·.add (1 * 1)), n - 1, nc - 1) (run_slice_slc (l := 1) (h := n) uSstr szStr (.yes rfl) .no (by omega) (by omega)) ?_
  rw [List.nil_append] at hB3
  have hdl : (q.drop 1).length = n - 1 := by simp; omega
  refine loopP_of (fun (s : Int) W => ∃ i : Nat, s = (i : Int) ∧ i ≤ n - 1 ∧ Ext [] H W.heap ∧ w1.heap.size ≤ W.heap.size ∧ Bd W.heap w1.heap.size H.size (x ++ ((q.drop 1).take i).flatMap fun L => 47 :: L)) (fun s _ => ((n - 1 : Nat) - s).toNat) ⟨0, rfl, Nat.zero_le _, hx03, by omega, by simpa using hB3⟩ ?_
  rintro _ W ⟨i, rfl, hi, hxW, hsW, hBW⟩
  have hjl2 : (joinP q).length = x.length + ((q.drop 1).flatMap fun L => (47 : UInt8) :: L).length := by rw [← hq]; simp [joinP]
  refine iteP_dec (fun hlt => ?_) (fun hge => ?_)
  ·have hil : i < (q.drop 1).length := by simp only at hlt; omega
   have htk : ((q.drop 1).take (i + 1)).flatMap (fun L => (47 : UInt8) :: L) = ((q.drop 1).take i).flatMap (fun L => 47 :: L) ++ (47 :: (q.drop 1)[i]) := by
    rw [List.take_add_one, List.getElem?_eq_getElem hil, List.flatMap_append]; simp
   have htl : (((q.drop 1).take (i + 1)).flatMap fun L => (47 : UInt8) :: L).length ≤ ((q.drop 1).flatMap fun L => (47 : UInt8) :: L).length := by
    conv => rhs; rw [← List.take_append_drop (i + 1) (q.drop 1), List.flatMap_append, List.length_append]
    omega
   rw [htk] at htl
   simp only [List.length_append, List.length_cons] at htl
   have hdrW : Cells W.heap (if nc = 1 then a else a.map (·.add (1 * 1))) (strRow (q.drop 1)) := by
    have := (hL.ext hxW (by simp)).drop 1 nc (by simp; omega)
    rwa [strRow_drop] at this
   refine strIx rfl hdrW hdl.symm hil rfl ?_
   rw [hsep]
   refine callF_of (writestring_c rfl hBW hsW (by simp only [List.length_append, List.length_cons, List.length_nil]; omega)) ?_
   rintro e w4 ⟨rfl, hB4, F4, hx4, hF4⟩
   refine ⟨(1, .nilIface), rfl, ?_⟩
   have hx04 : Ext [] H w4.heap := hxW.own hx4 (by intro b hb hlt; rcases hF4 b hb with h | h <;> omega)
   refine callF_of (writestring_c rfl hB4 (Nat.le_trans hsW hx4.1) (by simp only [List.length_append, List.length_cons, List.length_nil]; omega)) ?_
   rintro e w5 ⟨rfl, hB5, F5, hx5, hF5⟩
   refine ⟨(((q.drop 1)[i].length : Int), .nilIface), rfl, ?_⟩
   refine addI_to ((i + 1 : Nat) : Int) (by omega) (by omega) (by omega) ?_
   refine ⟨⟨i + 1, rfl, by omega, hx04.own hx5 (by intro b hb hlt; rcases hF5 b hb with h | h <;> omega), Nat.le_trans hsW (Nat.le_trans hx4.1 hx5.1), ?_⟩, by omega⟩
   rw [htk]
   simpa using hB5
  ·have hie : i = (q.drop 1).length := by simp only at hge; omega
   subst hie
   rw [List.take_length] at hBW
   have hjj : x ++ (q.drop 1).flatMap (fun L => (47 : UInt8) :: L) = joinP q := by rw [← hq]; rfl
   rw [hjj] at hBW
   refine callF_of (string_c rfl hBW (by intro h; rw [h] at hjl; simp at hjl; omega) (by omega)) ?_
   rintro e w6 ⟨rfl, F6, hx6, hF6⟩
   refine ⟨strOf (joinP q), rfl, ?_⟩
   exact ⟨rfl, hxW.own hx6 (by intro b hb hlt; have := hF6 b hb; omega)⟩
theorem show_c {w : World} {H : Heap} {a : Option Addr} {n nc : Nat} {p : Path} (hw : w.heap = H) (hL : Cells H a (strRow p)) (hn : n = p.length) (hnc : n ≤ nc) (hlen : tlen p + p.length ≤ 1099511627776) :
  CallF P F_vpath_Show #[.slice a n nc] w fun e w' => e = .returned (.string (strOf (showP p))) ∧ Ext [] H w'.heap := by
 refine fn_vpath_Show ?_
 unfold T_vpath_Show
 refine callF_of (join_c hw hL hn hnc hlen) ?_
 rintro e w1 ⟨rfl, hx⟩
 refine ⟨strOf (joinP p), rfl, ?_⟩
 have hjl : (joinP p).length ≤ tlen p + p.length := by
  cases p with
  | nil => simp [joinP]
  | cons x p => rw [tlen_join]; simp
 exact catS_h (A := [47]) (by simp; omega) ⟨rfl, hx⟩
end Go.Proofs.YtbmegmbnlajbbaaGreatDoor
namespace Go.Fw
open Go
def SeqA (P : Program) {α : Type} (gv : Value) (S : List α → Prop) (nx : List α → α → Prop) (enc : α → Array Value) (fp A : List Nat) (w : World) : Prop :=
 ∃ gf lb, gv = .func (.func gf) #[] lb ∧ ∀ (l : Nat) (I : List α → World → Prop) (J : World → Prop) (w1 : World) (M : List Nat),
  Ext [] w.heap w1.heap → (∀ b ∈ M, b < w1.heap.size ∧ b ∉ fp) → (∀ pre W W', I pre W → Beside w1.heap.size W W' → I pre W') → (∀ pre W W', I pre W → Ext A W.heap W'.heap → I pre W') → I [] w1 →
  (∀ pre x W, nx pre x → I pre W → YieldF P l (enc x) W fun e W' => Keep M w1.heap.size W.heap W'.heap ∧ ((e = .returned (.bool true) ∧ I (pre ++ [x]) W') ∨ (e = .returned (.bool false) ∧ J W'))) →
  CallF P gf (#[.func (.yield l) #[] #[]] ++ lb) w1 fun e W => (∃ v, e = .returned v) ∧ ((∃ xs, S xs ∧ I xs W) ∨ J W)
theorem SeqA.later {P : Program} {α : Type} {gv : Value} {S : List α → Prop} {nx : List α → α → Prop} {enc : α → Array Value} {fp A : List Nat} {w w' : World} (h : SeqA P gv S nx enc fp A w) (hx : Ext [] w.heap w'.heap) : SeqA P gv S nx enc fp A w' := by
 obtain ⟨gf, lb, hg, h⟩ := h
 exact ⟨gf, lb, hg, fun l I J w1 M h1 => h l I J w1 M (hx.trans h1)⟩
theorem range_ofA {P : Program} {α : Type} {gv : Value} {S : List α → Prop} {nx : List α → α → Prop} {shs : List Sh} {tv : α → Tup shs} {fp : List Nat} {w : World}
  {body : Tup shs → World → (World → (World → Prop) → Prop) → (World → Prop) → (World → Prop) → (Nat → World → Prop) → Prop} {done ret : Nat → World → Prop} {ext : Nat → Nat → World → Prop}
  {A : List Nat} (hseq : SeqA P gv S nx (fun x => (Tup.vals shs (tv x)).toArray) fp A w) (hA : ∀ b ∈ A, b ∈ fp) (M : List Nat) (hM : ∀ b ∈ M, b < w.heap.size ∧ b ∉ fp) (hfp : ∀ b ∈ fp, b < w.heap.size)
  (I : List α → World → Prop) (Jr : World → Prop) (Jx : Nat → World → Prop)
  (hI : ∀ pre W W', I pre W → Beside w.heap.size W W' → I pre W') (hJr : ∀ W W', Jr W → Beside w.heap.size W W' → Jr W') (hJx : ∀ i W W', Jx i W → Beside w.heap.size W W' → Jx i W')
  (hIA : ∀ pre W W', I pre W → Ext A W.heap W'.heap → I pre W') (h0 : I [] w)
  (hbody : ∀ pre x W, nx pre x → I pre W → w.heap.size + 2 ≤ W.heap.size → ∀ (beg : World → (World → Prop) → Prop) (kc kr : World → Prop) (kx : Nat → World → Prop),
   (∀ W1 (K : World → Prop), Ext [] W.heap W1.heap → (∀ W2, Beside w.heap.size W1 W2 → W2.heap.size = W1.heap.size →
    (∀ W3, Keep M w.heap.size W2.heap W3.heap → I (pre ++ [x]) W3 → kc W3) → (∀ W3, Keep M w.heap.size W2.heap W3.heap → Jr W3 → kr W3) → (∀ i W3, Keep M w.heap.size W2.heap W3.heap → Jx i W3 → kx i W3) → K W2) → beg W1 K) →
   body (tv x) W beg kc kr kx)
  (hdone : ∀ xs W, S xs → I xs W → W.heap[w.heap.size]? = some (.deferred (some [])) → done w.heap.size W)
  (hret : ∀ W, Jr W → W.heap[w.heap.size]? = some (.deferred (some [])) → ret w.heap.size W)
  (hext : ∀ i W, Jx i W → W.heap[w.heap.size]? = some (.deferred (some [])) → ext i w.heap.size W) :
  rangeP P shs gv w body done ret ext := by
 obtain ⟨gf, lb, hg, hseq⟩ := hseq
 refine ⟨gf, lb, hg, fun oD oL oB oX oE hD hno w1 hw1 hY => ?_⟩
 obtain ⟨hnL, hnB, hnX, hnE⟩ := hno
 have hx1 : Ext [] w.heap w1.heap := by rw [hw1]; exact (Ext.push _).trans (Ext.push _)
 have hs1 : w1.heap.size = w.heap.size + 2 := by rw [hw1]; simp
 have hD1 : w1.heap[w.heap.size]? = some oD := by rw [hw1]; exact push_old push_new
 have hL1 : w1.heap[w.heap.size + 1]? = some oL := by
  rw [hw1]
  have := push_new (H := w.heap.push oD) (o := oL)
  simpa using this
 have hDc : NoCells oD := by rw [hD]; intro c T fr h; cases h
 have key : ∀ {W W' : World} {r : Nat} {o : Obj}, (∀ o, W.heap[r]? = some o → NoCells o) → w1.heap.size ≤ r → Ext [r] W.heap W'.heap → ∀ b, b < w.heap.size + 2 → W.heap[b]? = some o → W'.heap[b]? = some o :=
  fun _ hr hx b hb hbo => hx.get hbo (by simp; omega)
 refine (hseq (w.heap.size + 1)
  (fun pre W => I pre W ∧ W.heap[w.heap.size]? = some oD ∧ W.heap[w.heap.size + 1]? = some oL)
  (fun W => W.heap[w.heap.size]? = some oD ∧ ((Jr W ∧ W.heap[w.heap.size + 1]? = some (oX .ret)) ∨ ∃ i, Jx i W ∧ W.heap[w.heap.size + 1]? = some (oX (.exit i))))
  w1 ((w.heap.size + 1) :: M) hx1 ?_ ?_ ?_ ⟨hI _ _ _ h0 (.new (Nat.le_refl _) hx1), hD1, hL1⟩ ?_).mono ?_
 ·intro b hb
  rcases List.mem_cons.1 hb with rfl | hb
  ·exact ⟨by omega, fun h => by have := hfp _ h; omega⟩
  ·exact ⟨by have := (hM b hb).1; omega, (hM b hb).2⟩
 ·rintro pre W W' ⟨h1, h2, h3⟩ hA
  have hA' := hA
  obtain ⟨r, hr, hn, hx⟩ := hA'
  exact ⟨hI _ _ _ h1 (hA.mono (by omega)), key hn hr hx _ (by omega) h2, key hn hr hx _ (by omega) h3⟩
 ·rintro pre W W' ⟨h1, h2, h3⟩ hx
  exact ⟨hIA _ _ _ h1 hx, hx.get h2 (fun h => by have := hfp _ (hA _ h); omega), hx.get h3 (fun h => by have := hfp _ (hA _ h); omega)⟩
 ·rintro pre x W hnx ⟨h1, h2, h3⟩
  have hlt : w.heap.size + 1 < W.heap.size := (Array.getElem?_eq_some_iff.1 h3).1
  refine hY (tv x) W _ h3 (hbody pre x W hnx h1 (by omega) _ _ _ _ ?_)
  intro W1 K hxW1 hK
  have h31 : W1.heap[w.heap.size + 1]? = some oL := hxW1.get h3 (by simp)
  have h21 : W1.heap[w.heap.size]? = some oD := hxW1.get h2 (by simp)
  refine ⟨h31, fun W2 hW2 => ?_⟩
  have hlt1 : w.heap.size + 1 < W1.heap.size := (Array.getElem?_eq_some_iff.1 h31).1
  have hh2 : W2.heap = W1.heap.setIfInBounds (w.heap.size + 1) oB := by rw [hW2, heap_putObj]
  have h32 : W2.heap[w.heap.size + 1]? = some oB := by rw [hh2]; exact Array.getElem?_setIfInBounds_self_of_lt hlt1
  have h22 : W2.heap[w.heap.size]? = some oD := by rw [hh2, Array.getElem?_setIfInBounds_ne (by omega)]; exact h21
  have fin : ∀ (o' : Obj) (W3 : World), Keep M w.heap.size W2.heap W3.heap → W3.heap[w.heap.size + 1]? = some oB ∧ Keep ((w.heap.size + 1) :: M) w1.heap.size W.heap (W3.putObj (w.heap.size + 1) o').heap ∧ (W3.putObj (w.heap.size + 1) o').heap[w.heap.size]? = some oD ∧
    (W3.putObj (w.heap.size + 1) o').heap[w.heap.size + 1]? = some o' ∧ Beside w.heap.size W3 (W3.putObj (w.heap.size + 1) o') := by
   intro o' W3 hx3
   have h33 : W3.heap[w.heap.size + 1]? = some oB := hx3.2.2 _ _ (by omega) h32 hnB
   have h23 : W3.heap[w.heap.size]? = some oD := hx3.2.2 _ _ (Nat.le_refl _) h22 hDc
   have hlt3 : w.heap.size + 1 < W3.heap.size := (Array.getElem?_eq_some_iff.1 h33).1
   have hn2 : ∀ b, b ≠ w.heap.size + 1 → W2.heap[b]? = W1.heap[b]? := fun b hb => by rw [hh2]; exact Array.getElem?_setIfInBounds_ne (Ne.symm hb)
   have hn4 : ∀ b, b ≠ w.heap.size + 1 → (W3.putObj (w.heap.size + 1) o').heap[b]? = W3.heap[b]? := fun b hb => by rw [heap_putObj]; exact Array.getElem?_setIfInBounds_ne (Ne.symm hb)
   have hs2 : W2.heap.size = W1.heap.size := by rw [hh2]; simp
   refine ⟨h33, ⟨?_, ?_, ?_⟩, ?_, ?_, .put (by omega) h33 hnB⟩
   ·rw [heap_putObj]
    have := hxW1.1; have := hx3.1
    simp; omega
   ·intro b hb hl hn
    simp only [List.mem_cons, not_or] at hn
    rw [hn4 b hn.1]
    by_cases hbD : b = w.heap.size
    ·rw [hbD, h23, h2]
    ·rw [hx3.2.1 b (by omega) (by have := hxW1.1; omega) hn.2, hn2 b hn.1]
     exact hxW1.2 b hl (by simp)
   ·intro b o hb ho hno
    rw [hn4 b (by omega)]
    exact hx3.2.2 b o (by omega) (by rw [hn2 b (by omega)]; exact hxW1.get ho (by simp)) hno
   ·rw [hn4 _ (by omega)]; exact h23
   ·rw [heap_putObj]; exact Array.getElem?_setIfInBounds_self_of_lt hlt3
  refine hK W2 (by rw [hW2]; exact .put (by omega) h31 hnL) (by rw [hh2]; simp) (fun W3 hx3 h => ?_) (fun W3 hx3 h => ?_) (fun i W3 hx3 h => ?_)
  ·obtain ⟨a, b, c, d, e⟩ := fin oL W3 hx3
   exact ⟨a, b, .inl ⟨rfl, hI _ _ _ h e, c, d⟩⟩
  ·obtain ⟨a, b, c, d, e⟩ := fin (oX .ret) W3 hx3
   exact ⟨a, b, .inr ⟨rfl, c, .inl ⟨hJr _ _ h e, d⟩⟩⟩
  ·obtain ⟨a, b, c, d, e⟩ := fin (oX (.exit i)) W3 hx3
   exact ⟨a, b, .inr ⟨rfl, c, .inr ⟨i, hJx _ _ _ h e, d⟩⟩⟩
 ·have put : ∀ {W : World} {o o' : Obj}, W.heap[w.heap.size]? = some oD → (W.putObj (w.heap.size + 1) o').heap[w.heap.size]? = some (.deferred (some [])) := by
   intro W o o' h
   rw [heap_putObj, Array.getElem?_setIfInBounds_ne (by omega), h, hD]
  rintro e W ⟨hv, ⟨xs, hS, h1, h2, h3⟩ | ⟨h2, ⟨h1, h3⟩ | ⟨i, h1, h3⟩⟩⟩
  ·exact ⟨hv, .inl ⟨h3, hdone xs _ hS (hI _ _ _ h1 (.put (by omega) h3 hnL)) (put (o := oD) h2)⟩⟩
  ·exact ⟨hv, .inr (.inl ⟨h3, hret _ (hJr _ _ h1 (.put (by omega) h3 (hnX _))) (put (o := oD) h2)⟩)⟩
  ·exact ⟨hv, .inr (.inr ⟨i, h3, hext i _ (hJx _ _ _ h1 (.put (by omega) h3 (hnX _))) (put (o := oD) h2)⟩)⟩
end Go.Fw
namespace Go.Proofs.YtbmegmbnlajbbaaGreatDoor
open Go Go.Fw Go.Proofs
def pieces : List UInt8 → List (List UInt8)
 | [] => []
 | c :: L => if c = 47 then [] :: pieces L else match pieces L with | [] => [[c]] | p :: ps => if L.head? = some 47 then [c] :: ps else (c :: p) :: ps
theorem pieces_sep : ∀ {p r : List UInt8}, (47 : UInt8) ∉ p → pieces (p ++ 47 :: r) = p :: pieces r
 | [], r, _ => by simp [pieces]
 | c :: p, r, h => by
  have hc : c ≠ 47 := fun e => h (by simp [e])
  have ih := pieces_sep (p := p) (r := r) (fun hm => h (by simp [hm]))
  rw [List.cons_append, pieces, if_neg hc, ih]
  cases p with
  | nil => simp
  | cons d p =>
   have hd : d ≠ 47 := fun e => h (by simp [e])
   simp [hd]
theorem pieces_last : ∀ {p : List UInt8}, (47 : UInt8) ∉ p → p ≠ [] → pieces p = [p]
 | [], _, h => absurd rfl h
 | [c], h, _ => by
  have hc : c ≠ 47 := fun e => h (by simp [e])
  simp [pieces, hc]
 | c :: d :: p, h, _ => by
  have hc : c ≠ 47 := fun e => h (by simp [e])
  have hd : d ≠ 47 := fun e => h (by simp [e])
  have ih := pieces_last (p := d :: p) (fun hm => h (by simp [hm])) (by simp)
  rw [pieces, if_neg hc, ih]
  simp [hd]
theorem split47 (L : List UInt8) : (47 : UInt8) ∉ L ∨ ∃ p r, L = p ++ 47 :: r ∧ (47 : UInt8) ∉ p := by
 induction L with
 | nil => left; simp
 | cons c L ih =>
  by_cases hc : c = 47
  ·right; exact ⟨[], L, by simp [hc], by simp⟩
  ·rcases ih with h | ⟨p, r, h1, h2⟩
   ·left; simp [h, Ne.symm hc]
   ·right; exact ⟨c :: p, r, by simp [h1], by simp [h2, Ne.symm hc]⟩
theorem ix_none : ∀ {L : List UInt8}, (47 : UInt8) ∉ L → Lib.indexByte L 47 = -1
 | [], _ => rfl
 | c :: L, h => by
  have hc : ¬ c = 47 := fun e => h (by simp [e])
  have ih := ix_none (L := L) (fun hm => h (by simp [hm]))
  simp [Lib.indexByte, hc, ih]
theorem ix_some : ∀ {p r : List UInt8}, (47 : UInt8) ∉ p → Lib.indexByte (p ++ 47 :: r) 47 = (p.length : Int)
 | [], r, _ => by simp [Lib.indexByte]
 | c :: p, r, h => by
  have hc : ¬ c = 47 := fun e => h (by simp [e])
  have ih := ix_some (p := p) (r := r) (fun hm => h (by simp [hm]))
  simp only [List.cons_append, Lib.indexByte, ih]
  have h1 : (c == (47 : UInt8)) = false := by simp [hc]
  have h2 : ((p.length : Int) == -1) = false := by simp
  rw [h1, h2]
  simp
theorem cut_c {w : World} (L : List UInt8) (hlen : L.length ≤ 1099511627776) : CallF P F_strings_Cut #[.string (strOf L), .string (ByteArray.mk #[47])] w fun e w' =>
  ∃ p r b, e = .returned (.tuple #[.string (strOf p), .string (strOf r), .bool b]) ∧ w'.heap = w.heap ∧ (((47 : UInt8) ∉ L ∧ p = L ∧ r = []) ∨ (L = p ++ 47 :: r ∧ (47 : UInt8) ∉ p)) := by
 have hsep : (ByteArray.mk #[47] : ByteArray) = strOf [47] := rfl
 refine fn_strings_Cut ?_
 unfold T_strings_Cut
 have hix : CallF P F_internal_stringslite_Index #[.string (strOf L), .string (ByteArray.mk #[47])] w fun e w' => e = .returned (.int .i64 (Lib.indexByte L 47)) ∧ w' = w := by
  refine fn_internal_stringslite_Index ?_
  unfold T_internal_stringslite_Index
  refine joinP_in ?_
  refine joinP_in ?_
  refine iteP_f rfl ?_
  refine iteP_of (p := L = [47]) (by rw [mk_toList, strOf_toList, beq_iff_eq]; exact eq_comm) (fun h => ⟨by rw [h]; rfl, rfl⟩) (fun _ => ?_)
  refine iteP_t rfl ?_
  rw [hsep]
  refine ixStr_h (L := [47]) 0 rfl (by simp) ?_
  have h2 : CallF P F_internal_stringslite_IndexByte #[.string (strOf L), .int .u8 47] w fun e w' => e = .returned (.int .i64 (Lib.indexByte L 47)) ∧ w' = w := by
   refine fn_internal_stringslite_IndexByte ?_
   unfold T_internal_stringslite_IndexByte
   refine callF_ext (l := [.int .i64]) (Lib.indexByte L 47) ?_ ⟨rfl, rfl⟩
   rw [x_internal_bytealg_IndexByteString (e := Extern.BytealgIndexByte.indexByte) (by kernel_rfl), Lib.run_indexByteString]
   rfl
  refine callF_of h2 ?_
  rintro e w' ⟨rfl, rfl⟩
  exact ⟨_, rfl, rfl, rfl⟩
 have hcut : CallF P F_internal_stringslite_Cut #[.string (strOf L), .string (ByteArray.mk #[47])] w fun e w' =>
  ∃ p r b, e = .returned (.tuple #[.string (strOf p), .string (strOf r), .bool b]) ∧ w'.heap = w.heap ∧ (((47 : UInt8) ∉ L ∧ p = L ∧ r = []) ∨ (L = p ++ 47 :: r ∧ (47 : UInt8) ∉ p)) := by
  refine fn_internal_stringslite_Cut ?_
  unfold T_internal_stringslite_Cut
  refine callF_of hix ?_
  rintro e w' ⟨rfl, rfl⟩
  refine ⟨_, rfl, ?_⟩
  rcases split47 L with h | ⟨p, r, rfl, h⟩
  ·rw [ix_none h]
   refine iteP_f rfl ?_
   exact ⟨L, [], false, rfl, rfl, .inl ⟨h, rfl, rfl⟩⟩
  ·rw [ix_some h]
   refine iteP_t (by simp) ?_
   refine drewP_h rfl fun w2 hw2 => ?_
   simp only [List.length_append, List.length_cons] at hlen
   refine addI_to ((p.length + 1 : Nat) : Int) (by rw [hsep, strOf_size]; simp) (by omega) (by omega) ?_
   refine genQ_of (s := .str) _ (slStr_h (l := 0) (h := p.length) uStr .no (.yes rfl) (Nat.zero_le _) (by simp)) ?_
   refine genQ_of (s := .str) _ (slStr_h (l := p.length + 1) (h := (p ++ 47 :: r).length) uStr (.yes rfl) .no (by simp) (Nat.le_refl _)) ?_
   refine ⟨p, r, true, ?_, hw2, .inr ⟨rfl, h⟩⟩
   rw [List.take_left, List.drop_zero, List.take_length, show p ++ 47 :: r = (p ++ [47]) ++ r by simp, List.drop_left' (by simp)]
 refine callF_of hcut ?_
 rintro e w' ⟨p, r, b, rfl, h1, h2⟩
 refine ⟨(strOf p, strOf r, b), rfl, ?_⟩
 exact ⟨p, r, b, rfl, h1, h2⟩
theorem seq_pieces {w : World} {H : Heap} {b : Nat} {L : List UInt8} (hw : w.heap = H) (hb : H[b]? = some (.cells #[.string (strOf L)] y_string (0, 0))) (hlen : L.length ≤ 1099511627776) :
  SeqA P (.func (.func F_vpath_pieces_1) #[] #[.pointer (some ⟨b, 0, none⟩)]) (fun ys => ys = pieces L) (fun pre y => ∃ rest, pieces L = pre ++ y :: rest) (fun x => #[.string (strOf x)]) [b] [b] w := by
 refine ⟨_, _, rfl, fun l I J w1 M hx1 hMM hst hIA h0 hY => ?_⟩
 have hb1 := (hw ▸ hx1).get hb (by simp)
 have hblt := lt_of_get hb1
 refine fn_vpath_pieces_1 ?_
 unfold T_vpath_pieces_1
 simp only [withAddr_some]
 have hlt : ∀ (R : List UInt8), R.length = R.length := fun _ => rfl
 refine loopP_ix (fun n _ W => ∃ pre R, I pre W ∧ W.heap[b]? = some (.cells #[.string (strOf R)] y_string (0, 0)) ∧ pieces L = pre ++ pieces R ∧ R.length ≤ 1099511627776 ∧ w1.heap.size ≤ W.heap.size ∧ n = R.length) L.length ⟨[], L, h0, hb1, by simp, hlen, Nat.le_refl _, rfl⟩ ?_
 rintro n _ W ⟨pre, R, hI, hbW, hpc, hRl, hsz, rfl⟩ K hK
 refine ld_h (s := .str) (t := strOf R) rfl hbW rfl ?_
 refine iteP_of (p := R ≠ []) (by rw [Bool.not_eq_true', ← Bool.not_eq_true, beqStr]) (fun hne => ?_) (fun he => ?_)
 ·refine ld_h (s := .str) (t := strOf R) rfl hbW rfl ?_
  refine callF_of (cut_c R hRl) ?_
  rintro e W2 ⟨p, r, bb, rfl, hh2, hcase⟩
  refine ⟨(strOf p, strOf r, bb), rfl, ?_⟩
  have hpr : pieces R = p :: pieces r ∧ r.length < R.length := by
   rcases hcase with ⟨h1, rfl, rfl⟩ | ⟨rfl, h2⟩
   ·refine ⟨by rw [pieces_last h1 hne]; rfl, ?_⟩
    cases p with
    | nil => exact absurd rfl hne
    | cons a p => simp
   ·exact ⟨pieces_sep h2, by simp; omega⟩
  have hx2 : Ext [] W.heap W2.heap := by rw [hh2]; exact .refl _ _
  have hI2 := hst _ _ _ hI (.new hsz hx2)
  have hb2 : W2.heap[b]? = some (.cells #[.string (strOf R)] y_string (0, 0)) := by rw [hh2]; exact hbW
  refine callV_yield ((hY pre p W2 ⟨pieces r, by rw [hpc, hpr.1]⟩ hI2).mono ?_)
  rintro e W3 ⟨hK3, ⟨rfl, hI3⟩ | ⟨rfl, hJ3⟩⟩
  ·refine ⟨true, rfl, ?_⟩
   refine iteP_f rfl ?_
   have hb3 := hK3.get hb2 hblt (fun h => (hMM _ h).2 (by simp))
   refine stC_h rfl hb3 (by simp) fun W4 hW4 => ?_
   have hx4 : Ext [b] W3.heap W4.heap := by rw [hW4]; exact Ext.set _ (by simp)
   refine hK _ _ _ hpr.2 ⟨pre ++ [p], r, hIA _ _ _ hI3 hx4, by rw [hW4]; exact set_new hb3, by rw [hpc, hpr.1]; simp, by omega, ?_, rfl⟩
   have := hx4.1; have := hK3.1; rw [hh2] at this; omega
  ·refine ⟨false, rfl, ?_⟩
   exact iteP_t rfl ⟨⟨_, rfl⟩, .inr hJ3⟩
 ·have he : R = [] := Classical.not_not.1 he
  subst he
  refine ⟨⟨_, rfl⟩, .inl ⟨pieces L, rfl, ?_⟩⟩
  rw [hpc]
  simpa [pieces] using hI
end Go.Proofs.YtbmegmbnlajbbaaGreatDoor
