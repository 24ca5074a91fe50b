/- Functions of the program as propositions; printed by wip/tools/fw.py, checked by the kernel. -/
import Derived.Test.YtbmegmbnlajbbaaGreatTa
namespace Go.Proofs.YtbmegmbnlajbbaaGreat
open Go Go.Fw Go.Proofs
set_option maxRecDepth 100000
def ann_upper_New : Ann := (.seq .leaf (.join [] (.seq .leaf (.cond (.seq .leaf .leaf) .leaf)) (.seq .leaf .leaf)))
theorem ok_upper_New : okC P qs Tryz.f6.ntmps ((Tryz.f6.body).getD .skip) ann_upper_New = true := by kernel_rfl
def T_upper_New (nodes : Int) (bytes : Int) (R : Ending → World → Prop) (w : World) : Prop :=
    joinP Unit (fun k =>
    iteP (decide (nodes < 0)) (
    R (.returned (Value.tuple #[(Value.pointer none), (Value.int .i64 1)])) w) (
    iteP (decide (nodes > 128)) (
    R (.returned (Value.tuple #[(Value.pointer none), (Value.int .i64 1)])) w) (
    iteP (decide (bytes < 0)) (
    R (.returned (Value.tuple #[(Value.pointer none), (Value.int .i64 1)])) w) (
    iteP (decide (bytes > 8192)) (
    R (.returned (Value.tuple #[(Value.pointer none), (Value.int .i64 1)])) w) (
    k () w))))) (fun _ w_1 =>
    genL P (Instr.makeMap y_M_string_api_Inode none) .map w_1 fun (t22 : (Option Nat)) w_2 =>
    genQ P (Instr.build y_upper_Upper #[(0, (Value.int .i64 nodes)), (1, (Value.int .i64 bytes)), (3, (Value.map t22))]) .any w_2 fun (t23 : Value) =>
    newB (Value.cells t23) y_upper_Upper w_2 fun b24 w_3 =>
    R (.returned (Value.tuple #[(Value.pointer (some (⟨b24, 0, none⟩ : Addr))), (Value.int .i64 0)])) w_3)
theorem eq_upper_New (nodes : Int) (bytes : Int) (R : Ending → World → Prop) (w : World) : tr P qs ((Tryz.f6.body).getD .skip) ann_upper_New (env0 0 [(0, (Value.int .i64 nodes)), (0, (Value.int .i64 bytes))]) (topK P Tryz.f6.results.toList R) w = T_upper_New nodes bytes R w := by kernel_rfl
/-- veneer/upper.New -/
theorem fn_upper_New {nodes : Int} {bytes : Int} {R : Ending → World → Prop} {w : World} (hT : T_upper_New nodes bytes R w) : CallF P F_upper_New #[(Value.int .i64 nodes), (Value.int .i64 bytes)] w R :=
  fn_of_tr (fn := Tryz.f6) (c := (Tryz.f6.body).getD .skip) (ann := ann_upper_New) (args := [(0, (Value.int .i64 nodes)), (0, (Value.int .i64 bytes))]) (qs := qs) mixed Tryz.func6 rfl (by kernel_rfl) (by kernel_rfl) ok_upper_New ((eq_upper_New nodes bytes R w).symm ▸ hT)
def ann_r12_New : Ann := (.seq .leaf (.join [] (.seq .leaf (.cond (.seq .leaf .leaf) .leaf)) (.seq .leaf .leaf)))
theorem ok_r12_New : okC P qs Tryz.f7.ntmps ((Tryz.f7.body).getD .skip) ann_r12_New = true := by kernel_rfl
def T_r12_New (nodes : Int) (bytes : Int) (R : Ending → World → Prop) (w : World) : Prop :=
    joinP Unit (fun k =>
    iteP (decide (nodes < 0)) (
    R (.returned (Value.tuple #[(Value.pointer none), (Value.int .i64 1)])) w) (
    iteP (decide (bytes < 0)) (
    R (.returned (Value.tuple #[(Value.pointer none), (Value.int .i64 1)])) w) (
    iteP (decide (nodes > 128)) (
    R (.returned (Value.tuple #[(Value.pointer none), (Value.int .i64 1)])) w) (
    iteP (decide (bytes > 8192)) (
    R (.returned (Value.tuple #[(Value.pointer none), (Value.int .i64 1)])) w) (
    k () w))))) (fun _ w_1 =>
    genQ P (Instr.build y_r12_Upper #[(0, (Value.int .i64 nodes)), (1, (Value.int .i64 bytes))]) .any w_1 fun (t22 : Value) =>
    newB (Value.cells t22) y_r12_Upper w_1 fun b23 w_2 =>
    R (.returned (Value.tuple #[(Value.pointer (some (⟨b23, 0, none⟩ : Addr))), (Value.int .i64 0)])) w_2)
theorem eq_r12_New (nodes : Int) (bytes : Int) (R : Ending → World → Prop) (w : World) : tr P qs ((Tryz.f7.body).getD .skip) ann_r12_New (env0 0 [(0, (Value.int .i64 nodes)), (0, (Value.int .i64 bytes))]) (topK P Tryz.f7.results.toList R) w = T_r12_New nodes bytes R w := by kernel_rfl
/-- veneer/veneerref12.New -/
theorem fn_r12_New {nodes : Int} {bytes : Int} {R : Ending → World → Prop} {w : World} (hT : T_r12_New nodes bytes R w) : CallF P F_r12_New #[(Value.int .i64 nodes), (Value.int .i64 bytes)] w R :=
  fn_of_tr (fn := Tryz.f7) (c := (Tryz.f7.body).getD .skip) (ann := ann_r12_New) (args := [(0, (Value.int .i64 nodes)), (0, (Value.int .i64 bytes))]) (qs := qs) mixed Tryz.func7 rfl (by kernel_rfl) (by kernel_rfl) ok_r12_New ((eq_r12_New nodes bytes R w).symm ▸ hT)
def ann_upper_Upper_Get : Ann := (.seq .leaf (.join [] (.seq .leaf (.cond (.seq .leaf .leaf) .leaf)) (.seq (.tree (.op 0 [] (.op 1 [] (.op 2 [] (.op 4 [] (.op 3 [] (.or (.op 5 [3] (.op 6 [] (.op 7 [] (.op 8 [] (.op 9 [] (.op 10 [3, 6] (.op 11 [] (.op 12 [] .done)))))))) (.op 10 [3] (.op 5 [3] (.op 6 [] (.op 7 [] (.op 8 [] (.op 9 [] (.op 11 [] (.op 12 [] .done))))))))))))))) (.seq .leaf .leaf))))
theorem ok_upper_Upper_Get : okC P qs Tryz.f47.ntmps ((Tryz.f47.body).getD .skip) ann_upper_Upper_Get = true := by kernel_rfl
def T_upper_Upper_Get (u : Option Addr) (names : Option Addr) (names_l names_c : Nat) (R : Ending → World → Prop) (w : World) : Prop :=
    newB (zc P y_api_Inode) y_api_Inode w fun b4 w_1 =>
    joinP Unit (fun k =>
    iteP (Option.isNone u) (
    genQ P (Instr.build y_api_Inode #[]) .any w_1 fun (t20 : Value) =>
    genU P (storeVar y_api_Inode (⟨b4, 0, none⟩ : Addr) t20) w_1 fun w_2 =>
    ldA P 4 (⟨b4, 0, none⟩ : Addr) w_2 fun t4 =>
    R (.returned (Value.tuple #[(Value.agg t4), (Value.bool false)])) w_2) (
    iteP ((names_l : Int) == 0) (
    genQ P (Instr.build y_api_Inode #[]) .any w_1 fun (t20_1 : Value) =>
    genU P (storeVar y_api_Inode (⟨b4, 0, none⟩ : Addr) t20_1) w_1 fun w_3 =>
    ldA P 4 (⟨b4, 0, none⟩ : Addr) w_3 fun t4_1 =>
    R (.returned (Value.tuple #[(Value.agg t4_1), (Value.bool false)])) w_3) (
    callF P F_vpath_Check #[(Value.slice names names_l names_c)] [.int .i64] false w_1 fun (t17 : Int) w_4 =>
    iteP (t17 != 0) (
    genQ P (Instr.build y_api_Inode #[]) .any w_4 fun (t20_2 : Value) =>
    genU P (storeVar y_api_Inode (⟨b4, 0, none⟩ : Addr) t20_2) w_4 fun w_5 =>
    ldA P 4 (⟨b4, 0, none⟩ : Addr) w_5 fun t4_2 =>
    R (.returned (Value.tuple #[(Value.agg t4_2), (Value.bool false)])) w_5) (
    k () w_4)))) (fun _ w_6 =>
    drewP w_6 fun w_7 =>
    withAddr u fun p =>
    ld .map (Addr.add p 3) w_7 fun (t25 : (Option Nat)) =>
    ((callF P F_vpath_Show #[(Value.slice names names_l names_c)] [.str] false w_7 fun (t27 : ByteArray) w_8 =>
    ((ld .map (Addr.add p 3) w_8 fun (t25_1 : (Option Nat)) =>
    (Value.map t25_1) = (Value.map t25)) ∧
    genT P (Instr.lookup y_M_string_api_Inode (Value.map t25) (Value.string t27) true) [.any, .bool] w_8 fun (t28 : (Value × Bool)) =>
    newB (zc P y_api_Inode) y_api_Inode w_8 fun b6 w_9 =>
    ((genT P (Instr.lookup y_M_string_api_Inode (Value.map t25) (Value.string t27) true) [.any, .bool] w_9 fun (t28_1 : (Value × Bool)) =>
    (Value.tuple #[t28_1.1, (Value.bool t28_1.2)]) = (Value.tuple #[t28.1, (Value.bool t28.2)])) ∧
    ((ld .map (Addr.add p 3) w_9 fun (t25_2 : (Option Nat)) =>
    (Value.map t25_2) = (Value.map t25)) ∧
    genU P (storeVar y_api_Inode (⟨b6, 0, none⟩ : Addr) t28.1) w_9 fun w_10 =>
    ldA P 4 (⟨b6, 0, none⟩ : Addr) w_10 fun t31 =>
    genU P (storeVar y_api_Inode (⟨b4, 0, none⟩ : Addr) (Value.agg t31)) w_10 fun w_11 =>
    ldA P 4 (⟨b4, 0, none⟩ : Addr) w_11 fun t4_3 =>
    R (.returned (Value.tuple #[(Value.agg t4_3), (Value.bool t28.2)])) w_11)))) ∧
    (newB (zc P y_api_Inode) y_api_Inode w_7 fun b6_1 w_12 =>
    ((ld .map (Addr.add p 3) w_12 fun (t25_3 : (Option Nat)) =>
    (Value.map t25_3) = (Value.map t25)) ∧
    callF P F_vpath_Show #[(Value.slice names names_l names_c)] [.str] false w_12 fun (t27_1 : ByteArray) w_13 =>
    ((ld .map (Addr.add p 3) w_13 fun (t25_4 : (Option Nat)) =>
    (Value.map t25_4) = (Value.map t25)) ∧
    genT P (Instr.lookup y_M_string_api_Inode (Value.map t25) (Value.string t27_1) true) [.any, .bool] w_13 fun (t28_2 : (Value × Bool)) =>
    genU P (storeVar y_api_Inode (⟨b6_1, 0, none⟩ : Addr) t28_2.1) w_13 fun w_14 =>
    ldA P 4 (⟨b6_1, 0, none⟩ : Addr) w_14 fun t31_1 =>
    genU P (storeVar y_api_Inode (⟨b4, 0, none⟩ : Addr) (Value.agg t31_1)) w_14 fun w_15 =>
    ldA P 4 (⟨b4, 0, none⟩ : Addr) w_15 fun t4_4 =>
    R (.returned (Value.tuple #[(Value.agg t4_4), (Value.bool t28_2.2)])) w_15)))))
theorem eq_upper_Upper_Get (u : Option Addr) (names : Option Addr) (names_l names_c : Nat) (R : Ending → World → Prop) (w : World) : tr P qs ((Tryz.f47.body).getD .skip) ann_upper_Upper_Get (env0 0 [(0, (Value.pointer u)), (0, (Value.slice names names_l names_c))]) (topK P Tryz.f47.results.toList R) w = T_upper_Upper_Get u names names_l names_c R w := by kernel_rfl
/-- (*veneer/upper.Upper).Get -/
theorem fn_upper_Upper_Get {u : Option Addr} {names : Option Addr} {names_l names_c : Nat} {R : Ending → World → Prop} {w : World} (hT : T_upper_Upper_Get u names names_l names_c R w) : CallF P F_upper_Upper_Get #[(Value.pointer u), (Value.slice names names_l names_c)] w R :=
  fn_of_tr (fn := Tryz.f47) (c := (Tryz.f47.body).getD .skip) (ann := ann_upper_Upper_Get) (args := [(0, (Value.pointer u)), (0, (Value.slice names names_l names_c))]) (qs := qs) mixed Tryz.func47 rfl (by kernel_rfl) (by kernel_rfl) ok_upper_Upper_Get ((eq_upper_Upper_Get u names names_l names_c R w).symm ▸ hT)
def ann_r12_Upper_Get : Ann := (.seq .leaf (.seq .leaf (.seq (.seq .leaf (.cond (.seq .leaf .leaf) .leaf)) (.seq .leaf .leaf))))
theorem ok_r12_Upper_Get : okC P qs Tryz.f51.ntmps ((Tryz.f51.body).getD .skip) ann_r12_Upper_Get = true := by kernel_rfl
def T_r12_Upper_Get (u : Option Addr) (p : Option Addr) (p_l p_c : Nat) (R : Ending → World → Prop) (w : World) : Prop :=
    newB (zc P y_api_Inode) y_api_Inode w fun b4 w_1 =>
    callF P F_r12_Upper_place #[(Value.pointer u), (Value.slice p p_l p_c)] [.int .i64] false w_1 fun (t9 : Int) w_2 =>
    iteP (decide (t9 < 0)) (
    genQ P (Instr.build y_api_Inode #[]) .any w_2 fun (t12 : Value) =>
    genU P (storeVar y_api_Inode (⟨b4, 0, none⟩ : Addr) t12) w_2 fun w_3 =>
    ldA P 4 (⟨b4, 0, none⟩ : Addr) w_3 fun t4 =>
    R (.returned (Value.tuple #[(Value.agg t4), (Value.bool false)])) w_3) (
    withAddr u fun p_1 =>
    ld .slc (Addr.add p_1 2) w_2 fun (t16 : (Option Addr × Nat × Nat)) =>
    ixS t16.1 t16.2.1 4 t9 fun t18 =>
    ldA P 4 t18 w_2 fun t19 =>
    genU P (storeVar y_api_Inode (⟨b4, 0, none⟩ : Addr) (Value.agg t19)) w_2 fun w_4 =>
    ldA P 4 (⟨b4, 0, none⟩ : Addr) w_4 fun t4_1 =>
    R (.returned (Value.tuple #[(Value.agg t4_1), (Value.bool true)])) w_4)
theorem eq_r12_Upper_Get (u : Option Addr) (p : Option Addr) (p_l p_c : Nat) (R : Ending → World → Prop) (w : World) : tr P qs ((Tryz.f51.body).getD .skip) ann_r12_Upper_Get (env0 0 [(0, (Value.pointer u)), (0, (Value.slice p p_l p_c))]) (topK P Tryz.f51.results.toList R) w = T_r12_Upper_Get u p p_l p_c R w := by kernel_rfl
/-- (*veneer/veneerref12.Upper).Get -/
theorem fn_r12_Upper_Get {u : Option Addr} {p : Option Addr} {p_l p_c : Nat} {R : Ending → World → Prop} {w : World} (hT : T_r12_Upper_Get u p p_l p_c R w) : CallF P F_r12_Upper_Get #[(Value.pointer u), (Value.slice p p_l p_c)] w R :=
  fn_of_tr (fn := Tryz.f51) (c := (Tryz.f51.body).getD .skip) (ann := ann_r12_Upper_Get) (args := [(0, (Value.pointer u)), (0, (Value.slice p p_l p_c))]) (qs := qs) mixed Tryz.func51 rfl (by kernel_rfl) (by kernel_rfl) ok_r12_Upper_Get ((eq_r12_Upper_Get u p p_l p_c R w).symm ▸ hT)
def ann_r12_Inodes : Ann := (.seq .leaf (.seq (.seq .leaf (.cond (.seq .leaf .leaf) .leaf)) (.seq (.seq .leaf (.blk (.loop [(5, .int .i64)] (.seq (.seq .leaf (.cond .leaf .leaf)) (.seq (.blk (.seq (.tree (.op 0 [] (.op 1 [] (.op 2 [] (.op 4 [] (.op 5 [] (.op 6 [] (.op 3 [] (.op 7 [] (.op 8 [] .done)))))))))) (.cond (.seq .leaf .leaf) .leaf))) .leaf))))) (.seq .leaf .leaf))))
theorem ok_r12_Inodes : okC P qs Tryz.f42.ntmps ((Tryz.f42.body).getD .skip) ann_r12_Inodes = true := by kernel_rfl
def T_r12_Inodes (a : Option Addr) (a_l a_c : Nat) (b : Option Addr) (b_l b_c : Nat) (R : Ending → World → Prop) (w : World) : Prop :=
    iteP ((a_l : Int) != (b_l : Int)) (
    R (.returned (Value.bool false)) w) (
    loopP Int (fun s w_1 k =>
    iteP (decide (s < (a_l : Int))) (
    drewP w_1 fun w_2 =>
    ixS a a_l 4 s fun t19 =>
    ixS b b_l 4 s fun t23 =>
    ldA P 4 t19 w_2 fun t20 =>
    ldA P 4 t23 w_2 fun t24 =>
    genQ P (eqM .neq y_api_Inode (.tmp 20) (.tmp 24) (Value.agg t20) (Value.agg t24)) .bool w_2 fun (t25 : Bool) =>
    iteP t25 (
    R (.returned (Value.bool false)) w_2) (
    addI .i64 s 1 fun t16 =>
    k t16 w_2)) (
    R (.returned (Value.bool true)) w_1)) 0 w)
theorem eq_r12_Inodes (a : Option Addr) (a_l a_c : Nat) (b : Option Addr) (b_l b_c : Nat) (R : Ending → World → Prop) (w : World) : tr P qs ((Tryz.f42.body).getD .skip) ann_r12_Inodes (env0 0 [(0, (Value.slice a a_l a_c)), (0, (Value.slice b b_l b_c))]) (topK P Tryz.f42.results.toList R) w = T_r12_Inodes a a_l a_c b b_l b_c R w := by kernel_rfl
/-- veneer/veneerref12.Inodes -/
theorem fn_r12_Inodes {a : Option Addr} {a_l a_c : Nat} {b : Option Addr} {b_l b_c : Nat} {R : Ending → World → Prop} {w : World} (hT : T_r12_Inodes a a_l a_c b b_l b_c R w) : CallF P F_r12_Inodes #[(Value.slice a a_l a_c), (Value.slice b b_l b_c)] w R :=
  fn_of_tr (fn := Tryz.f42) (c := (Tryz.f42.body).getD .skip) (ann := ann_r12_Inodes) (args := [(0, (Value.slice a a_l a_c)), (0, (Value.slice b b_l b_c))]) (qs := qs) mixed Tryz.func42 rfl (by kernel_rfl) (by kernel_rfl) ok_r12_Inodes ((eq_r12_Inodes a a_l a_c b b_l b_c R w).symm ▸ hT)
def ann_upper_Upper_Below : Ann := (.seq .leaf (.seq (.seq .leaf (.cond (.seq .leaf .leaf) .leaf)) (.seq .leaf (.seq (.seq .leaf (.blk (.loop [(5, .slc)] (.seq .leaf (.seq (.cond .leaf .leaf) (.jblk [(5, .slc)] (.seq .leaf (.seq .leaf (.seq .leaf (.cond .leaf .leaf)))))))))) (.seq .leaf (.seq .leaf .leaf))))))
theorem ok_upper_Upper_Below : okC P qs Tryz.f22.ntmps ((Tryz.f22.body).getD .skip) ann_upper_Upper_Below = true := by kernel_rfl
def T_upper_Upper_Below (u : Option Addr) (of : Option Addr) (of_l of_c : Nat) (R : Ending → World → Prop) (w : World) : Prop :=
    iteP (Option.isNone u) (
    R (.returned (Value.slice none 0 0)) w) (
    withAddr u fun p =>
    ld .map (Addr.add p 3) w fun (t14 : (Option Nat)) =>
    genL P (Instr.range y_M_string_api_Inode (Value.map t14)) .ptr w fun (t15 : (Option Addr)) w_1 =>
    loopP (Option Addr × Nat × Nat) (fun s w_2 k =>
    genL P (Instr.next (Value.pointer t15) false y_tuple_bcd8b0) .any w_2 fun (t16 : Value) w_3 =>
    exV t16 0 .bool fun (t17 : Bool) =>
    iteP t17 (
    joinP (Option Addr × Nat × Nat) (fun k_1 =>
    genQ P (Instr.entry (Value.pointer t15)) .any w_3 fun (t18 : Value) =>
    exV t18 0 .str fun (t19 : ByteArray) =>
    exV t18 1 .any fun (t20 : Value) =>
    newB (zc P y_api_Inode) y_api_Inode w_3 fun b7 w_4 =>
    genU P (storeVar y_api_Inode (⟨b7, 0, none⟩ : Addr) t20) w_4 fun w_5 =>
    callF P F_upper_names #[(Value.string t19)] [.slc] false w_5 fun (t22 : (Option Addr × Nat × Nat)) w_6 =>
    iteP (decide ((t22.2.1 : Int) > (of_l : Int))) (
    callF P F_vpath_Within #[(Value.slice t22.1 t22.2.1 t22.2.2), (Value.slice of of_l of_c)] [.bool] false w_6 fun (t31 : Bool) w_7 =>
    iteP t31 (
    ldA P 4 (⟨b7, 0, none⟩ : Addr) w_7 fun t34 =>
    genL P (Instr.buildSlice y_S_api_Inode 1 #[(0, (Value.agg t34))]) .slc w_7 fun (t35 : (Option Addr × Nat × Nat)) w_8 =>
    genL P (Builtin.append_ #[y_S_api_Inode, y_S_api_Inode] y_S_api_Inode #[(Value.slice s.1 s.2.1 s.2.2), (Value.slice t35.1 t35.2.1 t35.2.2)]) .slc w_8 fun (t36 : (Option Addr × Nat × Nat)) w_9 =>
    k_1 (t36.1, t36.2.1, t36.2.2) w_9) (
    k_1 (s.1, s.2.1, s.2.2) w_7)) (
    k_1 (s.1, s.2.1, s.2.2) w_6)) (fun s_1 w_10 =>
    k (s_1.1, s_1.2.1, s_1.2.2) w_10)) (
    callF P F_slices_SortFunc_S_api_Inode_api_Inode #[(Value.slice s.1 s.2.1 s.2.2), (Value.func (.func F_upper_Upper_Below_1) #[] #[])] [] true w_3 fun (_ : Unit) w_11 =>
    R (.returned (Value.slice s.1 s.2.1 s.2.2)) w_11)) (none, 0, 0) w_1)
theorem eq_upper_Upper_Below (u : Option Addr) (of : Option Addr) (of_l of_c : Nat) (R : Ending → World → Prop) (w : World) : tr P qs ((Tryz.f22.body).getD .skip) ann_upper_Upper_Below (env0 0 [(0, (Value.pointer u)), (0, (Value.slice of of_l of_c))]) (topK P Tryz.f22.results.toList R) w = T_upper_Upper_Below u of of_l of_c R w := by kernel_rfl
/-- (*veneer/upper.Upper).Below -/
theorem fn_upper_Upper_Below {u : Option Addr} {of : Option Addr} {of_l of_c : Nat} {R : Ending → World → Prop} {w : World} (hT : T_upper_Upper_Below u of of_l of_c R w) : CallF P F_upper_Upper_Below #[(Value.pointer u), (Value.slice of of_l of_c)] w R :=
  fn_of_tr (fn := Tryz.f22) (c := (Tryz.f22.body).getD .skip) (ann := ann_upper_Upper_Below) (args := [(0, (Value.pointer u)), (0, (Value.slice of of_l of_c))]) (qs := qs) mixed Tryz.func22 rfl (by kernel_rfl) (by kernel_rfl) ok_upper_Upper_Below ((eq_upper_Upper_Below u of of_l of_c R w).symm ▸ hT)
def ann_r12_Upper_Below : Ann := (.seq .leaf (.seq .leaf (.seq (.seq .leaf (.blk (.loop [(5, .slc), (6, .int .i64)] (.seq (.seq .leaf (.cond .leaf .leaf)) (.seq (.jblk [(5, .slc)] (.seq .leaf (.seq .leaf (.cond .leaf .leaf)))) .leaf))))) (.seq .leaf .leaf))))
theorem ok_r12_Upper_Below : okC P qs Tryz.f52.ntmps ((Tryz.f52.body).getD .skip) ann_r12_Upper_Below = true := by kernel_rfl
def T_r12_Upper_Below (u : Option Addr) (p : Option Addr) (p_l p_c : Nat) (R : Ending → World → Prop) (w : World) : Prop :=
    loopP ((Option Addr × Nat × Nat) × Int) (fun s w_1 k =>
    withAddr u fun p_1 =>
    ld .slc (Addr.add p_1 2) w_1 fun (t12 : (Option Addr × Nat × Nat)) =>
    iteP (decide (s.2 < (t12.2.1 : Int))) (
    joinP (Option Addr × Nat × Nat) (fun k_1 =>
    withAddr u fun p_2 =>
    ld .slc (Addr.add p_2 2) w_1 fun (t20 : (Option Addr × Nat × Nat)) =>
    ixS t20.1 t20.2.1 4 s.2 fun t22 =>
    ld .str t22 w_1 fun (t24 : ByteArray) =>
    callF P F_r07_Names #[(Value.string t24)] [.slc] false w_1 fun (t25 : (Option Addr × Nat × Nat)) w_2 =>
    iteP (decide ((t25.2.1 : Int) > (p_l : Int))) (
    callF P F_r04_Within #[(Value.slice t25.1 t25.2.1 t25.2.2), (Value.slice p p_l p_c)] [.bool] false w_2 fun (t34 : Bool) w_3 =>
    iteP t34 (
    withAddr u fun p_3 =>
    ld .slc (Addr.add p_3 2) w_3 fun (t40 : (Option Addr × Nat × Nat)) =>
    ixS t40.1 t40.2.1 4 s.2 fun t42 =>
    ldA P 4 t42 w_3 fun t43 =>
    genL P (Instr.buildSlice y_S_api_Inode 1 #[(0, (Value.agg t43))]) .slc w_3 fun (t44 : (Option Addr × Nat × Nat)) w_4 =>
    genL P (Builtin.append_ #[y_S_api_Inode, y_S_api_Inode] y_S_api_Inode #[(Value.slice s.1.1 s.1.2.1 s.1.2.2), (Value.slice t44.1 t44.2.1 t44.2.2)]) .slc w_4 fun (t45 : (Option Addr × Nat × Nat)) w_5 =>
    k_1 (t45.1, t45.2.1, t45.2.2) w_5) (
    k_1 (s.1.1, s.1.2.1, s.1.2.2) w_3)) (
    k_1 (s.1.1, s.1.2.1, s.1.2.2) w_2)) (fun s_1 w_6 =>
    addI .i64 s.2 1 fun t16 =>
    k ((s_1.1, s_1.2.1, s_1.2.2), t16) w_6)) (
    R (.returned (Value.slice s.1.1 s.1.2.1 s.1.2.2)) w_1)) ((none, 0, 0), 0) w
theorem eq_r12_Upper_Below (u : Option Addr) (p : Option Addr) (p_l p_c : Nat) (R : Ending → World → Prop) (w : World) : tr P qs ((Tryz.f52.body).getD .skip) ann_r12_Upper_Below (env0 0 [(0, (Value.pointer u)), (0, (Value.slice p p_l p_c))]) (topK P Tryz.f52.results.toList R) w = T_r12_Upper_Below u p p_l p_c R w := by kernel_rfl
/-- (*veneer/veneerref12.Upper).Below -/
theorem fn_r12_Upper_Below {u : Option Addr} {p : Option Addr} {p_l p_c : Nat} {R : Ending → World → Prop} {w : World} (hT : T_r12_Upper_Below u p p_l p_c R w) : CallF P F_r12_Upper_Below #[(Value.pointer u), (Value.slice p p_l p_c)] w R :=
  fn_of_tr (fn := Tryz.f52) (c := (Tryz.f52.body).getD .skip) (ann := ann_r12_Upper_Below) (args := [(0, (Value.pointer u)), (0, (Value.slice p p_l p_c))]) (qs := qs) mixed Tryz.func52 rfl (by kernel_rfl) (by kernel_rfl) ok_r12_Upper_Below ((eq_r12_Upper_Below u p p_l p_c R w).symm ▸ hT)
def ann_upper_Upper_Count : Ann := (.seq .leaf (.seq (.seq .leaf (.cond (.seq .leaf .leaf) .leaf)) (.seq .leaf .leaf)))
theorem ok_upper_Upper_Count : okC P qs Tryz.f15.ntmps ((Tryz.f15.body).getD .skip) ann_upper_Upper_Count = true := by kernel_rfl
def T_upper_Upper_Count (u : Option Addr) (R : Ending → World → Prop) (w : World) : Prop :=
    iteP (Option.isNone u) (
    R (.returned (Value.int .i64 0)) w) (
    withAddr u fun p =>
    ld .map (Addr.add p 3) w fun (t8 : (Option Nat)) =>
    genQ P (Builtin.len_ #[y_M_string_api_Inode] y_int #[(Value.map t8)]) (.int .i64) w fun (t9 : Int) =>
    R (.returned (Value.int .i64 t9)) w)
theorem eq_upper_Upper_Count (u : Option Addr) (R : Ending → World → Prop) (w : World) : tr P qs ((Tryz.f15.body).getD .skip) ann_upper_Upper_Count (env0 0 [(0, (Value.pointer u))]) (topK P Tryz.f15.results.toList R) w = T_upper_Upper_Count u R w := by kernel_rfl
/-- (*veneer/upper.Upper).Count -/
theorem fn_upper_Upper_Count {u : Option Addr} {R : Ending → World → Prop} {w : World} (hT : T_upper_Upper_Count u R w) : CallF P F_upper_Upper_Count #[(Value.pointer u)] w R :=
  fn_of_tr (fn := Tryz.f15) (c := (Tryz.f15.body).getD .skip) (ann := ann_upper_Upper_Count) (args := [(0, (Value.pointer u))]) (qs := qs) mixed Tryz.func15 rfl (by kernel_rfl) (by kernel_rfl) ok_upper_Upper_Count ((eq_upper_Upper_Count u R w).symm ▸ hT)
def ann_upper_Upper_Drop : Ann := (.seq .leaf (.seq .leaf (.join [(5, .slc)] (.seq .leaf (.seq .leaf (.cond .leaf .leaf))) (.seq (.seq .leaf (.blk (.loop [(26, .int .i64)] (.seq .leaf (.seq (.cond .leaf .leaf) (.seq (.blk (.seq .leaf (.seq (.tree (.op 0 [] (.op 1 [] (.op 2 [] (.op 4 [] (.op 3 [] (.op 5 [] (.op 6 [] (.op 7 [] (.op 8 [] (.op 9 [] (.op 10 [] .done)))))))))))) (.tree (.op 0 [] (.op 1 [] (.op 2 [] (.op 4 [] (.op 3 [] (.op 5 [] (.op 6 [] .done))))))))))) .leaf)))))) (.seq .leaf .leaf)))))
theorem ok_upper_Upper_Drop : okC P qs Tryz.f18.ntmps ((Tryz.f18.body).getD .skip) ann_upper_Upper_Drop = true := by kernel_rfl
def T_upper_Upper_Drop (u : Option Addr) (names : Option Addr) (names_l names_c : Nat) (R : Ending → World → Prop) (w : World) : Prop :=
    callF P F_upper_Upper_Below #[(Value.pointer u), (Value.slice names names_l names_c)] [.slc] false w fun (t12 : (Option Addr × Nat × Nat)) w_1 =>
    joinP (Option Addr × Nat × Nat) (fun k =>
    callF P F_upper_Upper_Get #[(Value.pointer u), (Value.slice names names_l names_c)] [.any, .bool] true w_1 fun (t16 : (Value × Bool)) w_2 =>
    newB (zc P y_api_Inode) y_api_Inode w_2 fun b6 w_3 =>
    genU P (storeVar y_api_Inode (⟨b6, 0, none⟩ : Addr) t16.1) w_3 fun w_4 =>
    iteP t16.2 (
    ldA P 4 (⟨b6, 0, none⟩ : Addr) w_4 fun t21 =>
    genL P (Instr.buildSlice y_S_api_Inode 1 #[(0, (Value.agg t21))]) .slc w_4 fun (t22 : (Option Addr × Nat × Nat)) w_5 =>
    genL P (Builtin.append_ #[y_S_api_Inode, y_S_api_Inode] y_S_api_Inode #[(Value.slice t12.1 t12.2.1 t12.2.2), (Value.slice t22.1 t22.2.1 t22.2.2)]) .slc w_5 fun (t23 : (Option Addr × Nat × Nat)) w_6 =>
    k (t23.1, t23.2.1, t23.2.2) w_6) (
    k (t12.1, t12.2.1, t12.2.2) w_4)) (fun s w_7 =>
    loopP Int (fun s_1 w_8 k_1 =>
    iteP (decide (s_1 < (s.2.1 : Int))) (
    ixS s.1 s.2.1 4 s_1 fun t28 =>
    ldA P 4 t28 w_8 fun t29 =>
    newB (zc P y_api_Inode) y_api_Inode w_8 fun b9 w_9 =>
    genU P (storeVar y_api_Inode (⟨b9, 0, none⟩ : Addr) (Value.agg t29)) w_9 fun w_10 =>
    drewP w_10 fun w_11 =>
    withAddr u fun p =>
    ld (.int .i64) (Addr.add p 2) w_11 fun (t33 : Int) =>
    ld .str (⟨b9, 3, none⟩ : Addr) w_11 fun (t35 : ByteArray) =>
    subI .i64 t33 (t35.size : Int) fun t37 =>
    withAddr u fun p_1 =>
    stC (Addr.add p_1 2) (Value.int .i64 t37) w_11 fun w_12 =>
    drewP w_12 fun w_13 =>
    withAddr u fun p_2 =>
    ld .map (Addr.add p_2 3) w_13 fun (t43 : (Option Nat)) =>
    ld .str (⟨b9, 0, none⟩ : Addr) w_13 fun (t45 : ByteArray) =>
    genL P (Builtin.delete_ #[y_M_string_api_Inode, y_string] y_tuple_bcd8b0 #[(Value.map t43), (Value.string t45)]) .any w_13 fun (_ : Value) w_14 =>
    addI .i64 s_1 1 fun t46 =>
    k_1 t46 w_14) (
    R (.returned (Value.int .i64 (s.2.1 : Int))) w_8)) 0 w_7)
theorem eq_upper_Upper_Drop (u : Option Addr) (names : Option Addr) (names_l names_c : Nat) (R : Ending → World → Prop) (w : World) : tr P qs ((Tryz.f18.body).getD .skip) ann_upper_Upper_Drop (env0 0 [(0, (Value.pointer u)), (0, (Value.slice names names_l names_c))]) (topK P Tryz.f18.results.toList R) w = T_upper_Upper_Drop u names names_l names_c R w := by kernel_rfl
/-- (*veneer/upper.Upper).Drop -/
theorem fn_upper_Upper_Drop {u : Option Addr} {names : Option Addr} {names_l names_c : Nat} {R : Ending → World → Prop} {w : World} (hT : T_upper_Upper_Drop u names names_l names_c R w) : CallF P F_upper_Upper_Drop #[(Value.pointer u), (Value.slice names names_l names_c)] w R :=
  fn_of_tr (fn := Tryz.f18) (c := (Tryz.f18.body).getD .skip) (ann := ann_upper_Upper_Drop) (args := [(0, (Value.pointer u)), (0, (Value.slice names names_l names_c))]) (qs := qs) mixed Tryz.func18 rfl (by kernel_rfl) (by kernel_rfl) ok_upper_Upper_Drop ((eq_upper_Upper_Drop u names names_l names_c R w).symm ▸ hT)
def ann_upper_Upper_Size : Ann := (.seq .leaf (.seq (.seq .leaf (.cond (.seq .leaf .leaf) .leaf)) (.seq .leaf .leaf)))
theorem ok_upper_Upper_Size : okC P qs Tryz.f16.ntmps ((Tryz.f16.body).getD .skip) ann_upper_Upper_Size = true := by kernel_rfl
def T_upper_Upper_Size (u : Option Addr) (R : Ending → World → Prop) (w : World) : Prop :=
    iteP (Option.isNone u) (
    R (.returned (Value.int .i64 0)) w) (
    withAddr u fun p =>
    ld (.int .i64) (Addr.add p 2) w fun (t8 : Int) =>
    R (.returned (Value.int .i64 t8)) w)
theorem eq_upper_Upper_Size (u : Option Addr) (R : Ending → World → Prop) (w : World) : tr P qs ((Tryz.f16.body).getD .skip) ann_upper_Upper_Size (env0 0 [(0, (Value.pointer u))]) (topK P Tryz.f16.results.toList R) w = T_upper_Upper_Size u R w := by kernel_rfl
/-- (*veneer/upper.Upper).Size -/
theorem fn_upper_Upper_Size {u : Option Addr} {R : Ending → World → Prop} {w : World} (hT : T_upper_Upper_Size u R w) : CallF P F_upper_Upper_Size #[(Value.pointer u)] w R :=
  fn_of_tr (fn := Tryz.f16) (c := (Tryz.f16.body).getD .skip) (ann := ann_upper_Upper_Size) (args := [(0, (Value.pointer u))]) (qs := qs) mixed Tryz.func16 rfl (by kernel_rfl) (by kernel_rfl) ok_upper_Upper_Size ((eq_upper_Upper_Size u R w).symm ▸ hT)
def ann_upper_Upper_Put : Ann := (.seq .leaf (.seq (.seq .leaf (.cond (.seq .leaf .leaf) .leaf)) (.seq .leaf (.seq (.seq .leaf (.cond (.seq .leaf .leaf) .leaf)) (.seq (.seq .leaf (.cond (.seq .leaf .leaf) .leaf)) (.seq (.seq .leaf (.seq .leaf (.cond (.seq .leaf .leaf) .leaf))) (.join [] (.seq .leaf (.seq .leaf (.cond (.seq .leaf (.blk (.seq .leaf (.cond (.seq .leaf .leaf) (.seq .leaf (.cond (.seq .leaf .leaf) .leaf)))))) .leaf))) (.seq .leaf (.seq (.tree (.op 0 [] (.op 1 [] (.op 2 [] (.op 4 [] (.op 3 [] (.op 5 [] (.op 6 [] (.op 7 [] (.op 8 [] (.op 9 [] (.op 10 [3, 5, 6] (.op 11 [] (.op 12 [] .done)))))))))))))) (.join [] (.jblk [] (.seq .leaf (.cond (.seq .leaf .leaf) (.seq .leaf (.cond (.seq .leaf .leaf) .leaf))))) (.seq (.tree (.op 0 [] (.op 1 [] (.op 2 [] (.op 4 [] (.op 7 [] (.op 3 [] (.op 5 [] (.op 6 [] (.op 8 [] (.op 9 [] (.op 10 [] (.op 11 [] (.op 12 [] (.op 13 [] (.op 14 [] .done)))))))))))))))) (.seq (.tree (.op 0 [] (.op 1 [] (.op 2 [] (.op 4 [] (.op 3 [] (.op 5 [] (.op 6 [] (.op 7 [] .done))))))))) (.seq .leaf .leaf)))))))))))))
theorem ok_upper_Upper_Put : okC P qs Tryz.f14.ntmps ((Tryz.f14.body).getD .skip) ann_upper_Upper_Put = true := by kernel_rfl
def T_upper_Upper_Put (u : Option Addr) (i : Value) (R : Ending → World → Prop) (w : World) : Prop :=
    newB (Value.cells i) y_api_Inode w fun b3 w_1 =>
    iteP (Option.isNone u) (
    R (.returned (Value.int .i64 7)) w_1) (
    ld .str (⟨b3, 0, none⟩ : Addr) w_1 fun (t17 : ByteArray) =>
    callF P F_vpath_Parse #[(Value.string t17)] [.slc, .int .i64] true w_1 fun (t18 : ((Option Addr × Nat × Nat) × Int)) w_2 =>
    iteP (t18.2 != 0) (
    R (.returned (Value.int .i64 t18.2)) w_2) (
    iteP ((t18.1.2.1 : Int) == 0) (
    R (.returned (Value.int .i64 132)) w_2) (
    ldA P 4 (⟨b3, 0, none⟩ : Addr) w_2 fun t27 =>
    callF P F_upper_form #[(Value.agg t27)] [.int .i64] false w_2 fun (t28 : Int) w_3 =>
    iteP (t28 != 0) (
    R (.returned (Value.int .i64 t28)) w_3) (
    joinP Unit (fun k =>
    subI .i64 (t18.1.2.1 : Int) 1 fun t35 =>
    genQ P (Instr.sliceAt y_S_string (Value.slice t18.1.1 t18.1.2.1 t18.1.2.2) none (some (Value.int .i64 t35)) none) .slc w_3 fun (t36 : (Option Addr × Nat × Nat)) =>
    iteP (decide ((t36.2.1 : Int) > 0)) (
    callF P F_upper_Upper_Get #[(Value.pointer u), (Value.slice t36.1 t36.2.1 t36.2.2)] [.any, .bool] true w_3 fun (t43 : (Value × Bool)) w_4 =>
    newB (zc P y_api_Inode) y_api_Inode w_4 fun b9 w_5 =>
    genU P (storeVar y_api_Inode (⟨b9, 0, none⟩ : Addr) t43.1) w_5 fun w_6 =>
    iteP (!t43.2) (
    R (.returned (Value.int .i64 4)) w_6) (
    ld (.int .i64) (⟨b9, 1, none⟩ : Addr) w_6 fun (t51 : Int) =>
    iteP (t51 != 2) (
    R (.returned (Value.int .i64 70)) w_6) (
    k () w_6))) (
    k () w_3)) (fun _ w_7 =>
    callF P F_vpath_Show #[(Value.slice t18.1.1 t18.1.2.1 t18.1.2.2)] [.str] false w_7 fun (t54 : ByteArray) w_8 =>
    stC (⟨b3, 0, none⟩ : Addr) (Value.string t54) w_8 fun w_9 =>
    drewP w_9 fun w_10 =>
    withAddr u fun p =>
    ld .map (Addr.add p 3) w_10 fun (t60 : (Option Nat)) =>
    ld .str (⟨b3, 0, none⟩ : Addr) w_10 fun (t62 : ByteArray) =>
    genT P (Instr.lookup y_M_string_api_Inode (Value.map t60) (Value.string t62) true) [.any, .bool] w_10 fun (t63 : (Value × Bool)) =>
    newB (zc P y_api_Inode) y_api_Inode w_10 fun b11 w_11 =>
    ((genT P (Instr.lookup y_M_string_api_Inode (Value.map t60) (Value.string t62) true) [.any, .bool] w_11 fun (t63_1 : (Value × Bool)) =>
    (Value.tuple #[t63_1.1, (Value.bool t63_1.2)]) = (Value.tuple #[t63.1, (Value.bool t63.2)])) ∧
    ((ld .str (⟨b3, 0, none⟩ : Addr) w_11 fun (t62_1 : ByteArray) =>
    (Value.string t62_1) = (Value.string t62)) ∧
    ((ld .map (Addr.add p 3) w_11 fun (t60_1 : (Option Nat)) =>
    (Value.map t60_1) = (Value.map t60)) ∧
    genU P (storeVar y_api_Inode (⟨b11, 0, none⟩ : Addr) t63.1) w_11 fun w_12 =>
    joinP Unit (fun k_1 =>
    joinP Unit (fun k_2 =>
    ld (.int .i64) (⟨b3, 1, none⟩ : Addr) w_12 fun (t68 : Int) =>
    iteP (t68 != 2) (
    callF P F_upper_Upper_Below #[(Value.pointer u), (Value.slice t18.1.1 t18.1.2.1 t18.1.2.2)] [.slc] false w_12 fun (t73 : (Option Addr × Nat × Nat)) w_13 =>
    iteP (decide ((t73.2.1 : Int) > 0)) (
    R (.returned (Value.int .i64 130)) w_13) (
    iteP (!t63.2) (
    withAddr u fun p_1 =>
    ld .map (Addr.add p_1 3) w_13 fun (t84 : (Option Nat)) =>
    genQ P (Builtin.len_ #[y_M_string_api_Inode] y_int #[(Value.map t84)]) (.int .i64) w_13 fun (t85 : Int) =>
    iteP (t85 == 1024) (
    R (.returned (Value.int .i64 8)) w_13) (
    k_2 () w_13)) (
    k_2 () w_13))) (
    iteP (!t63.2) (
    withAddr u fun p_2 =>
    ld .map (Addr.add p_2 3) w_12 fun (t84_1 : (Option Nat)) =>
    genQ P (Builtin.len_ #[y_M_string_api_Inode] y_int #[(Value.map t84_1)]) (.int .i64) w_12 fun (t85_1 : Int) =>
    iteP (t85_1 == 1024) (
    R (.returned (Value.int .i64 8)) w_12) (
    k_2 () w_12)) (
    k_2 () w_12))) (fun _ w_14 =>
    k_1 () w_14)) (fun _ w_15 =>
    drewP w_15 fun w_16 =>
    withAddr u fun p_3 =>
    ld (.int .i64) (Addr.add p_3 2) w_16 fun (t91 : Int) =>
    ld .str (⟨b3, 3, none⟩ : Addr) w_16 fun (t93 : ByteArray) =>
    ld .str (⟨b11, 3, none⟩ : Addr) w_16 fun (t96 : ByteArray) =>
    subI .i64 (t93.size : Int) (t96.size : Int) fun t98 =>
    addI .i64 t91 t98 fun t99 =>
    withAddr u fun p_4 =>
    stC (Addr.add p_4 2) (Value.int .i64 t99) w_16 fun w_17 =>
    drewP w_17 fun w_18 =>
    withAddr u fun p_5 =>
    ld .map (Addr.add p_5 3) w_18 fun (t105 : (Option Nat)) =>
    ld .str (⟨b3, 0, none⟩ : Addr) w_18 fun (t107 : ByteArray) =>
    ldA P 4 (⟨b3, 0, none⟩ : Addr) w_18 fun t108 =>
    genU P (Instr.mapUpdate y_M_string_api_Inode (Value.map t105) (Value.string t107) (Value.agg t108)) w_18 fun w_19 =>
    R (.returned (Value.int .i64 0)) w_19)))))))))
theorem eq_upper_Upper_Put (u : Option Addr) (i : Value) (R : Ending → World → Prop) (w : World) : tr P qs ((Tryz.f14.body).getD .skip) ann_upper_Upper_Put (env0 0 [(0, (Value.pointer u)), (1, i)]) (topK P Tryz.f14.results.toList R) w = T_upper_Upper_Put u i R w := by kernel_rfl
/-- (*veneer/upper.Upper).Put -/
theorem fn_upper_Upper_Put {u : Option Addr} {i : Value} {R : Ending → World → Prop} {w : World} (hT : T_upper_Upper_Put u i R w) : CallF P F_upper_Upper_Put #[(Value.pointer u), i] w R :=
  fn_of_tr (fn := Tryz.f14) (c := (Tryz.f14.body).getD .skip) (ann := ann_upper_Upper_Put) (args := [(0, (Value.pointer u)), (1, i)]) (qs := qs) mixed Tryz.func14 rfl (by kernel_rfl) (by kernel_rfl) ok_upper_Upper_Put ((eq_upper_Upper_Put u i R w).symm ▸ hT)
def ann_upper_Upper_Over : Ann := (.seq .leaf (.seq (.tree (.op 0 [] (.op 1 [] (.op 2 [] (.op 3 [] (.op 4 [] (.op 5 [] (.op 8 [] (.op 9 [] (.op 10 [] (.op 6 [] (.op 7 [] (.op 11 [] (.op 12 [] (.op 13 [] (.op 14 [] (.op 15 [] (.op 16 [] (.op 18 [] (.op 19 [] (.op 20 [] (.op 17 [] (.op 21 [] (.op 22 [] (.op 23 [] (.op 24 [] (.op 25 [] .done))))))))))))))))))))))))))) .leaf))
theorem ok_upper_Upper_Over : okC P qs Tryz.f17.ntmps ((Tryz.f17.body).getD .skip) ann_upper_Upper_Over = true := by kernel_rfl
def T_upper_Upper_Over (u : Option Addr) (R : Ending → World → Prop) (w : World) : Prop :=
    drewP w fun w_1 =>
    iteP (!(Option.isNone u)) (
    withAddr u fun p =>
    withAddr u fun p_1 =>
    ld .map (Addr.add p 3) w_1 fun (t9 : (Option Nat)) =>
    genQ P (Builtin.len_ #[y_M_string_api_Inode] y_int #[(Value.map t9)]) (.int .i64) w_1 fun (t10 : Int) =>
    ld (.int .i64) p_1 w_1 fun (t14 : Int) =>
    iteP (decide (t10 > t14)) (
    R (.returned (Value.bool true)) w_1) (
    withAddr u fun p_2 =>
    withAddr u fun p_3 =>
    ld (.int .i64) (Addr.add p_2 2) w_1 fun (t20 : Int) =>
    ld (.int .i64) (Addr.add p_3 1) w_1 fun (t24 : Int) =>
    R (.returned (Value.bool (decide (t20 > t24)))) w_1)) (
    R (.returned (Value.bool false)) w_1)
theorem eq_upper_Upper_Over (u : Option Addr) (R : Ending → World → Prop) (w : World) : tr P qs ((Tryz.f17.body).getD .skip) ann_upper_Upper_Over (env0 0 [(0, (Value.pointer u))]) (topK P Tryz.f17.results.toList R) w = T_upper_Upper_Over u R w := by kernel_rfl
/-- (*veneer/upper.Upper).Over -/
theorem fn_upper_Upper_Over {u : Option Addr} {R : Ending → World → Prop} {w : World} (hT : T_upper_Upper_Over u R w) : CallF P F_upper_Upper_Over #[(Value.pointer u)] w R :=
  fn_of_tr (fn := Tryz.f17) (c := (Tryz.f17.body).getD .skip) (ann := ann_upper_Upper_Over) (args := [(0, (Value.pointer u))]) (qs := qs) mixed Tryz.func17 rfl (by kernel_rfl) (by kernel_rfl) ok_upper_Upper_Over ((eq_upper_Upper_Over u R w).symm ▸ hT)
def ann_r12_Upper_Drop : Ann := (.seq .leaf (.seq .leaf (.seq (.seq .leaf (.blk (.loop [(5, .slc), (6, .int .i64)] (.seq (.seq .leaf (.cond .leaf .leaf)) (.seq (.jblk [(5, .slc)] (.seq .leaf (.cond .leaf .leaf))) .leaf))))) (.seq .leaf (.seq .leaf (.seq .leaf .leaf))))))
theorem ok_r12_Upper_Drop : okC P qs Tryz.f19.ntmps ((Tryz.f19.body).getD .skip) ann_r12_Upper_Drop = true := by kernel_rfl
def T_r12_Upper_Drop (u : Option Addr) (p : Option Addr) (p_l p_c : Nat) (R : Ending → World → Prop) (w : World) : Prop :=
    loopP ((Option Addr × Nat × Nat) × Int) (fun s w_1 k =>
    withAddr u fun p_1 =>
    ld .slc (Addr.add p_1 2) w_1 fun (t12 : (Option Addr × Nat × Nat)) =>
    iteP (decide (s.2 < (t12.2.1 : Int))) (
    joinP (Option Addr × Nat × Nat) (fun k_1 =>
    withAddr u fun p_2 =>
    ld .slc (Addr.add p_2 2) w_1 fun (t20 : (Option Addr × Nat × Nat)) =>
    ixS t20.1 t20.2.1 4 s.2 fun t22 =>
    ld .str t22 w_1 fun (t24 : ByteArray) =>
    callF P F_r07_Names #[(Value.string t24)] [.slc] false w_1 fun (t25 : (Option Addr × Nat × Nat)) w_2 =>
    callF P F_r04_Within #[(Value.slice t25.1 t25.2.1 t25.2.2), (Value.slice p p_l p_c)] [.bool] false w_2 fun (t27 : Bool) w_3 =>
    iteP (!t27) (
    withAddr u fun p_3 =>
    ld .slc (Addr.add p_3 2) w_3 fun (t33 : (Option Addr × Nat × Nat)) =>
    ixS t33.1 t33.2.1 4 s.2 fun t35 =>
    ldA P 4 t35 w_3 fun t36 =>
    genL P (Instr.buildSlice y_S_api_Inode 1 #[(0, (Value.agg t36))]) .slc w_3 fun (t37 : (Option Addr × Nat × Nat)) w_4 =>
    genL P (Builtin.append_ #[y_S_api_Inode, y_S_api_Inode] y_S_api_Inode #[(Value.slice s.1.1 s.1.2.1 s.1.2.2), (Value.slice t37.1 t37.2.1 t37.2.2)]) .slc w_4 fun (t38 : (Option Addr × Nat × Nat)) w_5 =>
    k_1 (t38.1, t38.2.1, t38.2.2) w_5) (
    k_1 (s.1.1, s.1.2.1, s.1.2.2) w_3)) (fun s_1 w_6 =>
    addI .i64 s.2 1 fun t16 =>
    k ((s_1.1, s_1.2.1, s_1.2.2), t16) w_6)) (
    withAddr u fun p_4 =>
    ld .slc (Addr.add p_4 2) w_1 fun (t42 : (Option Addr × Nat × Nat)) =>
    subI .i64 (t42.2.1 : Int) (s.1.2.1 : Int) fun t46 =>
    withAddr u fun p_5 =>
    stC (Addr.add p_5 2) (Value.slice s.1.1 s.1.2.1 s.1.2.2) w_1 fun w_7 =>
    R (.returned (Value.int .i64 t46)) w_7)) ((none, 0, 0), 0) w
theorem eq_r12_Upper_Drop (u : Option Addr) (p : Option Addr) (p_l p_c : Nat) (R : Ending → World → Prop) (w : World) : tr P qs ((Tryz.f19.body).getD .skip) ann_r12_Upper_Drop (env0 0 [(0, (Value.pointer u)), (0, (Value.slice p p_l p_c))]) (topK P Tryz.f19.results.toList R) w = T_r12_Upper_Drop u p p_l p_c R w := by kernel_rfl
/-- (*veneer/veneerref12.Upper).Drop -/
theorem fn_r12_Upper_Drop {u : Option Addr} {p : Option Addr} {p_l p_c : Nat} {R : Ending → World → Prop} {w : World} (hT : T_r12_Upper_Drop u p p_l p_c R w) : CallF P F_r12_Upper_Drop #[(Value.pointer u), (Value.slice p p_l p_c)] w R :=
  fn_of_tr (fn := Tryz.f19) (c := (Tryz.f19.body).getD .skip) (ann := ann_r12_Upper_Drop) (args := [(0, (Value.pointer u)), (0, (Value.slice p p_l p_c))]) (qs := qs) mixed Tryz.func19 rfl (by kernel_rfl) (by kernel_rfl) ok_r12_Upper_Drop ((eq_r12_Upper_Drop u p p_l p_c R w).symm ▸ hT)
def ann_r12_Upper_Put : Ann := (.seq .leaf (.seq .leaf (.seq (.seq .leaf (.cond (.seq .leaf .leaf) .leaf)) (.seq (.seq .leaf (.cond (.seq .leaf .leaf) .leaf)) (.join [] (.seq .leaf (.cond (.seq .leaf .leaf) .leaf)) (.join [] (.seq .leaf (.cond (.seq .leaf .leaf) .leaf)) (.seq (.seq .leaf (.cond (.seq .leaf .leaf) .leaf)) (.join [] (.seq .leaf (.cond (.seq .leaf (.seq (.seq .leaf (.cond (.seq .leaf .leaf) .leaf)) (.seq .leaf (.cond (.seq .leaf .leaf) .leaf)))) .leaf)) (.join [] (.seq .leaf (.cond (.seq .leaf .leaf) .leaf)) (.seq .leaf (.seq .leaf (.join [] (.seq .leaf (.cond (.seq .leaf .leaf) .leaf)) (.seq .leaf (.seq (.seq .leaf (.cond (.seq .leaf (.seq .leaf (.seq .leaf .leaf))) .leaf)) (.seq .leaf (.seq (.jblk [(9, .int .i64)] (.loop [(9, .int .i64)] (.join [] (.seq .leaf (.cond .leaf .leaf)) (.blk .leaf)))) (.seq .leaf (.seq .leaf (.seq .leaf (.seq .leaf .leaf))))))))))))))))))))
theorem ok_r12_Upper_Put : okC P qs Tryz.f20.ntmps ((Tryz.f20.body).getD .skip) ann_r12_Upper_Put = true := by kernel_rfl
def T_r12_Upper_Put (u : Option Addr) (i : Value) (R : Ending → World → Prop) (w : World) : Prop :=
    newB (Value.cells i) y_api_Inode w fun b3 w_1 =>
    ld .str (⟨b3, 0, none⟩ : Addr) w_1 fun (t14 : ByteArray) =>
    callF P F_r04_Parse #[(Value.string t14)] [.slc, .int .i64] true w_1 fun (t15 : ((Option Addr × Nat × Nat) × Int)) w_2 =>
    iteP (t15.2 != 0) (
    R (.returned (Value.int .i64 t15.2)) w_2) (
    iteP ((t15.1.2.1 : Int) == 0) (
    R (.returned (Value.int .i64 132)) w_2) (
    joinP Unit (fun k =>
    ld (.int .i64) (⟨b3, 1, none⟩ : Addr) w_2 fun (t25 : Int) =>
    iteP (decide (t25 < 1)) (
    R (.returned (Value.int .i64 100)) w_2) (
    ld (.int .i64) (⟨b3, 1, none⟩ : Addr) w_2 fun (t29 : Int) =>
    iteP (decide (t29 > 3)) (
    R (.returned (Value.int .i64 100)) w_2) (
    k () w_2))) (fun _ w_3 =>
    joinP Unit (fun k_1 =>
    ld .str (⟨b3, 3, none⟩ : Addr) w_3 fun (t33 : ByteArray) =>
    iteP (!(t33.toList == (ByteArray.mk #[]).toList)) (
    ld (.int .i64) (⟨b3, 1, none⟩ : Addr) w_3 fun (t37 : Int) =>
    iteP (t37 != 1) (
    R (.returned (Value.int .i64 1)) w_3) (
    ld .bool (⟨b3, 2, none⟩ : Addr) w_3 fun (t42 : Bool) =>
    iteP t42 (
    ld (.int .i64) (⟨b3, 1, none⟩ : Addr) w_3 fun (t45 : Int) =>
    iteP (t45 != 2) (
    R (.returned (Value.int .i64 1)) w_3) (
    k_1 () w_3)) (
    k_1 () w_3))) (
    ld .bool (⟨b3, 2, none⟩ : Addr) w_3 fun (t42_1 : Bool) =>
    iteP t42_1 (
    ld (.int .i64) (⟨b3, 1, none⟩ : Addr) w_3 fun (t45_1 : Int) =>
    iteP (t45_1 != 2) (
    R (.returned (Value.int .i64 1)) w_3) (
    k_1 () w_3)) (
    k_1 () w_3))) (fun _ w_4 =>
    ld .str (⟨b3, 3, none⟩ : Addr) w_4 fun (t50 : ByteArray) =>
    iteP (decide ((t50.size : Int) > 1024)) (
    R (.returned (Value.int .i64 134)) w_4) (
    joinP Unit (fun k_2 =>
    iteP (decide ((t15.1.2.1 : Int) > 1)) (
    subI .i64 (t15.1.2.1 : Int) 1 fun t61 =>
    genQ P (Instr.sliceAt y_S_string (Value.slice t15.1.1 t15.1.2.1 t15.1.2.2) none (some (Value.int .i64 t61)) none) .slc w_4 fun (t62 : (Option Addr × Nat × Nat)) =>
    callF P F_r12_Upper_Get #[(Value.pointer u), (Value.slice t62.1 t62.2.1 t62.2.2)] [.any, .bool] true w_4 fun (t63 : (Value × Bool)) w_5 =>
    newB (zc P y_api_Inode) y_api_Inode w_5 fun b7 w_6 =>
    genU P (storeVar y_api_Inode (⟨b7, 0, none⟩ : Addr) t63.1) w_6 fun w_7 =>
    iteP (!t63.2) (
    R (.returned (Value.int .i64 4)) w_7) (
    ld (.int .i64) (⟨b7, 1, none⟩ : Addr) w_7 fun (t69 : Int) =>
    iteP (t69 != 2) (
    R (.returned (Value.int .i64 70)) w_7) (
    k_2 () w_7))) (
    k_2 () w_4)) (fun _ w_8 =>
    joinP Unit (fun k_3 =>
    ld (.int .i64) (⟨b3, 1, none⟩ : Addr) w_8 fun (t72 : Int) =>
    iteP (t72 != 2) (
    callF P F_r12_Upper_Below #[(Value.pointer u), (Value.slice t15.1.1 t15.1.2.1 t15.1.2.2)] [.slc] false w_8 fun (t77 : (Option Addr × Nat × Nat)) w_9 =>
    iteP (decide ((t77.2.1 : Int) > 0)) (
    R (.returned (Value.int .i64 130)) w_9) (
    k_3 () w_9)) (
    k_3 () w_8)) (fun _ w_10 =>
    callF P F_r04_Show #[(Value.slice t15.1.1 t15.1.2.1 t15.1.2.2)] [.str] false w_10 fun (t82 : ByteArray) w_11 =>
    stC (⟨b3, 0, none⟩ : Addr) (Value.string t82) w_11 fun w_12 =>
    callF P F_r12_Upper_place #[(Value.pointer u), (Value.slice t15.1.1 t15.1.2.1 t15.1.2.2)] [.int .i64] false w_12 fun (t86 : Int) w_13 =>
    joinP Unit (fun k_4 =>
    iteP (decide (t86 < 0)) (
    withAddr u fun p =>
    ld .slc (Addr.add p 2) w_13 fun (t93 : (Option Addr × Nat × Nat)) =>
    iteP (decide ((t93.2.1 : Int) ≥ 1024)) (
    R (.returned (Value.int .i64 8)) w_13) (
    k_4 () w_13)) (
    k_4 () w_13)) (fun _ w_14 =>
    genL P (Instr.buildSlice y_S_api_Inode 0 #[]) .slc w_14 fun (t97 : (Option Addr × Nat × Nat)) w_15 =>
    withAddr u fun p_1 =>
    ld .slc (Addr.add p_1 2) w_15 fun (t101 : (Option Addr × Nat × Nat)) =>
    genL P (Builtin.append_ #[y_S_api_Inode, y_S_api_Inode] y_S_api_Inode #[(Value.slice t97.1 t97.2.1 t97.2.2), (Value.slice t101.1 t101.2.1 t101.2.2)]) .slc w_15 fun (t102 : (Option Addr × Nat × Nat)) w_16 =>
    iteP (decide (t86 ≥ 0)) (
    ldA P 4 (⟨b3, 0, none⟩ : Addr) w_16 fun t107 =>
    ixS t102.1 t102.2.1 4 t86 fun t108 =>
    genU P (storeVar y_api_Inode t108 (Value.agg t107)) w_16 fun w_17 =>
    withAddr u fun p_2 =>
    stC (Addr.add p_2 2) (Value.slice t102.1 t102.2.1 t102.2.2) w_17 fun w_18 =>
    R (.returned (Value.int .i64 0)) w_18) (
    joinP Int (fun k_5 =>
    loopP Int (fun s_5 w_19 k_6 =>
    joinP Unit (fun k_7 =>
    iteP (decide (s_5 < (t102.2.1 : Int))) (
    ixS t102.1 t102.2.1 4 s_5 fun t120 =>
    ld .str t120 w_19 fun (t122 : ByteArray) =>
    callF P F_r07_Names #[(Value.string t122)] [.slc] false w_19 fun (t123 : (Option Addr × Nat × Nat)) w_20 =>
    callF P F_r04_Compare #[(Value.slice t123.1 t123.2.1 t123.2.2), (Value.slice t15.1.1 t15.1.2.1 t15.1.2.2)] [.int .i64] false w_20 fun (t125 : Int) w_21 =>
    iteP (decide (t125 < 0)) (
    k_7 () w_21) (
    k_5 s_5 w_21)) (
    k_5 s_5 w_19)) (fun _ w_22 =>
    addI .i64 s_5 1 fun t129 =>
    k_6 t129 w_22)) 0 w_16) (fun s_7 w_23 =>
    genL P (Instr.buildSlice y_S_api_Inode 0 #[]) .slc w_23 fun (t130 : (Option Addr × Nat × Nat)) w_24 =>
    genQ P (Instr.sliceAt y_S_api_Inode (Value.slice t102.1 t102.2.1 t102.2.2) none (some (Value.int .i64 s_7)) none) .slc w_24 fun (t133 : (Option Addr × Nat × Nat)) =>
    genL P (Builtin.append_ #[y_S_api_Inode, y_S_api_Inode] y_S_api_Inode #[(Value.slice t130.1 t130.2.1 t130.2.2), (Value.slice t133.1 t133.2.1 t133.2.2)]) .slc w_24 fun (t134 : (Option Addr × Nat × Nat)) w_25 =>
    ldA P 4 (⟨b3, 0, none⟩ : Addr) w_25 fun t136 =>
    genL P (Instr.buildSlice y_S_api_Inode 1 #[(0, (Value.agg t136))]) .slc w_25 fun (t137 : (Option Addr × Nat × Nat)) w_26 =>
    genL P (Builtin.append_ #[y_S_api_Inode, y_S_api_Inode] y_S_api_Inode #[(Value.slice t134.1 t134.2.1 t134.2.2), (Value.slice t137.1 t137.2.1 t137.2.2)]) .slc w_26 fun (t138 : (Option Addr × Nat × Nat)) w_27 =>
    genQ P (Instr.sliceAt y_S_api_Inode (Value.slice t102.1 t102.2.1 t102.2.2) (some (Value.int .i64 s_7)) none none) .slc w_27 fun (t143 : (Option Addr × Nat × Nat)) =>
    genL P (Builtin.append_ #[y_S_api_Inode, y_S_api_Inode] y_S_api_Inode #[(Value.slice t138.1 t138.2.1 t138.2.2), (Value.slice t143.1 t143.2.1 t143.2.2)]) .slc w_27 fun (t144 : (Option Addr × Nat × Nat)) w_28 =>
    withAddr u fun p_3 =>
    stC (Addr.add p_3 2) (Value.slice t144.1 t144.2.1 t144.2.2) w_28 fun w_29 =>
    R (.returned (Value.int .i64 0)) w_29))))))))))
theorem eq_r12_Upper_Put (u : Option Addr) (i : Value) (R : Ending → World → Prop) (w : World) : tr P qs ((Tryz.f20.body).getD .skip) ann_r12_Upper_Put (env0 0 [(0, (Value.pointer u)), (1, i)]) (topK P Tryz.f20.results.toList R) w = T_r12_Upper_Put u i R w := by kernel_rfl
/-- (*veneer/veneerref12.Upper).Put -/
theorem fn_r12_Upper_Put {u : Option Addr} {i : Value} {R : Ending → World → Prop} {w : World} (hT : T_r12_Upper_Put u i R w) : CallF P F_r12_Upper_Put #[(Value.pointer u), i] w R :=
  fn_of_tr (fn := Tryz.f20) (c := (Tryz.f20.body).getD .skip) (ann := ann_r12_Upper_Put) (args := [(0, (Value.pointer u)), (1, i)]) (qs := qs) mixed Tryz.func20 rfl (by kernel_rfl) (by kernel_rfl) ok_r12_Upper_Put ((eq_r12_Upper_Put u i R w).symm ▸ hT)
def ann_r12_Upper_Size : Ann := (.seq .leaf (.seq .leaf (.seq (.seq .leaf (.blk (.loop [(3, .int .i64), (4, .int .i64)] (.seq (.seq .leaf (.cond .leaf .leaf)) (.seq (.blk .leaf) .leaf))))) (.seq .leaf .leaf))))
theorem ok_r12_Upper_Size : okC P qs Tryz.f43.ntmps ((Tryz.f43.body).getD .skip) ann_r12_Upper_Size = true := by kernel_rfl
def T_r12_Upper_Size (u : Option Addr) (R : Ending → World → Prop) (w : World) : Prop :=
    loopP (Int × Int) (fun s w_1 k =>
    withAddr u fun p =>
    ld .slc (Addr.add p 2) w_1 fun (t9 : (Option Addr × Nat × Nat)) =>
    iteP (decide (s.2 < (t9.2.1 : Int))) (
    withAddr u fun p_1 =>
    ld .slc (Addr.add p_1 2) w_1 fun (t18 : (Option Addr × Nat × Nat)) =>
    ixS t18.1 t18.2.1 4 s.2 fun t20 =>
    ld .str (Addr.add t20 3) w_1 fun (t22 : ByteArray) =>
    addI .i64 s.1 (t22.size : Int) fun t24 =>
    addI .i64 s.2 1 fun t13 =>
    k (t24, t13) w_1) (
    R (.returned (Value.int .i64 s.1)) w_1)) (0, 0) w
theorem eq_r12_Upper_Size (u : Option Addr) (R : Ending → World → Prop) (w : World) : tr P qs ((Tryz.f43.body).getD .skip) ann_r12_Upper_Size (env0 0 [(0, (Value.pointer u))]) (topK P Tryz.f43.results.toList R) w = T_r12_Upper_Size u R w := by kernel_rfl
/-- (*veneer/veneerref12.Upper).Size -/
theorem fn_r12_Upper_Size {u : Option Addr} {R : Ending → World → Prop} {w : World} (hT : T_r12_Upper_Size u R w) : CallF P F_r12_Upper_Size #[(Value.pointer u)] w R :=
  fn_of_tr (fn := Tryz.f43) (c := (Tryz.f43.body).getD .skip) (ann := ann_r12_Upper_Size) (args := [(0, (Value.pointer u))]) (qs := qs) mixed Tryz.func43 rfl (by kernel_rfl) (by kernel_rfl) ok_r12_Upper_Size ((eq_r12_Upper_Size u R w).symm ▸ hT)
def ann_r12_Upper_Over : Ann := (.seq .leaf (.seq (.tree (.op 0 [] (.op 1 [] (.op 2 [] (.op 5 [] (.op 6 [] (.op 7 [] (.op 3 [] (.op 4 [] (.op 8 [] (.op 9 [] (.op 10 [] (.op 11 [] (.op 13 [] (.op 14 [] (.op 15 [] (.op 16 [] (.op 12 [16] (.op 17 [] (.op 18 [] (.op 19 [] .done))))))))))))))))))))) .leaf))
theorem ok_r12_Upper_Over : okC P qs Tryz.f44.ntmps ((Tryz.f44.body).getD .skip) ann_r12_Upper_Over = true := by kernel_rfl
def T_r12_Upper_Over (u : Option Addr) (R : Ending → World → Prop) (w : World) : Prop :=
    drewP w fun w_1 =>
    withAddr u fun p =>
    withAddr u fun p_1 =>
    ld .slc (Addr.add p 2) w_1 fun (t6 : (Option Addr × Nat × Nat)) =>
    ld (.int .i64) p_1 w_1 fun (t11 : Int) =>
    iteP (decide ((t6.2.1 : Int) > t11)) (
    ((undef = undef) ∧
    R (.returned (Value.bool true)) w_1)) (
    withAddr u fun p_2 =>
    ld (.int .i64) (Addr.add p_2 1) w_1 fun (t19 : Int) =>
    callF P F_r12_Upper_Size #[(Value.pointer u)] [.int .i64] false w_1 fun (t15 : Int) w_2 =>
    ((ld (.int .i64) (Addr.add p_2 1) w_2 fun (t19_1 : Int) =>
    (Value.int .i64 t19_1) = (Value.int .i64 t19)) ∧
    R (.returned (Value.bool (decide (t15 > t19)))) w_2))
theorem eq_r12_Upper_Over (u : Option Addr) (R : Ending → World → Prop) (w : World) : tr P qs ((Tryz.f44.body).getD .skip) ann_r12_Upper_Over (env0 0 [(0, (Value.pointer u))]) (topK P Tryz.f44.results.toList R) w = T_r12_Upper_Over u R w := by kernel_rfl
/-- (*veneer/veneerref12.Upper).Over -/
theorem fn_r12_Upper_Over {u : Option Addr} {R : Ending → World → Prop} {w : World} (hT : T_r12_Upper_Over u R w) : CallF P F_r12_Upper_Over #[(Value.pointer u)] w R :=
  fn_of_tr (fn := Tryz.f44) (c := (Tryz.f44.body).getD .skip) (ann := ann_r12_Upper_Over) (args := [(0, (Value.pointer u))]) (qs := qs) mixed Tryz.func44 rfl (by kernel_rfl) (by kernel_rfl) ok_r12_Upper_Over ((eq_r12_Upper_Over u R w).symm ▸ hT)
def ann_r12_Upper_place : Ann := (.seq .leaf (.join [] (.seq .leaf (.cond (.seq .leaf .leaf) .leaf)) (.seq .leaf (.seq (.seq .leaf (.blk (.loop [(6, .int .i64)] (.seq (.seq .leaf (.cond .leaf .leaf)) (.seq (.blk (.seq .leaf (.cond (.seq .leaf .leaf) .leaf))) .leaf))))) (.seq .leaf .leaf)))))
theorem ok_r12_Upper_place : okC P qs Tryz.f54.ntmps ((Tryz.f54.body).getD .skip) ann_r12_Upper_place = true := by kernel_rfl
def T_r12_Upper_place (u : Option Addr) (p : Option Addr) (p_l p_c : Nat) (R : Ending → World → Prop) (w : World) : Prop :=
    joinP Unit (fun k =>
    iteP ((p_l : Int) == 0) (
    R (.returned (Value.int .i64 (-1))) w) (
    callF P F_r04_Check #[(Value.slice p p_l p_c)] [.int .i64] false w fun (t12 : Int) w_1 =>
    iteP (t12 != 0) (
    R (.returned (Value.int .i64 (-1))) w_1) (
    k () w_1))) (fun _ w_2 =>
    callF P F_r04_Show #[(Value.slice p p_l p_c)] [.str] false w_2 fun (t16 : ByteArray) w_3 =>
    loopP Int (fun s_1 w_4 k_1 =>
    withAddr u fun p_1 =>
    ld .slc (Addr.add p_1 2) w_4 fun (t21 : (Option Addr × Nat × Nat)) =>
    iteP (decide (s_1 < (t21.2.1 : Int))) (
    withAddr u fun p_2 =>
    ld .slc (Addr.add p_2 2) w_4 fun (t29 : (Option Addr × Nat × Nat)) =>
    ixS t29.1 t29.2.1 4 s_1 fun t31 =>
    ld .str t31 w_4 fun (t33 : ByteArray) =>
    iteP (t33.toList == t16.toList) (
    R (.returned (Value.int .i64 s_1)) w_4) (
    addI .i64 s_1 1 fun t25 =>
    k_1 t25 w_4)) (
    R (.returned (Value.int .i64 (-1))) w_4)) 0 w_3)
theorem eq_r12_Upper_place (u : Option Addr) (p : Option Addr) (p_l p_c : Nat) (R : Ending → World → Prop) (w : World) : tr P qs ((Tryz.f54.body).getD .skip) ann_r12_Upper_place (env0 0 [(0, (Value.pointer u)), (0, (Value.slice p p_l p_c))]) (topK P Tryz.f54.results.toList R) w = T_r12_Upper_place u p p_l p_c R w := by kernel_rfl
/-- (*veneer/veneerref12.Upper).place -/
theorem fn_r12_Upper_place {u : Option Addr} {p : Option Addr} {p_l p_c : Nat} {R : Ending → World → Prop} {w : World} (hT : T_r12_Upper_place u p p_l p_c R w) : CallF P F_r12_Upper_place #[(Value.pointer u), (Value.slice p p_l p_c)] w R :=
  fn_of_tr (fn := Tryz.f54) (c := (Tryz.f54.body).getD .skip) (ann := ann_r12_Upper_place) (args := [(0, (Value.pointer u)), (0, (Value.slice p p_l p_c))]) (qs := qs) mixed Tryz.func54 rfl (by kernel_rfl) (by kernel_rfl) ok_r12_Upper_place ((eq_r12_Upper_place u p p_l p_c R w).symm ▸ hT)
def ann_upper_Upper_Below_1 : Ann := (.seq .leaf (.seq (.tree (.op 0 [] (.op 3 [] (.op 1 [] (.op 4 [] (.op 2 [4] (.op 5 [] (.op 6 [] (.op 7 [] .done))))))))) .leaf))
theorem ok_upper_Upper_Below_1 : okC P qs Tryz.f58.ntmps ((Tryz.f58.body).getD .skip) ann_upper_Upper_Below_1 = true := by kernel_rfl
def T_upper_Upper_Below_1 (a : Value) (b : Value) (R : Ending → World → Prop) (w : World) : Prop :=
    newB (Value.cells a) y_api_Inode w fun b2 w_1 =>
    newB (Value.cells b) y_api_Inode w_1 fun b3 w_2 =>
    drewP w_2 fun w_3 =>
    ld .str (⟨b2, 0, none⟩ : Addr) w_3 fun (t6 : ByteArray) =>
    ld .str (⟨b3, 0, none⟩ : Addr) w_3 fun (t9 : ByteArray) =>
    callF P F_upper_names #[(Value.string t6)] [.slc] false w_3 fun (t7 : (Option Addr × Nat × Nat)) w_4 =>
    ((ld .str (⟨b3, 0, none⟩ : Addr) w_4 fun (t9_1 : ByteArray) =>
    (Value.string t9_1) = (Value.string t9)) ∧
    callF P F_upper_names #[(Value.string t9)] [.slc] false w_4 fun (t10 : (Option Addr × Nat × Nat)) w_5 =>
    callF P F_vpath_Compare #[(Value.slice t7.1 t7.2.1 t7.2.2), (Value.slice t10.1 t10.2.1 t10.2.2)] [.int .i64] false w_5 fun (t11 : Int) w_6 =>
    R (.returned (Value.int .i64 t11)) w_6)
theorem eq_upper_Upper_Below_1 (a : Value) (b : Value) (R : Ending → World → Prop) (w : World) : tr P qs ((Tryz.f58.body).getD .skip) ann_upper_Upper_Below_1 (env0 0 [(1, a), (1, b)]) (topK P Tryz.f58.results.toList R) w = T_upper_Upper_Below_1 a b R w := by kernel_rfl
/-- (*veneer/upper.Upper).Below$1 -/
theorem fn_upper_Upper_Below_1 {a : Value} {b : Value} {R : Ending → World → Prop} {w : World} (hT : T_upper_Upper_Below_1 a b R w) : CallF P F_upper_Upper_Below_1 #[a, b] w R :=
  fn_of_tr (fn := Tryz.f58) (c := (Tryz.f58.body).getD .skip) (ann := ann_upper_Upper_Below_1) (args := [(1, a), (1, b)]) (qs := qs) mixed Tryz.func58 rfl (by kernel_rfl) (by kernel_rfl) ok_upper_Upper_Below_1 ((eq_upper_Upper_Below_1 a b R w).symm ▸ hT)
def ann_upper_form : Ann := (.seq .leaf (.seq (.seq .leaf (.jblk [] (.seq (.blk (.seq (.blk (.join [] (.jblk [] (.seq (.blk (.seq (.seq (.seq .leaf (.cond .leaf .leaf)) (.seq (.seq .leaf (.cond .leaf .leaf)) (.seq .leaf (.cond .leaf .leaf)))) .leaf)) (.seq .leaf (.cond (.seq .leaf .leaf) .leaf)))) (.seq (.seq .leaf (.cond (.seq .leaf .leaf) .leaf)) .leaf))) (.seq (.seq (.seq .leaf (.cond (.seq .leaf .leaf) .leaf)) (.seq .leaf (.cond (.seq .leaf .leaf) .leaf))) .leaf))) (.seq (.seq .leaf .leaf) .leaf)))) (.seq .leaf .leaf)))
theorem ok_upper_form : okC P qs Tryz.f46.ntmps ((Tryz.f46.body).getD .skip) ann_upper_form = true := by kernel_rfl
def T_upper_form (i : Value) (R : Ending → World → Prop) (w : World) : Prop :=
    newB (Value.cells i) y_api_Inode w fun b1 w_1 =>
    ld (.int .i64) (⟨b1, 1, none⟩ : Addr) w_1 fun (t4 : Int) =>
    joinP Unit (fun k =>
    joinP Unit (fun k_1 =>
    joinP Unit (fun k_2 =>
    iteP (t4 == 3) (
    ld .bool (⟨b1, 2, none⟩ : Addr) w_1 fun (t12 : Bool) =>
    iteP t12 (
    R (.returned (Value.int .i64 1)) w_1) (
    k_2 () w_1)) (
    iteP (t4 == 2) (
    k_2 () w_1) (
    iteP (t4 == 1) (
    ld .bool (⟨b1, 2, none⟩ : Addr) w_1 fun (t17 : Bool) =>
    iteP t17 (
    R (.returned (Value.int .i64 1)) w_1) (
    ld .str (⟨b1, 3, none⟩ : Addr) w_1 fun (t19 : ByteArray) =>
    iteP (decide ((t19.size : Int) > 1024)) (
    R (.returned (Value.int .i64 134)) w_1) (
    k () w_1))) (
    R (.returned (Value.int .i64 100)) w_1)))) (fun _ w_2 =>
    k_1 () w_2)) (fun _ w_3 =>
    ld .str (⟨b1, 3, none⟩ : Addr) w_3 fun (t14 : ByteArray) =>
    iteP (!(t14.toList == (ByteArray.mk #[]).toList)) (
    R (.returned (Value.int .i64 1)) w_3) (
    k () w_3))) (fun _ w_4 =>
    R (.returned (Value.int .i64 0)) w_4)
theorem eq_upper_form (i : Value) (R : Ending → World → Prop) (w : World) : tr P qs ((Tryz.f46.body).getD .skip) ann_upper_form (env0 0 [(1, i)]) (topK P Tryz.f46.results.toList R) w = T_upper_form i R w := by kernel_rfl
/-- veneer/upper.form -/
theorem fn_upper_form {i : Value} {R : Ending → World → Prop} {w : World} (hT : T_upper_form i R w) : CallF P F_upper_form #[i] w R :=
  fn_of_tr (fn := Tryz.f46) (c := (Tryz.f46.body).getD .skip) (ann := ann_upper_form) (args := [(1, i)]) (qs := qs) mixed Tryz.func46 rfl (by kernel_rfl) (by kernel_rfl) ok_upper_form ((eq_upper_form i R w).symm ▸ hT)
end Go.Proofs.YtbmegmbnlajbbaaGreat
