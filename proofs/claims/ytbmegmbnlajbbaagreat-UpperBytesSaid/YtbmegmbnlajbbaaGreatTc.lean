/- Functions of the program as propositions; printed by wip/tools/fw.py, checked by the kernel. -/
import Derived.Test.YtbmegmbnlajbbaaGreatTb
namespace Go.Proofs.YtbmegmbnlajbbaaGreat
open Go Go.Fw Go.Proofs
set_option maxRecDepth 100000
def ann_upper_Upper_Encode : Ann := (.seq .leaf (.seq (.seq .leaf (.cond (.seq .leaf .leaf) .leaf)) (.seq .leaf (.seq .leaf (.seq .leaf (.seq .leaf (.seq (.seq .leaf (.blk (.loop [(30, .int .i64)] (.seq .leaf (.seq (.cond .leaf .leaf) (.seq (.blk (.seq .leaf (.seq .leaf (.seq .leaf (.seq .leaf .leaf))))) .leaf)))))) (.seq .leaf .leaf))))))))
theorem ok_upper_Upper_Encode : okC P qs Tryz.f9.ntmps ((Tryz.f9.body).getD .skip) ann_upper_Upper_Encode = true := by kernel_rfl
def T_upper_Upper_Encode (u : Option Addr) (R : Ending → World → Prop) (w : World) : Prop :=
    iteP (Option.isNone u) (
    R (.returned (Value.slice none 0 0)) w) (
    newB (zc P y_wire_Out) y_wire_Out w fun b3 w_1 =>
    withAddr u fun p =>
    ld (.int .i64) p w_1 fun (t11 : Int) =>
    cvI .u64 t11 fun t12 =>
    callF P F_wire_Out_Num #[(Value.pointer (some (⟨b3, 0, none⟩ : Addr))), (Value.int .u64 t12)] [] true w_1 fun (_ : Unit) w_2 =>
    withAddr u fun p_1 =>
    ld (.int .i64) (Addr.add p_1 1) w_2 fun (t17 : Int) =>
    cvI .u64 t17 fun t18 =>
    callF P F_wire_Out_Num #[(Value.pointer (some (⟨b3, 0, none⟩ : Addr))), (Value.int .u64 t18)] [] true w_2 fun (_ : Unit) w_3 =>
    withAddr u fun p_2 =>
    ld .map (Addr.add p_2 3) w_3 fun (t23 : (Option Nat)) =>
    genQ P (Builtin.len_ #[y_M_string_api_Inode] y_int #[(Value.map t23)]) (.int .i64) w_3 fun (t24 : Int) =>
    cvI .u64 t24 fun t25 =>
    callF P F_wire_Out_Num #[(Value.pointer (some (⟨b3, 0, none⟩ : Addr))), (Value.int .u64 t25)] [] true w_3 fun (_ : Unit) w_4 =>
    callF P F_upper_Upper_Below #[(Value.pointer u), (Value.slice none 0 0)] [.slc] false w_4 fun (t28 : (Option Addr × Nat × Nat)) w_5 =>
    loopP Int (fun s w_6 k =>
    iteP (decide (s < (t28.2.1 : Int))) (
    ixS t28.1 t28.2.1 4 s fun t32 =>
    ldA P 4 t32 w_6 fun t33 =>
    newB (zc P y_api_Inode) y_api_Inode w_6 fun b5 w_7 =>
    genU P (storeVar y_api_Inode (⟨b5, 0, none⟩ : Addr) (Value.agg t33)) w_7 fun w_8 =>
    ld .str (⟨b5, 0, none⟩ : Addr) w_8 fun (t35 : ByteArray) =>
    callF P F_wire_Out_Text #[(Value.pointer (some (⟨b3, 0, none⟩ : Addr))), (Value.string t35)] [] true w_8 fun (_ : Unit) w_9 =>
    ld (.int .i64) (⟨b5, 1, none⟩ : Addr) w_9 fun (t38 : Int) =>
    cvI .u64 t38 fun t39 =>
    callF P F_wire_Out_Num #[(Value.pointer (some (⟨b3, 0, none⟩ : Addr))), (Value.int .u64 t39)] [] true w_9 fun (_ : Unit) w_10 =>
    ld .bool (⟨b5, 2, none⟩ : Addr) w_10 fun (t42 : Bool) =>
    callF P F_wire_Out_Flag #[(Value.pointer (some (⟨b3, 0, none⟩ : Addr))), (Value.bool t42)] [] true w_10 fun (_ : Unit) w_11 =>
    ld .str (⟨b5, 3, none⟩ : Addr) w_11 fun (t45 : ByteArray) =>
    callF P F_wire_Out_Text #[(Value.pointer (some (⟨b3, 0, none⟩ : Addr))), (Value.string t45)] [] true w_11 fun (_ : Unit) w_12 =>
    addI .i64 s 1 fun t47 =>
    k t47 w_12) (
    callF P F_wire_Out_Bytes #[(Value.pointer (some (⟨b3, 0, none⟩ : Addr)))] [.slc] false w_6 fun (t48 : (Option Addr × Nat × Nat)) w_13 =>
    R (.returned (Value.slice t48.1 t48.2.1 t48.2.2)) w_13)) 0 w_5)
theorem eq_upper_Upper_Encode (u : Option Addr) (R : Ending → World → Prop) (w : World) : tr P qs ((Tryz.f9.body).getD .skip) ann_upper_Upper_Encode (env0 0 [(0, (Value.pointer u))]) (topK P Tryz.f9.results.toList R) w = T_upper_Upper_Encode u R w := by kernel_rfl
/-- (*veneer/upper.Upper).Encode -/
theorem fn_upper_Upper_Encode {u : Option Addr} {R : Ending → World → Prop} {w : World} (hT : T_upper_Upper_Encode u R w) : CallF P F_upper_Upper_Encode #[(Value.pointer u)] w R :=
  fn_of_tr (fn := Tryz.f9) (c := (Tryz.f9.body).getD .skip) (ann := ann_upper_Upper_Encode) (args := [(0, (Value.pointer u))]) (qs := qs) mixed Tryz.func9 rfl (by kernel_rfl) (by kernel_rfl) ok_upper_Upper_Encode ((eq_upper_Upper_Encode u R w).symm ▸ hT)
def ann_upper_Decode : Ann := (.seq .leaf (.seq .leaf (.seq .leaf (.join [] (.seq .leaf (.cond (.seq .leaf .leaf) .leaf)) (.seq .leaf (.seq .leaf (.seq (.seq .leaf (.blk (.loop [(10, .slc), (45, .int .u64)] (.seq .leaf (.seq (.cond .leaf .leaf) (.seq (.jblk [(10, .slc)] (.seq .leaf (.seq .leaf (.join [] (.seq (.tree (.op 0 [] (.op 1 [] (.op 2 [] (.op 3 [] (.op 4 [] (.op 6 [] (.op 7 [] (.op 5 [7] (.op 8 [] (.op 9 [] (.op 10 [] (.op 11 [] (.op 12 [] (.op 13 [] (.op 14 [] (.op 15 [] (.op 16 [] (.op 17 [] (.op 18 [] (.op 19 [] (.op 20 [] (.op 21 [] .done))))))))))))))))))))))) (.cond (.seq .leaf .leaf) .leaf)) .leaf)))) .leaf)))))) (.seq (.seq .leaf (.cond (.seq .leaf .leaf) .leaf)) (.seq .leaf .leaf)))))))))
theorem ok_upper_Decode : okC P qs Tryz.f11.ntmps ((Tryz.f11.body).getD .skip) ann_upper_Decode = true := by kernel_rfl
def T_upper_Decode (b : Option Addr) (b_l b_c : Nat) (R : Ending → World → Prop) (w : World) : Prop :=
    callF P F_wire_Read #[(Value.slice b b_l b_c)] [.ptr] false w fun (t14 : (Option Addr)) w_1 =>
    callF P F_wire_In_Num #[(Value.pointer t14)] [.int .u64] false w_1 fun (t16 : Int) w_2 =>
    callF P F_wire_In_Num #[(Value.pointer t14)] [.int .u64] false w_2 fun (t18 : Int) w_3 =>
    callF P F_wire_In_Num #[(Value.pointer t14)] [.int .u64] false w_3 fun (t20 : Int) w_4 =>
    joinP Unit (fun k =>
    callF P F_wire_In_Err #[(Value.pointer t14)] [.int .i64] false w_4 fun (t22 : Int) w_5 =>
    iteP (t22 != 0) (
    R (.returned (Value.tuple #[(Value.pointer none), (Value.int .i64 21)])) w_5) (
    iteP (decide (t16 > 128)) (
    R (.returned (Value.tuple #[(Value.pointer none), (Value.int .i64 21)])) w_5) (
    iteP (decide (t18 > 8192)) (
    R (.returned (Value.tuple #[(Value.pointer none), (Value.int .i64 21)])) w_5) (
    iteP (decide (t20 > 1024)) (
    R (.returned (Value.tuple #[(Value.pointer none), (Value.int .i64 21)])) w_5) (
    k () w_5))))) (fun _ w_6 =>
    cvI .i64 t16 fun t38 =>
    cvI .i64 t18 fun t40 =>
    callF P F_upper_New #[(Value.int .i64 t38), (Value.int .i64 t40)] [.ptr, .int .i64] true w_6 fun (t41 : ((Option Addr) × Int)) w_7 =>
    loopP ((Option Addr × Nat × Nat) × Int) (fun s_1 w_8 k_1 =>
    iteP (decide (s_1.2 < t20)) (
    joinP (Option Addr × Nat × Nat) (fun k_2 =>
    callF P F_wire_In_Text #[(Value.pointer t14), (Value.int .i64 256)] [.str] false w_8 fun (t48 : ByteArray) w_9 =>
    callF P F_wire_In_Num #[(Value.pointer t14)] [.int .u64] false w_9 fun (t50 : Int) w_10 =>
    genQ P (Builtin.min_ #[y_uint64, y_uint64] y_uint64 #[(Value.int .u64 t50), (Value.int .u64 9)]) (.int .u64) w_10 fun (t51 : Int) =>
    cvI .i64 t51 fun t52 =>
    callF P F_wire_In_Flag #[(Value.pointer t14)] [.bool] false w_10 fun (t54 : Bool) w_11 =>
    callF P F_wire_In_Text #[(Value.pointer t14), (Value.int .i64 1024)] [.str] false w_11 fun (t56 : ByteArray) w_12 =>
    genQ P (Instr.build y_api_Inode #[(0, (Value.string t48)), (1, (Value.int .i64 t52)), (2, (Value.bool t54)), (3, (Value.string t56))]) .any w_12 fun (t57 : Value) =>
    newB (zc P y_api_Inode) y_api_Inode w_12 fun b11 w_13 =>
    genU P (storeVar y_api_Inode (⟨b11, 0, none⟩ : Addr) t57) w_13 fun w_14 =>
    ld .str (⟨b11, 0, none⟩ : Addr) w_14 fun (t59 : ByteArray) =>
    callF P F_upper_names #[(Value.string t59)] [.slc] false w_14 fun (t60 : (Option Addr × Nat × Nat)) w_15 =>
    joinP Unit (fun k_3 =>
    drewP w_15 fun w_16 =>
    callF P F_wire_In_Err #[(Value.pointer t14)] [.int .i64] false w_16 fun (t62 : Int) w_17 =>
    iteP (t62 != 0) (
    ((undef = undef) ∧
    R (.returned (Value.tuple #[(Value.pointer none), (Value.int .i64 21)])) w_17)) (
    ld .str (⟨b11, 0, none⟩ : Addr) w_17 fun (t68 : ByteArray) =>
    callF P F_vpath_Show #[(Value.slice t60.1 t60.2.1 t60.2.2)] [.str] false w_17 fun (t66 : ByteArray) w_18 =>
    ((ld .str (⟨b11, 0, none⟩ : Addr) w_18 fun (t68_1 : ByteArray) =>
    (Value.string t68_1) = (Value.string t68)) ∧
    iteP (!(t66.toList == t68.toList)) (
    R (.returned (Value.tuple #[(Value.pointer none), (Value.int .i64 21)])) w_18) (
    callF P F_vpath_Compare #[(Value.slice s_1.1.1 s_1.1.2.1 s_1.1.2.2), (Value.slice t60.1 t60.2.1 t60.2.2)] [.int .i64] false w_18 fun (t74 : Int) w_19 =>
    iteP (decide (t74 ≥ 0)) (
    R (.returned (Value.tuple #[(Value.pointer none), (Value.int .i64 21)])) w_19) (
    ldA P 4 (⟨b11, 0, none⟩ : Addr) w_19 fun t79 =>
    callF P F_upper_Upper_Put #[(Value.pointer t41.1), (Value.agg t79)] [.int .i64] false w_19 fun (t80 : Int) w_20 =>
    iteP (t80 != 0) (
    R (.returned (Value.tuple #[(Value.pointer none), (Value.int .i64 21)])) w_20) (
    k_3 () w_20)))))) (fun _ w_21 =>
    k_2 (t60.1, t60.2.1, t60.2.2) w_21)) (fun s_3 w_22 =>
    addI .u64 s_1.2 1 fun t84 =>
    k_1 ((s_3.1, s_3.2.1, s_3.2.2), t84) w_22)) (
    callF P F_wire_In_End #[(Value.pointer t14)] [.bool] false w_8 fun (t86 : Bool) w_23 =>
    iteP (!t86) (
    R (.returned (Value.tuple #[(Value.pointer none), (Value.int .i64 21)])) w_23) (
    R (.returned (Value.tuple #[(Value.pointer t41.1), (Value.int .i64 0)])) w_23))) ((none, 0, 0), 0) w_7)
theorem eq_upper_Decode (b : Option Addr) (b_l b_c : Nat) (R : Ending → World → Prop) (w : World) : tr P qs ((Tryz.f11.body).getD .skip) ann_upper_Decode (env0 0 [(0, (Value.slice b b_l b_c))]) (topK P Tryz.f11.results.toList R) w = T_upper_Decode b b_l b_c R w := by kernel_rfl
/-- veneer/upper.Decode -/
theorem fn_upper_Decode {b : Option Addr} {b_l b_c : Nat} {R : Ending → World → Prop} {w : World} (hT : T_upper_Decode b b_l b_c R w) : CallF P F_upper_Decode #[(Value.slice b b_l b_c)] w R :=
  fn_of_tr (fn := Tryz.f11) (c := (Tryz.f11.body).getD .skip) (ann := ann_upper_Decode) (args := [(0, (Value.slice b b_l b_c))]) (qs := qs) mixed Tryz.func11 rfl (by kernel_rfl) (by kernel_rfl) ok_upper_Decode ((eq_upper_Decode b b_l b_c R w).symm ▸ hT)
def ann_wire_Out_Num : Ann := (.seq (.seq .leaf (.cond .leaf .leaf)) (.seq (.blk (.loop [(1, .int .u64)] (.seq (.seq .leaf (.cond .leaf .leaf)) (.seq (.blk .leaf) .leaf)))) .leaf))
theorem ok_wire_Out_Num : okC P qs Tryz.f21.ntmps ((Tryz.f21.body).getD .skip) ann_wire_Out_Num = true := by kernel_rfl
def T_wire_Out_Num (o : Option Addr) (n : Int) (R : Ending → World → Prop) (w : World) : Prop :=
    iteP (Option.isNone o) (
    R (.returned (Value.tuple #[])) w) (
    loopP Int (fun s w_1 k =>
    iteP (decide (s > 127)) (
    withAddr o fun p =>
    ld .slc p w_1 fun (t14 : (Option Addr × Nat × Nat)) =>
    cvI .u8 s fun t16 =>
    orI .u8 t16 128 fun t17 =>
    genL P (Instr.buildSlice y_S_uint8 1 #[(0, (Value.int .u8 t17))]) .slc w_1 fun (t18 : (Option Addr × Nat × Nat)) w_2 =>
    genL P (Builtin.append_ #[y_S_uint8, y_S_uint8] y_S_uint8 #[(Value.slice t14.1 t14.2.1 t14.2.2), (Value.slice t18.1 t18.2.1 t18.2.2)]) .slc w_2 fun (t19 : (Option Addr × Nat × Nat)) w_3 =>
    withAddr o fun p_1 =>
    stC p_1 (Value.slice t19.1 t19.2.1 t19.2.2) w_3 fun w_4 =>
    shrI .u64 s 7 fun t9 =>
    k t9 w_4) (
    withAddr o fun p_2 =>
    ld .slc p_2 w_1 fun (t26 : (Option Addr × Nat × Nat)) =>
    cvI .u8 s fun t28 =>
    genL P (Instr.buildSlice y_S_uint8 1 #[(0, (Value.int .u8 t28))]) .slc w_1 fun (t29 : (Option Addr × Nat × Nat)) w_5 =>
    genL P (Builtin.append_ #[y_S_uint8, y_S_uint8] y_S_uint8 #[(Value.slice t26.1 t26.2.1 t26.2.2), (Value.slice t29.1 t29.2.1 t29.2.2)]) .slc w_5 fun (t30 : (Option Addr × Nat × Nat)) w_6 =>
    withAddr o fun p_3 =>
    stC p_3 (Value.slice t30.1 t30.2.1 t30.2.2) w_6 fun w_7 =>
    R (.returned (Value.tuple #[])) w_7)) n w)
theorem eq_wire_Out_Num (o : Option Addr) (n : Int) (R : Ending → World → Prop) (w : World) : tr P qs ((Tryz.f21.body).getD .skip) ann_wire_Out_Num (env0 0 [(0, (Value.pointer o)), (0, (Value.int .u64 n))]) (topK P Tryz.f21.results.toList R) w = T_wire_Out_Num o n R w := by kernel_rfl
/-- (*veneer/wire.Out).Num -/
theorem fn_wire_Out_Num {o : Option Addr} {n : Int} {R : Ending → World → Prop} {w : World} (hT : T_wire_Out_Num o n R w) : CallF P F_wire_Out_Num #[(Value.pointer o), (Value.int .u64 n)] w R :=
  fn_of_tr (fn := Tryz.f21) (c := (Tryz.f21.body).getD .skip) (ann := ann_wire_Out_Num) (args := [(0, (Value.pointer o)), (0, (Value.int .u64 n))]) (qs := qs) mixed Tryz.func21 rfl (by kernel_rfl) (by kernel_rfl) ok_wire_Out_Num ((eq_wire_Out_Num o n R w).symm ▸ hT)
def ann_wire_Out_Text : Ann := (.seq (.seq .leaf (.cond .leaf .leaf)) (.seq .leaf .leaf))
theorem ok_wire_Out_Text : okC P qs Tryz.f23.ntmps ((Tryz.f23.body).getD .skip) ann_wire_Out_Text = true := by kernel_rfl
def T_wire_Out_Text (o : Option Addr) (s : ByteArray) (R : Ending → World → Prop) (w : World) : Prop :=
    iteP (Option.isNone o) (
    R (.returned (Value.tuple #[])) w) (
    cvI .u64 (s.size : Int) fun t9 =>
    callF P F_wire_Out_Num #[(Value.pointer o), (Value.int .u64 t9)] [] true w fun (_ : Unit) w_1 =>
    withAddr o fun p =>
    ld .slc p w_1 fun (t15 : (Option Addr × Nat × Nat)) =>
    genL P (Builtin.append_ #[y_S_uint8, y_string] y_S_uint8 #[(Value.slice t15.1 t15.2.1 t15.2.2), (Value.string s)]) .slc w_1 fun (t17 : (Option Addr × Nat × Nat)) w_2 =>
    withAddr o fun p_1 =>
    stC p_1 (Value.slice t17.1 t17.2.1 t17.2.2) w_2 fun w_3 =>
    R (.returned (Value.tuple #[])) w_3)
theorem eq_wire_Out_Text (o : Option Addr) (s : ByteArray) (R : Ending → World → Prop) (w : World) : tr P qs ((Tryz.f23.body).getD .skip) ann_wire_Out_Text (env0 0 [(0, (Value.pointer o)), (0, (Value.string s))]) (topK P Tryz.f23.results.toList R) w = T_wire_Out_Text o s R w := by kernel_rfl
/-- (*veneer/wire.Out).Text -/
theorem fn_wire_Out_Text {o : Option Addr} {s : ByteArray} {R : Ending → World → Prop} {w : World} (hT : T_wire_Out_Text o s R w) : CallF P F_wire_Out_Text #[(Value.pointer o), (Value.string s)] w R :=
  fn_of_tr (fn := Tryz.f23) (c := (Tryz.f23.body).getD .skip) (ann := ann_wire_Out_Text) (args := [(0, (Value.pointer o)), (0, (Value.string s))]) (qs := qs) mixed Tryz.func23 rfl (by kernel_rfl) (by kernel_rfl) ok_wire_Out_Text ((eq_wire_Out_Text o s R w).symm ▸ hT)
def ann_wire_Out_Flag : Ann := (.seq .leaf (.cond .leaf .leaf))
theorem ok_wire_Out_Flag : okC P qs Tryz.f24.ntmps ((Tryz.f24.body).getD .skip) ann_wire_Out_Flag = true := by kernel_rfl
def T_wire_Out_Flag (o : Option Addr) (b : Bool) (R : Ending → World → Prop) (w : World) : Prop :=
    iteP b (
    callF P F_wire_Out_Num #[(Value.pointer o), (Value.int .u64 1)] [] true w fun (_ : Unit) w_1 =>
    R (.returned (Value.tuple #[])) w_1) (
    callF P F_wire_Out_Num #[(Value.pointer o), (Value.int .u64 0)] [] true w fun (_ : Unit) w_2 =>
    R (.returned (Value.tuple #[])) w_2)
theorem eq_wire_Out_Flag (o : Option Addr) (b : Bool) (R : Ending → World → Prop) (w : World) : tr P qs ((Tryz.f24.body).getD .skip) ann_wire_Out_Flag (env0 0 [(0, (Value.pointer o)), (0, (Value.bool b))]) (topK P Tryz.f24.results.toList R) w = T_wire_Out_Flag o b R w := by kernel_rfl
/-- (*veneer/wire.Out).Flag -/
theorem fn_wire_Out_Flag {o : Option Addr} {b : Bool} {R : Ending → World → Prop} {w : World} (hT : T_wire_Out_Flag o b R w) : CallF P F_wire_Out_Flag #[(Value.pointer o), (Value.bool b)] w R :=
  fn_of_tr (fn := Tryz.f24) (c := (Tryz.f24.body).getD .skip) (ann := ann_wire_Out_Flag) (args := [(0, (Value.pointer o)), (0, (Value.bool b))]) (qs := qs) mixed Tryz.func24 rfl (by kernel_rfl) (by kernel_rfl) ok_wire_Out_Flag ((eq_wire_Out_Flag o b R w).symm ▸ hT)
def ann_wire_Out_Bytes : Ann := (.seq .leaf (.seq (.seq .leaf (.cond (.seq .leaf .leaf) .leaf)) (.seq .leaf .leaf)))
theorem ok_wire_Out_Bytes : okC P qs Tryz.f25.ntmps ((Tryz.f25.body).getD .skip) ann_wire_Out_Bytes = true := by kernel_rfl
def T_wire_Out_Bytes (o : Option Addr) (R : Ending → World → Prop) (w : World) : Prop :=
    iteP (Option.isNone o) (
    R (.returned (Value.slice none 0 0)) w) (
    withAddr o fun p =>
    ld .slc p w fun (t8 : (Option Addr × Nat × Nat)) =>
    genL P (Builtin.append_ #[y_S_uint8, y_S_uint8] y_S_uint8 #[(Value.slice none 0 0), (Value.slice t8.1 t8.2.1 t8.2.2)]) .slc w fun (t9 : (Option Addr × Nat × Nat)) w_1 =>
    R (.returned (Value.slice t9.1 t9.2.1 t9.2.2)) w_1)
theorem eq_wire_Out_Bytes (o : Option Addr) (R : Ending → World → Prop) (w : World) : tr P qs ((Tryz.f25.body).getD .skip) ann_wire_Out_Bytes (env0 0 [(0, (Value.pointer o))]) (topK P Tryz.f25.results.toList R) w = T_wire_Out_Bytes o R w := by kernel_rfl
/-- (*veneer/wire.Out).Bytes -/
theorem fn_wire_Out_Bytes {o : Option Addr} {R : Ending → World → Prop} {w : World} (hT : T_wire_Out_Bytes o R w) : CallF P F_wire_Out_Bytes #[(Value.pointer o)] w R :=
  fn_of_tr (fn := Tryz.f25) (c := (Tryz.f25.body).getD .skip) (ann := ann_wire_Out_Bytes) (args := [(0, (Value.pointer o))]) (qs := qs) mixed Tryz.func25 rfl (by kernel_rfl) (by kernel_rfl) ok_wire_Out_Bytes ((eq_wire_Out_Bytes o R w).symm ▸ hT)
def ann_wire_Read : Ann := (.seq .leaf (.seq .leaf .leaf))
theorem ok_wire_Read : okC P qs Tryz.f29.ntmps ((Tryz.f29.body).getD .skip) ann_wire_Read = true := by kernel_rfl
def T_wire_Read (b : Option Addr) (b_l b_c : Nat) (R : Ending → World → Prop) (w : World) : Prop :=
    genL P (Builtin.append_ #[y_S_uint8, y_S_uint8] y_S_uint8 #[(Value.slice none 0 0), (Value.slice b b_l b_c)]) .slc w fun (t4 : (Option Addr × Nat × Nat)) w_1 =>
    genQ P (Instr.build y_wire_In #[(0, (Value.slice t4.1 t4.2.1 t4.2.2))]) .any w_1 fun (t5 : Value) =>
    newB (Value.cells t5) y_wire_In w_1 fun b6 w_2 =>
    R (.returned (Value.pointer (some (⟨b6, 0, none⟩ : Addr)))) w_2
theorem eq_wire_Read (b : Option Addr) (b_l b_c : Nat) (R : Ending → World → Prop) (w : World) : tr P qs ((Tryz.f29.body).getD .skip) ann_wire_Read (env0 0 [(0, (Value.slice b b_l b_c))]) (topK P Tryz.f29.results.toList R) w = T_wire_Read b b_l b_c R w := by kernel_rfl
/-- veneer/wire.Read -/
theorem fn_wire_Read {b : Option Addr} {b_l b_c : Nat} {R : Ending → World → Prop} {w : World} (hT : T_wire_Read b b_l b_c R w) : CallF P F_wire_Read #[(Value.slice b b_l b_c)] w R :=
  fn_of_tr (fn := Tryz.f29) (c := (Tryz.f29.body).getD .skip) (ann := ann_wire_Read) (args := [(0, (Value.slice b b_l b_c))]) (qs := qs) mixed Tryz.func29 rfl (by kernel_rfl) (by kernel_rfl) ok_wire_Read ((eq_wire_Read b b_l b_c R w).symm ▸ hT)
def ann_wire_In_Num : Ann := (.seq .leaf (.seq .leaf (.seq .leaf (.blk (.loop [(3, .int .u64), (4, .int .i64)] (.seq (.jblk [(3, .int .u64)] (.seq .leaf (.seq (.seq .leaf (.cond (.seq .leaf .leaf) .leaf)) (.join [] (.seq .leaf (.cond (.seq .leaf (.seq .leaf .leaf)) .leaf)) (.seq .leaf (.seq .leaf (.cond (.seq .leaf .leaf) .leaf))))))) .leaf))))))
theorem ok_wire_In_Num : okC P qs Tryz.f30.ntmps ((Tryz.f30.body).getD .skip) ann_wire_In_Num = true := by kernel_rfl
def T_wire_In_Num (i : Option Addr) (R : Ending → World → Prop) (w : World) : Prop :=
    loopP (Int × Int) (fun s w_1 k =>
    joinP Int (fun k_1 =>
    callF P F_wire_In_next #[(Value.pointer i)] [.int .u8, .bool] true w_1 fun (t11 : (Int × Bool)) w_2 =>
    iteP (!t11.2) (
    R (.returned (Value.int .u64 0)) w_2) (
    joinP Unit (fun k_2 =>
    iteP (s.2 == 9) (
    iteP (decide (t11.1 > 1)) (
    callF P F_wire_In_fail #[(Value.pointer i), (Value.int .i64 21)] [] true w_2 fun (_ : Unit) w_3 =>
    R (.returned (Value.int .u64 0)) w_3) (
    iteP (decide (s.2 > 0)) (
    iteP (t11.1 == 0) (
    callF P F_wire_In_fail #[(Value.pointer i), (Value.int .i64 21)] [] true w_2 fun (_ : Unit) w_4 =>
    R (.returned (Value.int .u64 0)) w_4) (
    k_2 () w_2)) (
    k_2 () w_2))) (
    iteP (decide (s.2 > 0)) (
    iteP (t11.1 == 0) (
    callF P F_wire_In_fail #[(Value.pointer i), (Value.int .i64 21)] [] true w_2 fun (_ : Unit) w_5 =>
    R (.returned (Value.int .u64 0)) w_5) (
    k_2 () w_2)) (
    k_2 () w_2))) (fun _ w_6 =>
    andI .u8 t11.1 127 fun t34 =>
    cvI .u64 t34 fun t35 =>
    mulI .i64 7 s.2 fun t37 =>
    shlI .u64 t35 t37 fun t38 =>
    orI .u64 s.1 t38 fun t39 =>
    iteP (decide (t11.1 < 128)) (
    R (.returned (Value.int .u64 t39)) w_6) (
    k_1 t39 w_6)))) (fun s_2 w_7 =>
    addI .i64 s.2 1 fun t8 =>
    k (s_2, t8) w_7)) (0, 0) w
theorem eq_wire_In_Num (i : Option Addr) (R : Ending → World → Prop) (w : World) : tr P qs ((Tryz.f30.body).getD .skip) ann_wire_In_Num (env0 0 [(0, (Value.pointer i))]) (topK P Tryz.f30.results.toList R) w = T_wire_In_Num i R w := by kernel_rfl
/-- (*veneer/wire.In).Num -/
theorem fn_wire_In_Num {i : Option Addr} {R : Ending → World → Prop} {w : World} (hT : T_wire_In_Num i R w) : CallF P F_wire_In_Num #[(Value.pointer i)] w R :=
  fn_of_tr (fn := Tryz.f30) (c := (Tryz.f30.body).getD .skip) (ann := ann_wire_In_Num) (args := [(0, (Value.pointer i))]) (qs := qs) mixed Tryz.func30 rfl (by kernel_rfl) (by kernel_rfl) ok_wire_In_Num ((eq_wire_In_Num i R w).symm ▸ hT)
def ann_wire_In_Err : Ann := (.seq .leaf (.seq (.seq .leaf (.cond (.seq .leaf .leaf) .leaf)) (.seq .leaf .leaf)))
theorem ok_wire_In_Err : okC P qs Tryz.f31.ntmps ((Tryz.f31.body).getD .skip) ann_wire_In_Err = true := by kernel_rfl
def T_wire_In_Err (i : Option Addr) (R : Ending → World → Prop) (w : World) : Prop :=
    iteP (Option.isNone i) (
    R (.returned (Value.int .i64 0)) w) (
    withAddr i fun p =>
    ld (.int .i64) (Addr.add p 1) w fun (t8 : Int) =>
    R (.returned (Value.int .i64 t8)) w)
theorem eq_wire_In_Err (i : Option Addr) (R : Ending → World → Prop) (w : World) : tr P qs ((Tryz.f31.body).getD .skip) ann_wire_In_Err (env0 0 [(0, (Value.pointer i))]) (topK P Tryz.f31.results.toList R) w = T_wire_In_Err i R w := by kernel_rfl
/-- (*veneer/wire.In).Err -/
theorem fn_wire_In_Err {i : Option Addr} {R : Ending → World → Prop} {w : World} (hT : T_wire_In_Err i R w) : CallF P F_wire_In_Err #[(Value.pointer i)] w R :=
  fn_of_tr (fn := Tryz.f31) (c := (Tryz.f31.body).getD .skip) (ann := ann_wire_In_Err) (args := [(0, (Value.pointer i))]) (qs := qs) mixed Tryz.func31 rfl (by kernel_rfl) (by kernel_rfl) ok_wire_In_Err ((eq_wire_In_Err i R w).symm ▸ hT)
def ann_wire_In_Text : Ann := (.seq .leaf (.seq .leaf (.join [] (.seq .leaf (.cond (.seq .leaf .leaf) .leaf)) (.seq (.seq .leaf (.cond (.seq .leaf (.seq .leaf .leaf)) .leaf)) (.seq .leaf .leaf)))))
theorem ok_wire_In_Text : okC P qs Tryz.f32.ntmps ((Tryz.f32.body).getD .skip) ann_wire_In_Text = true := by kernel_rfl
def T_wire_In_Text (i : Option Addr) (most : Int) (R : Ending → World → Prop) (w : World) : Prop :=
    callF P F_wire_In_Num #[(Value.pointer i)] [.int .u64] false w fun (t7 : Int) w_1 =>
    joinP Unit (fun k =>
    iteP (Option.isNone i) (
    R (.returned (Value.string (ByteArray.mk #[]))) w_1) (
    withAddr i fun p =>
    ld (.int .i64) (Addr.add p 1) w_1 fun (t14 : Int) =>
    iteP (t14 != 0) (
    R (.returned (Value.string (ByteArray.mk #[]))) w_1) (
    k () w_1))) (fun _ w_2 =>
    genQ P (Builtin.max_ #[y_int, y_int] y_int #[(Value.int .i64 most), (Value.int .i64 0)]) (.int .i64) w_2 fun (t19 : Int) =>
    cvI .u64 t19 fun t20 =>
    iteP (decide (t7 > t20)) (
    callF P F_wire_In_fail #[(Value.pointer i), (Value.int .i64 2)] [] true w_2 fun (_ : Unit) w_3 =>
    R (.returned (Value.string (ByteArray.mk #[]))) w_3) (
    cvI .i64 t7 fun t26 =>
    callF P F_wire_In_take #[(Value.pointer i), (Value.int .i64 t26)] [.slc] false w_2 fun (t27 : (Option Addr × Nat × Nat)) w_4 =>
    genQ P (convert y_S_uint8 y_string (Value.slice t27.1 t27.2.1 t27.2.2)) .str w_4 fun (t28 : ByteArray) =>
    R (.returned (Value.string t28)) w_4))
theorem eq_wire_In_Text (i : Option Addr) (most : Int) (R : Ending → World → Prop) (w : World) : tr P qs ((Tryz.f32.body).getD .skip) ann_wire_In_Text (env0 0 [(0, (Value.pointer i)), (0, (Value.int .i64 most))]) (topK P Tryz.f32.results.toList R) w = T_wire_In_Text i most R w := by kernel_rfl
/-- (*veneer/wire.In).Text -/
theorem fn_wire_In_Text {i : Option Addr} {most : Int} {R : Ending → World → Prop} {w : World} (hT : T_wire_In_Text i most R w) : CallF P F_wire_In_Text #[(Value.pointer i), (Value.int .i64 most)] w R :=
  fn_of_tr (fn := Tryz.f32) (c := (Tryz.f32.body).getD .skip) (ann := ann_wire_In_Text) (args := [(0, (Value.pointer i)), (0, (Value.int .i64 most))]) (qs := qs) mixed Tryz.func32 rfl (by kernel_rfl) (by kernel_rfl) ok_wire_In_Text ((eq_wire_In_Text i most R w).symm ▸ hT)
def ann_wire_In_Flag : Ann := (.seq .leaf (.seq .leaf (.join [] (.seq .leaf (.cond (.seq .leaf (.seq .leaf .leaf)) .leaf)) (.seq .leaf .leaf))))
theorem ok_wire_In_Flag : okC P qs Tryz.f33.ntmps ((Tryz.f33.body).getD .skip) ann_wire_In_Flag = true := by kernel_rfl
def T_wire_In_Flag (i : Option Addr) (R : Ending → World → Prop) (w : World) : Prop :=
    callF P F_wire_In_next #[(Value.pointer i)] [.int .u8, .bool] true w fun (t7 : (Int × Bool)) w_1 =>
    joinP Unit (fun k =>
    iteP t7.2 (
    iteP (decide (t7.1 > 1)) (
    callF P F_wire_In_fail #[(Value.pointer i), (Value.int .i64 21)] [] true w_1 fun (_ : Unit) w_2 =>
    R (.returned (Value.bool false)) w_2) (
    k () w_1)) (
    k () w_1)) (fun _ w_3 =>
    R (.returned (Value.bool (t7.1 == 1))) w_3)
theorem eq_wire_In_Flag (i : Option Addr) (R : Ending → World → Prop) (w : World) : tr P qs ((Tryz.f33.body).getD .skip) ann_wire_In_Flag (env0 0 [(0, (Value.pointer i))]) (topK P Tryz.f33.results.toList R) w = T_wire_In_Flag i R w := by kernel_rfl
/-- (*veneer/wire.In).Flag -/
theorem fn_wire_In_Flag {i : Option Addr} {R : Ending → World → Prop} {w : World} (hT : T_wire_In_Flag i R w) : CallF P F_wire_In_Flag #[(Value.pointer i)] w R :=
  fn_of_tr (fn := Tryz.f33) (c := (Tryz.f33.body).getD .skip) (ann := ann_wire_In_Flag) (args := [(0, (Value.pointer i))]) (qs := qs) mixed Tryz.func33 rfl (by kernel_rfl) (by kernel_rfl) ok_wire_In_Flag ((eq_wire_In_Flag i R w).symm ▸ hT)
def ann_wire_In_End : Ann := (.seq .leaf (.seq .leaf .leaf))
theorem ok_wire_In_End : okC P qs Tryz.f37.ntmps ((Tryz.f37.body).getD .skip) ann_wire_In_End = true := by kernel_rfl
def T_wire_In_End (i : Option Addr) (R : Ending → World → Prop) (w : World) : Prop :=
    iteP (!(Option.isNone i)) (
    withAddr i fun p =>
    ld (.int .i64) (Addr.add p 1) w fun (t9 : Int) =>
    iteP (t9 == 0) (
    withAddr i fun p_1 =>
    ld .slc p_1 w fun (t16 : (Option Addr × Nat × Nat)) =>
    R (.returned (Value.bool ((t16.2.1 : Int) == 0))) w) (
    R (.returned (Value.bool false)) w)) (
    R (.returned (Value.bool false)) w)
theorem eq_wire_In_End (i : Option Addr) (R : Ending → World → Prop) (w : World) : tr P qs ((Tryz.f37.body).getD .skip) ann_wire_In_End (env0 0 [(0, (Value.pointer i))]) (topK P Tryz.f37.results.toList R) w = T_wire_In_End i R w := by kernel_rfl
/-- (*veneer/wire.In).End -/
theorem fn_wire_In_End {i : Option Addr} {R : Ending → World → Prop} {w : World} (hT : T_wire_In_End i R w) : CallF P F_wire_In_End #[(Value.pointer i)] w R :=
  fn_of_tr (fn := Tryz.f37) (c := (Tryz.f37.body).getD .skip) (ann := ann_wire_In_End) (args := [(0, (Value.pointer i))]) (qs := qs) mixed Tryz.func37 rfl (by kernel_rfl) (by kernel_rfl) ok_wire_In_End ((eq_wire_In_End i R w).symm ▸ hT)
def ann_wire_In_next : Ann := (.seq .leaf (.join [] (.seq .leaf (.cond (.seq .leaf .leaf) .leaf)) (.seq (.seq .leaf (.cond (.seq .leaf (.seq .leaf .leaf)) .leaf)) (.seq .leaf (.seq .leaf (.seq .leaf .leaf))))))
theorem ok_wire_In_next : okC P qs Tryz.f59.ntmps ((Tryz.f59.body).getD .skip) ann_wire_In_next = true := by kernel_rfl
def T_wire_In_next (i : Option Addr) (R : Ending → World → Prop) (w : World) : Prop :=
    joinP Unit (fun k =>
    iteP (Option.isNone i) (
    R (.returned (Value.tuple #[(Value.int .u8 0), (Value.bool false)])) w) (
    withAddr i fun p =>
    ld (.int .i64) (Addr.add p 1) w fun (t11 : Int) =>
    iteP (t11 != 0) (
    R (.returned (Value.tuple #[(Value.int .u8 0), (Value.bool false)])) w) (
    k () w))) (fun _ w_1 =>
    withAddr i fun p_1 =>
    ld .slc p_1 w_1 fun (t17 : (Option Addr × Nat × Nat)) =>
    iteP ((t17.2.1 : Int) == 0) (
    callF P F_wire_In_fail #[(Value.pointer i), (Value.int .i64 20)] [] true w_1 fun (_ : Unit) w_2 =>
    R (.returned (Value.tuple #[(Value.int .u8 0), (Value.bool false)])) w_2) (
    withAddr i fun p_2 =>
    ld .slc p_2 w_1 fun (t25 : (Option Addr × Nat × Nat)) =>
    ixS t25.1 t25.2.1 1 0 fun t26 =>
    ld (.int .u8) t26 w_1 fun (t27 : Int) =>
    withAddr i fun p_3 =>
    ld .slc p_3 w_1 fun (t32 : (Option Addr × Nat × Nat)) =>
    genQ P (Instr.sliceAt y_S_uint8 (Value.slice t32.1 t32.2.1 t32.2.2) (some (Value.int .i64 1)) none none) .slc w_1 fun (t33 : (Option Addr × Nat × Nat)) =>
    withAddr i fun p_4 =>
    stC p_4 (Value.slice t33.1 t33.2.1 t33.2.2) w_1 fun w_3 =>
    R (.returned (Value.tuple #[(Value.int .u8 t27), (Value.bool true)])) w_3))
theorem eq_wire_In_next (i : Option Addr) (R : Ending → World → Prop) (w : World) : tr P qs ((Tryz.f59.body).getD .skip) ann_wire_In_next (env0 0 [(0, (Value.pointer i))]) (topK P Tryz.f59.results.toList R) w = T_wire_In_next i R w := by kernel_rfl
/-- (*veneer/wire.In).next -/
theorem fn_wire_In_next {i : Option Addr} {R : Ending → World → Prop} {w : World} (hT : T_wire_In_next i R w) : CallF P F_wire_In_next #[(Value.pointer i)] w R :=
  fn_of_tr (fn := Tryz.f59) (c := (Tryz.f59.body).getD .skip) (ann := ann_wire_In_next) (args := [(0, (Value.pointer i))]) (qs := qs) mixed Tryz.func59 rfl (by kernel_rfl) (by kernel_rfl) ok_wire_In_next ((eq_wire_In_next i R w).symm ▸ hT)
def ann_wire_In_fail : Ann := .leaf
theorem ok_wire_In_fail : okC P qs Tryz.f60.ntmps ((Tryz.f60.body).getD .skip) ann_wire_In_fail = true := by kernel_rfl
def T_wire_In_fail (i : Option Addr) (e : Int) (R : Ending → World → Prop) (w : World) : Prop :=
    withAddr i fun p =>
    stC p (Value.slice none 0 0) w fun w_1 =>
    withAddr i fun p_1 =>
    stC (Addr.add p_1 1) (Value.int .i64 e) w_1 fun w_2 =>
    R (.returned (Value.tuple #[])) w_2
theorem eq_wire_In_fail (i : Option Addr) (e : Int) (R : Ending → World → Prop) (w : World) : tr P qs ((Tryz.f60.body).getD .skip) ann_wire_In_fail (env0 0 [(0, (Value.pointer i)), (0, (Value.int .i64 e))]) (topK P Tryz.f60.results.toList R) w = T_wire_In_fail i e R w := by kernel_rfl
/-- (*veneer/wire.In).fail -/
theorem fn_wire_In_fail {i : Option Addr} {e : Int} {R : Ending → World → Prop} {w : World} (hT : T_wire_In_fail i e R w) : CallF P F_wire_In_fail #[(Value.pointer i), (Value.int .i64 e)] w R :=
  fn_of_tr (fn := Tryz.f60) (c := (Tryz.f60.body).getD .skip) (ann := ann_wire_In_fail) (args := [(0, (Value.pointer i)), (0, (Value.int .i64 e))]) (qs := qs) mixed Tryz.func60 rfl (by kernel_rfl) (by kernel_rfl) ok_wire_In_fail ((eq_wire_In_fail i e R w).symm ▸ hT)
def ann_wire_In_take : Ann := (.seq .leaf (.join [] (.seq .leaf (.cond (.seq .leaf .leaf) .leaf)) (.seq (.seq .leaf (.cond (.seq .leaf (.seq .leaf .leaf)) .leaf)) (.seq .leaf (.seq .leaf (.seq .leaf .leaf))))))
theorem ok_wire_In_take : okC P qs Tryz.f61.ntmps ((Tryz.f61.body).getD .skip) ann_wire_In_take = true := by kernel_rfl
def T_wire_In_take (i : Option Addr) (n : Int) (R : Ending → World → Prop) (w : World) : Prop :=
    joinP Unit (fun k =>
    iteP (Option.isNone i) (
    R (.returned (Value.slice none 0 0)) w) (
    withAddr i fun p =>
    ld (.int .i64) (Addr.add p 1) w fun (t12 : Int) =>
    iteP (t12 != 0) (
    R (.returned (Value.slice none 0 0)) w) (
    k () w))) (fun _ w_1 =>
    withAddr i fun p_1 =>
    ld .slc p_1 w_1 fun (t19 : (Option Addr × Nat × Nat)) =>
    iteP (decide (n > (t19.2.1 : Int))) (
    callF P F_wire_In_fail #[(Value.pointer i), (Value.int .i64 20)] [] true w_1 fun (_ : Unit) w_2 =>
    R (.returned (Value.slice none 0 0)) w_2) (
    withAddr i fun p_2 =>
    ld .slc p_2 w_1 fun (t27 : (Option Addr × Nat × Nat)) =>
    genQ P (Instr.sliceAt y_S_uint8 (Value.slice t27.1 t27.2.1 t27.2.2) none (some (Value.int .i64 n)) none) .slc w_1 fun (t29 : (Option Addr × Nat × Nat)) =>
    withAddr i fun p_3 =>
    ld .slc p_3 w_1 fun (t34 : (Option Addr × Nat × Nat)) =>
    genQ P (Instr.sliceAt y_S_uint8 (Value.slice t34.1 t34.2.1 t34.2.2) (some (Value.int .i64 n)) none none) .slc w_1 fun (t36 : (Option Addr × Nat × Nat)) =>
    withAddr i fun p_4 =>
    stC p_4 (Value.slice t36.1 t36.2.1 t36.2.2) w_1 fun w_3 =>
    R (.returned (Value.slice t29.1 t29.2.1 t29.2.2)) w_3))
theorem eq_wire_In_take (i : Option Addr) (n : Int) (R : Ending → World → Prop) (w : World) : tr P qs ((Tryz.f61.body).getD .skip) ann_wire_In_take (env0 0 [(0, (Value.pointer i)), (0, (Value.int .i64 n))]) (topK P Tryz.f61.results.toList R) w = T_wire_In_take i n R w := by kernel_rfl
/-- (*veneer/wire.In).take -/
theorem fn_wire_In_take {i : Option Addr} {n : Int} {R : Ending → World → Prop} {w : World} (hT : T_wire_In_take i n R w) : CallF P F_wire_In_take #[(Value.pointer i), (Value.int .i64 n)] w R :=
  fn_of_tr (fn := Tryz.f61) (c := (Tryz.f61.body).getD .skip) (ann := ann_wire_In_take) (args := [(0, (Value.pointer i)), (0, (Value.int .i64 n))]) (qs := qs) mixed Tryz.func61 rfl (by kernel_rfl) (by kernel_rfl) ok_wire_In_take ((eq_wire_In_take i n R w).symm ▸ hT)
def ann_l12_awake : Ann := (.seq .leaf (.seq .leaf (.join [] (.seq .leaf (.cond (.seq .leaf .leaf) .leaf)) (.seq .leaf (.seq .leaf (.seq .leaf (.seq .leaf .leaf)))))))
theorem ok_l12_awake : okC P qs Tryz.f4.ntmps ((Tryz.f4.body).getD .skip) ann_l12_awake = true := by kernel_rfl
def T_l12_awake  (R : Ending → World → Prop) (w : World) : Prop :=
    callF P F_upper_New #[(Value.int .i64 1), (Value.int .i64 9)] [.ptr, .int .i64] true w fun (t7 : ((Option Addr) × Int)) w_1 =>
    joinP Unit (fun k =>
    iteP (t7.2 != 0) (
    R (.returned (Value.bool false)) w_1) (
    iteP (Option.isNone t7.1) (
    R (.returned (Value.bool false)) w_1) (
    k () w_1))) (fun _ w_2 =>
    genQ P (Instr.build y_api_Inode #[(0, (Value.string (ByteArray.mk #[47, 97]))), (1, (Value.int .i64 2))]) .any w_2 fun (t17 : Value) =>
    callF P F_upper_Upper_Put #[(Value.pointer t7.1), t17] [.int .i64] false w_2 fun (t18 : Int) w_3 =>
    genQ P (Instr.build y_api_Inode #[(0, (Value.string (ByteArray.mk #[47, 97, 47, 102]))), (1, (Value.int .i64 1)), (3, (Value.string (ByteArray.mk #[104, 105])))]) .any w_3 fun (t20 : Value) =>
    callF P F_upper_Upper_Put #[(Value.pointer t7.1), t20] [.int .i64] false w_3 fun (t21 : Int) w_4 =>
    genQ P (Instr.build y_api_Inode #[(0, (Value.string (ByteArray.mk #[47, 97]))), (1, (Value.int .i64 3))]) .any w_4 fun (t23 : Value) =>
    callF P F_upper_Upper_Put #[(Value.pointer t7.1), t23] [.int .i64] false w_4 fun (t24 : Int) w_5 =>
    iteP (t18 == 0) (
    iteP (t21 == 0) (
    iteP (t24 == 130) (
    callF P F_upper_Upper_Count #[(Value.pointer t7.1)] [.int .i64] false w_5 fun (t37 : Int) w_6 =>
    iteP (t37 == 2) (
    callF P F_upper_Upper_Size #[(Value.pointer t7.1)] [.int .i64] false w_6 fun (t42 : Int) w_7 =>
    iteP (t42 == 2) (
    callF P F_upper_Upper_Over #[(Value.pointer t7.1)] [.bool] false w_7 fun (t47 : Bool) w_8 =>
    R (.returned (Value.bool t47)) w_8) (
    R (.returned (Value.bool false)) w_7)) (
    R (.returned (Value.bool false)) w_6)) (
    R (.returned (Value.bool false)) w_5)) (
    R (.returned (Value.bool false)) w_5)) (
    R (.returned (Value.bool false)) w_5))
theorem eq_l12_awake  (R : Ending → World → Prop) (w : World) : tr P qs ((Tryz.f4.body).getD .skip) ann_l12_awake (env0 0 []) (topK P Tryz.f4.results.toList R) w = T_l12_awake  R w := by kernel_rfl
/-- veneer/veneerlaw12.awake -/
theorem fn_l12_awake  {R : Ending → World → Prop} {w : World} (hT : T_l12_awake  R w) : CallF P F_l12_awake #[] w R :=
  fn_of_tr (fn := Tryz.f4) (c := (Tryz.f4.body).getD .skip) (ann := ann_l12_awake) (args := []) (qs := qs) mixed Tryz.func4 rfl (by kernel_rfl) (by kernel_rfl) ok_l12_awake ((eq_l12_awake  R w).symm ▸ hT)
def ann_l12_fits : Ann := (.seq .leaf (.seq .leaf (.seq (.seq .leaf (.blk (.loop [(3, .int .i64), (4, .int .i64)] (.seq (.seq .leaf (.cond .leaf .leaf)) (.seq (.blk (.tree (.op 0 [] (.op 1 [] (.op 2 [] (.op 3 [] (.op 4 [] (.op 5 [] (.op 9 [] (.op 10 [] (.op 11 [] (.op 12 [] (.op 13 [] (.op 17 [] (.op 18 [] (.op 19 [] (.op 20 [] (.op 6 [] (.op 7 [] (.op 8 [] (.op 14 [] (.op 15 [] (.op 16 [] (.op 21 [] (.op 22 [] (.op 23 [] (.op 24 [] (.op 25 [] (.op 26 [] .done))))))))))))))))))))))))))))) .leaf))))) (.seq .leaf .leaf))))
theorem ok_l12_fits : okC P qs Tryz.f5.ntmps ((Tryz.f5.body).getD .skip) ann_l12_fits = true := by kernel_rfl
def T_l12_fits (script : Option Addr) (script_l script_c : Nat) (R : Ending → World → Prop) (w : World) : Prop :=
    loopP (Int × Int) (fun s w_1 k =>
    iteP (decide (s.2 < (script_l : Int))) (
    drewP w_1 fun w_2 =>
    ixS script script_l 6 s.2 fun t14 =>
    ixS script script_l 6 s.2 fun t22 =>
    ixS script script_l 6 s.2 fun t30 =>
    ld .str t14 w_2 fun (t17 : ByteArray) =>
    addI .i64 20 (t17.size : Int) fun t19 =>
    ld .str (Addr.add t22 3) w_2 fun (t25 : ByteArray) =>
    addI .i64 t19 (t25.size : Int) fun t27 =>
    ld .slc (Addr.add t30 5) w_2 fun (t32 : (Option Addr × Nat × Nat)) =>
    mulI .i64 10 (t32.2.1 : Int) fun t34 =>
    addI .i64 t27 t34 fun t35 =>
    addI .i64 s.1 t35 fun t36 =>
    addI .i64 s.2 1 fun t10 =>
    k (t36, t10) w_2) (
    R (.returned (Value.bool (decide (s.1 < 60000)))) w_1)) (0, 0) w
theorem eq_l12_fits (script : Option Addr) (script_l script_c : Nat) (R : Ending → World → Prop) (w : World) : tr P qs ((Tryz.f5.body).getD .skip) ann_l12_fits (env0 0 [(0, (Value.slice script script_l script_c))]) (topK P Tryz.f5.results.toList R) w = T_l12_fits script script_l script_c R w := by kernel_rfl
/-- veneer/veneerlaw12.fits -/
theorem fn_l12_fits {script : Option Addr} {script_l script_c : Nat} {R : Ending → World → Prop} {w : World} (hT : T_l12_fits script script_l script_c R w) : CallF P F_l12_fits #[(Value.slice script script_l script_c)] w R :=
  fn_of_tr (fn := Tryz.f5) (c := (Tryz.f5.body).getD .skip) (ann := ann_l12_fits) (args := [(0, (Value.slice script script_l script_c))]) (qs := qs) mixed Tryz.func5 rfl (by kernel_rfl) (by kernel_rfl) ok_l12_fits ((eq_l12_fits script script_l script_c R w).symm ▸ hT)
def ann_l12_play : Ann := (.seq .leaf (.seq (.seq .leaf (.jblk [] (.loop [(7, .int .i64)] (.join [] (.seq .leaf (.cond .leaf .leaf)) (.join [] (.jblk [] (.seq .leaf (.cond (.seq (.tree (.op 0 [] (.op 1 [] (.op 2 [] (.op 3 [] (.op 4 [] (.op 7 [] (.op 8 [] (.op 9 [] (.op 10 [] (.op 11 [] (.op 5 [] (.op 12 [] (.op 6 [12] (.op 13 [] (.op 14 [] .done)))))))))))))))) (.cond (.seq .leaf .leaf) .leaf)) (.seq (.tree (.op 0 [] (.op 1 [] (.op 2 [] (.op 3 [] (.op 4 [] (.op 7 [] (.op 8 [] (.op 9 [] (.op 10 [] (.op 11 [] (.op 5 [] (.op 12 [] (.op 6 [12] (.op 13 [] (.op 14 [] .done)))))))))))))))) (.cond (.seq .leaf .leaf) .leaf))))) .leaf))))) (.seq .leaf .leaf)))
theorem ok_l12_play : okC P qs Tryz.f8.ntmps ((Tryz.f8.body).getD .skip) ann_l12_play = true := by kernel_rfl
def T_l12_play (u : Option Addr) (r : Option Addr) (script : Option Addr) (script_l script_c : Nat) (R : Ending → World → Prop) (w : World) : Prop :=
    joinP Unit (fun k =>
    loopP Int (fun s w_1 k_1 =>
    joinP Unit (fun k_2 =>
    iteP (decide (s < (script_l : Int))) (
    iteP (decide (s < 200)) (
    k_2 () w_1) (
    k () w_1)) (
    k () w_1)) (fun _ w_2 =>
    joinP Unit (fun k_3 =>
    joinP Unit (fun k_4 =>
    ixS script script_l 6 s fun t20 =>
    ld .bool (Addr.add t20 4) w_2 fun (t22 : Bool) =>
    iteP t22 (
    drewP w_2 fun w_3 =>
    ixS script script_l 6 s fun t26 =>
    ixS script script_l 6 s fun t33 =>
    ld .slc (Addr.add t26 5) w_3 fun (t28 : (Option Addr × Nat × Nat)) =>
    ld .slc (Addr.add t33 5) w_3 fun (t35 : (Option Addr × Nat × Nat)) =>
    callF P F_upper_Upper_Drop #[(Value.pointer u), (Value.slice t28.1 t28.2.1 t28.2.2)] [.int .i64] false w_3 fun (t29 : Int) w_4 =>
    ((ld .slc (Addr.add t33 5) w_4 fun (t35_1 : (Option Addr × Nat × Nat)) =>
    (Value.slice t35_1.1 t35_1.2.1 t35_1.2.2) = (Value.slice t35.1 t35.2.1 t35.2.2)) ∧
    callF P F_r12_Upper_Drop #[(Value.pointer r), (Value.slice t35.1 t35.2.1 t35.2.2)] [.int .i64] false w_4 fun (t36 : Int) w_5 =>
    iteP (t29 != t36) (
    R (.returned (Value.bool false)) w_5) (
    k_4 () w_5))) (
    drewP w_2 fun w_6 =>
    ixS script script_l 6 s fun t41 =>
    ixS script script_l 6 s fun t48 =>
    ldA P 4 t41 w_6 fun t43 =>
    ldA P 4 t48 w_6 fun t50 =>
    callF P F_upper_Upper_Put #[(Value.pointer u), (Value.agg t43)] [.int .i64] false w_6 fun (t44 : Int) w_7 =>
    ((ldA P 4 t48 w_7 fun t50_1 =>
    (Value.agg t50_1) = (Value.agg t50)) ∧
    callF P F_r12_Upper_Put #[(Value.pointer r), (Value.agg t50)] [.int .i64] false w_7 fun (t51 : Int) w_8 =>
    iteP (t44 != t51) (
    R (.returned (Value.bool false)) w_8) (
    k_4 () w_8)))) (fun _ w_9 =>
    k_3 () w_9)) (fun _ w_10 =>
    addI .i64 s 1 fun t17 =>
    k_1 t17 w_10))) 0 w) (fun _ w_11 =>
    R (.returned (Value.bool true)) w_11)
theorem eq_l12_play (u : Option Addr) (r : Option Addr) (script : Option Addr) (script_l script_c : Nat) (R : Ending → World → Prop) (w : World) : tr P qs ((Tryz.f8.body).getD .skip) ann_l12_play (env0 0 [(0, (Value.pointer u)), (0, (Value.pointer r)), (0, (Value.slice script script_l script_c))]) (topK P Tryz.f8.results.toList R) w = T_l12_play u r script script_l script_c R w := by kernel_rfl
/-- veneer/veneerlaw12.play -/
theorem fn_l12_play {u : Option Addr} {r : Option Addr} {script : Option Addr} {script_l script_c : Nat} {R : Ending → World → Prop} {w : World} (hT : T_l12_play u r script script_l script_c R w) : CallF P F_l12_play #[(Value.pointer u), (Value.pointer r), (Value.slice script script_l script_c)] w R :=
  fn_of_tr (fn := Tryz.f8) (c := (Tryz.f8.body).getD .skip) (ann := ann_l12_play) (args := [(0, (Value.pointer u)), (0, (Value.pointer r)), (0, (Value.slice script script_l script_c))]) (qs := qs) mixed Tryz.func8 rfl (by kernel_rfl) (by kernel_rfl) ok_l12_play ((eq_l12_play u r script script_l script_c R w).symm ▸ hT)
def ann_l12_same : Ann := (.seq .leaf (.seq (.tree (.op 0 [] (.op 2 [] (.op 3 [] (.op 4 [] (.op 5 [] (.op 1 [5] (.op 6 [] (.op 7 [] (.op 8 [] (.op 10 [] (.op 11 [] (.op 12 [] (.op 13 [] (.op 14 [] (.op 9 [13] (.op 15 [] (.op 16 [] (.op 17 [] (.op 18 [] (.op 20 [] (.op 19 [] (.op 21 [] (.op 22 [] (.op 23 [] (.op 24 [] (.op 25 [] (.op 27 [] (.op 26 [] (.op 28 [] (.op 29 [] (.op 30 [] (.op 31 [] .done))))))))))))))))))))))))))))))))) .leaf))
theorem ok_l12_same : okC P qs Tryz.f13.ntmps ((Tryz.f13.body).getD .skip) ann_l12_same = true := by kernel_rfl
def T_l12_same (u : Option Addr) (r : Option Addr) (R : Ending → World → Prop) (w : World) : Prop :=
    drewP w fun w_1 =>
    withAddr r fun p =>
    ld .slc (Addr.add p 2) w_1 fun (t10 : (Option Addr × Nat × Nat)) =>
    callF P F_upper_Upper_Below #[(Value.pointer u), (Value.slice none 0 0)] [.slc] false w_1 fun (t6 : (Option Addr × Nat × Nat)) w_2 =>
    ((ld .slc (Addr.add p 2) w_2 fun (t10_1 : (Option Addr × Nat × Nat)) =>
    (Value.slice t10_1.1 t10_1.2.1 t10_1.2.2) = (Value.slice t10.1 t10.2.1 t10.2.2)) ∧
    callF P F_r12_Inodes #[(Value.slice t6.1 t6.2.1 t6.2.2), (Value.slice t10.1 t10.2.1 t10.2.2)] [.bool] false w_2 fun (t11 : Bool) w_3 =>
    iteP t11 (
    withAddr r fun p_1 =>
    ld .slc (Addr.add p_1 2) w_3 fun (t18 : (Option Addr × Nat × Nat)) =>
    callF P F_upper_Upper_Count #[(Value.pointer u)] [.int .i64] false w_3 fun (t14 : Int) w_4 =>
    ((ld .slc (Addr.add p_1 2) w_4 fun (t18_1 : (Option Addr × Nat × Nat)) =>
    (Value.slice t18_1.1 t18_1.2.1 t18_1.2.2) = (Value.slice t18.1 t18.2.1 t18.2.2)) ∧
    iteP (t14 == (t18.2.1 : Int)) (
    callF P F_upper_Upper_Size #[(Value.pointer u)] [.int .i64] false w_4 fun (t24 : Int) w_5 =>
    callF P F_r12_Upper_Size #[(Value.pointer r)] [.int .i64] false w_5 fun (t26 : Int) w_6 =>
    iteP (t24 == t26) (
    callF P F_upper_Upper_Over #[(Value.pointer u)] [.bool] false w_6 fun (t31 : Bool) w_7 =>
    callF P F_r12_Upper_Over #[(Value.pointer r)] [.bool] false w_7 fun (t33 : Bool) w_8 =>
    genQ P (eqM .eql y_bool (.tmp 31) (.tmp 33) (Value.bool t31) (Value.bool t33)) .bool w_8 fun (t34 : Bool) =>
    R (.returned (Value.bool t34)) w_8) (
    R (.returned (Value.bool false)) w_6)) (
    R (.returned (Value.bool false)) w_4))) (
    ((undef = undef) ∧
    R (.returned (Value.bool false)) w_3)))
theorem eq_l12_same (u : Option Addr) (r : Option Addr) (R : Ending → World → Prop) (w : World) : tr P qs ((Tryz.f13.body).getD .skip) ann_l12_same (env0 0 [(0, (Value.pointer u)), (0, (Value.pointer r))]) (topK P Tryz.f13.results.toList R) w = T_l12_same u r R w := by kernel_rfl
/-- veneer/veneerlaw12.same -/
theorem fn_l12_same {u : Option Addr} {r : Option Addr} {R : Ending → World → Prop} {w : World} (hT : T_l12_same u r R w) : CallF P F_l12_same #[(Value.pointer u), (Value.pointer r)] w R :=
  fn_of_tr (fn := Tryz.f13) (c := (Tryz.f13.body).getD .skip) (ann := ann_l12_same) (args := [(0, (Value.pointer u)), (0, (Value.pointer r))]) (qs := qs) mixed Tryz.func13 rfl (by kernel_rfl) (by kernel_rfl) ok_l12_same ((eq_l12_same u r R w).symm ▸ hT)
end Go.Proofs.YtbmegmbnlajbbaaGreat
