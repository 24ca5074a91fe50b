/- Functions of the program as propositions; printed by wip/tools/fw.py, checked by the kernel. -/
import Derived.Test.YtbmegmbnlajbbaaGreatTd
namespace Go.Proofs.YtbmegmbnlajbbaaGreat
open Go Go.Fw Go.Proofs
set_option maxRecDepth 100000
def ann_r02_Num : Ann := (.seq .leaf (.seq .leaf (.seq (.blk (.loop [(0, .int .u64), (3, .slc)] (.seq (.seq .leaf (.cond .leaf .leaf)) (.blk (.seq .leaf .leaf))))) (.seq .leaf .leaf))))
theorem ok_r02_Num : okC P qs Tryz.f26.ntmps ((Tryz.f26.body).getD .skip) ann_r02_Num = true := by kernel_rfl
def T_r02_Num (n : Int) (R : Ending → World → Prop) (w : World) : Prop :=
    loopP (Int × (Option Addr × Nat × Nat)) (fun s w_1 k =>
    iteP (decide (s.1 ≥ 128)) (
    remI s.1 128 fun t8 =>
    addI .u64 t8 128 fun t9 =>
    cvI .u8 t9 fun t10 =>
    genL P (Instr.buildSlice y_S_uint8 1 #[(0, (Value.int .u8 t10))]) .slc w_1 fun (t11 : (Option Addr × Nat × Nat)) w_2 =>
    genL P (Builtin.append_ #[y_S_uint8, y_S_uint8] y_S_uint8 #[(Value.slice s.2.1 s.2.2.1 s.2.2.2), (Value.slice t11.1 t11.2.1 t11.2.2)]) .slc w_2 fun (t12 : (Option Addr × Nat × Nat)) w_3 =>
    quoI .u64 s.1 128 fun t14 =>
    k (t14, (t12.1, t12.2.1, t12.2.2)) w_3) (
    cvI .u8 s.1 fun t17 =>
    genL P (Instr.buildSlice y_S_uint8 1 #[(0, (Value.int .u8 t17))]) .slc w_1 fun (t18 : (Option Addr × Nat × Nat)) w_4 =>
    genL P (Builtin.append_ #[y_S_uint8, y_S_uint8] y_S_uint8 #[(Value.slice s.2.1 s.2.2.1 s.2.2.2), (Value.slice t18.1 t18.2.1 t18.2.2)]) .slc w_4 fun (t19 : (Option Addr × Nat × Nat)) w_5 =>
    R (.returned (Value.slice t19.1 t19.2.1 t19.2.2)) w_5)) (n, (none, 0, 0)) w
theorem eq_r02_Num (n : Int) (R : Ending → World → Prop) (w : World) : tr P qs ((Tryz.f26.body).getD .skip) ann_r02_Num (env0 0 [(0, (Value.int .u64 n))]) (topK P Tryz.f26.results.toList R) w = T_r02_Num n R w := by kernel_rfl
/-- veneer/veneerref02.Num -/
theorem fn_r02_Num {n : Int} {R : Ending → World → Prop} {w : World} (hT : T_r02_Num n R w) : CallF P F_r02_Num #[(Value.int .u64 n)] w R :=
  fn_of_tr (fn := Tryz.f26) (c := (Tryz.f26.body).getD .skip) (ann := ann_r02_Num) (args := [(0, (Value.int .u64 n))]) (qs := qs) mixed Tryz.func26 rfl (by kernel_rfl) (by kernel_rfl) ok_r02_Num ((eq_r02_Num n R w).symm ▸ hT)
def ann_r02_Text : Ann := (.seq .leaf (.seq .leaf .leaf))
theorem ok_r02_Text : okC P qs Tryz.f27.ntmps ((Tryz.f27.body).getD .skip) ann_r02_Text = true := by kernel_rfl
def T_r02_Text (s : ByteArray) (R : Ending → World → Prop) (w : World) : Prop :=
    cvI .u64 (s.size : Int) fun t5 =>
    callF P F_r02_Num #[(Value.int .u64 t5)] [.slc] false w fun (t6 : (Option Addr × Nat × Nat)) w_1 =>
    genL P (Builtin.append_ #[y_S_uint8, y_string] y_S_uint8 #[(Value.slice t6.1 t6.2.1 t6.2.2), (Value.string s)]) .slc w_1 fun (t8 : (Option Addr × Nat × Nat)) w_2 =>
    R (.returned (Value.slice t8.1 t8.2.1 t8.2.2)) w_2
theorem eq_r02_Text (s : ByteArray) (R : Ending → World → Prop) (w : World) : tr P qs ((Tryz.f27.body).getD .skip) ann_r02_Text (env0 0 [(0, (Value.string s))]) (topK P Tryz.f27.results.toList R) w = T_r02_Text s R w := by kernel_rfl
/-- veneer/veneerref02.Text -/
theorem fn_r02_Text {s : ByteArray} {R : Ending → World → Prop} {w : World} (hT : T_r02_Text s R w) : CallF P F_r02_Text #[(Value.string s)] w R :=
  fn_of_tr (fn := Tryz.f27) (c := (Tryz.f27.body).getD .skip) (ann := ann_r02_Text) (args := [(0, (Value.string s))]) (qs := qs) mixed Tryz.func27 rfl (by kernel_rfl) (by kernel_rfl) ok_r02_Text ((eq_r02_Text s R w).symm ▸ hT)
def ann_r02_Flag : Ann := (.seq .leaf (.seq (.seq .leaf (.cond (.seq .leaf .leaf) .leaf)) (.seq .leaf .leaf)))
theorem ok_r02_Flag : okC P qs Tryz.f28.ntmps ((Tryz.f28.body).getD .skip) ann_r02_Flag = true := by kernel_rfl
def T_r02_Flag (b : Bool) (R : Ending → World → Prop) (w : World) : Prop :=
    iteP b (
    genL P (Instr.buildSlice y_S_uint8 1 #[(0, (Value.int .u8 1))]) .slc w fun (t4 : (Option Addr × Nat × Nat)) w_1 =>
    R (.returned (Value.slice t4.1 t4.2.1 t4.2.2)) w_1) (
    genL P (Instr.buildSlice y_S_uint8 1 #[(0, (Value.int .u8 0))]) .slc w fun (t5 : (Option Addr × Nat × Nat)) w_2 =>
    R (.returned (Value.slice t5.1 t5.2.1 t5.2.2)) w_2)
theorem eq_r02_Flag (b : Bool) (R : Ending → World → Prop) (w : World) : tr P qs ((Tryz.f28.body).getD .skip) ann_r02_Flag (env0 0 [(0, (Value.bool b))]) (topK P Tryz.f28.results.toList R) w = T_r02_Flag b R w := by kernel_rfl
/-- veneer/veneerref02.Flag -/
theorem fn_r02_Flag {b : Bool} {R : Ending → World → Prop} {w : World} (hT : T_r02_Flag b R w) : CallF P F_r02_Flag #[(Value.bool b)] w R :=
  fn_of_tr (fn := Tryz.f28) (c := (Tryz.f28.body).getD .skip) (ann := ann_r02_Flag) (args := [(0, (Value.bool b))]) (qs := qs) mixed Tryz.func28 rfl (by kernel_rfl) (by kernel_rfl) ok_r02_Flag ((eq_r02_Flag b R w).symm ▸ hT)
def ann_r02_In_bad : Ann := (.seq .leaf .leaf)
theorem ok_r02_In_bad : okC P qs Tryz.f65.ntmps ((Tryz.f65.body).getD .skip) ann_r02_In_bad = true := by kernel_rfl
def T_r02_In_bad (i : Option Addr) (e : Int) (R : Ending → World → Prop) (w : World) : Prop :=
    withAddr i fun p =>
    stC (Addr.add p 2) (Value.int .i64 e) w fun w_1 =>
    withAddr i fun p_1 =>
    ld .slc p_1 w_1 fun (t12 : (Option Addr × Nat × Nat)) =>
    withAddr i fun p_2 =>
    stC (Addr.add p_2 1) (Value.int .i64 (t12.2.1 : Int)) w_1 fun w_2 =>
    R (.returned (Value.tuple #[])) w_2
theorem eq_r02_In_bad (i : Option Addr) (e : Int) (R : Ending → World → Prop) (w : World) : tr P qs ((Tryz.f65.body).getD .skip) ann_r02_In_bad (env0 0 [(0, (Value.pointer i)), (0, (Value.int .i64 e))]) (topK P Tryz.f65.results.toList R) w = T_r02_In_bad i e R w := by kernel_rfl
/-- (*veneer/veneerref02.In).bad -/
theorem fn_r02_In_bad {i : Option Addr} {e : Int} {R : Ending → World → Prop} {w : World} (hT : T_r02_In_bad i e R w) : CallF P F_r02_In_bad #[(Value.pointer i), (Value.int .i64 e)] w R :=
  fn_of_tr (fn := Tryz.f65) (c := (Tryz.f65.body).getD .skip) (ann := ann_r02_In_bad) (args := [(0, (Value.pointer i)), (0, (Value.int .i64 e))]) (qs := qs) mixed Tryz.func65 rfl (by kernel_rfl) (by kernel_rfl) ok_r02_In_bad ((eq_r02_In_bad i e R w).symm ▸ hT)
def ann_r02_In_Left : Ann := (.seq .leaf (.seq (.tree (.op 0 [] (.op 1 [] (.op 2 [] (.op 5 [] (.op 6 [] (.op 7 [] (.op 3 [] (.op 4 [] (.op 8 [] (.op 9 [] (.op 10 [] .done)))))))))))) .leaf))
theorem ok_r02_In_Left : okC P qs Tryz.f41.ntmps ((Tryz.f41.body).getD .skip) ann_r02_In_Left = true := by kernel_rfl
def T_r02_In_Left (i : Option Addr) (R : Ending → World → Prop) (w : World) : Prop :=
    drewP w fun w_1 =>
    withAddr i fun p =>
    withAddr i fun p_1 =>
    ld .slc p w_1 fun (t6 : (Option Addr × Nat × Nat)) =>
    ld (.int .i64) (Addr.add p_1 1) w_1 fun (t11 : Int) =>
    subI .i64 (t6.2.1 : Int) t11 fun t12 =>
    R (.returned (Value.int .i64 t12)) w_1
theorem eq_r02_In_Left (i : Option Addr) (R : Ending → World → Prop) (w : World) : tr P qs ((Tryz.f41.body).getD .skip) ann_r02_In_Left (env0 0 [(0, (Value.pointer i))]) (topK P Tryz.f41.results.toList R) w = T_r02_In_Left i R w := by kernel_rfl
/-- (*veneer/veneerref02.In).Left -/
theorem fn_r02_In_Left {i : Option Addr} {R : Ending → World → Prop} {w : World} (hT : T_r02_In_Left i R w) : CallF P F_r02_In_Left #[(Value.pointer i)] w R :=
  fn_of_tr (fn := Tryz.f41) (c := (Tryz.f41.body).getD .skip) (ann := ann_r02_In_Left) (args := [(0, (Value.pointer i))]) (qs := qs) mixed Tryz.func41 rfl (by kernel_rfl) (by kernel_rfl) ok_r02_In_Left ((eq_r02_In_Left i R w).symm ▸ hT)
def ann_r02_In_Num : Ann := (.seq .leaf (.seq (.seq .leaf (.cond (.seq .leaf .leaf) .leaf)) (.seq .leaf (.seq (.seq .leaf (.blk (.loop [(3, .int .u64), (4, .int .i64)] (.seq (.seq .leaf (.cond .leaf .leaf)) (.seq (.jblk [(3, .int .u64)] (.seq (.seq (.tree (.op 0 [] (.op 1 [] (.op 2 [] (.op 4 [] (.op 5 [] (.op 6 [] (.op 3 [] (.op 7 [] (.op 8 [] (.op 9 [] .done))))))))))) (.cond (.seq .leaf (.seq .leaf .leaf)) .leaf)) (.seq (.tree (.op 0 [] (.op 1 [] (.op 2 [] (.op 4 [] (.op 5 [] (.op 6 [] (.op 3 [] (.op 7 [] (.op 8 [] (.op 9 [] (.op 10 [] .done)))))))))))) (.seq .leaf (.join [] (.seq .leaf (.cond (.seq .leaf (.seq .leaf .leaf)) .leaf)) (.seq .leaf (.seq .leaf (.cond (.seq .leaf .leaf) .leaf)))))))) .leaf))))) (.seq .leaf .leaf)))))
theorem ok_r02_In_Num : okC P qs Tryz.f38.ntmps ((Tryz.f38.body).getD .skip) ann_r02_In_Num = true := by kernel_rfl
def T_r02_In_Num (i : Option Addr) (R : Ending → World → Prop) (w : World) : Prop :=
    withAddr i fun p =>
    ld (.int .i64) (Addr.add p 2) w fun (t9 : Int) =>
    iteP (t9 != 0) (
    R (.returned (Value.int .u64 0)) w) (
    loopP (Int × Int) (fun s w_1 k =>
    iteP (decide (s.2 < 10)) (
    joinP Int (fun k_1 =>
    drewP w_1 fun w_2 =>
    withAddr i fun p_1 =>
    withAddr i fun p_2 =>
    ld (.int .i64) (Addr.add p_1 1) w_2 fun (t18 : Int) =>
    ld .slc p_2 w_2 fun (t22 : (Option Addr × Nat × Nat)) =>
    iteP (decide (t18 ≥ (t22.2.1 : Int))) (
    callF P F_r02_In_bad #[(Value.pointer i), (Value.int .i64 20)] [] true w_2 fun (_ : Unit) w_3 =>
    R (.returned (Value.int .u64 0)) w_3) (
    drewP w_2 fun w_4 =>
    withAddr i fun p_3 =>
    withAddr i fun p_4 =>
    ld .slc p_3 w_4 fun (t30 : (Option Addr × Nat × Nat)) =>
    ld (.int .i64) (Addr.add p_4 1) w_4 fun (t34 : Int) =>
    ixS t30.1 t30.2.1 1 t34 fun t35 =>
    ld (.int .u8) t35 w_4 fun (t36 : Int) =>
    withAddr i fun p_5 =>
    ld (.int .i64) (Addr.add p_5 1) w_4 fun (t40 : Int) =>
    addI .i64 t40 1 fun t41 =>
    withAddr i fun p_6 =>
    stC (Addr.add p_6 1) (Value.int .i64 t41) w_4 fun w_5 =>
    joinP Unit (fun k_2 =>
    iteP (s.2 == 9) (
    iteP (decide (t36 > 1)) (
    callF P F_r02_In_bad #[(Value.pointer i), (Value.int .i64 21)] [] true w_5 fun (_ : Unit) w_6 =>
    R (.returned (Value.int .u64 0)) w_6) (
    iteP (decide (s.2 > 0)) (
    iteP (t36 == 0) (
    callF P F_r02_In_bad #[(Value.pointer i), (Value.int .i64 21)] [] true w_5 fun (_ : Unit) w_7 =>
    R (.returned (Value.int .u64 0)) w_7) (
    k_2 () w_5)) (
    k_2 () w_5))) (
    iteP (decide (s.2 > 0)) (
    iteP (t36 == 0) (
    callF P F_r02_In_bad #[(Value.pointer i), (Value.int .i64 21)] [] true w_5 fun (_ : Unit) w_8 =>
    R (.returned (Value.int .u64 0)) w_8) (
    k_2 () w_5)) (
    k_2 () w_5))) (fun _ w_9 =>
    remI t36 128 fun t62 =>
    cvI .u64 t62 fun t63 =>
    mulI .i64 7 s.2 fun t65 =>
    cvI .u64 t65 fun t66 =>
    shlI .u64 t63 t66 fun t67 =>
    orI .u64 s.1 t67 fun t68 =>
    iteP (decide (t36 < 128)) (
    R (.returned (Value.int .u64 t68)) w_9) (
    k_1 t68 w_9)))) (fun s_2 w_10 =>
    addI .i64 s.2 1 fun t14 =>
    k (s_2, t14) w_10)) (
    R (.returned (Value.int .u64 0)) w_1)) (0, 0) w)
theorem eq_r02_In_Num (i : Option Addr) (R : Ending → World → Prop) (w : World) : tr P qs ((Tryz.f38.body).getD .skip) ann_r02_In_Num (env0 0 [(0, (Value.pointer i))]) (topK P Tryz.f38.results.toList R) w = T_r02_In_Num i R w := by kernel_rfl
/-- (*veneer/veneerref02.In).Num -/
theorem fn_r02_In_Num {i : Option Addr} {R : Ending → World → Prop} {w : World} (hT : T_r02_In_Num i R w) : CallF P F_r02_In_Num #[(Value.pointer i)] w R :=
  fn_of_tr (fn := Tryz.f38) (c := (Tryz.f38.body).getD .skip) (ann := ann_r02_In_Num) (args := [(0, (Value.pointer i))]) (qs := qs) mixed Tryz.func38 rfl (by kernel_rfl) (by kernel_rfl) ok_r02_In_Num ((eq_r02_In_Num i R w).symm ▸ hT)
def ann_r02_In_Text : Ann := (.seq .leaf (.seq .leaf (.seq (.seq .leaf (.cond (.seq .leaf .leaf) .leaf)) (.join [] (.seq .leaf (.cond (.seq .leaf (.seq .leaf .leaf)) .leaf)) (.seq (.seq .leaf (.cond (.seq .leaf (.seq .leaf .leaf)) .leaf)) (.seq (.tree (.op 0 [] (.op 1 [] (.op 2 [] (.op 4 [] (.op 5 [] (.op 6 [] (.op 8 [] (.op 9 [] (.op 10 [] (.op 12 [] (.op 13 [] (.op 3 [] (.op 7 [] (.op 11 [] (.op 14 [] (.op 15 [] (.op 16 [] (.op 17 [] .done))))))))))))))))))) (.seq .leaf (.seq .leaf .leaf))))))))
theorem ok_r02_In_Text : okC P qs Tryz.f39.ntmps ((Tryz.f39.body).getD .skip) ann_r02_In_Text = true := by kernel_rfl
def T_r02_In_Text (i : Option Addr) (most : Int) (R : Ending → World → Prop) (w : World) : Prop :=
    callF P F_r02_In_Num #[(Value.pointer i)] [.int .u64] false w fun (t8 : Int) w_1 =>
    withAddr i fun p =>
    ld (.int .i64) (Addr.add p 2) w_1 fun (t12 : Int) =>
    iteP (t12 != 0) (
    R (.returned (Value.string (ByteArray.mk #[]))) w_1) (
    joinP Unit (fun k =>
    iteP (decide (most < 0)) (
    iteP (decide (t8 > 0)) (
    callF P F_r02_In_bad #[(Value.pointer i), (Value.int .i64 2)] [] true w_1 fun (_ : Unit) w_2 =>
    R (.returned (Value.string (ByteArray.mk #[]))) w_2) (
    iteP (decide (most ≥ 0)) (
    cvI .u64 most fun t26 =>
    iteP (decide (t8 > t26)) (
    callF P F_r02_In_bad #[(Value.pointer i), (Value.int .i64 2)] [] true w_1 fun (_ : Unit) w_3 =>
    R (.returned (Value.string (ByteArray.mk #[]))) w_3) (
    k () w_1)) (
    k () w_1))) (
    iteP (decide (most ≥ 0)) (
    cvI .u64 most fun t26_1 =>
    iteP (decide (t8 > t26_1)) (
    callF P F_r02_In_bad #[(Value.pointer i), (Value.int .i64 2)] [] true w_1 fun (_ : Unit) w_4 =>
    R (.returned (Value.string (ByteArray.mk #[]))) w_4) (
    k () w_1)) (
    k () w_1))) (fun _ w_5 =>
    callF P F_r02_In_Left #[(Value.pointer i)] [.int .i64] false w_5 fun (t34 : Int) w_6 =>
    cvI .u64 t34 fun t35 =>
    iteP (decide (t8 > t35)) (
    callF P F_r02_In_bad #[(Value.pointer i), (Value.int .i64 20)] [] true w_6 fun (_ : Unit) w_7 =>
    R (.returned (Value.string (ByteArray.mk #[]))) w_7) (
    drewP w_6 fun w_8 =>
    withAddr i fun p_1 =>
    withAddr i fun p_2 =>
    withAddr i fun p_3 =>
    cvI .i64 t8 fun t52 =>
    ld .slc p_1 w_8 fun (t42 : (Option Addr × Nat × Nat)) =>
    ld (.int .i64) (Addr.add p_2 1) w_8 fun (t46 : Int) =>
    ld (.int .i64) (Addr.add p_3 1) w_8 fun (t50 : Int) =>
    addI .i64 t50 t52 fun t53 =>
    genQ P (Instr.sliceAt y_S_uint8 (Value.slice t42.1 t42.2.1 t42.2.2) (some (Value.int .i64 t46)) (some (Value.int .i64 t53)) none) .slc w_8 fun (t54 : (Option Addr × Nat × Nat)) =>
    genQ P (convert y_S_uint8 y_string (Value.slice t54.1 t54.2.1 t54.2.2)) .str w_8 fun (t55 : ByteArray) =>
    withAddr i fun p_4 =>
    ld (.int .i64) (Addr.add p_4 1) w_8 fun (t59 : Int) =>
    cvI .i64 t8 fun t61 =>
    addI .i64 t59 t61 fun t62 =>
    withAddr i fun p_5 =>
    stC (Addr.add p_5 1) (Value.int .i64 t62) w_8 fun w_9 =>
    R (.returned (Value.string t55)) w_9)))
theorem eq_r02_In_Text (i : Option Addr) (most : Int) (R : Ending → World → Prop) (w : World) : tr P qs ((Tryz.f39.body).getD .skip) ann_r02_In_Text (env0 0 [(0, (Value.pointer i)), (0, (Value.int .i64 most))]) (topK P Tryz.f39.results.toList R) w = T_r02_In_Text i most R w := by kernel_rfl
/-- (*veneer/veneerref02.In).Text -/
theorem fn_r02_In_Text {i : Option Addr} {most : Int} {R : Ending → World → Prop} {w : World} (hT : T_r02_In_Text i most R w) : CallF P F_r02_In_Text #[(Value.pointer i), (Value.int .i64 most)] w R :=
  fn_of_tr (fn := Tryz.f39) (c := (Tryz.f39.body).getD .skip) (ann := ann_r02_In_Text) (args := [(0, (Value.pointer i)), (0, (Value.int .i64 most))]) (qs := qs) mixed Tryz.func39 rfl (by kernel_rfl) (by kernel_rfl) ok_r02_In_Text ((eq_r02_In_Text i most R w).symm ▸ hT)
def ann_r02_In_Flag : Ann := (.seq .leaf (.seq (.seq .leaf (.cond (.seq .leaf .leaf) .leaf)) (.seq (.seq (.tree (.op 0 [] (.op 1 [] (.op 2 [] (.op 4 [] (.op 5 [] (.op 6 [] (.op 3 [] (.op 7 [] (.op 8 [] (.op 9 [] .done))))))))))) (.cond (.seq .leaf (.seq .leaf .leaf)) .leaf)) (.seq (.tree (.op 0 [] (.op 1 [] (.op 2 [] (.op 4 [] (.op 5 [] (.op 6 [] (.op 3 [] (.op 7 [] (.op 8 [] (.op 9 [] (.op 10 [] .done)))))))))))) (.seq .leaf (.seq (.seq .leaf (.cond (.seq .leaf (.seq .leaf .leaf)) .leaf)) (.seq .leaf .leaf)))))))
theorem ok_r02_In_Flag : okC P qs Tryz.f40.ntmps ((Tryz.f40.body).getD .skip) ann_r02_In_Flag = true := by kernel_rfl
def T_r02_In_Flag (i : Option Addr) (R : Ending → World → Prop) (w : World) : Prop :=
    withAddr i fun p =>
    ld (.int .i64) (Addr.add p 2) w fun (t7 : Int) =>
    iteP (t7 != 0) (
    R (.returned (Value.bool false)) w) (
    drewP w fun w_1 =>
    withAddr i fun p_1 =>
    withAddr i fun p_2 =>
    ld (.int .i64) (Addr.add p_1 1) w_1 fun (t12 : Int) =>
    ld .slc p_2 w_1 fun (t16 : (Option Addr × Nat × Nat)) =>
    iteP (decide (t12 ≥ (t16.2.1 : Int))) (
    callF P F_r02_In_bad #[(Value.pointer i), (Value.int .i64 20)] [] true w_1 fun (_ : Unit) w_2 =>
    R (.returned (Value.bool false)) w_2) (
    drewP w_1 fun w_3 =>
    withAddr i fun p_3 =>
    withAddr i fun p_4 =>
    ld .slc p_3 w_3 fun (t24 : (Option Addr × Nat × Nat)) =>
    ld (.int .i64) (Addr.add p_4 1) w_3 fun (t28 : Int) =>
    ixS t24.1 t24.2.1 1 t28 fun t29 =>
    ld (.int .u8) t29 w_3 fun (t30 : Int) =>
    withAddr i fun p_5 =>
    ld (.int .i64) (Addr.add p_5 1) w_3 fun (t34 : Int) =>
    addI .i64 t34 1 fun t35 =>
    withAddr i fun p_6 =>
    stC (Addr.add p_6 1) (Value.int .i64 t35) w_3 fun w_4 =>
    iteP (decide (t30 > 1)) (
    callF P F_r02_In_bad #[(Value.pointer i), (Value.int .i64 21)] [] true w_4 fun (_ : Unit) w_5 =>
    R (.returned (Value.bool false)) w_5) (
    R (.returned (Value.bool (t30 == 1))) w_4)))
theorem eq_r02_In_Flag (i : Option Addr) (R : Ending → World → Prop) (w : World) : tr P qs ((Tryz.f40.body).getD .skip) ann_r02_In_Flag (env0 0 [(0, (Value.pointer i))]) (topK P Tryz.f40.results.toList R) w = T_r02_In_Flag i R w := by kernel_rfl
/-- (*veneer/veneerref02.In).Flag -/
theorem fn_r02_In_Flag {i : Option Addr} {R : Ending → World → Prop} {w : World} (hT : T_r02_In_Flag i R w) : CallF P F_r02_In_Flag #[(Value.pointer i)] w R :=
  fn_of_tr (fn := Tryz.f40) (c := (Tryz.f40.body).getD .skip) (ann := ann_r02_In_Flag) (args := [(0, (Value.pointer i))]) (qs := qs) mixed Tryz.func40 rfl (by kernel_rfl) (by kernel_rfl) ok_r02_In_Flag ((eq_r02_In_Flag i R w).symm ▸ hT)
def ann_r12_Upper_Encode : Ann := (.seq .leaf (.seq .leaf (.seq .leaf (.seq .leaf (.seq (.seq .leaf (.blk (.loop [(3, .slc), (4, .int .i64)] (.seq (.seq .leaf (.cond .leaf .leaf)) (.seq (.blk (.seq .leaf (.seq .leaf (.seq .leaf .leaf)))) .leaf))))) (.seq .leaf .leaf))))))
theorem ok_r12_Upper_Encode : okC P qs Tryz.f10.ntmps ((Tryz.f10.body).getD .skip) ann_r12_Upper_Encode = true := by kernel_rfl
def T_r12_Upper_Encode (u : Option Addr) (R : Ending → World → Prop) (w : World) : Prop :=
    withAddr u fun p =>
    ld (.int .i64) p w fun (t8 : Int) =>
    cvI .u64 t8 fun t9 =>
    callF P F_r02_Num #[(Value.int .u64 t9)] [.slc] false w fun (t10 : (Option Addr × Nat × Nat)) w_1 =>
    withAddr u fun p_1 =>
    ld (.int .i64) (Addr.add p_1 1) w_1 fun (t15 : Int) =>
    cvI .u64 t15 fun t16 =>
    callF P F_r02_Num #[(Value.int .u64 t16)] [.slc] false w_1 fun (t17 : (Option Addr × Nat × Nat)) w_2 =>
    genL P (Builtin.append_ #[y_S_uint8, y_S_uint8] y_S_uint8 #[(Value.slice t10.1 t10.2.1 t10.2.2), (Value.slice t17.1 t17.2.1 t17.2.2)]) .slc w_2 fun (t18 : (Option Addr × Nat × Nat)) w_3 =>
    withAddr u fun p_2 =>
    ld .slc (Addr.add p_2 2) w_3 fun (t23 : (Option Addr × Nat × Nat)) =>
    cvI .u64 (t23.2.1 : Int) fun t25 =>
    callF P F_r02_Num #[(Value.int .u64 t25)] [.slc] false w_3 fun (t26 : (Option Addr × Nat × Nat)) w_4 =>
    genL P (Builtin.append_ #[y_S_uint8, y_S_uint8] y_S_uint8 #[(Value.slice t18.1 t18.2.1 t18.2.2), (Value.slice t26.1 t26.2.1 t26.2.2)]) .slc w_4 fun (t27 : (Option Addr × Nat × Nat)) w_5 =>
    loopP ((Option Addr × Nat × Nat) × Int) (fun s w_6 k =>
    withAddr u fun p_3 =>
    ld .slc (Addr.add p_3 2) w_6 fun (t32 : (Option Addr × Nat × Nat)) =>
    iteP (decide (s.2 < (t32.2.1 : Int))) (
    withAddr u fun p_4 =>
    ld .slc (Addr.add p_4 2) w_6 fun (t41 : (Option Addr × Nat × Nat)) =>
    ixS t41.1 t41.2.1 4 s.2 fun t43 =>
    ld .str t43 w_6 fun (t45 : ByteArray) =>
    callF P F_r02_Text #[(Value.string t45)] [.slc] false w_6 fun (t46 : (Option Addr × Nat × Nat)) w_7 =>
    genL P (Builtin.append_ #[y_S_uint8, y_S_uint8] y_S_uint8 #[(Value.slice s.1.1 s.1.2.1 s.1.2.2), (Value.slice t46.1 t46.2.1 t46.2.2)]) .slc w_7 fun (t47 : (Option Addr × Nat × Nat)) w_8 =>
    withAddr u fun p_5 =>
    ld .slc (Addr.add p_5 2) w_8 fun (t52 : (Option Addr × Nat × Nat)) =>
    ixS t52.1 t52.2.1 4 s.2 fun t54 =>
    ld (.int .i64) (Addr.add t54 1) w_8 fun (t56 : Int) =>
    cvI .u64 t56 fun t57 =>
    callF P F_r02_Num #[(Value.int .u64 t57)] [.slc] false w_8 fun (t58 : (Option Addr × Nat × Nat)) w_9 =>
    genL P (Builtin.append_ #[y_S_uint8, y_S_uint8] y_S_uint8 #[(Value.slice t47.1 t47.2.1 t47.2.2), (Value.slice t58.1 t58.2.1 t58.2.2)]) .slc w_9 fun (t59 : (Option Addr × Nat × Nat)) w_10 =>
    withAddr u fun p_6 =>
    ld .slc (Addr.add p_6 2) w_10 fun (t64 : (Option Addr × Nat × Nat)) =>
    ixS t64.1 t64.2.1 4 s.2 fun t66 =>
    ld .bool (Addr.add t66 2) w_10 fun (t68 : Bool) =>
    callF P F_r02_Flag #[(Value.bool t68)] [.slc] false w_10 fun (t69 : (Option Addr × Nat × Nat)) w_11 =>
    genL P (Builtin.append_ #[y_S_uint8, y_S_uint8] y_S_uint8 #[(Value.slice t59.1 t59.2.1 t59.2.2), (Value.slice t69.1 t69.2.1 t69.2.2)]) .slc w_11 fun (t70 : (Option Addr × Nat × Nat)) w_12 =>
    withAddr u fun p_7 =>
    ld .slc (Addr.add p_7 2) w_12 fun (t75 : (Option Addr × Nat × Nat)) =>
    ixS t75.1 t75.2.1 4 s.2 fun t77 =>
    ld .str (Addr.add t77 3) w_12 fun (t79 : ByteArray) =>
    callF P F_r02_Text #[(Value.string t79)] [.slc] false w_12 fun (t80 : (Option Addr × Nat × Nat)) w_13 =>
    genL P (Builtin.append_ #[y_S_uint8, y_S_uint8] y_S_uint8 #[(Value.slice t70.1 t70.2.1 t70.2.2), (Value.slice t80.1 t80.2.1 t80.2.2)]) .slc w_13 fun (t81 : (Option Addr × Nat × Nat)) w_14 =>
    addI .i64 s.2 1 fun t36 =>
    k ((t81.1, t81.2.1, t81.2.2), t36) w_14) (
    R (.returned (Value.slice s.1.1 s.1.2.1 s.1.2.2)) w_6)) ((t27.1, t27.2.1, t27.2.2), 0) w_5
theorem eq_r12_Upper_Encode (u : Option Addr) (R : Ending → World → Prop) (w : World) : tr P qs ((Tryz.f10.body).getD .skip) ann_r12_Upper_Encode (env0 0 [(0, (Value.pointer u))]) (topK P Tryz.f10.results.toList R) w = T_r12_Upper_Encode u R w := by kernel_rfl
/-- (*veneer/veneerref12.Upper).Encode -/
theorem fn_r12_Upper_Encode {u : Option Addr} {R : Ending → World → Prop} {w : World} (hT : T_r12_Upper_Encode u R w) : CallF P F_r12_Upper_Encode #[(Value.pointer u)] w R :=
  fn_of_tr (fn := Tryz.f10) (c := (Tryz.f10.body).getD .skip) (ann := ann_r12_Upper_Encode) (args := [(0, (Value.pointer u))]) (qs := qs) mixed Tryz.func10 rfl (by kernel_rfl) (by kernel_rfl) ok_r12_Upper_Encode ((eq_r12_Upper_Encode u R w).symm ▸ hT)
def ann_r12_Decode : Ann := (.seq .leaf (.seq .leaf (.seq .leaf (.seq .leaf (.seq .leaf (.join [] (.seq .leaf (.cond (.seq .leaf .leaf) .leaf)) (.seq .leaf (.seq (.seq .leaf (.blk (.loop [(9, .int .i64)] (.seq (.seq .leaf (.cond .leaf .leaf)) (.join [] (.jblk [] (.seq .leaf (.seq .leaf (.seq .leaf (.seq (.seq .leaf (.cond (.seq .leaf .leaf) .leaf)) (.seq .leaf (.seq .leaf (.seq .leaf (.seq .leaf (.cond (.seq .leaf .leaf) .leaf)))))))))) .leaf))))) (.join [] (.seq (.tree (.op 0 [] (.op 1 [] (.op 2 [] (.op 3 [] (.op 4 [] (.op 5 [] (.op 6 [] (.op 7 [] (.op 8 [] (.op 9 [] (.op 10 [] (.op 11 [] (.op 14 [] (.op 15 [] (.op 12 [15] (.op 13 [] (.op 16 [] (.op 17 [] .done))))))))))))))))))) (.cond (.seq .leaf .leaf) .leaf)) (.seq .leaf .leaf))))))))))
theorem ok_r12_Decode : okC P qs Tryz.f12.ntmps ((Tryz.f12.body).getD .skip) ann_r12_Decode = true := by kernel_rfl
def T_r12_Decode (b : Option Addr) (b_l b_c : Nat) (R : Ending → World → Prop) (w : World) : Prop :=
    genQ P (Instr.build y_r02_In #[(0, (Value.slice b b_l b_c))]) .any w fun (t13 : Value) =>
    newB (Value.cells t13) y_r02_In w fun b14 w_1 =>
    callF P F_r02_In_Num #[(Value.pointer (some (⟨b14, 0, none⟩ : Addr)))] [.int .u64] false w_1 fun (t16 : Int) w_2 =>
    callF P F_r02_In_Num #[(Value.pointer (some (⟨b14, 0, none⟩ : Addr)))] [.int .u64] false w_2 fun (t18 : Int) w_3 =>
    callF P F_r02_In_Num #[(Value.pointer (some (⟨b14, 0, none⟩ : Addr)))] [.int .u64] false w_3 fun (t20 : Int) w_4 =>
    joinP Unit (fun k =>
    ld (.int .i64) (⟨b14, 2, none⟩ : Addr) w_4 fun (t24 : Int) =>
    iteP (t24 != 0) (
    R (.returned (Value.tuple #[(Value.pointer none), (Value.bool false)])) w_4) (
    iteP (decide (t16 > 128)) (
    R (.returned (Value.tuple #[(Value.pointer none), (Value.bool false)])) w_4) (
    iteP (decide (t18 > 8192)) (
    R (.returned (Value.tuple #[(Value.pointer none), (Value.bool false)])) w_4) (
    iteP (decide (t20 > 1024)) (
    R (.returned (Value.tuple #[(Value.pointer none), (Value.bool false)])) w_4) (
    k () w_4))))) (fun _ w_5 =>
    cvI .i64 t16 fun t39 =>
    cvI .i64 t18 fun t41 =>
    genQ P (Instr.build y_r12_Upper #[(0, (Value.int .i64 t39)), (1, (Value.int .i64 t41))]) .any w_5 fun (t42 : Value) =>
    newB (Value.cells t42) y_r12_Upper w_5 fun b43 w_6 =>
    loopP Int (fun s_1 w_7 k_1 =>
    cvI .i64 t20 fun t46 =>
    iteP (decide (s_1 < t46)) (
    joinP Unit (fun k_2 =>
    joinP Unit (fun k_3 =>
    newB (zc P y_api_Inode) y_api_Inode w_7 fun b10 w_8 =>
    callF P F_r02_In_Text #[(Value.pointer (some (⟨b14, 0, none⟩ : Addr))), (Value.int .i64 256)] [.str] false w_8 fun (t51 : ByteArray) w_9 =>
    stC (⟨b10, 0, none⟩ : Addr) (Value.string t51) w_9 fun w_10 =>
    callF P F_r02_In_Num #[(Value.pointer (some (⟨b14, 0, none⟩ : Addr)))] [.int .u64] false w_10 fun (t54 : Int) w_11 =>
    iteP (decide (t54 > 3)) (
    R (.returned (Value.tuple #[(Value.pointer none), (Value.bool false)])) w_11) (
    cvI .i64 t54 fun t58 =>
    stC (⟨b10, 1, none⟩ : Addr) (Value.int .i64 t58) w_11 fun w_12 =>
    callF P F_r02_In_Flag #[(Value.pointer (some (⟨b14, 0, none⟩ : Addr)))] [.bool] false w_12 fun (t61 : Bool) w_13 =>
    stC (⟨b10, 2, none⟩ : Addr) (Value.bool t61) w_13 fun w_14 =>
    callF P F_r02_In_Text #[(Value.pointer (some (⟨b14, 0, none⟩ : Addr))), (Value.int .i64 1024)] [.str] false w_14 fun (t64 : ByteArray) w_15 =>
    stC (⟨b10, 3, none⟩ : Addr) (Value.string t64) w_15 fun w_16 =>
    ld (.int .i64) (⟨b14, 2, none⟩ : Addr) w_16 fun (t69 : Int) =>
    iteP (t69 != 0) (
    R (.returned (Value.tuple #[(Value.pointer none), (Value.bool false)])) w_16) (
    ldA P 4 (⟨b10, 0, none⟩ : Addr) w_16 fun t73 =>
    callF P F_r12_Upper_Put #[(Value.pointer (some (⟨b43, 0, none⟩ : Addr))), (Value.agg t73)] [.int .i64] false w_16 fun (t74 : Int) w_17 =>
    iteP (t74 != 0) (
    R (.returned (Value.tuple #[(Value.pointer none), (Value.bool false)])) w_17) (
    k_3 () w_17)))) (fun _ w_18 =>
    k_2 () w_18)) (fun _ w_19 =>
    addI .i64 s_1 1 fun t49 =>
    k_1 t49 w_19)) (
    joinP Unit (fun k_4 =>
    drewP w_7 fun w_20 =>
    ld (.int .i64) (⟨b14, 2, none⟩ : Addr) w_20 fun (t80 : Int) =>
    iteP (t80 != 0) (
    ((undef = undef) ∧
    R (.returned (Value.tuple #[(Value.pointer none), (Value.bool false)])) w_20)) (
    callF P F_r02_In_Left #[(Value.pointer (some (⟨b14, 0, none⟩ : Addr)))] [.int .i64] false w_20 fun (t84 : Int) w_21 =>
    iteP (t84 != 0) (
    ((undef = undef) ∧
    R (.returned (Value.tuple #[(Value.pointer none), (Value.bool false)])) w_21)) (
    genQ P (convert y_S_uint8 y_string (Value.slice b b_l b_c)) .str w_21 fun (t92 : ByteArray) =>
    callF P F_r12_Upper_Encode #[(Value.pointer (some (⟨b43, 0, none⟩ : Addr)))] [.slc] false w_21 fun (t89 : (Option Addr × Nat × Nat)) w_22 =>
    ((genQ P (convert y_S_uint8 y_string (Value.slice b b_l b_c)) .str w_22 fun (t92_1 : ByteArray) =>
    (Value.string t92_1) = (Value.string t92)) ∧
    genQ P (convert y_S_uint8 y_string (Value.slice t89.1 t89.2.1 t89.2.2)) .str w_22 fun (t90 : ByteArray) =>
    iteP (!(t90.toList == t92.toList)) (
    R (.returned (Value.tuple #[(Value.pointer none), (Value.bool false)])) w_22) (
    k_4 () w_22))))) (fun _ w_23 =>
    R (.returned (Value.tuple #[(Value.pointer (some (⟨b43, 0, none⟩ : Addr))), (Value.bool true)])) w_23))) 0 w_6)
theorem eq_r12_Decode (b : Option Addr) (b_l b_c : Nat) (R : Ending → World → Prop) (w : World) : tr P qs ((Tryz.f12.body).getD .skip) ann_r12_Decode (env0 0 [(0, (Value.slice b b_l b_c))]) (topK P Tryz.f12.results.toList R) w = T_r12_Decode b b_l b_c R w := by kernel_rfl
/-- veneer/veneerref12.Decode -/
theorem fn_r12_Decode {b : Option Addr} {b_l b_c : Nat} {R : Ending → World → Prop} {w : World} (hT : T_r12_Decode b b_l b_c R w) : CallF P F_r12_Decode #[(Value.slice b b_l b_c)] w R :=
  fn_of_tr (fn := Tryz.f12) (c := (Tryz.f12.body).getD .skip) (ann := ann_r12_Decode) (args := [(0, (Value.slice b b_l b_c))]) (qs := qs) mixed Tryz.func12 rfl (by kernel_rfl) (by kernel_rfl) ok_r12_Decode ((eq_r12_Decode b b_l b_c R w).symm ▸ hT)
def ann_l12_UpperBytes : Ann := (.seq .leaf (.seq (.seq .leaf (.cond (.seq .leaf .leaf) .leaf)) (.join [] (.seq .leaf (.cond (.seq .leaf .leaf) .leaf)) (.seq .leaf (.seq .leaf (.join [] (.seq (.tree (.op 0 [] (.op 1 [] (.op 2 [] (.op 3 [] (.op 4 [] (.op 5 [] (.op 6 [] (.op 7 [] (.op 8 [] (.op 9 [] (.op 10 [] (.op 13 [] (.op 11 [] (.op 12 [] (.op 14 [12] (.op 15 [] (.op 16 [] (.op 17 [] .done))))))))))))))))))) (.cond (.seq .leaf .leaf) .leaf)) (.seq .leaf (.seq .leaf (.join [] (.seq .leaf (.cond (.seq .leaf .leaf) .leaf)) (.seq (.tree (.op 0 [] (.op 1 [] (.op 2 [] (.op 3 [] (.op 4 [] (.op 5 [] (.op 6 [] (.op 7 [] (.op 10 [] (.op 11 [] (.op 8 [11] (.op 9 [] (.op 12 [] (.op 13 [] (.op 14 [] (.op 15 [] .done))))))))))))))))) .leaf))))))))))
theorem ok_l12_UpperBytes : okC P qs Tryz.f3.ntmps ((Tryz.f3.body).getD .skip) ann_l12_UpperBytes = true := by kernel_rfl
def T_l12_UpperBytes (script : Option Addr) (script_l script_c : Nat) (b : Option Addr) (b_l b_c : Nat) (R : Ending → World → Prop) (w : World) : Prop :=
    callF P F_l12_awake #[] [.bool] false w fun (t13 : Bool) w_1 =>
    iteP (!t13) (
    R (.returned (Value.bool false)) w_1) (
    joinP Unit (fun k =>
    callF P F_l12_fits #[(Value.slice script script_l script_c)] [.bool] false w_1 fun (t16 : Bool) w_2 =>
    iteP (!t16) (
    R (.returned (Value.bool true)) w_2) (
    iteP (decide ((b_l : Int) > 60000)) (
    R (.returned (Value.bool true)) w_2) (
    k () w_2))) (fun _ w_3 =>
    callF P F_upper_New #[(Value.int .i64 7), (Value.int .i64 300)] [.ptr, .int .i64] true w_3 fun (t24 : ((Option Addr) × Int)) w_4 =>
    callF P F_r12_New #[(Value.int .i64 7), (Value.int .i64 300)] [.ptr, .int .i64] true w_4 fun (t28 : ((Option Addr) × Int)) w_5 =>
    joinP Unit (fun k_1 =>
    drewP w_5 fun w_6 =>
    iteP (Option.isNone t24.1) (
    ((undef = undef) ∧
    R (.returned (Value.bool false)) w_6)) (
    callF P F_l12_play #[(Value.pointer t24.1), (Value.pointer t28.1), (Value.slice script script_l script_c)] [.bool] false w_6 fun (t37 : Bool) w_7 =>
    iteP (!t37) (
    ((undef = undef) ∧
    R (.returned (Value.bool false)) w_7)) (
    callF P F_upper_Upper_Encode #[(Value.pointer t24.1)] [.slc] false w_7 fun (t42 : (Option Addr × Nat × Nat)) w_8 =>
    genQ P (convert y_S_uint8 y_string (Value.slice t42.1 t42.2.1 t42.2.2)) .str w_8 fun (t43 : ByteArray) =>
    callF P F_r12_Upper_Encode #[(Value.pointer t28.1)] [.slc] false w_8 fun (t45 : (Option Addr × Nat × Nat)) w_9 =>
    ((genQ P (convert y_S_uint8 y_string (Value.slice t42.1 t42.2.1 t42.2.2)) .str w_9 fun (t43_1 : ByteArray) =>
    (Value.string t43_1) = (Value.string t43)) ∧
    genQ P (convert y_S_uint8 y_string (Value.slice t45.1 t45.2.1 t45.2.2)) .str w_9 fun (t46 : ByteArray) =>
    iteP (!(t43.toList == t46.toList)) (
    R (.returned (Value.bool false)) w_9) (
    k_1 () w_9))))) (fun _ w_10 =>
    callF P F_upper_Decode #[(Value.slice b b_l b_c)] [.ptr, .int .i64] true w_10 fun (t51 : ((Option Addr) × Int)) w_11 =>
    callF P F_r12_Decode #[(Value.slice b b_l b_c)] [.ptr, .bool] true w_11 fun (t56 : ((Option Addr) × Bool)) w_12 =>
    joinP Unit (fun k_2 =>
    genQ P (eqM .neq y_bool (.tmp 60) (.tmp 61) (Value.bool (t51.2 == 0)) (Value.bool t56.2)) .bool w_12 fun (t62 : Bool) =>
    iteP t62 (
    R (.returned (Value.bool false)) w_12) (
    genQ P (eqM .neq y_bool (.tmp 65) (.tmp 66) (Value.bool (!(Option.isNone t51.1))) (Value.bool t56.2)) .bool w_12 fun (t67 : Bool) =>
    iteP t67 (
    R (.returned (Value.bool false)) w_12) (
    iteP (!t56.2) (
    iteP (t51.2 != 21) (
    R (.returned (Value.bool false)) w_12) (
    k_2 () w_12)) (
    k_2 () w_12)))) (fun _ w_13 =>
    drewP w_13 fun w_14 =>
    iteP (!t56.2) (
    ((undef = undef) ∧
    R (.returned (Value.bool true)) w_14)) (
    callF P F_l12_same #[(Value.pointer t51.1), (Value.pointer t56.1)] [.bool] false w_14 fun (t82 : Bool) w_15 =>
    iteP t82 (
    genQ P (convert y_S_uint8 y_string (Value.slice b b_l b_c)) .str w_15 fun (t88 : ByteArray) =>
    callF P F_upper_Upper_Encode #[(Value.pointer t51.1)] [.slc] false w_15 fun (t85 : (Option Addr × Nat × Nat)) w_16 =>
    ((genQ P (convert y_S_uint8 y_string (Value.slice b b_l b_c)) .str w_16 fun (t88_1 : ByteArray) =>
    (Value.string t88_1) = (Value.string t88)) ∧
    genQ P (convert y_S_uint8 y_string (Value.slice t85.1 t85.2.1 t85.2.2)) .str w_16 fun (t86 : ByteArray) =>
    R (.returned (Value.bool (t86.toList == t88.toList))) w_16)) (
    ((undef = undef) ∧
    R (.returned (Value.bool false)) w_15)))))))
theorem eq_l12_UpperBytes (script : Option Addr) (script_l script_c : Nat) (b : Option Addr) (b_l b_c : Nat) (R : Ending → World → Prop) (w : World) : tr P qs ((Tryz.f3.body).getD .skip) ann_l12_UpperBytes (env0 0 [(0, (Value.slice script script_l script_c)), (0, (Value.slice b b_l b_c))]) (topK P Tryz.f3.results.toList R) w = T_l12_UpperBytes script script_l script_c b b_l b_c R w := by kernel_rfl
/-- veneer/veneerlaw12.UpperBytes -/
theorem fn_l12_UpperBytes {script : Option Addr} {script_l script_c : Nat} {b : Option Addr} {b_l b_c : Nat} {R : Ending → World → Prop} {w : World} (hT : T_l12_UpperBytes script script_l script_c b b_l b_c R w) : CallF P F_l12_UpperBytes #[(Value.slice script script_l script_c), (Value.slice b b_l b_c)] w R :=
  fn_of_tr (fn := Tryz.f3) (c := (Tryz.f3.body).getD .skip) (ann := ann_l12_UpperBytes) (args := [(0, (Value.slice script script_l script_c)), (0, (Value.slice b b_l b_c))]) (qs := qs) mixed Tryz.func3 rfl (by kernel_rfl) (by kernel_rfl) ok_l12_UpperBytes ((eq_l12_UpperBytes script script_l script_c b b_l b_c R w).symm ▸ hT)
end Go.Proofs.YtbmegmbnlajbbaaGreat
