/- Functions of the program as propositions; printed by wip/tools/fw.py, checked by the kernel. -/
import Derived.Test.YtbmegmbnlajbbaaGreatTc
namespace Go.Proofs.YtbmegmbnlajbbaaGreat
open Go Go.Fw Go.Proofs
set_option maxRecDepth 100000
def ann_strings_Join : Ann := (.seq .leaf (.seq (.seq .leaf (.blk (.seq .leaf (.cond (.seq .leaf .leaf) (.seq .leaf (.cond (.seq .leaf .leaf) .leaf)))))) (.seq .leaf (.join [(5, .int .i64)] (.seq .leaf (.cond (.join [] (.seq .leaf (.cond .leaf .leaf)) .leaf) .leaf)) (.seq (.seq .leaf (.blk (.loop [(5, .int .i64), (41, .int .i64)] (.seq .leaf (.seq (.cond .leaf .leaf) (.seq (.jblk [(5, .int .i64)] (.seq .leaf (.join [] (.seq .leaf (.cond .leaf .leaf)) .leaf))) .leaf)))))) (.seq .leaf (.seq .leaf (.seq .leaf (.seq (.seq .leaf (.blk (.loop [(65, .int .i64)] (.seq .leaf (.seq (.cond .leaf .leaf) (.seq (.blk (.seq .leaf (.seq .leaf .leaf))) .leaf)))))) (.seq .leaf .leaf))))))))))
theorem ok_strings_Join : okC P qs Tryz.f62.ntmps ((Tryz.f62.body).getD .skip) ann_strings_Join = true := by kernel_rfl
def T_strings_Join (elems : Option Addr) (elems_l elems_c : Nat) (sep : ByteArray) (R : Ending → World → Prop) (w : World) : Prop :=
    iteP ((elems_l : Int) == 0) (
    R (.returned (Value.string (ByteArray.mk #[]))) w) (
    iteP ((elems_l : Int) == 1) (
    ixS elems elems_l 1 0 fun t18 =>
    ld .str t18 w fun (t19 : ByteArray) =>
    R (.returned (Value.string t19)) w) (
    joinP Int (fun k =>
    iteP (decide ((sep.size : Int) > 0)) (
    joinP Unit (fun k_1 =>
    subI .i64 (elems_l : Int) 1 fun t27 =>
    quoI .i64 9223372036854775807 t27 fun t28 =>
    iteP (decide ((sep.size : Int) ≥ t28)) (
    genQ P (Instr.makeInterface y_string (Value.string (ByteArray.mk #[115, 116, 114, 105, 110, 103, 115, 58, 32, 74, 111, 105, 110, 32, 111, 117, 116, 112, 117, 116, 32, 108, 101, 110, 103, 116, 104, 32, 111, 118, 101, 114, 102, 108, 111, 119]))) .any w fun (_ : Value) =>
    False) (
    k_1 () w)) (fun _ w_1 =>
    subI .i64 (elems_l : Int) 1 fun t36 =>
    mulI .i64 (sep.size : Int) t36 fun t37 =>
    addI .i64 0 t37 fun t38 =>
    k t38 w_1)) (
    k 0 w)) (fun s_1 w_2 =>
    loopP (Int × Int) (fun s_2 w_3 k_2 =>
    iteP (decide (s_2.2 < (elems_l : Int))) (
    joinP Int (fun k_3 =>
    ixS elems elems_l 1 s_2.2 fun t43 =>
    ld .str t43 w_3 fun (t44 : ByteArray) =>
    joinP Unit (fun k_4 =>
    subI .i64 9223372036854775807 s_2.1 fun t48 =>
    iteP (decide ((t44.size : Int) > t48)) (
    genQ P (Instr.makeInterface y_string (Value.string (ByteArray.mk #[115, 116, 114, 105, 110, 103, 115, 58, 32, 74, 111, 105, 110, 32, 111, 117, 116, 112, 117, 116, 32, 108, 101, 110, 103, 116, 104, 32, 111, 118, 101, 114, 102, 108, 111, 119]))) .any w_3 fun (_ : Value) =>
    False) (
    k_4 () w_3)) (fun _ w_4 =>
    addI .i64 s_2.1 (t44.size : Int) fun t54 =>
    k_3 t54 w_4)) (fun s_4 w_5 =>
    addI .i64 s_2.2 1 fun t55 =>
    k_2 (s_4, t55) w_5)) (
    newB (zc P y_strings_Builder) y_strings_Builder w_3 fun b8 w_6 =>
    callF P F_strings_Builder_Grow #[(Value.pointer (some (⟨b8, 0, none⟩ : Addr))), (Value.int .i64 s_2.1)] [] true w_6 fun (_ : Unit) w_7 =>
    ixS elems elems_l 1 0 fun t59 =>
    ld .str t59 w_7 fun (t60 : ByteArray) =>
    callF P F_strings_Builder_WriteString #[(Value.pointer (some (⟨b8, 0, none⟩ : Addr))), (Value.string t60)] [.int .i64, .any] true w_7 fun (_ : (Int × Value)) w_8 =>
    genQ P (Instr.sliceAt y_S_string (Value.slice elems elems_l elems_c) (some (Value.int .i64 1)) none none) .slc w_8 fun (t63 : (Option Addr × Nat × Nat)) =>
    loopP Int (fun s_5 w_9 k_5 =>
    iteP (decide (s_5 < (t63.2.1 : Int))) (
    ixS t63.1 t63.2.1 1 s_5 fun t67 =>
    ld .str t67 w_9 fun (t68 : ByteArray) =>
    callF P F_strings_Builder_WriteString #[(Value.pointer (some (⟨b8, 0, none⟩ : Addr))), (Value.string sep)] [.int .i64, .any] true w_9 fun (_ : (Int × Value)) w_10 =>
    callF P F_strings_Builder_WriteString #[(Value.pointer (some (⟨b8, 0, none⟩ : Addr))), (Value.string t68)] [.int .i64, .any] true w_10 fun (_ : (Int × Value)) w_11 =>
    addI .i64 s_5 1 fun t73 =>
    k_5 t73 w_11) (
    callF P F_strings_Builder_String #[(Value.pointer (some (⟨b8, 0, none⟩ : Addr)))] [.str] false w_9 fun (t74 : ByteArray) w_12 =>
    R (.returned (Value.string t74)) w_12)) 0 w_8)) (s_1, 0) w_2)))
theorem eq_strings_Join (elems : Option Addr) (elems_l elems_c : Nat) (sep : ByteArray) (R : Ending → World → Prop) (w : World) : tr P qs ((Tryz.f62.body).getD .skip) ann_strings_Join (env0 0 [(0, (Value.slice elems elems_l elems_c)), (0, (Value.string sep))]) (topK P Tryz.f62.results.toList R) w = T_strings_Join elems elems_l elems_c sep R w := by kernel_rfl
/-- strings.Join -/
theorem fn_strings_Join {elems : Option Addr} {elems_l elems_c : Nat} {sep : ByteArray} {R : Ending → World → Prop} {w : World} (hT : T_strings_Join elems elems_l elems_c sep R w) : CallF P F_strings_Join #[(Value.slice elems elems_l elems_c), (Value.string sep)] w R :=
  fn_of_tr (fn := Tryz.f62) (c := (Tryz.f62.body).getD .skip) (ann := ann_strings_Join) (args := [(0, (Value.slice elems elems_l elems_c)), (0, (Value.string sep))]) (qs := qs) mixed Tryz.func62 rfl (by kernel_rfl) (by kernel_rfl) ok_strings_Join ((eq_strings_Join elems elems_l elems_c sep R w).symm ▸ hT)
def ann_strings_Builder_Grow : Ann := (.seq .leaf (.join [] (.seq .leaf (.cond .leaf .leaf)) (.seq (.tree (.op 0 [] (.op 1 [] (.op 2 [] (.op 5 [] (.op 6 [] (.op 7 [] (.op 11 [] (.op 3 [] (.op 4 [] (.op 8 [] (.op 9 [] (.op 10 [] (.op 12 [] .done)))))))))))))) (.cond .leaf .leaf))))
theorem ok_strings_Builder_Grow : okC P qs Tryz.f75.ntmps ((Tryz.f75.body).getD .skip) ann_strings_Builder_Grow = true := by kernel_rfl
def T_strings_Builder_Grow (b : Option Addr) (n : Int) (R : Ending → World → Prop) (w : World) : Prop :=
    callF P F_strings_Builder_copyCheck #[(Value.pointer b)] [] true w fun (_ : Unit) w_1 =>
    joinP Unit (fun k =>
    iteP (decide (n < 0)) (
    genQ P (Instr.makeInterface y_string (Value.string (ByteArray.mk #[115, 116, 114, 105, 110, 103, 115, 46, 66, 117, 105, 108, 100, 101, 114, 46, 71, 114, 111, 119, 58, 32, 110, 101, 103, 97, 116, 105, 118, 101, 32, 99, 111, 117, 110, 116]))) .any w_1 fun (_ : Value) =>
    False) (
    k () w_1)) (fun _ w_2 =>
    drewP w_2 fun w_3 =>
    withAddr b fun p =>
    withAddr b fun p_1 =>
    ld .slc (Addr.add p 1) w_3 fun (t12 : (Option Addr × Nat × Nat)) =>
    genQ P (Builtin.cap_ #[y_S_uint8] y_int #[(Value.slice t12.1 t12.2.1 t12.2.2)]) (.int .i64) w_3 fun (t13 : Int) =>
    ld .slc (Addr.add p_1 1) w_3 fun (t17 : (Option Addr × Nat × Nat)) =>
    subI .i64 t13 (t17.2.1 : Int) fun t19 =>
    iteP (decide (t19 < n)) (
    callF P F_strings_Builder_grow #[(Value.pointer b), (Value.int .i64 n)] [] true w_3 fun (_ : Unit) w_4 =>
    R (.returned (Value.tuple #[])) w_4) (
    R (.returned (Value.tuple #[])) w_3))
theorem eq_strings_Builder_Grow (b : Option Addr) (n : Int) (R : Ending → World → Prop) (w : World) : tr P qs ((Tryz.f75.body).getD .skip) ann_strings_Builder_Grow (env0 0 [(0, (Value.pointer b)), (0, (Value.int .i64 n))]) (topK P Tryz.f75.results.toList R) w = T_strings_Builder_Grow b n R w := by kernel_rfl
/-- (*strings.Builder).Grow -/
theorem fn_strings_Builder_Grow {b : Option Addr} {n : Int} {R : Ending → World → Prop} {w : World} (hT : T_strings_Builder_Grow b n R w) : CallF P F_strings_Builder_Grow #[(Value.pointer b), (Value.int .i64 n)] w R :=
  fn_of_tr (fn := Tryz.f75) (c := (Tryz.f75.body).getD .skip) (ann := ann_strings_Builder_Grow) (args := [(0, (Value.pointer b)), (0, (Value.int .i64 n))]) (qs := qs) mixed Tryz.func75 rfl (by kernel_rfl) (by kernel_rfl) ok_strings_Builder_Grow ((eq_strings_Builder_Grow b n R w).symm ▸ hT)
def ann_strings_Builder_WriteString : Ann := (.seq .leaf (.seq .leaf (.seq .leaf (.seq .leaf .leaf))))
theorem ok_strings_Builder_WriteString : okC P qs Tryz.f76.ntmps ((Tryz.f76.body).getD .skip) ann_strings_Builder_WriteString = true := by kernel_rfl
def T_strings_Builder_WriteString (b : Option Addr) (s : ByteArray) (R : Ending → World → Prop) (w : World) : Prop :=
    callF P F_strings_Builder_copyCheck #[(Value.pointer b)] [] true w fun (_ : Unit) w_1 =>
    withAddr b fun p =>
    ld .slc (Addr.add p 1) w_1 fun (t12 : (Option Addr × Nat × Nat)) =>
    genL P (Builtin.append_ #[y_S_uint8, y_string] y_S_uint8 #[(Value.slice t12.1 t12.2.1 t12.2.2), (Value.string s)]) .slc w_1 fun (t14 : (Option Addr × Nat × Nat)) w_2 =>
    withAddr b fun p_1 =>
    stC (Addr.add p_1 1) (Value.slice t14.1 t14.2.1 t14.2.2) w_2 fun w_3 =>
    R (.returned (Value.tuple #[(Value.int .i64 (s.size : Int)), Value.nilIface])) w_3
theorem eq_strings_Builder_WriteString (b : Option Addr) (s : ByteArray) (R : Ending → World → Prop) (w : World) : tr P qs ((Tryz.f76.body).getD .skip) ann_strings_Builder_WriteString (env0 0 [(0, (Value.pointer b)), (0, (Value.string s))]) (topK P Tryz.f76.results.toList R) w = T_strings_Builder_WriteString b s R w := by kernel_rfl
/-- (*strings.Builder).WriteString -/
theorem fn_strings_Builder_WriteString {b : Option Addr} {s : ByteArray} {R : Ending → World → Prop} {w : World} (hT : T_strings_Builder_WriteString b s R w) : CallF P F_strings_Builder_WriteString #[(Value.pointer b), (Value.string s)] w R :=
  fn_of_tr (fn := Tryz.f76) (c := (Tryz.f76.body).getD .skip) (ann := ann_strings_Builder_WriteString) (args := [(0, (Value.pointer b)), (0, (Value.string s))]) (qs := qs) mixed Tryz.func76 rfl (by kernel_rfl) (by kernel_rfl) ok_strings_Builder_WriteString ((eq_strings_Builder_WriteString b s R w).symm ▸ hT)
def ann_strings_Builder_String : Ann := (.seq .leaf (.seq (.tree (.op 0 [] (.op 1 [] (.op 2 [] (.op 5 [] (.op 6 [] (.op 7 [] (.op 3 [] (.op 8 [] (.op 9 [] (.op 4 [8] (.op 10 [] (.op 11 [] .done))))))))))))) .leaf))
theorem ok_strings_Builder_String : okC P qs Tryz.f77.ntmps ((Tryz.f77.body).getD .skip) ann_strings_Builder_String = true := by kernel_rfl
def T_strings_Builder_String (b : Option Addr) (R : Ending → World → Prop) (w : World) : Prop :=
    drewP w fun w_1 =>
    withAddr b fun p =>
    withAddr b fun p_1 =>
    ld .slc (Addr.add p 1) w_1 fun (t6 : (Option Addr × Nat × Nat)) =>
    ld .slc (Addr.add p_1 1) w_1 fun (t11 : (Option Addr × Nat × Nat)) =>
    genL P (Builtin.unsafeSliceData_ #[y_S_uint8] y_p_uint8 #[(Value.slice t6.1 t6.2.1 t6.2.2)]) .ptr w_1 fun (t7 : (Option Addr)) w_2 =>
    ((ld .slc (Addr.add p_1 1) w_2 fun (t11_1 : (Option Addr × Nat × Nat)) =>
    (Value.slice t11_1.1 t11_1.2.1 t11_1.2.2) = (Value.slice t11.1 t11.2.1 t11.2.2)) ∧
    genL P (Builtin.unsafeString_ #[y_p_uint8, y_int] y_string #[(Value.pointer t7), (Value.int .i64 (t11.2.1 : Int))]) .str w_2 fun (t13 : ByteArray) w_3 =>
    R (.returned (Value.string t13)) w_3)
theorem eq_strings_Builder_String (b : Option Addr) (R : Ending → World → Prop) (w : World) : tr P qs ((Tryz.f77.body).getD .skip) ann_strings_Builder_String (env0 0 [(0, (Value.pointer b))]) (topK P Tryz.f77.results.toList R) w = T_strings_Builder_String b R w := by kernel_rfl
/-- (*strings.Builder).String -/
theorem fn_strings_Builder_String {b : Option Addr} {R : Ending → World → Prop} {w : World} (hT : T_strings_Builder_String b R w) : CallF P F_strings_Builder_String #[(Value.pointer b)] w R :=
  fn_of_tr (fn := Tryz.f77) (c := (Tryz.f77.body).getD .skip) (ann := ann_strings_Builder_String) (args := [(0, (Value.pointer b))]) (qs := qs) mixed Tryz.func77 rfl (by kernel_rfl) (by kernel_rfl) ok_strings_Builder_String ((eq_strings_Builder_String b R w).symm ▸ hT)
def ann_strings_Builder_copyCheck : Ann := (.seq .leaf (.cond .leaf (.seq .leaf (.cond .leaf .leaf))))
theorem ok_strings_Builder_copyCheck : okC P qs Tryz.f94.ntmps ((Tryz.f94.body).getD .skip) ann_strings_Builder_copyCheck = true := by kernel_rfl
def T_strings_Builder_copyCheck (b : Option Addr) (R : Ending → World → Prop) (w : World) : Prop :=
    withAddr b fun p =>
    ld .ptr p w fun (t5 : (Option Addr)) =>
    iteP (Option.isNone t5) (
    genL P (convert y_p_strings_Builder y_unsafe_Pointer (Value.pointer b)) .any w fun (t9 : Value) w_1 =>
    callF P F_internal_abi_NoEscape #[t9] [.any] false w_1 fun (t10 : Value) w_2 =>
    genL P (convert y_unsafe_Pointer y_p_strings_Builder t10) .ptr w_2 fun (t11 : (Option Addr)) w_3 =>
    withAddr b fun p_1 =>
    stC p_1 (Value.pointer t11) w_3 fun w_4 =>
    R (.returned (Value.tuple #[])) w_4) (
    withAddr b fun p_2 =>
    ld .ptr p_2 w fun (t17 : (Option Addr)) =>
    genQ P (eqM .neq y_p_strings_Builder (.tmp 17) (.tmp 18) (Value.pointer t17) (Value.pointer b)) .bool w fun (t19 : Bool) =>
    iteP t19 (
    False) (
    R (.returned (Value.tuple #[])) w))
theorem eq_strings_Builder_copyCheck (b : Option Addr) (R : Ending → World → Prop) (w : World) : tr P qs ((Tryz.f94.body).getD .skip) ann_strings_Builder_copyCheck (env0 0 [(0, (Value.pointer b))]) (topK P Tryz.f94.results.toList R) w = T_strings_Builder_copyCheck b R w := by kernel_rfl
/-- (*strings.Builder).copyCheck -/
theorem fn_strings_Builder_copyCheck {b : Option Addr} {R : Ending → World → Prop} {w : World} (hT : T_strings_Builder_copyCheck b R w) : CallF P F_strings_Builder_copyCheck #[(Value.pointer b)] w R :=
  fn_of_tr (fn := Tryz.f94) (c := (Tryz.f94.body).getD .skip) (ann := ann_strings_Builder_copyCheck) (args := [(0, (Value.pointer b))]) (qs := qs) mixed Tryz.func94 rfl (by kernel_rfl) (by kernel_rfl) ok_strings_Builder_copyCheck ((eq_strings_Builder_copyCheck b R w).symm ▸ hT)
def ann_strings_Builder_grow : Ann := (.seq (.tree (.op 0 [] (.op 1 [] (.op 2 [] (.op 6 [] (.op 9 [] (.op 10 [] (.op 11 [] (.op 3 [] (.op 4 [] (.op 5 [] (.op 7 [] (.op 12 [] (.op 13 [] (.op 8 [12] (.op 14 [] (.op 15 [] .done))))))))))))))))) (.seq .leaf .leaf))
theorem ok_strings_Builder_grow : okC P qs Tryz.f95.ntmps ((Tryz.f95.body).getD .skip) ann_strings_Builder_grow = true := by kernel_rfl
def T_strings_Builder_grow (b : Option Addr) (n : Int) (R : Ending → World → Prop) (w : World) : Prop :=
    drewP w fun w_1 =>
    withAddr b fun p =>
    withAddr b fun p_1 =>
    ld .slc (Addr.add p 1) w_1 fun (t8 : (Option Addr × Nat × Nat)) =>
    genQ P (Builtin.cap_ #[y_S_uint8] y_int #[(Value.slice t8.1 t8.2.1 t8.2.2)]) (.int .i64) w_1 fun (t9 : Int) =>
    mulI .i64 2 t9 fun t10 =>
    addI .i64 t10 n fun t12 =>
    ld .slc (Addr.add p_1 1) w_1 fun (t17 : (Option Addr × Nat × Nat)) =>
    callF P F_internal_bytealg_MakeNoZero #[(Value.int .i64 t12)] [.slc] false w_1 fun (t13 : (Option Addr × Nat × Nat)) w_2 =>
    ((ld .slc (Addr.add p_1 1) w_2 fun (t17_1 : (Option Addr × Nat × Nat)) =>
    (Value.slice t17_1.1 t17_1.2.1 t17_1.2.2) = (Value.slice t17.1 t17.2.1 t17.2.2)) ∧
    genQ P (Instr.sliceAt y_S_uint8 (Value.slice t13.1 t13.2.1 t13.2.2) none (some (Value.int .i64 (t17.2.1 : Int))) none) .slc w_2 fun (t19 : (Option Addr × Nat × Nat)) =>
    withAddr b fun p_2 =>
    ld .slc (Addr.add p_2 1) w_2 fun (t24 : (Option Addr × Nat × Nat)) =>
    genL P (Builtin.copy_ #[y_S_uint8, y_S_uint8] y_int #[(Value.slice t19.1 t19.2.1 t19.2.2), (Value.slice t24.1 t24.2.1 t24.2.2)]) (.int .i64) w_2 fun (_ : Int) w_3 =>
    withAddr b fun p_3 =>
    stC (Addr.add p_3 1) (Value.slice t19.1 t19.2.1 t19.2.2) w_3 fun w_4 =>
    R (.returned (Value.tuple #[])) w_4)
theorem eq_strings_Builder_grow (b : Option Addr) (n : Int) (R : Ending → World → Prop) (w : World) : tr P qs ((Tryz.f95.body).getD .skip) ann_strings_Builder_grow (env0 0 [(0, (Value.pointer b)), (0, (Value.int .i64 n))]) (topK P Tryz.f95.results.toList R) w = T_strings_Builder_grow b n R w := by kernel_rfl
/-- (*strings.Builder).grow -/
theorem fn_strings_Builder_grow {b : Option Addr} {n : Int} {R : Ending → World → Prop} {w : World} (hT : T_strings_Builder_grow b n R w) : CallF P F_strings_Builder_grow #[(Value.pointer b), (Value.int .i64 n)] w R :=
  fn_of_tr (fn := Tryz.f95) (c := (Tryz.f95.body).getD .skip) (ann := ann_strings_Builder_grow) (args := [(0, (Value.pointer b)), (0, (Value.int .i64 n))]) (qs := qs) mixed Tryz.func95 rfl (by kernel_rfl) (by kernel_rfl) ok_strings_Builder_grow ((eq_strings_Builder_grow b n R w).symm ▸ hT)
/-- internal/abi.NoEscape -/
theorem x_internal_abi_NoEscape {e : Array Value → Sem Value} (he : Extern.find Tryz.f102 = some e) (args : Array Value) (w : World) : (callFunc F_internal_abi_NoEscape args).run P w = ((e args).run P w).andThen fun v w1 => .ok (.value v) w1 :=
  Go.run_callFunc_extern Tryz.func102 (by kernel_rfl) (by kernel_rfl) (by kernel_rfl) he args w
/-- internal/bytealg.MakeNoZero -/
theorem x_internal_bytealg_MakeNoZero {e : Array Value → Sem Value} (he : Extern.find Tryz.f103 = some e) (args : Array Value) (w : World) : (callFunc F_internal_bytealg_MakeNoZero args).run P w = ((e args).run P w).andThen fun v w1 => .ok (.value v) w1 :=
  Go.run_callFunc_extern Tryz.func103 (by kernel_rfl) (by kernel_rfl) (by kernel_rfl) he args w
def ann_strings_Cut : Ann := (.seq .leaf (.seq .leaf .leaf))
theorem ok_strings_Cut : okC P qs Tryz.f81.ntmps ((Tryz.f81.body).getD .skip) ann_strings_Cut = true := by kernel_rfl
def T_strings_Cut (s : ByteArray) (sep : ByteArray) (R : Ending → World → Prop) (w : World) : Prop :=
    callF P F_internal_stringslite_Cut #[(Value.string s), (Value.string sep)] [.str, .str, .bool] true w fun (t9 : (ByteArray × ByteArray × Bool)) w_1 =>
    R (.returned (Value.tuple #[(Value.string t9.1), (Value.string t9.2.1), (Value.bool t9.2.2)])) w_1
theorem eq_strings_Cut (s : ByteArray) (sep : ByteArray) (R : Ending → World → Prop) (w : World) : tr P qs ((Tryz.f81.body).getD .skip) ann_strings_Cut (env0 0 [(0, (Value.string s)), (0, (Value.string sep))]) (topK P Tryz.f81.results.toList R) w = T_strings_Cut s sep R w := by kernel_rfl
/-- strings.Cut -/
theorem fn_strings_Cut {s : ByteArray} {sep : ByteArray} {R : Ending → World → Prop} {w : World} (hT : T_strings_Cut s sep R w) : CallF P F_strings_Cut #[(Value.string s), (Value.string sep)] w R :=
  fn_of_tr (fn := Tryz.f81) (c := (Tryz.f81.body).getD .skip) (ann := ann_strings_Cut) (args := [(0, (Value.string s)), (0, (Value.string sep))]) (qs := qs) mixed Tryz.func81 rfl (by kernel_rfl) (by kernel_rfl) ok_strings_Cut ((eq_strings_Cut s sep R w).symm ▸ hT)
def ann_internal_stringslite_Cut : Ann := (.seq .leaf (.seq (.seq .leaf (.seq .leaf (.cond (.seq (.tree (.op 0 [] (.op 1 [] (.op 3 [] (.op 4 [] (.op 5 [] (.op 6 [] (.op 7 [] (.op 2 [] (.op 9 [] (.op 8 [] (.op 10 [] (.op 11 [] .done))))))))))))) .leaf) .leaf))) (.seq .leaf .leaf)))
theorem ok_internal_stringslite_Cut : okC P qs Tryz.f96.ntmps ((Tryz.f96.body).getD .skip) ann_internal_stringslite_Cut = true := by kernel_rfl
def T_internal_stringslite_Cut (s : ByteArray) (sep : ByteArray) (R : Ending → World → Prop) (w : World) : Prop :=
    callF P F_internal_stringslite_Index #[(Value.string s), (Value.string sep)] [.int .i64] false w fun (t10 : Int) w_1 =>
    iteP (decide (t10 ≥ 0)) (
    drewP w_1 fun w_2 =>
    addI .i64 t10 (sep.size : Int) fun t20 =>
    genQ P (Instr.sliceAt y_string (Value.string s) none (some (Value.int .i64 t10)) none) .str w_2 fun (t15 : ByteArray) =>
    genQ P (Instr.sliceAt y_string (Value.string s) (some (Value.int .i64 t20)) none none) .str w_2 fun (t21 : ByteArray) =>
    R (.returned (Value.tuple #[(Value.string t15), (Value.string t21), (Value.bool true)])) w_2) (
    R (.returned (Value.tuple #[(Value.string s), (Value.string (ByteArray.mk #[])), (Value.bool false)])) w_1)
theorem eq_internal_stringslite_Cut (s : ByteArray) (sep : ByteArray) (R : Ending → World → Prop) (w : World) : tr P qs ((Tryz.f96.body).getD .skip) ann_internal_stringslite_Cut (env0 0 [(0, (Value.string s)), (0, (Value.string sep))]) (topK P Tryz.f96.results.toList R) w = T_internal_stringslite_Cut s sep R w := by kernel_rfl
/-- internal/stringslite.Cut -/
theorem fn_internal_stringslite_Cut {s : ByteArray} {sep : ByteArray} {R : Ending → World → Prop} {w : World} (hT : T_internal_stringslite_Cut s sep R w) : CallF P F_internal_stringslite_Cut #[(Value.string s), (Value.string sep)] w R :=
  fn_of_tr (fn := Tryz.f96) (c := (Tryz.f96.body).getD .skip) (ann := ann_internal_stringslite_Cut) (args := [(0, (Value.string s)), (0, (Value.string sep))]) (qs := qs) mixed Tryz.func96 rfl (by kernel_rfl) (by kernel_rfl) ok_internal_stringslite_Cut ((eq_internal_stringslite_Cut s sep R w).symm ▸ hT)
def ann_internal_stringslite_Index : Ann := (.seq .leaf (.seq .leaf (.join [] (.jblk [] (.seq .leaf (.cond (.seq .leaf .leaf) (.seq .leaf (.cond (.seq .leaf .leaf) (.seq .leaf (.cond (.seq .leaf .leaf) (.seq .leaf (.cond (.seq .leaf .leaf) .leaf))))))))) (.seq .leaf (.seq .leaf (.seq .leaf (.seq .leaf (.seq .leaf (.seq (.blk (.loop [(8, .int .i64), (10, .int .i64)] (.seq (.seq .leaf (.cond .leaf .leaf)) (.jblk [(8, .int .i64), (10, .int .i64)] (.join [(8, .int .i64)] (.seq .leaf (.cond (.seq .leaf (.seq (.seq .leaf (.cond (.seq .leaf .leaf) .leaf)) .leaf)) .leaf)) (.join [] (.seq .leaf (.cond (.seq .leaf .leaf) .leaf)) (.seq .leaf (.seq .leaf (.join [(107, .bool)] .leaf (.cond (.seq .leaf (.seq (.seq .leaf (.cond (.seq .leaf .leaf) .leaf)) (.seq .leaf .leaf))) (.seq .leaf (.cond (.seq .leaf (.seq (.seq .leaf (.cond (.seq .leaf .leaf) .leaf)) (.seq .leaf .leaf))) .leaf)))))))))))) (.seq .leaf .leaf))))))))))
theorem ok_internal_stringslite_Index : okC P qs Tryz.f104.ntmps ((Tryz.f104.body).getD .skip) ann_internal_stringslite_Index = true := by kernel_rfl
def T_internal_stringslite_Index (s : ByteArray) (substr : ByteArray) (R : Ending → World → Prop) (w : World) : Prop :=
    joinP Unit (fun k =>
    joinP Unit (fun k_1 =>
    iteP ((substr.size : Int) == 0) (
    R (.returned (Value.int .i64 0)) w) (
    iteP (substr.toList == s.toList) (
    R (.returned (Value.int .i64 0)) w) (
    iteP ((substr.size : Int) == 1) (
    ixStr substr 0 fun t29 =>
    callF P F_internal_stringslite_IndexByte #[(Value.string s), (Value.int .u8 t29)] [.int .i64] false w fun (t30 : Int) w_1 =>
    R (.returned (Value.int .i64 t30)) w_1) (
    iteP (decide ((substr.size : Int) ≥ (s.size : Int))) (
    R (.returned (Value.int .i64 (-1))) w) (
    ld (.int .i64) (⟨0, 0, none⟩ : Addr) w fun (t38 : Int) =>
    iteP (decide ((substr.size : Int) ≤ t38)) (
    iteP (decide ((s.size : Int) ≤ 64)) (
    callF P F_internal_bytealg_IndexString #[(Value.string s), (Value.string substr)] [.int .i64] false w fun (t47 : Int) w_2 =>
    R (.returned (Value.int .i64 t47)) w_2) (
    k_1 () w)) (
    k_1 () w)))))) (fun _ w_3 =>
    k () w_3)) (fun _ w_4 =>
    ixStr substr 0 fun t49 =>
    ixStr substr 1 fun t51 =>
    subI .i64 (s.size : Int) (substr.size : Int) fun t55 =>
    addI .i64 t55 1 fun t56 =>
    loopP (Int × Int) (fun s_3 w_5 k_2 =>
    iteP (decide (s_3.1 < t56)) (
    joinP (Int × Int) (fun k_3 =>
    joinP Int (fun k_4 =>
    ixStr s s_3.1 fun t62 =>
    iteP (t62 != t49) (
    addI .i64 s_3.1 1 fun t67 =>
    genQ P (Instr.sliceAt y_string (Value.string s) (some (Value.int .i64 t67)) (some (Value.int .i64 t56)) none) .str w_5 fun (t69 : ByteArray) =>
    callF P F_internal_stringslite_IndexByte #[(Value.string t69), (Value.int .u8 t49)] [.int .i64] false w_5 fun (t71 : Int) w_6 =>
    iteP (decide (t71 < 0)) (
    R (.returned (Value.int .i64 (-1))) w_6) (
    addI .i64 t71 1 fun t76 =>
    addI .i64 s_3.1 t76 fun t77 =>
    k_4 t77 w_6)) (
    k_4 s_3.1 w_5)) (fun s_4 w_7 =>
    joinP Unit (fun k_5 =>
    addI .i64 s_4 1 fun t80 =>
    ixStr s t80 fun t81 =>
    iteP (t81 == t51) (
    addI .i64 s_4 (substr.size : Int) fun t89 =>
    genQ P (Instr.sliceAt y_string (Value.string s) (some (Value.int .i64 s_4)) (some (Value.int .i64 t89)) none) .str w_7 fun (t90 : ByteArray) =>
    iteP (t90.toList == substr.toList) (
    R (.returned (Value.int .i64 s_4)) w_7) (
    k_5 () w_7)) (
    k_5 () w_7)) (fun _ w_8 =>
    addI .i64 s_4 1 fun t96 =>
    addI .i64 s_3.2 1 fun t98 =>
    joinP Bool (fun k_6 =>
    ld (.int .i64) (⟨0, 0, none⟩ : Addr) w_8 fun (t100 : Int) =>
    iteP (decide ((substr.size : Int) ≤ t100)) (
    callF P F_internal_bytealg_Cutover #[(Value.int .i64 t96)] [.int .i64] false w_8 fun (t105 : Int) w_9 =>
    k_6 (decide (t98 > t105)) w_9) (
    k_6 false w_8)) (fun s_6 w_10 =>
    iteP s_6 (
    genQ P (Instr.sliceAt y_string (Value.string s) (some (Value.int .i64 t96)) none none) .str w_10 fun (t110 : ByteArray) =>
    callF P F_internal_bytealg_IndexString #[(Value.string t110), (Value.string substr)] [.int .i64] false w_10 fun (t112 : Int) w_11 =>
    iteP (decide (t112 ≥ 0)) (
    addI .i64 t112 t96 fun t117 =>
    R (.returned (Value.int .i64 t117)) w_11) (
    R (.returned (Value.int .i64 (-1))) w_11)) (
    ld (.int .i64) (⟨0, 0, none⟩ : Addr) w_10 fun (t119 : Int) =>
    iteP (decide ((substr.size : Int) > t119)) (
    shrI .i64 t96 4 fun t124 =>
    addI .i64 4 t124 fun t125 =>
    iteP (decide (t98 ≥ t125)) (
    iteP (decide (t96 < t56)) (
    genQ P (Instr.sliceAt y_string (Value.string s) (some (Value.int .i64 t96)) none none) .str w_10 fun (t135 : ByteArray) =>
    callF P F_internal_bytealg_IndexRabinKarp_string #[(Value.string t135), (Value.string substr)] [.int .i64] false w_10 fun (t137 : Int) w_12 =>
    iteP (decide (t137 < 0)) (
    R (.returned (Value.int .i64 (-1))) w_12) (
    addI .i64 t96 t137 fun t142 =>
    R (.returned (Value.int .i64 t142)) w_12)) (
    k_3 (t96, t98) w_10)) (
    k_3 (t96, t98) w_10)) (
    k_3 (t96, t98) w_10)))))) (fun s_7 w_13 =>
    k_2 (s_7.1, s_7.2) w_13)) (
    R (.returned (Value.int .i64 (-1))) w_5)) (0, 0) w_4)
theorem eq_internal_stringslite_Index (s : ByteArray) (substr : ByteArray) (R : Ending → World → Prop) (w : World) : tr P qs ((Tryz.f104.body).getD .skip) ann_internal_stringslite_Index (env0 0 [(0, (Value.string s)), (0, (Value.string substr))]) (topK P Tryz.f104.results.toList R) w = T_internal_stringslite_Index s substr R w := by kernel_rfl
/-- internal/stringslite.Index -/
theorem fn_internal_stringslite_Index {s : ByteArray} {substr : ByteArray} {R : Ending → World → Prop} {w : World} (hT : T_internal_stringslite_Index s substr R w) : CallF P F_internal_stringslite_Index #[(Value.string s), (Value.string substr)] w R :=
  fn_of_tr (fn := Tryz.f104) (c := (Tryz.f104.body).getD .skip) (ann := ann_internal_stringslite_Index) (args := [(0, (Value.string s)), (0, (Value.string substr))]) (qs := qs) mixed Tryz.func104 rfl (by kernel_rfl) (by kernel_rfl) ok_internal_stringslite_Index ((eq_internal_stringslite_Index s substr R w).symm ▸ hT)
def ann_internal_stringslite_IndexByte : Ann := (.seq .leaf (.seq .leaf .leaf))
theorem ok_internal_stringslite_IndexByte : okC P qs Tryz.f106.ntmps ((Tryz.f106.body).getD .skip) ann_internal_stringslite_IndexByte = true := by kernel_rfl
def T_internal_stringslite_IndexByte (s : ByteArray) (c : Int) (R : Ending → World → Prop) (w : World) : Prop :=
    callF P F_internal_bytealg_IndexByteString #[(Value.string s), (Value.int .u8 c)] [.int .i64] false w fun (t7 : Int) w_1 =>
    R (.returned (Value.int .i64 t7)) w_1
theorem eq_internal_stringslite_IndexByte (s : ByteArray) (c : Int) (R : Ending → World → Prop) (w : World) : tr P qs ((Tryz.f106.body).getD .skip) ann_internal_stringslite_IndexByte (env0 0 [(0, (Value.string s)), (0, (Value.int .u8 c))]) (topK P Tryz.f106.results.toList R) w = T_internal_stringslite_IndexByte s c R w := by kernel_rfl
/-- internal/stringslite.IndexByte -/
theorem fn_internal_stringslite_IndexByte {s : ByteArray} {c : Int} {R : Ending → World → Prop} {w : World} (hT : T_internal_stringslite_IndexByte s c R w) : CallF P F_internal_stringslite_IndexByte #[(Value.string s), (Value.int .u8 c)] w R :=
  fn_of_tr (fn := Tryz.f106) (c := (Tryz.f106.body).getD .skip) (ann := ann_internal_stringslite_IndexByte) (args := [(0, (Value.string s)), (0, (Value.int .u8 c))]) (qs := qs) mixed Tryz.func106 rfl (by kernel_rfl) (by kernel_rfl) ok_internal_stringslite_IndexByte ((eq_internal_stringslite_IndexByte s c R w).symm ▸ hT)
/-- internal/bytealg.IndexByteString -/
theorem x_internal_bytealg_IndexByteString {e : Array Value → Sem Value} (he : Extern.find Tryz.f110 = some e) (args : Array Value) (w : World) : (callFunc F_internal_bytealg_IndexByteString args).run P w = ((e args).run P w).andThen fun v w1 => .ok (.value v) w1 :=
  Go.run_callFunc_extern Tryz.func110 (by kernel_rfl) (by kernel_rfl) (by kernel_rfl) he args w
/-- internal/bytealg.IndexString -/
theorem x_internal_bytealg_IndexString {e : Array Value → Sem Value} (he : Extern.find Tryz.f107 = some e) (args : Array Value) (w : World) : (callFunc F_internal_bytealg_IndexString args).run P w = ((e args).run P w).andThen fun v w1 => .ok (.value v) w1 :=
  Go.run_callFunc_extern Tryz.func107 (by kernel_rfl) (by kernel_rfl) (by kernel_rfl) he args w
end Go.Proofs.YtbmegmbnlajbbaaGreat
