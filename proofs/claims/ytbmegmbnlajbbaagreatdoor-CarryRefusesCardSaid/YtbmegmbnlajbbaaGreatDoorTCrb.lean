/- Part 2 of the texts below the card, joined. -/
import Derived.Test.YtbmegmbnlajbbaaGreatDoorProg
import Derived.Test.YtbmegmbnlajbbaaGreatDoorTCra
namespace Go.Proofs.YtbmegmbnlajbbaaGreatDoor
open Go Go.Fw Go.Proofs
set_option maxRecDepth 100000
noncomputable abbrev P : Program := Tryz.prog
def qs : List FuncId := [93, 203, 172, 157, 200, 156, 187]
theorem mixed : P.follows .mixedOrders = true := by kernel_rfl
abbrev F_l08_CarryRefuses : FuncId := 7
abbrev F_l07_Few : FuncId := 11
abbrev F_blob_New : FuncId := 12
abbrev F_tree_Build : FuncId := 14
abbrev F_r07_Files : FuncId := 16
abbrev F_blob_Store_Count : FuncId := 17
abbrev F_blob_Store_Bytes : FuncId := 18
abbrev F_l08_awake : FuncId := 28
abbrev F_blob_Store_Put : FuncId := 30
abbrev F_carry_New : FuncId := 32
abbrev F_carry_Carrier_Offer : FuncId := 36
abbrev F_carry_Carrier_Want : FuncId := 39
abbrev F_r01_Sum : FuncId := 40
abbrev F_r08_Digests : FuncId := 41
abbrev F_carry_Reach : FuncId := 42
abbrev F_carry_Carrier_Done : FuncId := 43
abbrev F_carry_Carrier_Foul : FuncId := 44
abbrev F_tree_parse : FuncId := 54
abbrev F_tree_shape : FuncId := 55
abbrev F_tree_Build_1 : FuncId := 56
abbrev F_vpath_Show : FuncId := 57
abbrev F_tree_file : FuncId := 58
abbrev F_tree_pack : FuncId := 59
abbrev F_blob_Store_PutAll : FuncId := 60
abbrev F_blob_Store_Get : FuncId := 69
abbrev F_sha_Sum : FuncId := 78
abbrev F_carry_Carrier_look : FuncId := 79
abbrev F_carry_Carrier_Offer_1 : FuncId := 83
abbrev F_slices_ContainsFunc_S_carry_pair_carry_pair : FuncId := 84
abbrev F_node_Decode : FuncId := 85
abbrev F_slices_Contains_S_carry_pair_carry_pair : FuncId := 86
abbrev F_slices_DeleteFunc_S_carry_pair_carry_pair : FuncId := 87
abbrev F_carry_Carrier_kids : FuncId := 88
abbrev F_slices_Contains_S_api_Digest_api_Digest : FuncId := 92
abbrev F_r01_turn : FuncId := 93
abbrev F_r01_constant : FuncId := 94
abbrev F_carry_Reach_1 : FuncId := 95
abbrev F_node_Kids : FuncId := 96
abbrev F_sha_Compare : FuncId := 100
abbrev F_tree_get : FuncId := 103
abbrev F_vpath_Parse : FuncId := 105
abbrev F_slices_ContainsFunc_S_api_File_api_File : FuncId := 106
abbrev F_tree_parse_1 : FuncId := 107
abbrev F_tree_parse_2 : FuncId := 108
abbrev F_slices_SortFunc_S_tree_entry_tree_entry : FuncId := 109
abbrev F_tree_shape_1 : FuncId := 110
abbrev F_vpath_Compare : FuncId := 111
abbrev F_strings_Join : FuncId := 112
abbrev F_slices_Chunk_S_byte_byte : FuncId := 113
abbrev F_node_Encode : FuncId := 114
abbrev F_slices_Clone_S_byte_byte : FuncId := 115
abbrev F_sha_New : FuncId := 132
abbrev F_sha_Hash_Write : FuncId := 133
abbrev F_sha_Hash_Sum : FuncId := 134
abbrev F_slices_IndexFunc_S_carry_pair_carry_pair : FuncId := 136
abbrev F_wire_Read : FuncId := 137
abbrev F_node_read : FuncId := 138
abbrev F_wire_In_End : FuncId := 139
abbrev F_node_right : FuncId := 140
abbrev F_slices_Index_S_carry_pair_carry_pair : FuncId := 141
abbrev F_slices_Index_S_api_Digest_api_Digest : FuncId := 147
abbrev F_bytes_Compare : FuncId := 151
abbrev F_strings_HasPrefix : FuncId := 156
abbrev F_vpath_plain : FuncId := 157
abbrev F_vpath_pieces : FuncId := 158
abbrev F_slices_IndexFunc_S_api_File_api_File : FuncId := 159
abbrev F_slices_CompareFunc_S_string_S_string_string_string : FuncId := 162
abbrev F_cmp_Compare_string : FuncId := 163
abbrev F_strings_Builder_Grow : FuncId := 164
abbrev F_strings_Builder_WriteString : FuncId := 165
abbrev F_strings_Builder_String : FuncId := 166
abbrev F_slices_Chunk_S_byte_byte_1 : FuncId := 167
abbrev F_wire_Out_Num : FuncId := 168
abbrev F_wire_Out_Text : FuncId := 169
abbrev F_wire_Out_Digest : FuncId := 170
abbrev F_wire_Out_Bytes : FuncId := 171
abbrev F_sha_Hash_mix : FuncId := 175
abbrev F_wire_In_Num : FuncId := 176
abbrev F_wire_In_Text : FuncId := 177
abbrev F_node_parts : FuncId := 178
abbrev F_wire_In_Digest : FuncId := 179
abbrev F_node_rising : FuncId := 180
abbrev F_internal_bytealg_Compare : FuncId := 184
abbrev F_internal_stringslite_HasPrefix : FuncId := 187
abbrev F_vpath_pieces_1 : FuncId := 188
abbrev F_strings_Cut : FuncId := 189
abbrev F_cmp_isNaN_string : FuncId := 200
abbrev F_strings_Builder_copyCheck : FuncId := 201
abbrev F_strings_Builder_grow : FuncId := 202
abbrev F_math_bits_RotateLeft32 : FuncId := 203
abbrev F_wire_In_next : FuncId := 204
abbrev F_wire_In_fail : FuncId := 205
abbrev F_wire_In_take : FuncId := 206
abbrev F_vpath_Check : FuncId := 207
abbrev F_internal_stringslite_Cut : FuncId := 216
abbrev F_internal_abi_NoEscape : FuncId := 222
abbrev F_internal_bytealg_MakeNoZero : FuncId := 223
abbrev F_vpath_name : FuncId := 224
abbrev F_internal_stringslite_Index : FuncId := 228
abbrev F_internal_stringslite_IndexByte : FuncId := 231
abbrev F_internal_bytealg_IndexString : FuncId := 232
abbrev F_internal_bytealg_Cutover : FuncId := 233
abbrev F_internal_bytealg_IndexRabinKarp_string : FuncId := 234
abbrev F_internal_bytealg_IndexByteString : FuncId := 235
abbrev y_tuple_bcd8b0 : TypeId := 0
abbrev y_int : TypeId := 3
abbrev y_bool : TypeId := 4
abbrev y_uint8 : TypeId := 5
abbrev y_string : TypeId := 9
abbrev y_S_api_File : TypeId := 22
abbrev y_p_blob_Store : TypeId := 25
abbrev y_api_Digest : TypeId := 30
abbrev y_api_Errno : TypeId := 31
abbrev y_r05_Store : TypeId := 39
abbrev y_api_File : TypeId := 44
abbrev y_S_uint8 : TypeId := 45
abbrev y_S_api_Digest : TypeId := 59
abbrev y_r05_Blob : TypeId := 63
abbrev y_S_api_Item : TypeId := 84
abbrev y_api_Item : TypeId := 88
abbrev y_S_S_api_File : TypeId := 101
abbrev y_M_api_Digest_S_uint8 : TypeId := 102
abbrev y_blob_Store : TypeId := 104
abbrev y_S_tree_entry : TypeId := 105
abbrev y_M_string_S_tree_entry : TypeId := 108
abbrev y_S_S_uint8 : TypeId := 111
abbrev y_func_9d2e5c : TypeId := 112
abbrev y_api_Node : TypeId := 114
abbrev y_S_string : TypeId := 115
abbrev y_tree_entry : TypeId := 117
abbrev y_M_carry_pair_int : TypeId := 135
abbrev y_S_carry_pair : TypeId := 136
abbrev y_carry_Carrier : TypeId := 138
abbrev y_carry_pair : TypeId := 141
abbrev y_S_r08_Pair : TypeId := 142
abbrev y_r08_Pair : TypeId := 147
abbrev y_uint64 : TypeId := 162
abbrev y_uint32 : TypeId := 163
abbrev y_8_uint32 : TypeId := 164
abbrev y_64_uint32 : TypeId := 165
abbrev y_M_api_Digest_int : TypeId := 168
abbrev y_func_d5d261 : TypeId := 169
abbrev y_M_string_tree_entry : TypeId := 187
abbrev y_S_r07_todo : TypeId := 207
abbrev y_r07_todo : TypeId := 210
abbrev y_r02_In : TypeId := 227
abbrev y_p_strings_Builder : TypeId := 247
abbrev y_strings_Builder : TypeId := 249
abbrev y_wire_Out : TypeId := 258
abbrev y_64_uint8 : TypeId := 264
abbrev y_sha_Hash : TypeId := 266
abbrev y_8_uint8 : TypeId := 267
abbrev y_wire_In : TypeId := 269
abbrev y_p_uint8 : TypeId := 286
abbrev y_unsafe_Pointer : TypeId := 303
def ann_r01_turn : Ann := (.seq .leaf (.seq .leaf .leaf))
theorem ok_r01_turn : okC P qs Tryz.f93.ntmps ((Tryz.f93.body).getD .skip) ann_r01_turn = true := by kernel_rfl
def T_r01_turn (x : Int) (n : Int) (R : Ending → World → Prop) (w : World) : Prop :=
  shrI .u32 x n fun t7 =>
  subI .u64 32 n fun t10 =>
  shlI .u32 x t10 fun t11 =>
  orI .u32 t7 t11 fun t12 =>
  R (.returned (Value.int .u32 t12)) w
theorem eq_r01_turn (x : Int) (n : Int) (R : Ending → World → Prop) (w : World) : tr P qs ((Tryz.f93.body).getD .skip) ann_r01_turn (env0 0 [(0, (Value.int .u32 x)), (0, (Value.int .u64 n))]) (topK P Tryz.f93.results.toList R) w = T_r01_turn x n R w := by kernel_rfl
theorem fn_r01_turn {x : Int} {n : Int} {R : Ending → World → Prop} {w : World} (hT : T_r01_turn x n R w) : CallF P F_r01_turn #[(Value.int .u32 x), (Value.int .u64 n)] w R :=
 fn_of_tr (fn := Tryz.f93) (c := (Tryz.f93.body).getD .skip) (ann := ann_r01_turn) (args := [(0, (Value.int .u32 x)), (0, (Value.int .u64 n))]) (qs := qs) mixed Tryz.func93 rfl (by kernel_rfl) (by kernel_rfl) ok_r01_turn ((eq_r01_turn x n R w).symm ▸ hT)
def ann_math_bits_RotateLeft32 : Ann := (.seq .leaf (.seq .leaf (.seq .leaf .leaf)))
theorem ok_math_bits_RotateLeft32 : okC P qs Tryz.f203.ntmps ((Tryz.f203.body).getD .skip) ann_math_bits_RotateLeft32 = true := by kernel_rfl
def T_math_bits_RotateLeft32 (x : Int) (k : Int) (R : Ending → World → Prop) (w : World) : Prop :=
  cvI .u64 k fun t7 =>
  andI .u64 t7 31 fun t8 =>
  shlI .u32 x t8 fun t11 =>
  subI .u64 32 t8 fun t14 =>
  shrI .u32 x t14 fun t15 =>
  orI .u32 t11 t15 fun t16 =>
  R (.returned (Value.int .u32 t16)) w
theorem eq_math_bits_RotateLeft32 (x : Int) (k : Int) (R : Ending → World → Prop) (w : World) : tr P qs ((Tryz.f203.body).getD .skip) ann_math_bits_RotateLeft32 (env0 0 [(0, (Value.int .u32 x)), (0, (Value.int .i64 k))]) (topK P Tryz.f203.results.toList R) w = T_math_bits_RotateLeft32 x k R w := by kernel_rfl
theorem fn_math_bits_RotateLeft32 {x : Int} {k : Int} {R : Ending → World → Prop} {w : World} (hT : T_math_bits_RotateLeft32 x k R w) : CallF P F_math_bits_RotateLeft32 #[(Value.int .u32 x), (Value.int .i64 k)] w R :=
 fn_of_tr (fn := Tryz.f203) (c := (Tryz.f203.body).getD .skip) (ann := ann_math_bits_RotateLeft32) (args := [(0, (Value.int .u32 x)), (0, (Value.int .i64 k))]) (qs := qs) mixed Tryz.func203 rfl (by kernel_rfl) (by kernel_rfl) ok_math_bits_RotateLeft32 ((eq_math_bits_RotateLeft32 x k R w).symm ▸ hT)
def ann_vpath_plain : Ann := (.seq .leaf (.join [] (.jblk [] (.join [] (.jblk [] (.jblk [] (.jblk [] (.join [] (.join [] (.seq .leaf (.cond .leaf .leaf)) (.join [] (.seq .leaf (.cond .leaf .leaf)) (.seq .leaf (.cond .leaf .leaf)))) .leaf)))) (.seq (.seq .leaf .leaf) .leaf))) (.seq .leaf .leaf)))
theorem ok_vpath_plain : okC P qs Tryz.f157.ntmps ((Tryz.f157.body).getD .skip) ann_vpath_plain = true := by kernel_rfl
def T_vpath_plain (c : Int) (R : Ending → World → Prop) (w : World) : Prop :=
  joinP Unit (fun k =>
  joinP Unit (fun k_1 =>
  joinP Unit (fun k_2 =>
  joinP Unit (fun k_3 =>
  joinP Unit (fun k_4 =>
  joinP Unit (fun k_5 =>
  joinP Unit (fun k_6 =>
  joinP Unit (fun k_7 =>
  iteP (c == 46) (
  k_5 () w) (
  iteP (c == 95) (
  k_5 () w) (
  iteP (c == 45) (
  k_5 () w) (
  k_7 () w)))) (fun _ w_1 =>
  joinP Unit (fun k_8 =>
  iteP (decide (c ≥ 48)) (
  iteP (decide (c ≤ 57)) (
  k_4 () w_1) (
  k_8 () w_1)) (
  k_8 () w_1)) (fun _ w_2 =>
  iteP (decide (c ≥ 97)) (
  iteP (decide (c ≤ 122)) (
  k_3 () w_2) (
  k_6 () w_2)) (
  k_6 () w_2)))) (fun _ w_3 =>
  k_1 () w_3)) (fun _ w_4 =>
  k_4 () w_4)) (fun _ w_5 =>
  k_3 () w_5)) (fun _ w_6 =>
  k_2 () w_6)) (fun _ w_7 =>
  R (.returned (Value.bool true)) w_7)) (fun _ w_8 =>
  k () w_8)) (fun _ w_9 =>
  iteP (decide (c ≥ 65)) (
  R (.returned (Value.bool (decide (c ≤ 90)))) w_9) (
  R (.returned (Value.bool false)) w_9))
theorem eq_vpath_plain (c : Int) (R : Ending → World → Prop) (w : World) : tr P qs ((Tryz.f157.body).getD .skip) ann_vpath_plain (env0 0 [(0, (Value.int .u8 c))]) (topK P Tryz.f157.results.toList R) w = T_vpath_plain c R w := by kernel_rfl
theorem fn_vpath_plain {c : Int} {R : Ending → World → Prop} {w : World} (hT : T_vpath_plain c R w) : CallF P F_vpath_plain #[(Value.int .u8 c)] w R :=
 fn_of_tr (fn := Tryz.f157) (c := (Tryz.f157.body).getD .skip) (ann := ann_vpath_plain) (args := [(0, (Value.int .u8 c))]) (qs := qs) mixed Tryz.func157 rfl (by kernel_rfl) (by kernel_rfl) ok_vpath_plain ((eq_vpath_plain c R w).symm ▸ hT)
def ann_cmp_isNaN_string : Ann := (.seq .leaf (.seq .leaf .leaf))
theorem ok_cmp_isNaN_string : okC P qs Tryz.f200.ntmps ((Tryz.f200.body).getD .skip) ann_cmp_isNaN_string = true := by kernel_rfl
def T_cmp_isNaN_string (x : ByteArray) (R : Ending → World → Prop) (w : World) : Prop :=
  R (.returned (Value.bool (!(x.toList == x.toList)))) w
theorem eq_cmp_isNaN_string (x : ByteArray) (R : Ending → World → Prop) (w : World) : tr P qs ((Tryz.f200.body).getD .skip) ann_cmp_isNaN_string (env0 0 [(0, (Value.string x))]) (topK P Tryz.f200.results.toList R) w = T_cmp_isNaN_string x R w := by kernel_rfl
theorem fn_cmp_isNaN_string {x : ByteArray} {R : Ending → World → Prop} {w : World} (hT : T_cmp_isNaN_string x R w) : CallF P F_cmp_isNaN_string #[(Value.string x)] w R :=
 fn_of_tr (fn := Tryz.f200) (c := (Tryz.f200.body).getD .skip) (ann := ann_cmp_isNaN_string) (args := [(0, (Value.string x))]) (qs := qs) mixed Tryz.func200 rfl (by kernel_rfl) (by kernel_rfl) ok_cmp_isNaN_string ((eq_cmp_isNaN_string x R w).symm ▸ hT)
def ann_strings_HasPrefix : Ann := (.seq .leaf (.seq .leaf .leaf))
theorem ok_strings_HasPrefix : okC P qs Tryz.f156.ntmps ((Tryz.f156.body).getD .skip) ann_strings_HasPrefix = true := by kernel_rfl
def T_strings_HasPrefix (s : ByteArray) (prefixv : ByteArray) (R : Ending → World → Prop) (w : World) : Prop :=
  callQ P F_internal_stringslite_HasPrefix #[(Value.string s), (Value.string prefixv)] [.bool] false w fun (t7 : Bool) =>
  R (.returned (Value.bool t7)) w
theorem eq_strings_HasPrefix (s : ByteArray) (prefixv : ByteArray) (R : Ending → World → Prop) (w : World) : tr P qs ((Tryz.f156.body).getD .skip) ann_strings_HasPrefix (env0 0 [(0, (Value.string s)), (0, (Value.string prefixv))]) (topK P Tryz.f156.results.toList R) w = T_strings_HasPrefix s prefixv R w := by kernel_rfl
theorem fn_strings_HasPrefix {s : ByteArray} {prefixv : ByteArray} {R : Ending → World → Prop} {w : World} (hT : T_strings_HasPrefix s prefixv R w) : CallF P F_strings_HasPrefix #[(Value.string s), (Value.string prefixv)] w R :=
 fn_of_tr (fn := Tryz.f156) (c := (Tryz.f156.body).getD .skip) (ann := ann_strings_HasPrefix) (args := [(0, (Value.string s)), (0, (Value.string prefixv))]) (qs := qs) mixed Tryz.func156 rfl (by kernel_rfl) (by kernel_rfl) ok_strings_HasPrefix ((eq_strings_HasPrefix s prefixv R w).symm ▸ hT)
def ann_internal_stringslite_HasPrefix : Ann := (.seq .leaf (.seq .leaf .leaf))
theorem ok_internal_stringslite_HasPrefix : okC P qs Tryz.f187.ntmps ((Tryz.f187.body).getD .skip) ann_internal_stringslite_HasPrefix = true := by kernel_rfl
def T_internal_stringslite_HasPrefix (s : ByteArray) (prefixv : ByteArray) (R : Ending → World → Prop) (w : World) : Prop :=
  iteP (decide ((s.size : Int) ≥ (prefixv.size : Int))) (
  genQ P (Instr.sliceAt y_string (Value.string s) none (some (Value.int .i64 (prefixv.size : Int))) none) .str w fun (t14 : ByteArray) =>
  R (.returned (Value.bool (t14.toList == prefixv.toList))) w) (
  R (.returned (Value.bool false)) w)
theorem eq_internal_stringslite_HasPrefix (s : ByteArray) (prefixv : ByteArray) (R : Ending → World → Prop) (w : World) : tr P qs ((Tryz.f187.body).getD .skip) ann_internal_stringslite_HasPrefix (env0 0 [(0, (Value.string s)), (0, (Value.string prefixv))]) (topK P Tryz.f187.results.toList R) w = T_internal_stringslite_HasPrefix s prefixv R w := by kernel_rfl
theorem fn_internal_stringslite_HasPrefix {s : ByteArray} {prefixv : ByteArray} {R : Ending → World → Prop} {w : World} (hT : T_internal_stringslite_HasPrefix s prefixv R w) : CallF P F_internal_stringslite_HasPrefix #[(Value.string s), (Value.string prefixv)] w R :=
 fn_of_tr (fn := Tryz.f187) (c := (Tryz.f187.body).getD .skip) (ann := ann_internal_stringslite_HasPrefix) (args := [(0, (Value.string s)), (0, (Value.string prefixv))]) (qs := qs) mixed Tryz.func187 rfl (by kernel_rfl) (by kernel_rfl) ok_internal_stringslite_HasPrefix ((eq_internal_stringslite_HasPrefix s prefixv R w).symm ▸ hT)
def ann_r01_Sum : Ann := (.seq .leaf (.seq .leaf (.seq .leaf (.seq (.blk (.loop [(3, .slc)] (.seq (.seq .leaf (.cond .leaf .leaf)) (.blk .leaf)))) (.seq .leaf (.seq (.seq .leaf (.blk (.loop [(3, .slc), (5, .int .i64)] (.seq (.seq .leaf (.cond .leaf .leaf)) (.seq (.blk .leaf) .leaf))))) (.seq .leaf (.seq .leaf (.seq (.seq .leaf (.blk (.loop [(8, .int .i64)] (.seq (.seq .leaf (.cond .leaf .leaf)) (.seq (.blk (.seq (.seq .leaf (.blk (.loop [(9, .int .i64)] (.seq (.seq .leaf (.cond .leaf .leaf)) (.join [] (.jblk [] (.seq (.seq .leaf (.cond (.seq .leaf (.seq (.seq .leaf (.blk (.loop [(10, .int .i64)] (.seq (.seq .leaf (.cond .leaf .leaf)) (.seq (.blk (.tree (.op 0 [] (.op 1 [] (.op 2 [] (.op 5 [] (.op 6 [] (.op 7 [] (.op 8 [] (.op 9 [] (.op 10 [] (.op 11 [] (.op 12 [] (.op 3 [] (.op 4 [] (.op 13 [] (.op 14 [] (.op 15 [] (.op 16 [] (.op 17 [] .done)))))))))))))))))))) .leaf))))) .leaf)) .leaf)) (.seq .leaf (.seq .leaf (.tree (.op 0 [] (.op 1 [] (.op 3 [] (.op 6 [] (.op 7 [] (.op 9 [] (.op 10 [] (.op 11 [] (.op 14 [] (.op 16 [] (.op 19 [] (.op 20 [] (.op 23 [] (.op 24 [] (.op 25 [] (.op 2 [] (.op 4 [] (.op 5 [] (.op 8 [] (.op 12 [] (.op 13 [] (.op 15 [] (.op 17 [] (.op 18 [] (.op 21 [] (.op 22 [] (.op 26 [] (.op 27 [] (.op 28 [] (.op 29 [] .done))))))))))))))))))))))))))))))))))) .leaf))))) (.seq .leaf (.seq (.seq .leaf (.blk (.loop [(14, .int .i64)] (.seq (.seq .leaf (.cond .leaf .leaf)) (.seq (.blk (.seq .leaf (.seq .leaf (.seq (.tree (.op 0 [] (.op 2 [] (.op 4 [] (.op 7 [] (.op 11 [] (.op 12 [] (.op 15 [] (.op 16 [] (.op 17 [] (.op 22 [] (.op 25 [] (.op 26 [] (.op 1 [] (.op 3 [] (.op 5 [] (.op 6 [] (.op 8 [] (.op 9 [] (.op 10 [] (.op 13 [] (.op 14 [] (.op 18 [] (.op 19 [] (.op 20 [] (.op 21 [] (.op 27 [] (.op 23 [1, 13, 18, 27] (.op 24 [] (.op 28 [] (.op 29 [] .done))))))))))))))))))))))))))))))) (.seq (.tree (.op 0 [] (.op 2 [] (.op 5 [] (.op 8 [] (.op 9 [] (.op 12 [] (.op 13 [] (.op 17 [] (.op 19 [] (.op 1 [] (.op 3 [] (.op 4 [] (.op 6 [] (.op 7 [] (.op 10 [] (.op 11 [] (.op 14 [] (.op 15 [] (.op 16 [] (.op 18 [] (.op 20 [] (.op 21 [] (.op 22 [] (.op 23 [] (.op 24 [] .done)))))))))))))))))))))))))) (.seq (.seq .leaf (.blk (.loop [(19, .int .i64)] (.seq (.seq .leaf (.cond .leaf .leaf)) (.seq (.blk .leaf) .leaf))))) (.seq .leaf .leaf))))))) .leaf))))) (.seq .leaf (.blk (.loop [(20, .int .i64)] (.seq (.seq .leaf (.cond .leaf .leaf)) (.seq (.blk (.tree (.op 0 [] (.op 1 [] (.op 2 [] (.op 4 [] (.op 5 [] (.op 3 [] (.op 6 [] (.op 7 [] (.op 8 [] (.op 9 [] .done)))))))))))) .leaf))))))))) .leaf))))) (.seq .leaf (.seq (.seq .leaf (.blk (.loop [(22, .int .i64)] (.seq (.seq .leaf (.cond .leaf .leaf)) (.seq (.blk .leaf) .leaf))))) (.seq .leaf .leaf))))))))))))
theorem ok_r01_Sum : okC P qs Tryz.f40.ntmps ((Tryz.f40.body).getD .skip) ann_r01_Sum = true := by kernel_rfl
def T_r01_Sum (b : Option Addr) (b_l b_c : Nat) (R : Ending → World → Prop) (w : World) : Prop :=
  newB (zc P y_api_Digest) y_api_Digest w fun b2 w_1 =>
  genL P (Instr.buildSlice y_S_uint8 0 #[]) .slc w_1 fun (t23 : (Option Addr × Nat × Nat)) w_2 =>
  genL P (Builtin.append_ #[y_S_uint8, y_S_uint8] y_S_uint8 #[(Value.slice t23.1 t23.2.1 t23.2.2), (Value.slice b b_l b_c)]) .slc w_2 fun (t25 : (Option Addr × Nat × Nat)) w_3 =>
  genL P (Instr.buildSlice y_S_uint8 1 #[(0, (Value.int .u8 128))]) .slc w_3 fun (t27 : (Option Addr × Nat × Nat)) w_4 =>
  genL P (Builtin.append_ #[y_S_uint8, y_S_uint8] y_S_uint8 #[(Value.slice t25.1 t25.2.1 t25.2.2), (Value.slice t27.1 t27.2.1 t27.2.2)]) .slc w_4 fun (t28 : (Option Addr × Nat × Nat)) w_5 =>
  loopP (Option Addr × Nat × Nat) (fun s w_6 k =>
  remI (s.2.1 : Int) 64 fun t31 =>
  iteP (t31 != 56) (
  genL P (Instr.buildSlice y_S_uint8 1 #[(0, (Value.int .u8 0))]) .slc w_6 fun (t34 : (Option Addr × Nat × Nat)) w_7 =>
  genL P (Builtin.append_ #[y_S_uint8, y_S_uint8] y_S_uint8 #[(Value.slice s.1 s.2.1 s.2.2), (Value.slice t34.1 t34.2.1 t34.2.2)]) .slc w_7 fun (t35 : (Option Addr × Nat × Nat)) w_8 =>
  k (t35.1, t35.2.1, t35.2.2) w_8) (
  cvI .u64 (b_l : Int) fun t38 =>
  mulI .u64 t38 8 fun t39 =>
  loopP ((Option Addr × Nat × Nat) × Int) (fun s_1 w_9 k_1 =>
  iteP (decide (s_1.2 < 8)) (
  mulI .i64 8 s_1.2 fun t47 =>
  subI .i64 56 t47 fun t48 =>
  cvI .u64 t48 fun t49 =>
  shrI .u64 t39 t49 fun t50 =>
  cvI .u8 t50 fun t51 =>
  genL P (Instr.buildSlice y_S_uint8 1 #[(0, (Value.int .u8 t51))]) .slc w_9 fun (t52 : (Option Addr × Nat × Nat)) w_10 =>
  genL P (Builtin.append_ #[y_S_uint8, y_S_uint8] y_S_uint8 #[(Value.slice s_1.1.1 s_1.1.2.1 s_1.1.2.2), (Value.slice t52.1 t52.2.1 t52.2.2)]) .slc w_10 fun (t53 : (Option Addr × Nat × Nat)) w_11 =>
  addI .i64 s_1.2 1 fun t43 =>
  k_1 ((t53.1, t53.2.1, t53.2.2), t43) w_11) (
  genQ P (Instr.build y_8_uint32 #[(0, (Value.int .u32 1779033703)), (1, (Value.int .u32 3144134277)), (2, (Value.int .u32 1013904242)), (3, (Value.int .u32 2773480762)), (4, (Value.int .u32 1359893119)), (5, (Value.int .u32 2600822924)), (6, (Value.int .u32 528734635)), (7, (Value.int .u32 1541459225))]) .any w_9 fun (t54 : Value) =>
  newB (zc P y_8_uint32) y_8_uint32 w_9 fun b6 w_12 =>
  genU P (storeVar y_8_uint32 (⟨b6, 0, none⟩ : Addr) t54) w_12 fun w_13 =>
  newB (zc P y_64_uint32) y_64_uint32 w_13 fun b7 w_14 =>
  loopP Int (fun s_2 w_15 k_2 =>
  iteP (decide (s_2 < (s_1.1.2.1 : Int))) (
  loopP Int (fun s_3 w_16 k_3 =>
  iteP (decide (s_3 < 64)) (
  joinP Unit (fun k_4 =>
  joinP Unit (fun k_5 =>
  iteP (decide (s_3 < 16)) (
  ixR (⟨b7, 0, none⟩ : Addr) 64 1 s_3 fun t68 =>
  stC t68 (Value.int .u32 0) w_16 fun w_17 =>
  loopP Int (fun s_4 w_18 k_6 =>
  iteP (decide (s_4 < 4)) (
  drewP w_18 fun w_19 =>
  ixR (⟨b7, 0, none⟩ : Addr) 64 1 s_3 fun t75 =>
  mulI .i64 4 s_3 fun t81 =>
  addI .i64 s_2 t81 fun t82 =>
  addI .i64 t82 s_4 fun t84 =>
  ixS s_1.1.1 s_1.1.2.1 1 t84 fun t85 =>
  ld (.int .u32) t75 w_19 fun (t76 : Int) =>
  shlI .u32 t76 8 fun t77 =>
  ld (.int .u8) t85 w_19 fun (t86 : Int) =>
  cvI .u32 t86 fun t87 =>
  orI .u32 t77 t87 fun t88 =>
  ixR (⟨b7, 0, none⟩ : Addr) 64 1 s_3 fun t89 =>
  stC t89 (Value.int .u32 t88) w_19 fun w_20 =>
  addI .i64 s_4 1 fun t72 =>
  k_6 t72 w_20) (
  k_5 () w_18)) 0 w_17) (
  subI .i64 s_3 2 fun t91 =>
  ixR (⟨b7, 0, none⟩ : Addr) 64 1 t91 fun t92 =>
  ld (.int .u32) t92 w_16 fun (t93 : Int) =>
  subI .i64 s_3 15 fun t95 =>
  ixR (⟨b7, 0, none⟩ : Addr) 64 1 t95 fun t96 =>
  ld (.int .u32) t96 w_16 fun (t97 : Int) =>
  drewP w_16 fun w_21 =>
  shrI .u32 t93 10 fun t105 =>
  subI .i64 s_3 7 fun t108 =>
  ixR (⟨b7, 0, none⟩ : Addr) 64 1 t108 fun t109 =>
  shrI .u32 t97 3 fun t118 =>
  subI .i64 s_3 16 fun t122 =>
  ixR (⟨b7, 0, none⟩ : Addr) 64 1 t122 fun t123 =>
  callQ P F_r01_turn #[(Value.int .u32 t93), (Value.int .u64 17)] [.int .u32] false w_21 fun (t100 : Int) =>
  callQ P F_r01_turn #[(Value.int .u32 t93), (Value.int .u64 19)] [.int .u32] false w_21 fun (t102 : Int) =>
  xorI .u32 t100 t102 fun t103 =>
  xorI .u32 t103 t105 fun t106 =>
  ld (.int .u32) t109 w_21 fun (t110 : Int) =>
  addI .u32 t106 t110 fun t111 =>
  callQ P F_r01_turn #[(Value.int .u32 t97), (Value.int .u64 7)] [.int .u32] false w_21 fun (t113 : Int) =>
  callQ P F_r01_turn #[(Value.int .u32 t97), (Value.int .u64 18)] [.int .u32] false w_21 fun (t115 : Int) =>
  xorI .u32 t113 t115 fun t116 =>
  xorI .u32 t116 t118 fun t119 =>
  addI .u32 t111 t119 fun t120 =>
  ld (.int .u32) t123 w_21 fun (t124 : Int) =>
  addI .u32 t120 t124 fun t125 =>
  ixR (⟨b7, 0, none⟩ : Addr) 64 1 s_3 fun t126 =>
  stC t126 (Value.int .u32 t125) w_21 fun w_22 =>
  k_5 () w_22)) (fun _ w_23 =>
  k_4 () w_23)) (fun _ w_24 =>
  addI .i64 s_3 1 fun t64 =>
  k_3 t64 w_24)) (
  ldA P 8 (⟨b6, 0, none⟩ : Addr) w_16 fun t127 =>
  newB (zc P y_8_uint32) y_8_uint32 w_16 fun b13 w_25 =>
  genU P (storeVar y_8_uint32 (⟨b13, 0, none⟩ : Addr) (Value.agg t127)) w_25 fun w_26 =>
  loopP Int (fun s_7 w_27 k_7 =>
  iteP (decide (s_7 < 64)) (
  ld (.int .u32) (⟨b13, 4, none⟩ : Addr) w_27 fun (t133 : Int) =>
  ld (.int .u32) (⟨b13, 0, none⟩ : Addr) w_27 fun (t135 : Int) =>
  drewP w_27 fun w_28 =>
  xorI .u32 4294967295 t133 fun t152 =>
  ixR (⟨b7, 0, none⟩ : Addr) 64 1 s_7 fun t162 =>
  ld (.int .u32) (⟨b13, 7, none⟩ : Addr) w_28 fun (t137 : Int) =>
  callQ P F_r01_turn #[(Value.int .u32 t133), (Value.int .u64 6)] [.int .u32] false w_28 fun (t139 : Int) =>
  callQ P F_r01_turn #[(Value.int .u32 t133), (Value.int .u64 11)] [.int .u32] false w_28 fun (t141 : Int) =>
  xorI .u32 t139 t141 fun t142 =>
  callQ P F_r01_turn #[(Value.int .u32 t133), (Value.int .u64 25)] [.int .u32] false w_28 fun (t144 : Int) =>
  xorI .u32 t142 t144 fun t145 =>
  addI .u32 t137 t145 fun t146 =>
  ld (.int .u32) (⟨b13, 5, none⟩ : Addr) w_28 fun (t149 : Int) =>
  andI .u32 t133 t149 fun t150 =>
  ld (.int .u32) (⟨b13, 6, none⟩ : Addr) w_28 fun (t154 : Int) =>
  andI .u32 t152 t154 fun t155 =>
  xorI .u32 t150 t155 fun t156 =>
  addI .u32 t146 t156 fun t157 =>
  ld (.int .u32) t162 w_28 fun (t163 : Int) =>
  callF P F_r01_constant #[(Value.int .i64 s_7)] [.int .u32] false w_28 fun (t159 : Int) w_29 =>
  ((ld (.int .u32) t162 w_29 fun (t163_1 : Int) =>
  (Value.int .u32 t163_1) = (Value.int .u32 t163)) ∧
  ((ld (.int .u32) (⟨b13, 6, none⟩ : Addr) w_29 fun (t154_1 : Int) =>
  (Value.int .u32 t154_1) = (Value.int .u32 t154)) ∧
  ((ld (.int .u32) (⟨b13, 5, none⟩ : Addr) w_29 fun (t149_1 : Int) =>
  (Value.int .u32 t149_1) = (Value.int .u32 t149)) ∧
  ((ld (.int .u32) (⟨b13, 7, none⟩ : Addr) w_29 fun (t137_1 : Int) =>
  (Value.int .u32 t137_1) = (Value.int .u32 t137)) ∧
  addI .u32 t157 t159 fun t160 =>
  addI .u32 t160 t163 fun t164 =>
  drewP w_29 fun w_30 =>
  callQ P F_r01_turn #[(Value.int .u32 t135), (Value.int .u64 2)] [.int .u32] false w_30 fun (t166 : Int) =>
  callQ P F_r01_turn #[(Value.int .u32 t135), (Value.int .u64 13)] [.int .u32] false w_30 fun (t168 : Int) =>
  xorI .u32 t166 t168 fun t169 =>
  callQ P F_r01_turn #[(Value.int .u32 t135), (Value.int .u64 22)] [.int .u32] false w_30 fun (t171 : Int) =>
  xorI .u32 t169 t171 fun t172 =>
  ld (.int .u32) (⟨b13, 1, none⟩ : Addr) w_30 fun (t175 : Int) =>
  andI .u32 t135 t175 fun t176 =>
  ld (.int .u32) (⟨b13, 2, none⟩ : Addr) w_30 fun (t179 : Int) =>
  andI .u32 t135 t179 fun t180 =>
  xorI .u32 t176 t180 fun t181 =>
  ld (.int .u32) (⟨b13, 1, none⟩ : Addr) w_30 fun (t183 : Int) =>
  ld (.int .u32) (⟨b13, 2, none⟩ : Addr) w_30 fun (t185 : Int) =>
  andI .u32 t183 t185 fun t186 =>
  xorI .u32 t181 t186 fun t187 =>
  addI .u32 t172 t187 fun t188 =>
  loopP Int (fun s_8 w_31 k_8 =>
  iteP (decide (s_8 > 0)) (
  subI .i64 s_8 1 fun t195 =>
  ixR (⟨b13, 0, none⟩ : Addr) 8 1 t195 fun t196 =>
  ld (.int .u32) t196 w_31 fun (t197 : Int) =>
  ixR (⟨b13, 0, none⟩ : Addr) 8 1 s_8 fun t198 =>
  stC t198 (Value.int .u32 t197) w_31 fun w_32 =>
  subI .i64 s_8 1 fun t192 =>
  k_8 t192 w_32) (
  ld (.int .u32) (⟨b13, 4, none⟩ : Addr) w_31 fun (t200 : Int) =>
  addI .u32 t200 t164 fun t202 =>
  stC (⟨b13, 4, none⟩ : Addr) (Value.int .u32 t202) w_31 fun w_33 =>
  addI .u32 t164 t188 fun t206 =>
  stC (⟨b13, 0, none⟩ : Addr) (Value.int .u32 t206) w_33 fun w_34 =>
  addI .i64 s_7 1 fun t131 =>
  k_7 t131 w_34)) 7 w_30))))) (
  loopP Int (fun s_9 w_35 k_9 =>
  iteP (decide (s_9 < 8)) (
  drewP w_35 fun w_36 =>
  ixR (⟨b6, 0, none⟩ : Addr) 8 1 s_9 fun t214 =>
  ixR (⟨b13, 0, none⟩ : Addr) 8 1 s_9 fun t217 =>
  ld (.int .u32) t214 w_36 fun (t215 : Int) =>
  ld (.int .u32) t217 w_36 fun (t218 : Int) =>
  addI .u32 t215 t218 fun t219 =>
  ixR (⟨b6, 0, none⟩ : Addr) 8 1 s_9 fun t220 =>
  stC t220 (Value.int .u32 t219) w_36 fun w_37 =>
  addI .i64 s_9 1 fun t211 =>
  k_9 t211 w_37) (
  addI .i64 s_2 64 fun t60 =>
  k_2 t60 w_35)) 0 w_27)) 0 w_26)) 0 w_15) (
  newB (zc P y_api_Digest) y_api_Digest w_15 fun b21 w_38 =>
  loopP Int (fun s_10 w_39 k_10 =>
  iteP (decide (s_10 < 32)) (
  quoI .i64 s_10 4 fun t227 =>
  ixR (⟨b6, 0, none⟩ : Addr) 8 1 t227 fun t228 =>
  ld (.int .u32) t228 w_39 fun (t229 : Int) =>
  remI s_10 4 fun t231 =>
  mulI .i64 8 t231 fun t232 =>
  subI .i64 24 t232 fun t233 =>
  cvI .u64 t233 fun t234 =>
  shrI .u32 t229 t234 fun t235 =>
  cvI .u8 t235 fun t236 =>
  ixR (⟨b21, 0, none⟩ : Addr) 32 1 s_10 fun t237 =>
  stC t237 (Value.int .u8 t236) w_39 fun w_40 =>
  addI .i64 s_10 1 fun t224 =>
  k_10 t224 w_40) (
  ldA P 32 (⟨b21, 0, none⟩ : Addr) w_39 fun t238 =>
  genU P (storeVar y_api_Digest (⟨b2, 0, none⟩ : Addr) (Value.agg t238)) w_39 fun w_41 =>
  ldA P 32 (⟨b2, 0, none⟩ : Addr) w_41 fun t2 =>
  R (.returned (Value.agg t2)) w_41)) 0 w_38)) 0 w_14)) ((s.1, s.2.1, s.2.2), 0) w_6)) (t28.1, t28.2.1, t28.2.2) w_5
theorem eq_r01_Sum (b : Option Addr) (b_l b_c : Nat) (R : Ending → World → Prop) (w : World) : tr P qs ((Tryz.f40.body).getD .skip) ann_r01_Sum (env0 0 [(0, (Value.slice b b_l b_c))]) (topK P Tryz.f40.results.toList R) w = T_r01_Sum b b_l b_c R w := by kernel_rfl
theorem fn_r01_Sum {b : Option Addr} {b_l b_c : Nat} {R : Ending → World → Prop} {w : World} (hT : T_r01_Sum b b_l b_c R w) : CallF P F_r01_Sum #[(Value.slice b b_l b_c)] w R :=
 fn_of_tr (fn := Tryz.f40) (c := (Tryz.f40.body).getD .skip) (ann := ann_r01_Sum) (args := [(0, (Value.slice b b_l b_c))]) (qs := qs) mixed Tryz.func40 rfl (by kernel_rfl) (by kernel_rfl) ok_r01_Sum ((eq_r01_Sum b b_l b_c R w).symm ▸ hT)
def ann_vpath_Show : Ann := (.seq .leaf (.seq .leaf .leaf))
theorem ok_vpath_Show : okC P qs Tryz.f57.ntmps ((Tryz.f57.body).getD .skip) ann_vpath_Show = true := by kernel_rfl
def T_vpath_Show (names : Option Addr) (names_l names_c : Nat) (R : Ending → World → Prop) (w : World) : Prop :=
  callF P F_strings_Join #[(Value.slice names names_l names_c), (Value.string (ByteArray.mk #[47]))] [.str] false w fun (t4 : ByteArray) w_1 =>
  catS (ByteArray.mk #[47]) t4 fun t5 =>
  R (.returned (Value.string t5)) w_1
theorem eq_vpath_Show (names : Option Addr) (names_l names_c : Nat) (R : Ending → World → Prop) (w : World) : tr P qs ((Tryz.f57.body).getD .skip) ann_vpath_Show (env0 0 [(0, (Value.slice names names_l names_c))]) (topK P Tryz.f57.results.toList R) w = T_vpath_Show names names_l names_c R w := by kernel_rfl
theorem fn_vpath_Show {names : Option Addr} {names_l names_c : Nat} {R : Ending → World → Prop} {w : World} (hT : T_vpath_Show names names_l names_c R w) : CallF P F_vpath_Show #[(Value.slice names names_l names_c)] w R :=
 fn_of_tr (fn := Tryz.f57) (c := (Tryz.f57.body).getD .skip) (ann := ann_vpath_Show) (args := [(0, (Value.slice names names_l names_c))]) (qs := qs) mixed Tryz.func57 rfl (by kernel_rfl) (by kernel_rfl) ok_vpath_Show ((eq_vpath_Show names names_l names_c R w).symm ▸ hT)
def ann_sha_Sum : Ann := (.seq .leaf (.seq .leaf (.seq .leaf (.seq .leaf .leaf))))
theorem ok_sha_Sum : okC P qs Tryz.f78.ntmps ((Tryz.f78.body).getD .skip) ann_sha_Sum = true := by kernel_rfl
def T_sha_Sum (b : Option Addr) (b_l b_c : Nat) (R : Ending → World → Prop) (w : World) : Prop :=
  newB (zc P y_api_Digest) y_api_Digest w fun b2 w_1 =>
  callF P F_sha_New #[] [.ptr] false w_1 fun (t4 : (Option Addr)) w_2 =>
  callF P F_sha_Hash_Write #[(Value.pointer t4), (Value.slice b b_l b_c)] [] true w_2 fun (_ : Unit) w_3 =>
  callF P F_sha_Hash_Sum #[(Value.pointer t4)] [.any] false w_3 fun (t9 : Value) w_4 =>
  genU P (storeVar y_api_Digest (⟨b2, 0, none⟩ : Addr) t9) w_4 fun w_5 =>
  ldA P 32 (⟨b2, 0, none⟩ : Addr) w_5 fun t2 =>
  R (.returned (Value.agg t2)) w_5
theorem eq_sha_Sum (b : Option Addr) (b_l b_c : Nat) (R : Ending → World → Prop) (w : World) : tr P qs ((Tryz.f78.body).getD .skip) ann_sha_Sum (env0 0 [(0, (Value.slice b b_l b_c))]) (topK P Tryz.f78.results.toList R) w = T_sha_Sum b b_l b_c R w := by kernel_rfl
theorem fn_sha_Sum {b : Option Addr} {b_l b_c : Nat} {R : Ending → World → Prop} {w : World} (hT : T_sha_Sum b b_l b_c R w) : CallF P F_sha_Sum #[(Value.slice b b_l b_c)] w R :=
 fn_of_tr (fn := Tryz.f78) (c := (Tryz.f78.body).getD .skip) (ann := ann_sha_Sum) (args := [(0, (Value.slice b b_l b_c))]) (qs := qs) mixed Tryz.func78 rfl (by kernel_rfl) (by kernel_rfl) ok_sha_Sum ((eq_sha_Sum b b_l b_c R w).symm ▸ hT)
def ann_r01_constant : Ann := (.seq .leaf (.seq .leaf (.seq .leaf .leaf)))
theorem ok_r01_constant : okC P qs Tryz.f94.ntmps ((Tryz.f94.body).getD .skip) ann_r01_constant = true := by kernel_rfl
def T_r01_constant (t : Int) (R : Ending → World → Prop) (w : World) : Prop :=
  genQ P (Instr.build y_64_uint32 #[(0, (Value.int .u32 1116352408)), (1, (Value.int .u32 1899447441)), (2, (Value.int .u32 3049323471)), (3, (Value.int .u32 3921009573)), (4, (Value.int .u32 961987163)), (5, (Value.int .u32 1508970993)), (6, (Value.int .u32 2453635748)), (7, (Value.int .u32 2870763221)), (8, (Value.int .u32 3624381080)), (9, (Value.int .u32 310598401)), (10, (Value.int .u32 607225278)), (11, (Value.int .u32 1426881987)), (12, (Value.int .u32 1925078388)), (13, (Value.int .u32 2162078206)), (14, (Value.int .u32 2614888103)), (15, (Value.int .u32 3248222580)), (16, (Value.int .u32 3835390401)), (17, (Value.int .u32 4022224774)), (18, (Value.int .u32 264347078)), (19, (Value.int .u32 604807628)), (20, (Value.int .u32 770255983)), (21, (Value.int .u32 1249150122)), (22, (Value.int .u32 1555081692)), (23, (Value.int .u32 1996064986)), (24, (Value.int .u32 2554220882)), (25, (Value.int .u32 2821834349)), (26, (Value.int .u32 2952996808)), (27, (Value.int .u32 3210313671)), (28, (Value.int .u32 3336571891)), (29, (Value.int .u32 3584528711)), (30, (Value.int .u32 113926993)), (31, (Value.int .u32 338241895)), (32, (Value.int .u32 666307205)), (33, (Value.int .u32 773529912)), (34, (Value.int .u32 1294757372)), (35, (Value.int .u32 1396182291)), (36, (Value.int .u32 1695183700)), (37, (Value.int .u32 1986661051)), (38, (Value.int .u32 2177026350)), (39, (Value.int .u32 2456956037)), (40, (Value.int .u32 2730485921)), (41, (Value.int .u32 2820302411)), (42, (Value.int .u32 3259730800)), (43, (Value.int .u32 3345764771)), (44, (Value.int .u32 3516065817)), (45, (Value.int .u32 3600352804)), (46, (Value.int .u32 4094571909)), (47, (Value.int .u32 275423344)), (48, (Value.int .u32 430227734)), (49, (Value.int .u32 506948616)), (50, (Value.int .u32 659060556)), (51, (Value.int .u32 883997877)), (52, (Value.int .u32 958139571)), (53, (Value.int .u32 1322822218)), (54, (Value.int .u32 1537002063)), (55, (Value.int .u32 1747873779)), (56, (Value.int .u32 1955562222)), (57, (Value.int .u32 2024104815)), (58, (Value.int .u32 2227730452)), (59, (Value.int .u32 2361852424)), (60, (Value.int .u32 2428436474)), (61, (Value.int .u32 2756734187)), (62, (Value.int .u32 3204031479)), (63, (Value.int .u32 3329325298))]) .any w fun (t4 : Value) =>
  newB (zc P y_64_uint32) y_64_uint32 w fun b3 w_1 =>
  genU P (storeVar y_64_uint32 (⟨b3, 0, none⟩ : Addr) t4) w_1 fun w_2 =>
  ixR (⟨b3, 0, none⟩ : Addr) 64 1 t fun t6 =>
  ld (.int .u32) t6 w_2 fun (t7 : Int) =>
  R (.returned (Value.int .u32 t7)) w_2
theorem eq_r01_constant (t : Int) (R : Ending → World → Prop) (w : World) : tr P qs ((Tryz.f94.body).getD .skip) ann_r01_constant (env0 0 [(0, (Value.int .i64 t))]) (topK P Tryz.f94.results.toList R) w = T_r01_constant t R w := by kernel_rfl
theorem fn_r01_constant {t : Int} {R : Ending → World → Prop} {w : World} (hT : T_r01_constant t R w) : CallF P F_r01_constant #[(Value.int .i64 t)] w R :=
 fn_of_tr (fn := Tryz.f94) (c := (Tryz.f94.body).getD .skip) (ann := ann_r01_constant) (args := [(0, (Value.int .i64 t))]) (qs := qs) mixed Tryz.func94 rfl (by kernel_rfl) (by kernel_rfl) ok_r01_constant ((eq_r01_constant t R w).symm ▸ hT)
def ann_sha_Compare : Ann := (.seq .leaf (.seq (.tree (.op 0 [] (.op 1 [] (.op 2 [] (.op 3 [] .done))))) .leaf))
theorem ok_sha_Compare : okC P qs Tryz.f100.ntmps ((Tryz.f100.body).getD .skip) ann_sha_Compare = true := by kernel_rfl
def T_sha_Compare (a : Value) (b : Value) (R : Ending → World → Prop) (w : World) : Prop :=
  newB (Value.cells a) y_api_Digest w fun b2 w_1 =>
  newB (Value.cells b) y_api_Digest w_1 fun b3 w_2 =>
  drewP w_2 fun w_3 =>
  genQ P (Instr.sliceAt y_api_Digest (Value.pointer (some (⟨b2, 0, none⟩ : Addr))) none none none) .slc w_3 fun (t5 : (Option Addr × Nat × Nat)) =>
  genQ P (Instr.sliceAt y_api_Digest (Value.pointer (some (⟨b3, 0, none⟩ : Addr))) none none none) .slc w_3 fun (t6 : (Option Addr × Nat × Nat)) =>
  callF P F_bytes_Compare #[(Value.slice t5.1 t5.2.1 t5.2.2), (Value.slice t6.1 t6.2.1 t6.2.2)] [.int .i64] false w_3 fun (t7 : Int) w_4 =>
  R (.returned (Value.int .i64 t7)) w_4
theorem eq_sha_Compare (a : Value) (b : Value) (R : Ending → World → Prop) (w : World) : tr P qs ((Tryz.f100.body).getD .skip) ann_sha_Compare (env0 0 [(1, a), (1, b)]) (topK P Tryz.f100.results.toList R) w = T_sha_Compare a b R w := by kernel_rfl
theorem fn_sha_Compare {a : Value} {b : Value} {R : Ending → World → Prop} {w : World} (hT : T_sha_Compare a b R w) : CallF P F_sha_Compare #[a, b] w R :=
 fn_of_tr (fn := Tryz.f100) (c := (Tryz.f100.body).getD .skip) (ann := ann_sha_Compare) (args := [(1, a), (1, b)]) (qs := qs) mixed Tryz.func100 rfl (by kernel_rfl) (by kernel_rfl) ok_sha_Compare ((eq_sha_Compare a b R w).symm ▸ hT)
def ann_vpath_Parse : Ann2 := (.seq (.pure .leaf) (.seq (.pure (.seq .leaf (.cond (.seq .leaf .leaf) .leaf))) (.seq (.pure (.seq .leaf (.cond (.seq .leaf .leaf) .leaf))) (.seq (.pure (.seq .leaf (.blk (.loop [(15, .int .i64)] (.seq .leaf (.seq (.cond .leaf .leaf) (.join [] (.jblk [] (.seq .leaf (.seq .leaf (.cond (.seq .leaf .leaf) .leaf)))) .leaf))))))) (.seq (.pure .leaf) (.seq (.seq (.pure .leaf) (.blk (.rng [(32, .str)] true [] .leaf (.jblk [] (.jblk [] (.seq .leaf (.cond (.seq .leaf .leaf) (.seq .leaf (.cond .leaf (.seq .leaf (.cond .leaf .leaf))))))))))) (.pure (.seq (.seq .leaf (.cond (.seq .leaf .leaf) .leaf)) (.seq .leaf .leaf)))))))))
theorem ok_vpath_Parse : okC2 P qs Tryz.f105.ntmps ((Tryz.f105.body).getD .skip) ann_vpath_Parse = true := by kernel_rfl
def T_vpath_Parse (s : ByteArray) (R : Ending → World → Prop) (w : World) : Prop :=
  newB (zc P y_S_string) y_S_string w fun b2 w_1 =>
  newB (zc P y_api_Errno) y_api_Errno w_1 fun b3 w_2 =>
  iteP (decide ((s.size : Int) > 256)) (
  stC (⟨b2, 0, none⟩ : Addr) (Value.slice none 0 0) w_2 fun w_3 =>
  stC (⟨b3, 0, none⟩ : Addr) (Value.int .i64 2) w_3 fun w_4 =>
  ld .slc (⟨b2, 0, none⟩ : Addr) w_4 fun (t2 : (Option Addr × Nat × Nat)) =>
  ld (.int .i64) (⟨b3, 0, none⟩ : Addr) w_4 fun (t3 : Int) =>
  R (.returned (Value.tuple #[(Value.slice t2.1 t2.2.1 t2.2.2), (Value.int .i64 t3)])) w_4) (
  callQ P F_strings_HasPrefix #[(Value.string s), (Value.string (ByteArray.mk #[47]))] [.bool] false w_2 fun (t11 : Bool) =>
  iteP (!t11) (
  stC (⟨b2, 0, none⟩ : Addr) (Value.slice none 0 0) w_2 fun w_5 =>
  stC (⟨b3, 0, none⟩ : Addr) (Value.int .i64 40) w_5 fun w_6 =>
  ld .slc (⟨b2, 0, none⟩ : Addr) w_6 fun (t2_1 : (Option Addr × Nat × Nat)) =>
  ld (.int .i64) (⟨b3, 0, none⟩ : Addr) w_6 fun (t3_1 : Int) =>
  R (.returned (Value.tuple #[(Value.slice t2_1.1 t2_1.2.1 t2_1.2.2), (Value.int .i64 t3_1)])) w_6) (
  loopP Int (fun s_1 w_7 k =>
  iteP (decide (s_1 < (s.size : Int))) (
  joinP Unit (fun k_1 =>
  joinP Unit (fun k_2 =>
  ixStr s s_1 fun t20 =>
  iteP (t20 != 47) (
  ixStr s s_1 fun t25 =>
  callQ P F_vpath_plain #[(Value.int .u8 t25)] [.bool] false w_7 fun (t26 : Bool) =>
  iteP (!t26) (
  stC (⟨b2, 0, none⟩ : Addr) (Value.slice none 0 0) w_7 fun w_8 =>
  stC (⟨b3, 0, none⟩ : Addr) (Value.int .i64 40) w_8 fun w_9 =>
  ld .slc (⟨b2, 0, none⟩ : Addr) w_9 fun (t2_2 : (Option Addr × Nat × Nat)) =>
  ld (.int .i64) (⟨b3, 0, none⟩ : Addr) w_9 fun (t3_2 : Int) =>
  R (.returned (Value.tuple #[(Value.slice t2_2.1 t2_2.2.1 t2_2.2.2), (Value.int .i64 t3_2)])) w_9) (
  k_2 () w_7)) (
  k_2 () w_7)) (fun _ w_10 =>
  k_1 () w_10)) (fun _ w_11 =>
  addI .i64 s_1 1 fun t29 =>
  k t29 w_11)) (
  newB (zc P y_S_string) y_S_string w_7 fun b5 w_12 =>
  callF P F_vpath_pieces #[(Value.string s)] [.any] false w_12 fun (t31 : Value) w_13 =>
  rangeP P [.str] t31 w_13 (fun (x : ByteArray) w_14 beg kc kr _ =>
  beg w_14 fun w_15 =>
  joinP Unit (fun k_3 =>
  joinP Unit (fun k_4 =>
  iteP (decide ((x.size : Int) > 16)) (
  stC (⟨b2, 0, none⟩ : Addr) (Value.slice none 0 0) w_15 fun w_16 =>
  stC (⟨b3, 0, none⟩ : Addr) (Value.int .i64 41) w_16 fun w_17 =>
  kr w_17) (
  iteP (x.toList == (ByteArray.mk #[]).toList) (
  k_4 () w_15) (
  iteP (x.toList == (ByteArray.mk #[46]).toList) (
  k_4 () w_15) (
  iteP (x.toList == (ByteArray.mk #[46, 46]).toList) (
  ld .slc (⟨b5, 0, none⟩ : Addr) w_15 fun (t51 : (Option Addr × Nat × Nat)) =>
  ld .slc (⟨b5, 0, none⟩ : Addr) w_15 fun (t52 : (Option Addr × Nat × Nat)) =>
  subI .i64 (t52.2.1 : Int) 1 fun t54 =>
  genQ P (Builtin.max_ #[y_int, y_int] y_int #[(Value.int .i64 t54), (Value.int .i64 0)]) (.int .i64) w_15 fun (t55 : Int) =>
  genQ P (Instr.sliceAt y_S_string (Value.slice t51.1 t51.2.1 t51.2.2) none (some (Value.int .i64 t55)) none) .slc w_15 fun (t56 : (Option Addr × Nat × Nat)) =>
  stC (⟨b5, 0, none⟩ : Addr) (Value.slice t56.1 t56.2.1 t56.2.2) w_15 fun w_18 =>
  k_4 () w_18) (
  ld .slc (⟨b5, 0, none⟩ : Addr) w_15 fun (t33 : (Option Addr × Nat × Nat)) =>
  genL P (Instr.buildSlice y_S_string 1 #[(0, (Value.string x))]) .slc w_15 fun (t35 : (Option Addr × Nat × Nat)) w_19 =>
  genL P (Builtin.append_ #[y_S_string, y_S_string] y_S_string #[(Value.slice t33.1 t33.2.1 t33.2.2), (Value.slice t35.1 t35.2.1 t35.2.2)]) .slc w_19 fun (t36 : (Option Addr × Nat × Nat)) w_20 =>
  stC (⟨b5, 0, none⟩ : Addr) (Value.slice t36.1 t36.2.1 t36.2.2) w_20 fun w_21 =>
  k_4 () w_21))))) (fun _ w_22 =>
  k_3 () w_22)) (fun _ w_23 =>
  kc w_23)) (fun D w_24 =>
  ld .slc (⟨b5, 0, none⟩ : Addr) w_24 fun (t57 : (Option Addr × Nat × Nat)) =>
  iteP (decide ((t57.2.1 : Int) > 8)) (
  stC (⟨b2, 0, none⟩ : Addr) (Value.slice none 0 0) w_24 fun w_25 =>
  stC (⟨b3, 0, none⟩ : Addr) (Value.int .i64 42) w_25 fun w_26 =>
  (w_26.heap[D]? = some (.deferred (some [])) ∧ ∀ w_27, w_27 = World.putObj w_26 D (.deferred none) →
  ld .slc (⟨b2, 0, none⟩ : Addr) w_27 fun (t2_3 : (Option Addr × Nat × Nat)) =>
  ld (.int .i64) (⟨b3, 0, none⟩ : Addr) w_27 fun (t3_3 : Int) =>
  R (.returned (Value.tuple #[(Value.slice t2_3.1 t2_3.2.1 t2_3.2.2), (Value.int .i64 t3_3)])) w_27)) (
  ld .slc (⟨b5, 0, none⟩ : Addr) w_24 fun (t60 : (Option Addr × Nat × Nat)) =>
  stC (⟨b2, 0, none⟩ : Addr) (Value.slice t60.1 t60.2.1 t60.2.2) w_24 fun w_28 =>
  stC (⟨b3, 0, none⟩ : Addr) (Value.int .i64 0) w_28 fun w_29 =>
  (w_29.heap[D]? = some (.deferred (some [])) ∧ ∀ w_30, w_30 = World.putObj w_29 D (.deferred none) →
  ld .slc (⟨b2, 0, none⟩ : Addr) w_30 fun (t2_4 : (Option Addr × Nat × Nat)) =>
  ld (.int .i64) (⟨b3, 0, none⟩ : Addr) w_30 fun (t3_4 : Int) =>
  R (.returned (Value.tuple #[(Value.slice t2_4.1 t2_4.2.1 t2_4.2.2), (Value.int .i64 t3_4)])) w_30))) (fun D_1 w_31 =>
  (w_31.heap[D_1]? = some (.deferred (some [])) ∧ ∀ w_32, w_32 = World.putObj w_31 D_1 (.deferred none) →
  ld .slc (⟨b2, 0, none⟩ : Addr) w_32 fun (t2_5 : (Option Addr × Nat × Nat)) =>
  ld (.int .i64) (⟨b3, 0, none⟩ : Addr) w_32 fun (t3_5 : Int) =>
  R (.returned (Value.tuple #[(Value.slice t2_5.1 t2_5.2.1 t2_5.2.2), (Value.int .i64 t3_5)])) w_32)) (fun _ _ _ => False))) 0 w_2))
theorem eq_vpath_Parse (s : ByteArray) (R : Ending → World → Prop) (w : World) : tr2 P qs ((Tryz.f105.body).getD .skip) ann_vpath_Parse [] (env0 0 [(0, (Value.string s))]) (topK2 P Tryz.f105.results.toList R) w = T_vpath_Parse s R w := by kernel_rfl
theorem fn_vpath_Parse {s : ByteArray} {R : Ending → World → Prop} {w : World} (hT : T_vpath_Parse s R w) : CallF P F_vpath_Parse #[(Value.string s)] w R :=
 fn_of_tr2 (fn := Tryz.f105) (c := (Tryz.f105.body).getD .skip) (ann := ann_vpath_Parse) (args := [(0, (Value.string s))]) (qs := qs) mixed Tryz.func105 rfl (by kernel_rfl) (by kernel_rfl) ok_vpath_Parse ((eq_vpath_Parse s R w).symm ▸ hT)
def ann_vpath_Compare : Ann := (.seq .leaf (.seq .leaf .leaf))
theorem ok_vpath_Compare : okC P qs Tryz.f111.ntmps ((Tryz.f111.body).getD .skip) ann_vpath_Compare = true := by kernel_rfl
def T_vpath_Compare (a : Option Addr) (a_l a_c : Nat) (b : Option Addr) (b_l b_c : Nat) (R : Ending → World → Prop) (w : World) : Prop :=
  callF P F_slices_CompareFunc_S_string_S_string_string_string #[(Value.slice a a_l a_c), (Value.slice b b_l b_c), (Value.func (.func F_cmp_Compare_string) #[] #[])] [.int .i64] false w fun (t7 : Int) w_1 =>
  R (.returned (Value.int .i64 t7)) w_1
theorem eq_vpath_Compare (a : Option Addr) (a_l a_c : Nat) (b : Option Addr) (b_l b_c : Nat) (R : Ending → World → Prop) (w : World) : tr P qs ((Tryz.f111.body).getD .skip) ann_vpath_Compare (env0 0 [(0, (Value.slice a a_l a_c)), (0, (Value.slice b b_l b_c))]) (topK P Tryz.f111.results.toList R) w = T_vpath_Compare a a_l a_c b b_l b_c R w := by kernel_rfl
theorem fn_vpath_Compare {a : Option Addr} {a_l a_c : Nat} {b : Option Addr} {b_l b_c : Nat} {R : Ending → World → Prop} {w : World} (hT : T_vpath_Compare a a_l a_c b b_l b_c R w) : CallF P F_vpath_Compare #[(Value.slice a a_l a_c), (Value.slice b b_l b_c)] w R :=
 fn_of_tr (fn := Tryz.f111) (c := (Tryz.f111.body).getD .skip) (ann := ann_vpath_Compare) (args := [(0, (Value.slice a a_l a_c)), (0, (Value.slice b b_l b_c))]) (qs := qs) mixed Tryz.func111 rfl (by kernel_rfl) (by kernel_rfl) ok_vpath_Compare ((eq_vpath_Compare a a_l a_c b b_l b_c R w).symm ▸ hT)
def ann_sha_New : Ann := (.seq .leaf (.seq .leaf .leaf))
theorem ok_sha_New : okC P qs Tryz.f132.ntmps ((Tryz.f132.body).getD .skip) ann_sha_New = true := by kernel_rfl
def T_sha_New  (R : Ending → World → Prop) (w : World) : Prop :=
  genQ P (Instr.build y_8_uint32 #[(0, (Value.int .u32 1779033703)), (1, (Value.int .u32 3144134277)), (2, (Value.int .u32 1013904242)), (3, (Value.int .u32 2773480762)), (4, (Value.int .u32 1359893119)), (5, (Value.int .u32 2600822924)), (6, (Value.int .u32 528734635)), (7, (Value.int .u32 1541459225))]) .any w fun (t1 : Value) =>
  genQ P (Instr.build y_sha_Hash #[(0, t1)]) .any w fun (t2 : Value) =>
  newB (Value.cells t2) y_sha_Hash w fun b3 w_1 =>
  R (.returned (Value.pointer (some (⟨b3, 0, none⟩ : Addr)))) w_1
theorem eq_sha_New  (R : Ending → World → Prop) (w : World) : tr P qs ((Tryz.f132.body).getD .skip) ann_sha_New (env0 0 []) (topK P Tryz.f132.results.toList R) w = T_sha_New  R w := by kernel_rfl
theorem fn_sha_New  {R : Ending → World → Prop} {w : World} (hT : T_sha_New  R w) : CallF P F_sha_New #[] w R :=
 fn_of_tr (fn := Tryz.f132) (c := (Tryz.f132.body).getD .skip) (ann := ann_sha_New) (args := []) (qs := qs) mixed Tryz.func132 rfl (by kernel_rfl) (by kernel_rfl) ok_sha_New ((eq_sha_New  R w).symm ▸ hT)
def ann_sha_Hash_Write : Ann := (.seq (.seq .leaf (.cond .leaf .leaf)) (.seq .leaf (.blk (.loop [(1, .slc)] (.seq (.seq .leaf (.cond .leaf .leaf)) (.jblk [(1, .slc)] (.seq (.tree (.op 0 [] (.op 1 [] (.op 2 [] (.op 3 [] (.op 4 [] (.op 5 [] (.op 8 [] (.op 6 [] (.op 7 [] (.op 9 [] (.op 10 [] .done)))))))))))) (.seq (.tree (.op 0 [] (.op 1 [] (.op 2 [] (.op 3 [] (.op 5 [] (.op 7 [] (.op 8 [] (.op 4 [] (.op 6 [] (.op 10 [] (.op 11 [] (.op 9 [] (.op 12 [9] (.op 13 [] .done))))))))))))))) (.seq .leaf (.cond (.seq .leaf .leaf) .leaf))))))))))
theorem ok_sha_Hash_Write : okC P qs Tryz.f133.ntmps ((Tryz.f133.body).getD .skip) ann_sha_Hash_Write = true := by kernel_rfl
def T_sha_Hash_Write (hv : Option Addr) (b : Option Addr) (b_l b_c : Nat) (R : Ending → World → Prop) (w : World) : Prop :=
  iteP (Option.isNone hv) (
  R (.returned (Value.tuple #[])) w) (
  withAddr hv fun p =>
  ld (.int .i64) (Addr.add p 73) w fun (t10 : Int) =>
  addI .i64 t10 (b_l : Int) fun t13 =>
  withAddr hv fun p_1 =>
  stC (Addr.add p_1 73) (Value.int .i64 t13) w fun w_1 =>
  loopP (Option Addr × Nat × Nat) (fun s w_2 k =>
  iteP (decide ((s.2.1 : Int) > 0)) (
  joinP (Option Addr × Nat × Nat) (fun k_1 =>
  drewP w_2 fun w_3 =>
  withAddr hv fun p_2 =>
  withAddr hv fun p_3 =>
  ld (.int .i64) (Addr.add p_3 72) w_3 fun (t25 : Int) =>
  genQ P (Instr.sliceAt y_64_uint8 (Value.pointer (some (Addr.add p_2 8))) (some (Value.int .i64 t25)) none none) .slc w_3 fun (t26 : (Option Addr × Nat × Nat)) =>
  genL P (Builtin.copy_ #[y_S_uint8, y_S_uint8] y_int #[(Value.slice t26.1 t26.2.1 t26.2.2), (Value.slice s.1 s.2.1 s.2.2)]) (.int .i64) w_3 fun (t28 : Int) w_4 =>
  drewP w_4 fun w_5 =>
  withAddr hv fun p_4 =>
  ld (.int .i64) (Addr.add p_4 72) w_5 fun (t33 : Int) =>
  addI .i64 t33 t28 fun t35 =>
  withAddr hv fun p_5 =>
  genQ P (Instr.sliceAt y_S_uint8 (Value.slice s.1 s.2.1 s.2.2) (some (Value.int .i64 t28)) none none) .slc w_5 fun (t38 : (Option Addr × Nat × Nat)) =>
  stC (Addr.add p_5 72) (Value.int .i64 t35) w_5 fun w_6 =>
  ((genQ P (Instr.sliceAt y_S_uint8 (Value.slice s.1 s.2.1 s.2.2) (some (Value.int .i64 t28)) none none) .slc w_6 fun (t38_1 : (Option Addr × Nat × Nat)) =>
  (Value.slice t38_1.1 t38_1.2.1 t38_1.2.2) = (Value.slice t38.1 t38.2.1 t38.2.2)) ∧
  withAddr hv fun p_6 =>
  ld (.int .i64) (Addr.add p_6 72) w_6 fun (t44 : Int) =>
  iteP (t44 == 64) (
  withAddr hv fun p_7 =>
  genQ P (Instr.sliceAt y_64_uint8 (Value.pointer (some (Addr.add p_7 8))) none none none) .slc w_6 fun (t50 : (Option Addr × Nat × Nat)) =>
  callF P F_sha_Hash_mix #[(Value.pointer hv), (Value.slice t50.1 t50.2.1 t50.2.2)] [] true w_6 fun (_ : Unit) w_7 =>
  withAddr hv fun p_8 =>
  stC (Addr.add p_8 72) (Value.int .i64 0) w_7 fun w_8 =>
  k_1 (t38.1, t38.2.1, t38.2.2) w_8) (
  k_1 (t38.1, t38.2.1, t38.2.2) w_6))) (fun s_1 w_9 =>
  k (s_1.1, s_1.2.1, s_1.2.2) w_9)) (
  R (.returned (Value.tuple #[])) w_2)) (b, b_l, b_c) w_1)
theorem eq_sha_Hash_Write (hv : Option Addr) (b : Option Addr) (b_l b_c : Nat) (R : Ending → World → Prop) (w : World) : tr P qs ((Tryz.f133.body).getD .skip) ann_sha_Hash_Write (env0 0 [(0, (Value.pointer hv)), (0, (Value.slice b b_l b_c))]) (topK P Tryz.f133.results.toList R) w = T_sha_Hash_Write hv b b_l b_c R w := by kernel_rfl
theorem fn_sha_Hash_Write {hv : Option Addr} {b : Option Addr} {b_l b_c : Nat} {R : Ending → World → Prop} {w : World} (hT : T_sha_Hash_Write hv b b_l b_c R w) : CallF P F_sha_Hash_Write #[(Value.pointer hv), (Value.slice b b_l b_c)] w R :=
 fn_of_tr (fn := Tryz.f133) (c := (Tryz.f133.body).getD .skip) (ann := ann_sha_Hash_Write) (args := [(0, (Value.pointer hv)), (0, (Value.slice b b_l b_c))]) (qs := qs) mixed Tryz.func133 rfl (by kernel_rfl) (by kernel_rfl) ok_sha_Hash_Write ((eq_sha_Hash_Write hv b b_l b_c R w).symm ▸ hT)
def ann_sha_Hash_Sum : Ann := (.seq .leaf (.join [(0, .ptr)] (.seq .leaf (.cond .leaf .leaf)) (.seq .leaf (.seq .leaf (.seq .leaf (.seq (.blk (.loop [] (.seq (.seq .leaf (.cond .leaf .leaf)) (.blk .leaf)))) (.seq .leaf (.seq (.seq .leaf (.blk (.loop [(27, .int .i64)] (.seq .leaf (.seq (.cond .leaf .leaf) (.seq (.blk (.seq .leaf .leaf)) .leaf)))))) (.seq .leaf (.seq .leaf (.seq (.seq .leaf (.blk (.loop [(43, .int .i64)] (.seq .leaf (.seq (.cond .leaf .leaf) (.seq (.blk (.seq .leaf .leaf)) .leaf)))))) (.seq .leaf .leaf))))))))))))
theorem ok_sha_Hash_Sum : okC P qs Tryz.f134.ntmps ((Tryz.f134.body).getD .skip) ann_sha_Hash_Sum = true := by kernel_rfl
def T_sha_Hash_Sum (hv : Option Addr) (R : Ending → World → Prop) (w : World) : Prop :=
  newB (zc P y_api_Digest) y_api_Digest w fun b2 w_1 =>
  joinP (Option Addr) (fun k =>
  iteP (Option.isNone hv) (
  callF P F_sha_New #[] [.ptr] false w_1 fun (t12 : (Option Addr)) w_2 =>
  k t12 w_2) (
  k hv w_1)) (fun s w_3 =>
  withAddr s fun p =>
  ldA P 74 p w_3 fun t15 =>
  newB (zc P y_sha_Hash) y_sha_Hash w_3 fun b3 w_4 =>
  genU P (storeVar y_sha_Hash (⟨b3, 0, none⟩ : Addr) (Value.agg t15)) w_4 fun w_5 =>
  ld (.int .i64) (⟨b3, 73, none⟩ : Addr) w_5 fun (t17 : Int) =>
  cvI .u64 t17 fun t18 =>
  mulI .u64 t18 8 fun t19 =>
  genL P (Instr.buildSlice y_S_uint8 1 #[(0, (Value.int .u8 128))]) .slc w_5 fun (t20 : (Option Addr × Nat × Nat)) w_6 =>
  callF P F_sha_Hash_Write #[(Value.pointer (some (⟨b3, 0, none⟩ : Addr))), (Value.slice t20.1 t20.2.1 t20.2.2)] [] true w_6 fun (_ : Unit) w_7 =>
  loopP Unit (fun _ w_8 k_1 =>
  ld (.int .i64) (⟨b3, 72, none⟩ : Addr) w_8 fun (t23 : Int) =>
  iteP (t23 != 56) (
  genL P (Instr.buildSlice y_S_uint8 1 #[(0, (Value.int .u8 0))]) .slc w_8 fun (t25 : (Option Addr × Nat × Nat)) w_9 =>
  callF P F_sha_Hash_Write #[(Value.pointer (some (⟨b3, 0, none⟩ : Addr))), (Value.slice t25.1 t25.2.1 t25.2.2)] [] true w_9 fun (_ : Unit) w_10 =>
  k_1 () w_10) (
  newB (zc P y_8_uint8) y_8_uint8 w_8 fun b5 w_11 =>
  loopP Int (fun s_2 w_12 k_2 =>
  iteP (decide (s_2 < 8)) (
  mulI .i64 8 s_2 fun t33 =>
  subI .i64 56 t33 fun t34 =>
  shrI .u64 t19 t34 fun t35 =>
  cvI .u8 t35 fun t36 =>
  ixR (⟨b5, 0, none⟩ : Addr) 8 1 s_2 fun t37 =>
  stC t37 (Value.int .u8 t36) w_12 fun w_13 =>
  addI .i64 s_2 1 fun t38 =>
  k_2 t38 w_13) (
  genQ P (Instr.sliceAt y_8_uint8 (Value.pointer (some (⟨b5, 0, none⟩ : Addr))) none none none) .slc w_12 fun (t39 : (Option Addr × Nat × Nat)) =>
  callF P F_sha_Hash_Write #[(Value.pointer (some (⟨b3, 0, none⟩ : Addr))), (Value.slice t39.1 t39.2.1 t39.2.2)] [] true w_12 fun (_ : Unit) w_14 =>
  newB (zc P y_api_Digest) y_api_Digest w_14 fun b7 w_15 =>
  ldA P 8 (⟨b3, 0, none⟩ : Addr) w_15 fun t42 =>
  loopP Int (fun s_3 w_16 k_3 =>
  iteP (decide (s_3 < 8)) (
  genQ P (Instr.index y_8_uint32 (Value.agg t42) (Value.int .i64 s_3)) (.int .u32) w_16 fun (t46 : Int) =>
  mulI .i64 4 s_3 fun t48 =>
  mulI .i64 4 s_3 fun t50 =>
  addI .i64 t50 1 fun t51 =>
  mulI .i64 4 s_3 fun t53 =>
  addI .i64 t53 2 fun t54 =>
  mulI .i64 4 s_3 fun t56 =>
  addI .i64 t56 3 fun t57 =>
  shrI .u32 t46 24 fun t59 =>
  cvI .u8 t59 fun t60 =>
  shrI .u32 t46 16 fun t62 =>
  cvI .u8 t62 fun t63 =>
  shrI .u32 t46 8 fun t65 =>
  cvI .u8 t65 fun t66 =>
  cvI .u8 t46 fun t68 =>
  ixR (⟨b7, 0, none⟩ : Addr) 32 1 t48 fun t69 =>
  stC t69 (Value.int .u8 t60) w_16 fun w_17 =>
  ixR (⟨b7, 0, none⟩ : Addr) 32 1 t51 fun t70 =>
  stC t70 (Value.int .u8 t63) w_17 fun w_18 =>
  ixR (⟨b7, 0, none⟩ : Addr) 32 1 t54 fun t71 =>
  stC t71 (Value.int .u8 t66) w_18 fun w_19 =>
  ixR (⟨b7, 0, none⟩ : Addr) 32 1 t57 fun t72 =>
  stC t72 (Value.int .u8 t68) w_19 fun w_20 =>
  addI .i64 s_3 1 fun t73 =>
  k_3 t73 w_20) (
  ldA P 32 (⟨b7, 0, none⟩ : Addr) w_16 fun t74 =>
  genU P (storeVar y_api_Digest (⟨b2, 0, none⟩ : Addr) (Value.agg t74)) w_16 fun w_21 =>
  ldA P 32 (⟨b2, 0, none⟩ : Addr) w_21 fun t2 =>
  R (.returned (Value.agg t2)) w_21)) 0 w_15)) 0 w_11)) () w_7)
theorem eq_sha_Hash_Sum (hv : Option Addr) (R : Ending → World → Prop) (w : World) : tr P qs ((Tryz.f134.body).getD .skip) ann_sha_Hash_Sum (env0 0 [(0, (Value.pointer hv))]) (topK P Tryz.f134.results.toList R) w = T_sha_Hash_Sum hv R w := by kernel_rfl
theorem fn_sha_Hash_Sum {hv : Option Addr} {R : Ending → World → Prop} {w : World} (hT : T_sha_Hash_Sum hv R w) : CallF P F_sha_Hash_Sum #[(Value.pointer hv)] w R :=
 fn_of_tr (fn := Tryz.f134) (c := (Tryz.f134.body).getD .skip) (ann := ann_sha_Hash_Sum) (args := [(0, (Value.pointer hv))]) (qs := qs) mixed Tryz.func134 rfl (by kernel_rfl) (by kernel_rfl) ok_sha_Hash_Sum ((eq_sha_Hash_Sum hv R w).symm ▸ hT)
def ann_vpath_pieces : Ann := (.seq .leaf (.seq .leaf .leaf))
theorem ok_vpath_pieces : okC P qs Tryz.f158.ntmps ((Tryz.f158.body).getD .skip) ann_vpath_pieces = true := by kernel_rfl
def T_vpath_pieces (s : ByteArray) (R : Ending → World → Prop) (w : World) : Prop :=
  newB #[(Value.string s)] y_string w fun b1 w_1 =>
  genQ P (Instr.makeFunc (Go.Fn.func F_vpath_pieces_1) #[] #[(Value.pointer (some (⟨b1, 0, none⟩ : Addr)))]) .any w_1 fun (t3 : Value) =>
  R (.returned t3) w_1
theorem eq_vpath_pieces (s : ByteArray) (R : Ending → World → Prop) (w : World) : tr P qs ((Tryz.f158.body).getD .skip) ann_vpath_pieces (env0 0 [(0, (Value.string s))]) (topK P Tryz.f158.results.toList R) w = T_vpath_pieces s R w := by kernel_rfl
theorem fn_vpath_pieces {s : ByteArray} {R : Ending → World → Prop} {w : World} (hT : T_vpath_pieces s R w) : CallF P F_vpath_pieces #[(Value.string s)] w R :=
 fn_of_tr (fn := Tryz.f158) (c := (Tryz.f158.body).getD .skip) (ann := ann_vpath_pieces) (args := [(0, (Value.string s))]) (qs := qs) mixed Tryz.func158 rfl (by kernel_rfl) (by kernel_rfl) ok_vpath_pieces ((eq_vpath_pieces s R w).symm ▸ hT)
def ann_slices_CompareFunc_S_string_S_string_string_string : Ann := (.seq .leaf (.seq (.seq .leaf (.blk (.loop [(13, .int .i64)] (.seq .leaf (.seq (.cond .leaf .leaf) (.seq (.blk (.seq .leaf (.seq (.seq .leaf (.cond (.seq .leaf .leaf) .leaf)) (.seq .leaf (.seq .leaf (.seq .leaf (.cond (.seq .leaf .leaf) .leaf))))))) .leaf)))))) (.seq (.seq .leaf (.cond (.seq .leaf .leaf) .leaf)) (.seq .leaf .leaf))))
theorem ok_slices_CompareFunc_S_string_S_string_string_string : okC P qs Tryz.f162.ntmps ((Tryz.f162.body).getD .skip) ann_slices_CompareFunc_S_string_S_string_string_string = true := by kernel_rfl
def T_slices_CompareFunc_S_string_S_string_string_string (s1 : Option Addr) (s1_l s1_c : Nat) (s2 : Option Addr) (s2_l s2_c : Nat) (cmp : Value) (R : Ending → World → Prop) (w : World) : Prop :=
  loopP Int (fun s w_1 k =>
  iteP (decide (s < (s1_l : Int))) (
  ixS s1 s1_l 1 s fun t16 =>
  ld .str t16 w_1 fun (t17 : ByteArray) =>
  iteP (decide (s ≥ (s2_l : Int))) (
  R (.returned (Value.int .i64 1)) w_1) (
  ixS s2 s2_l 1 s fun t24 =>
  ld .str t24 w_1 fun (t25 : ByteArray) =>
  callV P cmp #[(Value.string t17), (Value.string t25)] [.int .i64] false w_1 fun (t29 : Int) w_2 =>
  iteP (t29 != 0) (
  R (.returned (Value.int .i64 t29)) w_2) (
  addI .i64 s 1 fun t33 =>
  k t33 w_2))) (
  iteP (decide ((s1_l : Int) < (s2_l : Int))) (
  R (.returned (Value.int .i64 (-1))) w_1) (
  R (.returned (Value.int .i64 0)) w_1))) 0 w
theorem eq_slices_CompareFunc_S_string_S_string_string_string (s1 : Option Addr) (s1_l s1_c : Nat) (s2 : Option Addr) (s2_l s2_c : Nat) (cmp : Value) (R : Ending → World → Prop) (w : World) : tr P qs ((Tryz.f162.body).getD .skip) ann_slices_CompareFunc_S_string_S_string_string_string (env0 0 [(0, (Value.slice s1 s1_l s1_c)), (0, (Value.slice s2 s2_l s2_c)), (1, cmp)]) (topK P Tryz.f162.results.toList R) w = T_slices_CompareFunc_S_string_S_string_string_string s1 s1_l s1_c s2 s2_l s2_c cmp R w := by kernel_rfl
theorem fn_slices_CompareFunc_S_string_S_string_string_string {s1 : Option Addr} {s1_l s1_c : Nat} {s2 : Option Addr} {s2_l s2_c : Nat} {cmp : Value} {R : Ending → World → Prop} {w : World} (hT : T_slices_CompareFunc_S_string_S_string_string_string s1 s1_l s1_c s2 s2_l s2_c cmp R w) : CallF P F_slices_CompareFunc_S_string_S_string_string_string #[(Value.slice s1 s1_l s1_c), (Value.slice s2 s2_l s2_c), cmp] w R :=
 fn_of_tr (fn := Tryz.f162) (c := (Tryz.f162.body).getD .skip) (ann := ann_slices_CompareFunc_S_string_S_string_string_string) (args := [(0, (Value.slice s1 s1_l s1_c)), (0, (Value.slice s2 s2_l s2_c)), (1, cmp)]) (qs := qs) mixed Tryz.func162 rfl (by kernel_rfl) (by kernel_rfl) ok_slices_CompareFunc_S_string_S_string_string_string ((eq_slices_CompareFunc_S_string_S_string_string_string s1 s1_l s1_c s2 s2_l s2_c cmp R w).symm ▸ hT)
def ann_cmp_Compare_string : Ann := (.seq .leaf (.seq .leaf (.seq .leaf (.seq (.seq .leaf (.cond (.seq (.seq .leaf (.cond (.seq .leaf .leaf) .leaf)) (.seq .leaf .leaf)) .leaf)) (.seq (.seq .leaf (.cond (.seq .leaf .leaf) .leaf)) (.seq (.seq .leaf (.cond (.seq .leaf .leaf) .leaf)) (.seq (.seq .leaf (.cond (.seq .leaf .leaf) .leaf)) (.seq .leaf .leaf))))))))
theorem ok_cmp_Compare_string : okC P qs Tryz.f163.ntmps ((Tryz.f163.body).getD .skip) ann_cmp_Compare_string = true := by kernel_rfl
def T_cmp_Compare_string (x : ByteArray) (y : ByteArray) (R : Ending → World → Prop) (w : World) : Prop :=
  callQ P F_cmp_isNaN_string #[(Value.string x)] [.bool] false w fun (t8 : Bool) =>
  callQ P F_cmp_isNaN_string #[(Value.string y)] [.bool] false w fun (t10 : Bool) =>
  iteP t8 (
  iteP t10 (
  R (.returned (Value.int .i64 0)) w) (
  R (.returned (Value.int .i64 (-1))) w)) (
  iteP t10 (
  R (.returned (Value.int .i64 1)) w) (
  iteP (Op.bytesLess x.toList y.toList) (
  R (.returned (Value.int .i64 (-1))) w) (
  iteP (!((Op.bytesLess x.toList y.toList) || (x.toList == y.toList))) (
  R (.returned (Value.int .i64 1)) w) (
  R (.returned (Value.int .i64 0)) w))))
theorem eq_cmp_Compare_string (x : ByteArray) (y : ByteArray) (R : Ending → World → Prop) (w : World) : tr P qs ((Tryz.f163.body).getD .skip) ann_cmp_Compare_string (env0 0 [(0, (Value.string x)), (0, (Value.string y))]) (topK P Tryz.f163.results.toList R) w = T_cmp_Compare_string x y R w := by kernel_rfl
theorem fn_cmp_Compare_string {x : ByteArray} {y : ByteArray} {R : Ending → World → Prop} {w : World} (hT : T_cmp_Compare_string x y R w) : CallF P F_cmp_Compare_string #[(Value.string x), (Value.string y)] w R :=
 fn_of_tr (fn := Tryz.f163) (c := (Tryz.f163.body).getD .skip) (ann := ann_cmp_Compare_string) (args := [(0, (Value.string x)), (0, (Value.string y))]) (qs := qs) mixed Tryz.func163 rfl (by kernel_rfl) (by kernel_rfl) ok_cmp_Compare_string ((eq_cmp_Compare_string x y R w).symm ▸ hT)
def ann_sha_Hash_mix : Ann := (.seq .leaf (.seq (.seq .leaf (.blk (.loop [(18, .int .i64)] (.seq .leaf (.seq (.cond .leaf .leaf) (.seq (.blk (.seq .leaf (.tree (.op 0 [] (.op 1 [] (.op 2 [] (.op 3 [] (.op 4 [] (.op 8 [] (.op 9 [] (.op 10 [] (.op 11 [] (.op 12 [] (.op 17 [] (.op 18 [] (.op 19 [] (.op 20 [] (.op 21 [] (.op 26 [] (.op 27 [] (.op 28 [] (.op 29 [] (.op 30 [] (.op 5 [] (.op 6 [] (.op 7 [] (.op 13 [] (.op 14 [] (.op 15 [] (.op 16 [] (.op 22 [] (.op 23 [] (.op 24 [] (.op 25 [] (.op 31 [] (.op 32 [] (.op 33 [] (.op 34 [] (.op 35 [] .done))))))))))))))))))))))))))))))))))))))) .leaf)))))) (.seq (.seq .leaf (.blk (.loop [(6, .int .i64)] (.seq (.seq .leaf (.cond .leaf .leaf)) (.seq (.blk (.seq (.tree (.op 0 [] (.op 1 [] (.op 2 [] (.op 4 [] (.op 5 [] (.op 6 [] (.op 3 [] (.op 8 [] (.op 7 [] (.op 9 [] .done))))))))))) (.seq .leaf (.seq .leaf (.tree (.op 0 [] (.op 1 [] (.op 2 [] (.op 3 [] (.op 4 [] (.op 7 [] (.op 9 [] (.op 10 [] (.op 11 [] (.op 5 [] (.op 6 [] (.op 8 [] (.op 12 [] (.op 13 [] (.op 14 [] (.op 15 [] .done))))))))))))))))))))) .leaf))))) (.seq .leaf (.seq (.seq .leaf (.blk (.loop [(104, .int .i64)] (.seq .leaf (.seq (.cond .leaf .leaf) (.seq (.blk (.seq .leaf (.seq (.tree (.op 0 [] (.op 3 [] (.op 7 [] (.op 1 [] (.op 2 [] (.op 4 [] (.op 5 [] (.op 6 [] (.op 8 [] (.op 9 [] (.op 10 [] (.op 11 [] .done))))))))))))) (.seq (.tree (.op 0 [] (.op 2 [] (.op 4 [] (.op 6 [] (.op 9 [] (.op 12 [] (.op 17 [] (.op 18 [] (.op 21 [] (.op 22 [] (.op 1 [] (.op 3 [] (.op 5 [] (.op 7 [] (.op 8 [] (.op 10 [] (.op 11 [] (.op 13 [] (.op 14 [] (.op 15 [] (.op 16 [] (.op 19 [] (.op 20 [] (.op 23 [] (.op 24 [] (.op 25 [] .done))))))))))))))))))))))))))) (.seq (.tree (.op 0 [] (.op 3 [] (.op 7 [] (.op 1 [] (.op 2 [] (.op 4 [] (.op 5 [] (.op 6 [] (.op 8 [] (.op 9 [] (.op 10 [] (.op 11 [] .done))))))))))))) (.seq .leaf .leaf)))))) .leaf)))))) (.seq .leaf (.blk (.loop [(194, .int .i64)] (.seq .leaf (.seq (.cond .leaf .leaf) (.seq (.blk (.seq .leaf (.tree (.op 0 [] (.op 1 [] (.op 2 [] (.op 3 [] (.op 4 [] (.op 6 [] (.op 7 [] (.op 10 [] (.op 11 [] (.op 5 [] (.op 8 [] (.op 9 [] (.op 12 [] (.op 13 [] .done))))))))))))))))) .leaf)))))))))))
theorem ok_sha_Hash_mix : okC P qs Tryz.f175.ntmps ((Tryz.f175.body).getD .skip) ann_sha_Hash_mix = true := by kernel_rfl
def T_sha_Hash_mix (hv : Option Addr) (b : Option Addr) (b_l b_c : Nat) (R : Ending → World → Prop) (w : World) : Prop :=
  newB (zc P y_64_uint32) y_64_uint32 w fun b4 w_1 =>
  loopP Int (fun s w_2 k =>
  iteP (decide (s < 16)) (
  drewP w_2 fun w_3 =>
  mulI .i64 4 s fun t24 =>
  ixS b b_l 1 t24 fun t25 =>
  mulI .i64 4 s fun t31 =>
  addI .i64 t31 1 fun t32 =>
  ixS b b_l 1 t32 fun t33 =>
  mulI .i64 4 s fun t40 =>
  addI .i64 t40 2 fun t41 =>
  ixS b b_l 1 t41 fun t42 =>
  mulI .i64 4 s fun t49 =>
  addI .i64 t49 3 fun t50 =>
  ixS b b_l 1 t50 fun t51 =>
  ld (.int .u8) t25 w_3 fun (t26 : Int) =>
  cvI .u32 t26 fun t27 =>
  shlI .u32 t27 24 fun t28 =>
  ld (.int .u8) t33 w_3 fun (t34 : Int) =>
  cvI .u32 t34 fun t35 =>
  shlI .u32 t35 16 fun t36 =>
  orI .u32 t28 t36 fun t37 =>
  ld (.int .u8) t42 w_3 fun (t43 : Int) =>
  cvI .u32 t43 fun t44 =>
  shlI .u32 t44 8 fun t45 =>
  orI .u32 t37 t45 fun t46 =>
  ld (.int .u8) t51 w_3 fun (t52 : Int) =>
  cvI .u32 t52 fun t53 =>
  orI .u32 t46 t53 fun t54 =>
  ixR (⟨b4, 0, none⟩ : Addr) 64 1 s fun t55 =>
  stC t55 (Value.int .u32 t54) w_3 fun w_4 =>
  addI .i64 s 1 fun t56 =>
  k t56 w_4) (
  loopP Int (fun s_1 w_5 k_1 =>
  iteP (decide (s_1 < 64)) (
  drewP w_5 fun w_6 =>
  subI .i64 s_1 2 fun t62 =>
  ixR (⟨b4, 0, none⟩ : Addr) 64 1 t62 fun t63 =>
  subI .i64 s_1 15 fun t66 =>
  ixR (⟨b4, 0, none⟩ : Addr) 64 1 t66 fun t67 =>
  ld (.int .u32) t63 w_6 fun (t64 : Int) =>
  ld (.int .u32) t67 w_6 fun (t68 : Int) =>
  callQ P F_math_bits_RotateLeft32 #[(Value.int .u32 t64), (Value.int .i64 (-17))] [.int .u32] false w_6 fun (t70 : Int) =>
  callQ P F_math_bits_RotateLeft32 #[(Value.int .u32 t64), (Value.int .i64 (-19))] [.int .u32] false w_6 fun (t72 : Int) =>
  xorI .u32 t70 t72 fun t73 =>
  shrI .u32 t64 10 fun t75 =>
  xorI .u32 t73 t75 fun t76 =>
  callQ P F_math_bits_RotateLeft32 #[(Value.int .u32 t68), (Value.int .i64 (-7))] [.int .u32] false w_6 fun (t78 : Int) =>
  callQ P F_math_bits_RotateLeft32 #[(Value.int .u32 t68), (Value.int .i64 (-18))] [.int .u32] false w_6 fun (t80 : Int) =>
  xorI .u32 t78 t80 fun t81 =>
  shrI .u32 t68 3 fun t83 =>
  xorI .u32 t81 t83 fun t84 =>
  drewP w_6 fun w_7 =>
  subI .i64 s_1 7 fun t88 =>
  ixR (⟨b4, 0, none⟩ : Addr) 64 1 t88 fun t89 =>
  subI .i64 s_1 16 fun t95 =>
  ixR (⟨b4, 0, none⟩ : Addr) 64 1 t95 fun t96 =>
  ld (.int .u32) t89 w_7 fun (t90 : Int) =>
  addI .u32 t76 t90 fun t91 =>
  addI .u32 t91 t84 fun t93 =>
  ld (.int .u32) t96 w_7 fun (t97 : Int) =>
  addI .u32 t93 t97 fun t98 =>
  ixR (⟨b4, 0, none⟩ : Addr) 64 1 s_1 fun t99 =>
  stC t99 (Value.int .u32 t98) w_7 fun w_8 =>
  addI .i64 s_1 1 fun t60 =>
  k_1 t60 w_8) (
  withAddr hv fun p =>
  ldA P 8 p w_5 fun t103 =>
  newB (zc P y_8_uint32) y_8_uint32 w_5 fun b11 w_9 =>
  genU P (storeVar y_8_uint32 (⟨b11, 0, none⟩ : Addr) (Value.agg t103)) w_9 fun w_10 =>
  loopP Int (fun s_2 w_11 k_2 =>
  iteP (decide (s_2 < 64)) (
  drewP w_11 fun w_12 =>
  ld (.int .u32) (⟨b11, 4, none⟩ : Addr) w_12 fun (t108 : Int) =>
  callQ P F_math_bits_RotateLeft32 #[(Value.int .u32 t108), (Value.int .i64 (-6))] [.int .u32] false w_12 fun (t109 : Int) =>
  ld (.int .u32) (⟨b11, 4, none⟩ : Addr) w_12 fun (t111 : Int) =>
  callQ P F_math_bits_RotateLeft32 #[(Value.int .u32 t111), (Value.int .i64 (-11))] [.int .u32] false w_12 fun (t112 : Int) =>
  xorI .u32 t109 t112 fun t113 =>
  ld (.int .u32) (⟨b11, 4, none⟩ : Addr) w_12 fun (t115 : Int) =>
  callQ P F_math_bits_RotateLeft32 #[(Value.int .u32 t115), (Value.int .i64 (-25))] [.int .u32] false w_12 fun (t116 : Int) =>
  xorI .u32 t113 t116 fun t117 =>
  drewP w_12 fun w_13 =>
  ixR (⟨0, 0, none⟩ : Addr) 64 1 s_2 fun t136 =>
  ixR (⟨b4, 0, none⟩ : Addr) 64 1 s_2 fun t140 =>
  ld (.int .u32) (⟨b11, 7, none⟩ : Addr) w_13 fun (t119 : Int) =>
  addI .u32 t119 t117 fun t121 =>
  ld (.int .u32) (⟨b11, 4, none⟩ : Addr) w_13 fun (t123 : Int) =>
  ld (.int .u32) (⟨b11, 5, none⟩ : Addr) w_13 fun (t125 : Int) =>
  andI .u32 t123 t125 fun t126 =>
  ld (.int .u32) (⟨b11, 4, none⟩ : Addr) w_13 fun (t128 : Int) =>
  xorI .u32 (IntKind.max .u32) t128 fun t129 =>
  ld (.int .u32) (⟨b11, 6, none⟩ : Addr) w_13 fun (t131 : Int) =>
  andI .u32 t129 t131 fun t132 =>
  xorI .u32 t126 t132 fun t133 =>
  addI .u32 t121 t133 fun t134 =>
  ld (.int .u32) t136 w_13 fun (t137 : Int) =>
  addI .u32 t134 t137 fun t138 =>
  ld (.int .u32) t140 w_13 fun (t141 : Int) =>
  addI .u32 t138 t141 fun t142 =>
  drewP w_13 fun w_14 =>
  ld (.int .u32) (⟨b11, 0, none⟩ : Addr) w_14 fun (t144 : Int) =>
  callQ P F_math_bits_RotateLeft32 #[(Value.int .u32 t144), (Value.int .i64 (-2))] [.int .u32] false w_14 fun (t145 : Int) =>
  ld (.int .u32) (⟨b11, 0, none⟩ : Addr) w_14 fun (t147 : Int) =>
  callQ P F_math_bits_RotateLeft32 #[(Value.int .u32 t147), (Value.int .i64 (-13))] [.int .u32] false w_14 fun (t148 : Int) =>
  xorI .u32 t145 t148 fun t149 =>
  ld (.int .u32) (⟨b11, 0, none⟩ : Addr) w_14 fun (t151 : Int) =>
  callQ P F_math_bits_RotateLeft32 #[(Value.int .u32 t151), (Value.int .i64 (-22))] [.int .u32] false w_14 fun (t152 : Int) =>
  xorI .u32 t149 t152 fun t153 =>
  ld (.int .u32) (⟨b11, 0, none⟩ : Addr) w_14 fun (t156 : Int) =>
  ld (.int .u32) (⟨b11, 1, none⟩ : Addr) w_14 fun (t158 : Int) =>
  andI .u32 t156 t158 fun t159 =>
  ld (.int .u32) (⟨b11, 0, none⟩ : Addr) w_14 fun (t161 : Int) =>
  ld (.int .u32) (⟨b11, 2, none⟩ : Addr) w_14 fun (t163 : Int) =>
  andI .u32 t161 t163 fun t164 =>
  xorI .u32 t159 t164 fun t165 =>
  ld (.int .u32) (⟨b11, 1, none⟩ : Addr) w_14 fun (t167 : Int) =>
  ld (.int .u32) (⟨b11, 2, none⟩ : Addr) w_14 fun (t169 : Int) =>
  andI .u32 t167 t169 fun t170 =>
  xorI .u32 t165 t170 fun t171 =>
  addI .u32 t153 t171 fun t172 =>
  addI .u32 t142 t172 fun t175 =>
  ld (.int .u32) (⟨b11, 0, none⟩ : Addr) w_14 fun (t177 : Int) =>
  ld (.int .u32) (⟨b11, 1, none⟩ : Addr) w_14 fun (t179 : Int) =>
  ld (.int .u32) (⟨b11, 2, none⟩ : Addr) w_14 fun (t181 : Int) =>
  ld (.int .u32) (⟨b11, 3, none⟩ : Addr) w_14 fun (t183 : Int) =>
  addI .u32 t183 t142 fun t185 =>
  ld (.int .u32) (⟨b11, 4, none⟩ : Addr) w_14 fun (t187 : Int) =>
  ld (.int .u32) (⟨b11, 5, none⟩ : Addr) w_14 fun (t189 : Int) =>
  ld (.int .u32) (⟨b11, 6, none⟩ : Addr) w_14 fun (t191 : Int) =>
  genQ P (Instr.build y_8_uint32 #[(0, (Value.int .u32 t175)), (1, (Value.int .u32 t177)), (2, (Value.int .u32 t179)), (3, (Value.int .u32 t181)), (4, (Value.int .u32 t185)), (5, (Value.int .u32 t187)), (6, (Value.int .u32 t189)), (7, (Value.int .u32 t191))]) .any w_14 fun (t192 : Value) =>
  genU P (storeVar y_8_uint32 (⟨b11, 0, none⟩ : Addr) t192) w_14 fun w_15 =>
  addI .i64 s_2 1 fun t193 =>
  k_2 t193 w_15) (
  loopP Int (fun s_3 w_16 k_3 =>
  iteP (decide (s_3 < 8)) (
  drewP w_16 fun w_17 =>
  withAddr hv fun p_1 =>
  ixR p_1 8 1 s_3 fun t201 =>
  ixR (⟨b11, 0, none⟩ : Addr) 8 1 s_3 fun t204 =>
  withAddr hv fun p_2 =>
  ld (.int .u32) t201 w_17 fun (t202 : Int) =>
  ld (.int .u32) t204 w_17 fun (t205 : Int) =>
  addI .u32 t202 t205 fun t206 =>
  ixR p_2 8 1 s_3 fun t209 =>
  stC t209 (Value.int .u32 t206) w_17 fun w_18 =>
  addI .i64 s_3 1 fun t210 =>
  k_3 t210 w_18) (
  R (.returned (Value.tuple #[])) w_16)) 0 w_11)) 0 w_10)) 16 w_2)) 0 w_1
theorem eq_sha_Hash_mix (hv : Option Addr) (b : Option Addr) (b_l b_c : Nat) (R : Ending → World → Prop) (w : World) : tr P qs ((Tryz.f175.body).getD .skip) ann_sha_Hash_mix (env0 0 [(0, (Value.pointer hv)), (0, (Value.slice b b_l b_c))]) (topK P Tryz.f175.results.toList R) w = T_sha_Hash_mix hv b b_l b_c R w := by kernel_rfl
theorem fn_sha_Hash_mix {hv : Option Addr} {b : Option Addr} {b_l b_c : Nat} {R : Ending → World → Prop} {w : World} (hT : T_sha_Hash_mix hv b b_l b_c R w) : CallF P F_sha_Hash_mix #[(Value.pointer hv), (Value.slice b b_l b_c)] w R :=
 fn_of_tr (fn := Tryz.f175) (c := (Tryz.f175.body).getD .skip) (ann := ann_sha_Hash_mix) (args := [(0, (Value.pointer hv)), (0, (Value.slice b b_l b_c))]) (qs := qs) mixed Tryz.func175 rfl (by kernel_rfl) (by kernel_rfl) ok_sha_Hash_mix ((eq_sha_Hash_mix hv b b_l b_c R w).symm ▸ hT)
def ann_vpath_pieces_1 : Ann := (.blk (.loop [] (.seq (.seq .leaf (.cond .leaf .leaf)) (.blk (.seq .leaf (.seq (.seq .leaf (.cond .leaf .leaf)) .leaf))))))
theorem ok_vpath_pieces_1 : okC P qs Tryz.f188.ntmps ((Tryz.f188.body).getD .skip) ann_vpath_pieces_1 = true := by kernel_rfl
def T_vpath_pieces_1 (yield : Value) (c0 : Option Addr) (R : Ending → World → Prop) (w : World) : Prop :=
  loopP Unit (fun _ w_1 k =>
  withAddr c0 fun p =>
  ld .str p w_1 fun (t6 : ByteArray) =>
  iteP (!(t6.toList == (ByteArray.mk #[]).toList)) (
  withAddr c0 fun p_1 =>
  ld .str p_1 w_1 fun (t9 : ByteArray) =>
  callF P F_strings_Cut #[(Value.string t9), (Value.string (ByteArray.mk #[47]))] [.str, .str, .bool] true w_1 fun (t10 : (ByteArray × ByteArray × Bool)) w_2 =>
  callV P yield #[(Value.string t10.1)] [.bool] false w_2 fun (t16 : Bool) w_3 =>
  iteP (!t16) (
  R (.returned (Value.tuple #[])) w_3) (
  withAddr c0 fun p_2 =>
  stC p_2 (Value.string t10.2.1) w_3 fun w_4 =>
  k () w_4)) (
  R (.returned (Value.tuple #[])) w_1)) () w
theorem eq_vpath_pieces_1 (yield : Value) (c0 : Option Addr) (R : Ending → World → Prop) (w : World) : tr P qs ((Tryz.f188.body).getD .skip) ann_vpath_pieces_1 (env0 0 [(1, yield), (0, (Value.pointer c0))]) (topK P Tryz.f188.results.toList R) w = T_vpath_pieces_1 yield c0 R w := by kernel_rfl
theorem fn_vpath_pieces_1 {yield : Value} {c0 : Option Addr} {R : Ending → World → Prop} {w : World} (hT : T_vpath_pieces_1 yield c0 R w) : CallF P F_vpath_pieces_1 #[yield, (Value.pointer c0)] w R :=
 fn_of_tr (fn := Tryz.f188) (c := (Tryz.f188.body).getD .skip) (ann := ann_vpath_pieces_1) (args := [(1, yield), (0, (Value.pointer c0))]) (qs := qs) mixed Tryz.func188 rfl (by kernel_rfl) (by kernel_rfl) ok_vpath_pieces_1 ((eq_vpath_pieces_1 yield c0 R w).symm ▸ hT)
def ann_vpath_Check : Ann := (.seq .leaf (.seq (.seq .leaf (.blk (.loop [(7, .int .i64)] (.seq .leaf (.seq (.cond .leaf .leaf) (.seq (.blk (.seq .leaf (.seq .leaf (.cond (.seq .leaf .leaf) .leaf)))) .leaf)))))) (.seq (.seq .leaf (.cond (.seq .leaf .leaf) .leaf)) (.seq .leaf .leaf))))
theorem ok_vpath_Check : okC P qs Tryz.f207.ntmps ((Tryz.f207.body).getD .skip) ann_vpath_Check = true := by kernel_rfl
def T_vpath_Check (names : Option Addr) (names_l names_c : Nat) (R : Ending → World → Prop) (w : World) : Prop :=
  loopP Int (fun s w_1 k =>
  iteP (decide (s < (names_l : Int))) (
  ixS names names_l 1 s fun t9 =>
  ld .str t9 w_1 fun (t10 : ByteArray) =>
  callF P F_vpath_name #[(Value.string t10)] [.bool] false w_1 fun (t12 : Bool) w_2 =>
  iteP (!t12) (
  R (.returned (Value.int .i64 41)) w_2) (
  addI .i64 s 1 fun t14 =>
  k t14 w_2)) (
  iteP (decide ((names_l : Int) > 8)) (
  R (.returned (Value.int .i64 42)) w_1) (
  R (.returned (Value.int .i64 0)) w_1))) 0 w
theorem eq_vpath_Check (names : Option Addr) (names_l names_c : Nat) (R : Ending → World → Prop) (w : World) : tr P qs ((Tryz.f207.body).getD .skip) ann_vpath_Check (env0 0 [(0, (Value.slice names names_l names_c))]) (topK P Tryz.f207.results.toList R) w = T_vpath_Check names names_l names_c R w := by kernel_rfl
theorem fn_vpath_Check {names : Option Addr} {names_l names_c : Nat} {R : Ending → World → Prop} {w : World} (hT : T_vpath_Check names names_l names_c R w) : CallF P F_vpath_Check #[(Value.slice names names_l names_c)] w R :=
 fn_of_tr (fn := Tryz.f207) (c := (Tryz.f207.body).getD .skip) (ann := ann_vpath_Check) (args := [(0, (Value.slice names names_l names_c))]) (qs := qs) mixed Tryz.func207 rfl (by kernel_rfl) (by kernel_rfl) ok_vpath_Check ((eq_vpath_Check names names_l names_c R w).symm ▸ hT)
def ann_vpath_name : Ann := (.seq .leaf (.join [] (.seq .leaf (.cond (.seq .leaf .leaf) .leaf)) (.seq (.seq .leaf (.blk (.loop [(21, .int .i64)] (.seq .leaf (.seq (.cond .leaf .leaf) (.seq (.blk (.seq .leaf (.seq .leaf (.cond (.seq .leaf .leaf) .leaf)))) .leaf)))))) (.seq .leaf .leaf))))
theorem ok_vpath_name : okC P qs Tryz.f224.ntmps ((Tryz.f224.body).getD .skip) ann_vpath_name = true := by kernel_rfl
def T_vpath_name (s : ByteArray) (R : Ending → World → Prop) (w : World) : Prop :=
  joinP Unit (fun k =>
  iteP (s.toList == (ByteArray.mk #[]).toList) (
  R (.returned (Value.bool false)) w) (
  iteP (decide ((s.size : Int) > 16)) (
  R (.returned (Value.bool false)) w) (
  iteP (s.toList == (ByteArray.mk #[46]).toList) (
  R (.returned (Value.bool false)) w) (
  iteP (s.toList == (ByteArray.mk #[46, 46]).toList) (
  R (.returned (Value.bool false)) w) (
  k () w))))) (fun _ w_1 =>
  loopP Int (fun s_2 w_2 k_1 =>
  iteP (decide (s_2 < (s.size : Int))) (
  ixStr s s_2 fun t26 =>
  callQ P F_vpath_plain #[(Value.int .u8 t26)] [.bool] false w_2 fun (t27 : Bool) =>
  iteP (!t27) (
  R (.returned (Value.bool false)) w_2) (
  addI .i64 s_2 1 fun t29 =>
  k_1 t29 w_2)) (
  R (.returned (Value.bool true)) w_2)) 0 w_1)
theorem eq_vpath_name (s : ByteArray) (R : Ending → World → Prop) (w : World) : tr P qs ((Tryz.f224.body).getD .skip) ann_vpath_name (env0 0 [(0, (Value.string s))]) (topK P Tryz.f224.results.toList R) w = T_vpath_name s R w := by kernel_rfl
theorem fn_vpath_name {s : ByteArray} {R : Ending → World → Prop} {w : World} (hT : T_vpath_name s R w) : CallF P F_vpath_name #[(Value.string s)] w R :=
 fn_of_tr (fn := Tryz.f224) (c := (Tryz.f224.body).getD .skip) (ann := ann_vpath_name) (args := [(0, (Value.string s))]) (qs := qs) mixed Tryz.func224 rfl (by kernel_rfl) (by kernel_rfl) ok_vpath_name ((eq_vpath_name s R w).symm ▸ hT)
end Go.Proofs.YtbmegmbnlajbbaaGreatDoor
namespace Go.Proofs.YtbmegmbnlajbbaaGreatDoor
open Go Go.Fw Go.Proofs
set_option maxRecDepth 100000
def ann_blob_New : Ann := (.seq .leaf (.seq .leaf .leaf))
theorem ok_blob_New : okC P qs Tryz.f12.ntmps ((Tryz.f12.body).getD .skip) ann_blob_New = true := by kernel_rfl
def T_blob_New (quota : Int) (R : Ending → World → Prop) (w : World) : Prop :=
  genQ P (Builtin.max_ #[y_int, y_int] y_int #[(Value.int .i64 quota), (Value.int .i64 0)]) (.int .i64) w fun (t4 : Int) =>
  genL P (Instr.makeMap y_M_api_Digest_S_uint8 none) .map w fun (t5 : (Option Nat)) w_1 =>
  genQ P (Instr.build y_blob_Store #[(0, (Value.int .i64 t4)), (2, (Value.map t5))]) .any w_1 fun (t6 : Value) =>
  newB (Value.cells t6) y_blob_Store w_1 fun b7 w_2 =>
  R (.returned (Value.pointer (some (⟨b7, 0, none⟩ : Addr)))) w_2
theorem eq_blob_New (quota : Int) (R : Ending → World → Prop) (w : World) : tr P qs ((Tryz.f12.body).getD .skip) ann_blob_New (env0 0 [(0, (Value.int .i64 quota))]) (topK P Tryz.f12.results.toList R) w = T_blob_New quota R w := by kernel_rfl
theorem fn_blob_New {quota : Int} {R : Ending → World → Prop} {w : World} (hT : T_blob_New quota R w) : CallF P F_blob_New #[(Value.int .i64 quota)] w R :=
 fn_of_tr (fn := Tryz.f12) (c := (Tryz.f12.body).getD .skip) (ann := ann_blob_New) (args := [(0, (Value.int .i64 quota))]) (qs := qs) mixed Tryz.func12 rfl (by kernel_rfl) (by kernel_rfl) ok_blob_New ((eq_blob_New quota R w).symm ▸ hT)
def ann_blob_Store_Count : Ann := (.seq .leaf (.seq (.seq .leaf (.cond (.seq .leaf .leaf) .leaf)) (.seq .leaf .leaf)))
theorem ok_blob_Store_Count : okC P qs Tryz.f17.ntmps ((Tryz.f17.body).getD .skip) ann_blob_Store_Count = true := by kernel_rfl
def T_blob_Store_Count (s : Option Addr) (R : Ending → World → Prop) (w : World) : Prop :=
  iteP (Option.isNone s) (
  R (.returned (Value.int .i64 0)) w) (
  withAddr s fun p =>
  ld .map (Addr.add p 2) w fun (t8 : (Option Nat)) =>
  genQ P (Builtin.len_ #[y_M_api_Digest_S_uint8] y_int #[(Value.map t8)]) (.int .i64) w fun (t9 : Int) =>
  R (.returned (Value.int .i64 t9)) w)
theorem eq_blob_Store_Count (s : Option Addr) (R : Ending → World → Prop) (w : World) : tr P qs ((Tryz.f17.body).getD .skip) ann_blob_Store_Count (env0 0 [(0, (Value.pointer s))]) (topK P Tryz.f17.results.toList R) w = T_blob_Store_Count s R w := by kernel_rfl
theorem fn_blob_Store_Count {s : Option Addr} {R : Ending → World → Prop} {w : World} (hT : T_blob_Store_Count s R w) : CallF P F_blob_Store_Count #[(Value.pointer s)] w R :=
 fn_of_tr (fn := Tryz.f17) (c := (Tryz.f17.body).getD .skip) (ann := ann_blob_Store_Count) (args := [(0, (Value.pointer s))]) (qs := qs) mixed Tryz.func17 rfl (by kernel_rfl) (by kernel_rfl) ok_blob_Store_Count ((eq_blob_Store_Count s R w).symm ▸ hT)
def ann_blob_Store_Bytes : Ann := (.seq .leaf (.seq (.seq .leaf (.cond (.seq .leaf .leaf) .leaf)) (.seq .leaf .leaf)))
theorem ok_blob_Store_Bytes : okC P qs Tryz.f18.ntmps ((Tryz.f18.body).getD .skip) ann_blob_Store_Bytes = true := by kernel_rfl
def T_blob_Store_Bytes (s : Option Addr) (R : Ending → World → Prop) (w : World) : Prop :=
  iteP (Option.isNone s) (
  R (.returned (Value.int .i64 0)) w) (
  withAddr s fun p =>
  ld (.int .i64) (Addr.add p 1) w fun (t8 : Int) =>
  R (.returned (Value.int .i64 t8)) w)
theorem eq_blob_Store_Bytes (s : Option Addr) (R : Ending → World → Prop) (w : World) : tr P qs ((Tryz.f18.body).getD .skip) ann_blob_Store_Bytes (env0 0 [(0, (Value.pointer s))]) (topK P Tryz.f18.results.toList R) w = T_blob_Store_Bytes s R w := by kernel_rfl
theorem fn_blob_Store_Bytes {s : Option Addr} {R : Ending → World → Prop} {w : World} (hT : T_blob_Store_Bytes s R w) : CallF P F_blob_Store_Bytes #[(Value.pointer s)] w R :=
 fn_of_tr (fn := Tryz.f18) (c := (Tryz.f18.body).getD .skip) (ann := ann_blob_Store_Bytes) (args := [(0, (Value.pointer s))]) (qs := qs) mixed Tryz.func18 rfl (by kernel_rfl) (by kernel_rfl) ok_blob_Store_Bytes ((eq_blob_Store_Bytes s R w).symm ▸ hT)
def ann_blob_Store_Put : Ann := (.seq .leaf (.seq (.seq .leaf (.seq .leaf (.cond (.seq .leaf .leaf) .leaf))) (.seq .leaf .leaf)))
theorem ok_blob_Store_Put : okC P qs Tryz.f30.ntmps ((Tryz.f30.body).getD .skip) ann_blob_Store_Put = true := by kernel_rfl
def T_blob_Store_Put (s : Option Addr) (b : Option Addr) (b_l b_c : Nat) (R : Ending → World → Prop) (w : World) : Prop :=
  newB (zc P y_api_Digest) y_api_Digest w fun b4 w_1 =>
  genL P (Instr.buildSlice y_S_S_uint8 1 #[(0, (Value.slice b b_l b_c))]) .slc w_1 fun (t9 : (Option Addr × Nat × Nat)) w_2 =>
  callF P F_blob_Store_PutAll #[(Value.pointer s), (Value.slice t9.1 t9.2.1 t9.2.2)] [.int .i64] false w_2 fun (t10 : Int) w_3 =>
  iteP (t10 != 0) (
  genQ P (Instr.build y_api_Digest #[]) .any w_3 fun (t13 : Value) =>
  genU P (storeVar y_api_Digest (⟨b4, 0, none⟩ : Addr) t13) w_3 fun w_4 =>
  ldA P 32 (⟨b4, 0, none⟩ : Addr) w_4 fun t4 =>
  R (.returned (Value.tuple #[(Value.agg t4), (Value.int .i64 t10)])) w_4) (
  callF P F_sha_Sum #[(Value.slice b b_l b_c)] [.any] false w_3 fun (t16 : Value) w_5 =>
  genU P (storeVar y_api_Digest (⟨b4, 0, none⟩ : Addr) t16) w_5 fun w_6 =>
  ldA P 32 (⟨b4, 0, none⟩ : Addr) w_6 fun t4_1 =>
  R (.returned (Value.tuple #[(Value.agg t4_1), (Value.int .i64 0)])) w_6)
theorem eq_blob_Store_Put (s : Option Addr) (b : Option Addr) (b_l b_c : Nat) (R : Ending → World → Prop) (w : World) : tr P qs ((Tryz.f30.body).getD .skip) ann_blob_Store_Put (env0 0 [(0, (Value.pointer s)), (0, (Value.slice b b_l b_c))]) (topK P Tryz.f30.results.toList R) w = T_blob_Store_Put s b b_l b_c R w := by kernel_rfl
theorem fn_blob_Store_Put {s : Option Addr} {b : Option Addr} {b_l b_c : Nat} {R : Ending → World → Prop} {w : World} (hT : T_blob_Store_Put s b b_l b_c R w) : CallF P F_blob_Store_Put #[(Value.pointer s), (Value.slice b b_l b_c)] w R :=
 fn_of_tr (fn := Tryz.f30) (c := (Tryz.f30.body).getD .skip) (ann := ann_blob_Store_Put) (args := [(0, (Value.pointer s)), (0, (Value.slice b b_l b_c))]) (qs := qs) mixed Tryz.func30 rfl (by kernel_rfl) (by kernel_rfl) ok_blob_Store_Put ((eq_blob_Store_Put s b b_l b_c R w).symm ▸ hT)
def ann_blob_Store_PutAll : Ann := (.seq .leaf (.seq (.seq .leaf (.cond (.seq .leaf .leaf) .leaf)) (.seq .leaf (.seq .leaf (.seq (.seq .leaf (.blk (.loop [(6, .int .i64), (23, .int .i64)] (.seq .leaf (.seq (.cond .leaf .leaf) (.seq (.jblk [(6, .int .i64)] (.seq .leaf (.seq (.seq .leaf (.cond (.seq .leaf .leaf) .leaf)) (.seq .leaf (.seq (.seq .leaf (.seq .leaf (.cond .leaf .leaf))) (.seq (.tree (.op 0 [] (.op 2 [] (.op 1 [] (.op 3 [1] (.op 4 [] .done)))))) (.seq (.tree (.op 0 [] (.op 1 [] (.op 2 [] (.op 3 [] (.op 4 [] (.op 5 [] (.op 6 [] (.op 7 [] (.op 8 [] (.op 9 [] (.op 10 [] .done)))))))))))) (.seq .leaf (.cond .leaf .leaf))))))))) .leaf)))))) (.seq (.seq (.tree (.op 0 [] (.op 1 [] (.op 2 [] (.op 3 [] (.op 5 [] (.op 6 [] (.op 7 [] (.op 4 [] (.op 8 [] (.op 9 [] (.op 10 [] .done)))))))))))) (.cond (.seq .leaf .leaf) .leaf)) (.seq (.seq .leaf (.blk (.loop [] (.seq .leaf (.seq (.cond .leaf .leaf) (.jblk [] (.seq .leaf (.seq (.tree (.op 0 [] (.op 1 [] (.op 2 [] (.op 3 [] (.op 4 [] (.op 5 [] (.op 6 [] (.op 7 [] (.op 8 [] (.op 9 [] (.op 10 [] .done)))))))))))) (.join [] (.seq (.tree (.op 0 [] (.op 1 [] (.op 2 [] (.op 4 [] (.op 3 [4] (.op 5 [] (.op 6 [] .done)))))))) (.cond .leaf .leaf)) (.seq .leaf (.tree (.op 0 [] (.op 1 [] (.op 2 [] (.op 5 [] (.op 3 [] (.op 4 [] (.op 6 [] .done)))))))))))))))))) (.seq .leaf .leaf))))))))
theorem ok_blob_Store_PutAll : okC P qs Tryz.f60.ntmps ((Tryz.f60.body).getD .skip) ann_blob_Store_PutAll = true := by kernel_rfl
def T_blob_Store_PutAll (s : Option Addr) (list : Option Addr) (list_l list_c : Nat) (R : Ending → World → Prop) (w : World) : Prop :=
  iteP (Option.isNone s) (
  R (.returned (Value.int .i64 7)) w) (
  genL P (Instr.makeMap y_M_api_Digest_S_uint8 none) .map w fun (t20 : (Option Nat)) w_1 =>
  loopP (Int × Int) (fun s_1 w_2 k =>
  iteP (decide (s_1.2 < (list_l : Int))) (
  joinP Int (fun k_1 =>
  ixS list list_l 1 s_1.2 fun t25 =>
  ld .slc t25 w_2 fun (t26 : (Option Addr × Nat × Nat)) =>
  iteP (decide ((t26.2.1 : Int) > 4096)) (
  R (.returned (Value.int .i64 2)) w_2) (
  callF P F_sha_Sum #[(Value.slice t26.1 t26.2.1 t26.2.2)] [.any] false w_2 fun (t31 : Value) w_3 =>
  newB (zc P y_api_Digest) y_api_Digest w_3 fun b9 w_4 =>
  genU P (storeVar y_api_Digest (⟨b9, 0, none⟩ : Addr) t31) w_4 fun w_5 =>
  ldA P 32 (⟨b9, 0, none⟩ : Addr) w_5 fun t34 =>
  genT P (Instr.lookup y_M_api_Digest_S_uint8 (Value.map t20) (Value.agg t34) true) [.slc, .bool] w_5 fun (t35 : ((Option Addr × Nat × Nat) × Bool)) =>
  iteP t35.2 (
  k_1 s_1.1 w_5) (
  drewP w_5 fun w_6 =>
  ldA P 32 (⟨b9, 0, none⟩ : Addr) w_6 fun t40 =>
  callF P F_slices_Clone_S_byte_byte #[(Value.slice t26.1 t26.2.1 t26.2.2)] [.slc] false w_6 fun (t42 : (Option Addr × Nat × Nat)) w_7 =>
  ((ldA P 32 (⟨b9, 0, none⟩ : Addr) w_7 fun t40_1 =>
  (Value.agg t40_1) = (Value.agg t40)) ∧
  genU P (Instr.mapUpdate y_M_api_Digest_S_uint8 (Value.map t20) (Value.agg t40) (Value.slice t42.1 t42.2.1 t42.2.2)) w_7 fun w_8 =>
  drewP w_8 fun w_9 =>
  withAddr s fun p =>
  ld .map (Addr.add p 2) w_9 fun (t47 : (Option Nat)) =>
  ldA P 32 (⟨b9, 0, none⟩ : Addr) w_9 fun t48 =>
  genT P (Instr.lookup y_M_api_Digest_S_uint8 (Value.map t47) (Value.agg t48) true) [.slc, .bool] w_9 fun (t49 : ((Option Addr × Nat × Nat) × Bool)) =>
  iteP (!t49.2) (
  addI .i64 s_1.1 (t26.2.1 : Int) fun t57 =>
  k_1 t57 w_9) (
  k_1 s_1.1 w_9))))) (fun s_2 w_10 =>
  addI .i64 s_1.2 1 fun t58 =>
  k (s_2, t58) w_10)) (
  drewP w_2 fun w_11 =>
  withAddr s fun p_1 =>
  withAddr s fun p_2 =>
  ld (.int .i64) p_1 w_11 fun (t63 : Int) =>
  ld (.int .i64) (Addr.add p_2 1) w_11 fun (t67 : Int) =>
  subI .i64 t63 t67 fun t68 =>
  iteP (decide (s_1.1 > t68)) (
  R (.returned (Value.int .i64 3)) w_11) (
  genL P (Instr.range y_M_api_Digest_S_uint8 (Value.map t20)) .ptr w_11 fun (t71 : (Option Addr)) w_12 =>
  loopP Unit (fun _ w_13 k_2 =>
  genL P (Instr.next (Value.pointer t71) false y_tuple_bcd8b0) .any w_13 fun (t72 : Value) w_14 =>
  exV t72 0 .bool fun (t73 : Bool) =>
  iteP t73 (
  joinP Unit (fun k_3 =>
  genQ P (Instr.entry (Value.pointer t71)) .any w_14 fun (t74 : Value) =>
  exV t74 0 .any fun (t75 : Value) =>
  exV t74 1 .slc fun (t76 : (Option Addr × Nat × Nat)) =>
  newB (zc P y_api_Digest) y_api_Digest w_14 fun b14 w_15 =>
  genU P (storeVar y_api_Digest (⟨b14, 0, none⟩ : Addr) t75) w_15 fun w_16 =>
  drewP w_16 fun w_17 =>
  withAddr s fun p_3 =>
  ld .map (Addr.add p_3 2) w_17 fun (t81 : (Option Nat)) =>
  ldA P 32 (⟨b14, 0, none⟩ : Addr) w_17 fun t82 =>
  genT P (Instr.lookup y_M_api_Digest_S_uint8 (Value.map t81) (Value.agg t82) true) [.slc, .bool] w_17 fun (t83 : ((Option Addr × Nat × Nat) × Bool)) =>
  joinP Unit (fun k_4 =>
  drewP w_17 fun w_18 =>
  iteP t83.2 (
  ldA P 32 (⟨b14, 0, none⟩ : Addr) w_18 fun t90 =>
  callF P F_sha_Sum #[(Value.slice t83.1.1 t83.1.2.1 t83.1.2.2)] [.any] false w_18 fun (t89 : Value) w_19 =>
  ((ldA P 32 (⟨b14, 0, none⟩ : Addr) w_19 fun t90_1 =>
  (Value.agg t90_1) = (Value.agg t90)) ∧
  genQ P (eqM .eql y_api_Digest (.tmp 89) (.tmp 90) t89 (Value.agg t90)) .bool w_19 fun (t91 : Bool) =>
  iteP t91 (
  k_3 () w_19) (
  k_4 () w_19))) (
  ((undef = undef) ∧
  k_4 () w_18))) (fun _ w_20 =>
  withAddr s fun p_4 =>
  ld (.int .i64) (Addr.add p_4 1) w_20 fun (t96 : Int) =>
  subI .i64 (t76.2.1 : Int) (t83.1.2.1 : Int) fun t101 =>
  addI .i64 t96 t101 fun t102 =>
  withAddr s fun p_5 =>
  stC (Addr.add p_5 1) (Value.int .i64 t102) w_20 fun w_21 =>
  drewP w_21 fun w_22 =>
  withAddr s fun p_6 =>
  ld .map (Addr.add p_6 2) w_22 fun (t108 : (Option Nat)) =>
  ldA P 32 (⟨b14, 0, none⟩ : Addr) w_22 fun t109 =>
  genU P (Instr.mapUpdate y_M_api_Digest_S_uint8 (Value.map t108) (Value.agg t109) (Value.slice t76.1 t76.2.1 t76.2.2)) w_22 fun w_23 =>
  k_3 () w_23)) (fun _ w_24 =>
  k_2 () w_24)) (
  R (.returned (Value.int .i64 0)) w_14)) () w_12))) (0, 0) w_1)
theorem eq_blob_Store_PutAll (s : Option Addr) (list : Option Addr) (list_l list_c : Nat) (R : Ending → World → Prop) (w : World) : tr P qs ((Tryz.f60.body).getD .skip) ann_blob_Store_PutAll (env0 0 [(0, (Value.pointer s)), (0, (Value.slice list list_l list_c))]) (topK P Tryz.f60.results.toList R) w = T_blob_Store_PutAll s list list_l list_c R w := by kernel_rfl
theorem fn_blob_Store_PutAll {s : Option Addr} {list : Option Addr} {list_l list_c : Nat} {R : Ending → World → Prop} {w : World} (hT : T_blob_Store_PutAll s list list_l list_c R w) : CallF P F_blob_Store_PutAll #[(Value.pointer s), (Value.slice list list_l list_c)] w R :=
 fn_of_tr (fn := Tryz.f60) (c := (Tryz.f60.body).getD .skip) (ann := ann_blob_Store_PutAll) (args := [(0, (Value.pointer s)), (0, (Value.slice list list_l list_c))]) (qs := qs) mixed Tryz.func60 rfl (by kernel_rfl) (by kernel_rfl) ok_blob_Store_PutAll ((eq_blob_Store_PutAll s list list_l list_c R w).symm ▸ hT)
def ann_blob_Store_Get : Ann := (.seq .leaf (.seq (.seq .leaf (.cond (.seq .leaf .leaf) .leaf)) (.seq (.tree (.op 0 [] (.op 1 [] (.op 2 [] (.op 3 [] (.op 4 [] (.op 5 [] (.op 6 [] (.op 7 [] (.op 8 [] (.op 9 [] (.op 10 [] .done)))))))))))) (.seq (.seq .leaf (.cond (.seq .leaf .leaf) .leaf)) (.seq (.seq (.tree (.op 0 [] (.op 2 [] (.op 1 [2] (.op 3 [] .done))))) (.cond (.seq .leaf .leaf) .leaf)) (.seq .leaf .leaf))))))
theorem ok_blob_Store_Get : okC P qs Tryz.f69.ntmps ((Tryz.f69.body).getD .skip) ann_blob_Store_Get = true := by kernel_rfl
def T_blob_Store_Get (s : Option Addr) (d : Value) (R : Ending → World → Prop) (w : World) : Prop :=
  newB (Value.cells d) y_api_Digest w fun b3 w_1 =>
  iteP (Option.isNone s) (
  R (.returned (Value.tuple #[(Value.slice none 0 0), (Value.int .i64 7)])) w_1) (
  drewP w_1 fun w_2 =>
  withAddr s fun p =>
  ld .map (Addr.add p 2) w_2 fun (t14 : (Option Nat)) =>
  ldA P 32 (⟨b3, 0, none⟩ : Addr) w_2 fun t15 =>
  genT P (Instr.lookup y_M_api_Digest_S_uint8 (Value.map t14) (Value.agg t15) true) [.slc, .bool] w_2 fun (t16 : ((Option Addr × Nat × Nat) × Bool)) =>
  iteP (!t16.2) (
  R (.returned (Value.tuple #[(Value.slice none 0 0), (Value.int .i64 50)])) w_2) (
  drewP w_2 fun w_3 =>
  ldA P 32 (⟨b3, 0, none⟩ : Addr) w_3 fun t23 =>
  callF P F_sha_Sum #[(Value.slice t16.1.1 t16.1.2.1 t16.1.2.2)] [.any] false w_3 fun (t22 : Value) w_4 =>
  ((ldA P 32 (⟨b3, 0, none⟩ : Addr) w_4 fun t23_1 =>
  (Value.agg t23_1) = (Value.agg t23)) ∧
  genQ P (eqM .neq y_api_Digest (.tmp 22) (.tmp 23) t22 (Value.agg t23)) .bool w_4 fun (t24 : Bool) =>
  iteP t24 (
  R (.returned (Value.tuple #[(Value.slice none 0 0), (Value.int .i64 51)])) w_4) (
  callF P F_slices_Clone_S_byte_byte #[(Value.slice t16.1.1 t16.1.2.1 t16.1.2.2)] [.slc] false w_4 fun (t26 : (Option Addr × Nat × Nat)) w_5 =>
  R (.returned (Value.tuple #[(Value.slice t26.1 t26.2.1 t26.2.2), (Value.int .i64 0)])) w_5))))
theorem eq_blob_Store_Get (s : Option Addr) (d : Value) (R : Ending → World → Prop) (w : World) : tr P qs ((Tryz.f69.body).getD .skip) ann_blob_Store_Get (env0 0 [(0, (Value.pointer s)), (1, d)]) (topK P Tryz.f69.results.toList R) w = T_blob_Store_Get s d R w := by kernel_rfl
theorem fn_blob_Store_Get {s : Option Addr} {d : Value} {R : Ending → World → Prop} {w : World} (hT : T_blob_Store_Get s d R w) : CallF P F_blob_Store_Get #[(Value.pointer s), d] w R :=
 fn_of_tr (fn := Tryz.f69) (c := (Tryz.f69.body).getD .skip) (ann := ann_blob_Store_Get) (args := [(0, (Value.pointer s)), (1, d)]) (qs := qs) mixed Tryz.func69 rfl (by kernel_rfl) (by kernel_rfl) ok_blob_Store_Get ((eq_blob_Store_Get s d R w).symm ▸ hT)
def ann_slices_Contains_S_api_Digest_api_Digest : Ann := (.seq .leaf (.seq .leaf .leaf))
theorem ok_slices_Contains_S_api_Digest_api_Digest : okC P qs Tryz.f92.ntmps ((Tryz.f92.body).getD .skip) ann_slices_Contains_S_api_Digest_api_Digest = true := by kernel_rfl
def T_slices_Contains_S_api_Digest_api_Digest (s : Option Addr) (s_l s_c : Nat) (v : Value) (R : Ending → World → Prop) (w : World) : Prop :=
  newB (Value.cells v) y_api_Digest w fun b3 w_1 =>
  ldA P 32 (⟨b3, 0, none⟩ : Addr) w_1 fun t6 =>
  callF P F_slices_Index_S_api_Digest_api_Digest #[(Value.slice s s_l s_c), (Value.agg t6)] [.int .i64] false w_1 fun (t7 : Int) w_2 =>
  R (.returned (Value.bool (decide (t7 ≥ 0)))) w_2
theorem eq_slices_Contains_S_api_Digest_api_Digest (s : Option Addr) (s_l s_c : Nat) (v : Value) (R : Ending → World → Prop) (w : World) : tr P qs ((Tryz.f92.body).getD .skip) ann_slices_Contains_S_api_Digest_api_Digest (env0 0 [(0, (Value.slice s s_l s_c)), (1, v)]) (topK P Tryz.f92.results.toList R) w = T_slices_Contains_S_api_Digest_api_Digest s s_l s_c v R w := by kernel_rfl
theorem fn_slices_Contains_S_api_Digest_api_Digest {s : Option Addr} {s_l s_c : Nat} {v : Value} {R : Ending → World → Prop} {w : World} (hT : T_slices_Contains_S_api_Digest_api_Digest s s_l s_c v R w) : CallF P F_slices_Contains_S_api_Digest_api_Digest #[(Value.slice s s_l s_c), v] w R :=
 fn_of_tr (fn := Tryz.f92) (c := (Tryz.f92.body).getD .skip) (ann := ann_slices_Contains_S_api_Digest_api_Digest) (args := [(0, (Value.slice s s_l s_c)), (1, v)]) (qs := qs) mixed Tryz.func92 rfl (by kernel_rfl) (by kernel_rfl) ok_slices_Contains_S_api_Digest_api_Digest ((eq_slices_Contains_S_api_Digest_api_Digest s s_l s_c v R w).symm ▸ hT)
def ann_slices_Clone_S_byte_byte : Ann := (.seq .leaf (.seq (.seq .leaf (.cond (.seq .leaf .leaf) .leaf)) (.seq .leaf .leaf)))
theorem ok_slices_Clone_S_byte_byte : okC P qs Tryz.f115.ntmps ((Tryz.f115.body).getD .skip) ann_slices_Clone_S_byte_byte = true := by kernel_rfl
def T_slices_Clone_S_byte_byte (s : Option Addr) (s_l s_c : Nat) (R : Ending → World → Prop) (w : World) : Prop :=
  iteP (Option.isNone s) (
  R (.returned (Value.slice none 0 0)) w) (
  genL P (Instr.buildSlice y_S_uint8 0 #[]) .slc w fun (t5 : (Option Addr × Nat × Nat)) w_1 =>
  genL P (Builtin.append_ #[y_S_uint8, y_S_uint8] y_S_uint8 #[(Value.slice t5.1 t5.2.1 t5.2.2), (Value.slice s s_l s_c)]) .slc w_1 fun (t7 : (Option Addr × Nat × Nat)) w_2 =>
  R (.returned (Value.slice t7.1 t7.2.1 t7.2.2)) w_2)
theorem eq_slices_Clone_S_byte_byte (s : Option Addr) (s_l s_c : Nat) (R : Ending → World → Prop) (w : World) : tr P qs ((Tryz.f115.body).getD .skip) ann_slices_Clone_S_byte_byte (env0 0 [(0, (Value.slice s s_l s_c))]) (topK P Tryz.f115.results.toList R) w = T_slices_Clone_S_byte_byte s s_l s_c R w := by kernel_rfl
theorem fn_slices_Clone_S_byte_byte {s : Option Addr} {s_l s_c : Nat} {R : Ending → World → Prop} {w : World} (hT : T_slices_Clone_S_byte_byte s s_l s_c R w) : CallF P F_slices_Clone_S_byte_byte #[(Value.slice s s_l s_c)] w R :=
 fn_of_tr (fn := Tryz.f115) (c := (Tryz.f115.body).getD .skip) (ann := ann_slices_Clone_S_byte_byte) (args := [(0, (Value.slice s s_l s_c))]) (qs := qs) mixed Tryz.func115 rfl (by kernel_rfl) (by kernel_rfl) ok_slices_Clone_S_byte_byte ((eq_slices_Clone_S_byte_byte s s_l s_c R w).symm ▸ hT)
def ann_slices_Index_S_api_Digest_api_Digest : Ann := (.seq .leaf (.seq (.seq .leaf (.blk (.loop [(8, .int .i64)] (.seq .leaf (.seq (.cond .leaf .leaf) (.seq (.blk (.seq .leaf (.seq (.tree (.op 1 [] (.op 2 [] (.op 3 [] (.op 0 [] (.op 4 [] (.op 5 [] .done))))))) (.cond (.seq .leaf .leaf) .leaf)))) .leaf)))))) (.seq .leaf .leaf)))
theorem ok_slices_Index_S_api_Digest_api_Digest : okC P qs Tryz.f147.ntmps ((Tryz.f147.body).getD .skip) ann_slices_Index_S_api_Digest_api_Digest = true := by kernel_rfl
def T_slices_Index_S_api_Digest_api_Digest (s : Option Addr) (s_l s_c : Nat) (v : Value) (R : Ending → World → Prop) (w : World) : Prop :=
  newB (Value.cells v) y_api_Digest w fun b3 w_1 =>
  loopP Int (fun s_1 w_2 k =>
  iteP (decide (s_1 < (s_l : Int))) (
  drewP w_2 fun w_3 =>
  ixS s s_l 32 s_1 fun t14 =>
  ldA P 32 (⟨b3, 0, none⟩ : Addr) w_3 fun t11 =>
  ldA P 32 t14 w_3 fun t15 =>
  genQ P (eqM .eql y_api_Digest (.tmp 11) (.tmp 15) (Value.agg t11) (Value.agg t15)) .bool w_3 fun (t16 : Bool) =>
  iteP t16 (
  R (.returned (Value.int .i64 s_1)) w_3) (
  addI .i64 s_1 1 fun t18 =>
  k t18 w_3)) (
  R (.returned (Value.int .i64 (-1))) w_2)) 0 w_1
theorem eq_slices_Index_S_api_Digest_api_Digest (s : Option Addr) (s_l s_c : Nat) (v : Value) (R : Ending → World → Prop) (w : World) : tr P qs ((Tryz.f147.body).getD .skip) ann_slices_Index_S_api_Digest_api_Digest (env0 0 [(0, (Value.slice s s_l s_c)), (1, v)]) (topK P Tryz.f147.results.toList R) w = T_slices_Index_S_api_Digest_api_Digest s s_l s_c v R w := by kernel_rfl
theorem fn_slices_Index_S_api_Digest_api_Digest {s : Option Addr} {s_l s_c : Nat} {v : Value} {R : Ending → World → Prop} {w : World} (hT : T_slices_Index_S_api_Digest_api_Digest s s_l s_c v R w) : CallF P F_slices_Index_S_api_Digest_api_Digest #[(Value.slice s s_l s_c), v] w R :=
 fn_of_tr (fn := Tryz.f147) (c := (Tryz.f147.body).getD .skip) (ann := ann_slices_Index_S_api_Digest_api_Digest) (args := [(0, (Value.slice s s_l s_c)), (1, v)]) (qs := qs) mixed Tryz.func147 rfl (by kernel_rfl) (by kernel_rfl) ok_slices_Index_S_api_Digest_api_Digest ((eq_slices_Index_S_api_Digest_api_Digest s s_l s_c v R w).symm ▸ hT)
def ann_bytes_Compare : Ann := (.seq .leaf (.seq .leaf .leaf))
theorem ok_bytes_Compare : okC P qs Tryz.f151.ntmps ((Tryz.f151.body).getD .skip) ann_bytes_Compare = true := by kernel_rfl
def T_bytes_Compare (a : Option Addr) (a_l a_c : Nat) (b : Option Addr) (b_l b_c : Nat) (R : Ending → World → Prop) (w : World) : Prop :=
  callF P F_internal_bytealg_Compare #[(Value.slice a a_l a_c), (Value.slice b b_l b_c)] [.int .i64] false w fun (t7 : Int) w_1 =>
  R (.returned (Value.int .i64 t7)) w_1
theorem eq_bytes_Compare (a : Option Addr) (a_l a_c : Nat) (b : Option Addr) (b_l b_c : Nat) (R : Ending → World → Prop) (w : World) : tr P qs ((Tryz.f151.body).getD .skip) ann_bytes_Compare (env0 0 [(0, (Value.slice a a_l a_c)), (0, (Value.slice b b_l b_c))]) (topK P Tryz.f151.results.toList R) w = T_bytes_Compare a a_l a_c b b_l b_c R w := by kernel_rfl
theorem fn_bytes_Compare {a : Option Addr} {a_l a_c : Nat} {b : Option Addr} {b_l b_c : Nat} {R : Ending → World → Prop} {w : World} (hT : T_bytes_Compare a a_l a_c b b_l b_c R w) : CallF P F_bytes_Compare #[(Value.slice a a_l a_c), (Value.slice b b_l b_c)] w R :=
 fn_of_tr (fn := Tryz.f151) (c := (Tryz.f151.body).getD .skip) (ann := ann_bytes_Compare) (args := [(0, (Value.slice a a_l a_c)), (0, (Value.slice b b_l b_c))]) (qs := qs) mixed Tryz.func151 rfl (by kernel_rfl) (by kernel_rfl) ok_bytes_Compare ((eq_bytes_Compare a a_l a_c b b_l b_c R w).symm ▸ hT)
theorem x_internal_bytealg_Compare {e : Array Value → Sem Value} (he : Extern.find Tryz.f184 = some e) (args : Array Value) (w : World) : (callFunc F_internal_bytealg_Compare args).run P w = ((e args).run P w).andThen fun v w1 => .ok (.value v) w1 :=
 Go.run_callFunc_extern Tryz.func184 (by kernel_rfl) (by kernel_rfl) (by kernel_rfl) he args w
end Go.Proofs.YtbmegmbnlajbbaaGreatDoor
namespace Go.Proofs.YtbmegmbnlajbbaaGreatDoor
open Go Go.Fw Go.Proofs
set_option maxRecDepth 100000
def ann_wire_Out_Num : Ann := (.seq (.seq .leaf (.cond .leaf .leaf)) (.seq (.blk (.loop [(1, .int .u64)] (.seq (.seq .leaf (.cond .leaf .leaf)) (.seq (.blk .leaf) .leaf)))) .leaf))
theorem ok_wire_Out_Num : okC P qs Tryz.f168.ntmps ((Tryz.f168.body).getD .skip) ann_wire_Out_Num = true := by kernel_rfl
def T_wire_Out_Num (o : Option Addr) (n : Int) (R : Ending → World → Prop) (w : World) : Prop :=
  iteP (Option.isNone o) (
  R (.returned (Value.tuple #[])) w) (
  loopP Int (fun s w_1 k =>
  iteP (decide (s > 127)) (
  withAddr o fun p =>
  ld .slc p w_1 fun (t14 : (Option Addr × Nat × Nat)) =>
  cvI .u8 s fun t16 =>
  orI .u8 t16 128 fun t17 =>
  genL P (Instr.buildSlice y_S_uint8 1 #[(0, (Value.int .u8 t17))]) .slc w_1 fun (t18 : (Option Addr × Nat × Nat)) w_2 =>
  genL P (Builtin.append_ #[y_S_uint8, y_S_uint8] y_S_uint8 #[(Value.slice t14.1 t14.2.1 t14.2.2), (Value.slice t18.1 t18.2.1 t18.2.2)]) .slc w_2 fun (t19 : (Option Addr × Nat × Nat)) w_3 =>
  withAddr o fun p_1 =>
  stC p_1 (Value.slice t19.1 t19.2.1 t19.2.2) w_3 fun w_4 =>
  shrI .u64 s 7 fun t9 =>
  k t9 w_4) (
  withAddr o fun p_2 =>
  ld .slc p_2 w_1 fun (t26 : (Option Addr × Nat × Nat)) =>
  cvI .u8 s fun t28 =>
  genL P (Instr.buildSlice y_S_uint8 1 #[(0, (Value.int .u8 t28))]) .slc w_1 fun (t29 : (Option Addr × Nat × Nat)) w_5 =>
  genL P (Builtin.append_ #[y_S_uint8, y_S_uint8] y_S_uint8 #[(Value.slice t26.1 t26.2.1 t26.2.2), (Value.slice t29.1 t29.2.1 t29.2.2)]) .slc w_5 fun (t30 : (Option Addr × Nat × Nat)) w_6 =>
  withAddr o fun p_3 =>
  stC p_3 (Value.slice t30.1 t30.2.1 t30.2.2) w_6 fun w_7 =>
  R (.returned (Value.tuple #[])) w_7)) n w)
theorem eq_wire_Out_Num (o : Option Addr) (n : Int) (R : Ending → World → Prop) (w : World) : tr P qs ((Tryz.f168.body).getD .skip) ann_wire_Out_Num (env0 0 [(0, (Value.pointer o)), (0, (Value.int .u64 n))]) (topK P Tryz.f168.results.toList R) w = T_wire_Out_Num o n R w := by kernel_rfl
theorem fn_wire_Out_Num {o : Option Addr} {n : Int} {R : Ending → World → Prop} {w : World} (hT : T_wire_Out_Num o n R w) : CallF P F_wire_Out_Num #[(Value.pointer o), (Value.int .u64 n)] w R :=
 fn_of_tr (fn := Tryz.f168) (c := (Tryz.f168.body).getD .skip) (ann := ann_wire_Out_Num) (args := [(0, (Value.pointer o)), (0, (Value.int .u64 n))]) (qs := qs) mixed Tryz.func168 rfl (by kernel_rfl) (by kernel_rfl) ok_wire_Out_Num ((eq_wire_Out_Num o n R w).symm ▸ hT)
def ann_wire_Out_Text : Ann := (.seq (.seq .leaf (.cond .leaf .leaf)) (.seq .leaf .leaf))
theorem ok_wire_Out_Text : okC P qs Tryz.f169.ntmps ((Tryz.f169.body).getD .skip) ann_wire_Out_Text = true := by kernel_rfl
def T_wire_Out_Text (o : Option Addr) (s : ByteArray) (R : Ending → World → Prop) (w : World) : Prop :=
  iteP (Option.isNone o) (
  R (.returned (Value.tuple #[])) w) (
  cvI .u64 (s.size : Int) fun t9 =>
  callF P F_wire_Out_Num #[(Value.pointer o), (Value.int .u64 t9)] [] true w fun (_ : Unit) w_1 =>
  withAddr o fun p =>
  ld .slc p w_1 fun (t15 : (Option Addr × Nat × Nat)) =>
  genL P (Builtin.append_ #[y_S_uint8, y_string] y_S_uint8 #[(Value.slice t15.1 t15.2.1 t15.2.2), (Value.string s)]) .slc w_1 fun (t17 : (Option Addr × Nat × Nat)) w_2 =>
  withAddr o fun p_1 =>
  stC p_1 (Value.slice t17.1 t17.2.1 t17.2.2) w_2 fun w_3 =>
  R (.returned (Value.tuple #[])) w_3)
theorem eq_wire_Out_Text (o : Option Addr) (s : ByteArray) (R : Ending → World → Prop) (w : World) : tr P qs ((Tryz.f169.body).getD .skip) ann_wire_Out_Text (env0 0 [(0, (Value.pointer o)), (0, (Value.string s))]) (topK P Tryz.f169.results.toList R) w = T_wire_Out_Text o s R w := by kernel_rfl
theorem fn_wire_Out_Text {o : Option Addr} {s : ByteArray} {R : Ending → World → Prop} {w : World} (hT : T_wire_Out_Text o s R w) : CallF P F_wire_Out_Text #[(Value.pointer o), (Value.string s)] w R :=
 fn_of_tr (fn := Tryz.f169) (c := (Tryz.f169.body).getD .skip) (ann := ann_wire_Out_Text) (args := [(0, (Value.pointer o)), (0, (Value.string s))]) (qs := qs) mixed Tryz.func169 rfl (by kernel_rfl) (by kernel_rfl) ok_wire_Out_Text ((eq_wire_Out_Text o s R w).symm ▸ hT)
def ann_wire_Out_Digest : Ann := (.seq .leaf (.seq .leaf (.cond (.tree (.op 0 [] (.op 1 [] (.op 2 [] (.op 3 [] (.op 4 [] (.op 5 [] (.op 6 [] (.op 7 [] (.op 8 [] (.op 9 [] .done))))))))))) .leaf)))
theorem ok_wire_Out_Digest : okC P qs Tryz.f170.ntmps ((Tryz.f170.body).getD .skip) ann_wire_Out_Digest = true := by kernel_rfl
def T_wire_Out_Digest (o : Option Addr) (d : Value) (R : Ending → World → Prop) (w : World) : Prop :=
  newB (Value.cells d) y_api_Digest w fun b3 w_1 =>
  iteP (!(Option.isNone o)) (
  drewP w_1 fun w_2 =>
  withAddr o fun p =>
  ld .slc p w_2 fun (t10 : (Option Addr × Nat × Nat)) =>
  genQ P (Instr.sliceAt y_api_Digest (Value.pointer (some (⟨b3, 0, none⟩ : Addr))) none none none) .slc w_2 fun (t11 : (Option Addr × Nat × Nat)) =>
  genL P (Builtin.append_ #[y_S_uint8, y_S_uint8] y_S_uint8 #[(Value.slice t10.1 t10.2.1 t10.2.2), (Value.slice t11.1 t11.2.1 t11.2.2)]) .slc w_2 fun (t12 : (Option Addr × Nat × Nat)) w_3 =>
  withAddr o fun p_1 =>
  stC p_1 (Value.slice t12.1 t12.2.1 t12.2.2) w_3 fun w_4 =>
  R (.returned (Value.tuple #[])) w_4) (
  R (.returned (Value.tuple #[])) w_1)
theorem eq_wire_Out_Digest (o : Option Addr) (d : Value) (R : Ending → World → Prop) (w : World) : tr P qs ((Tryz.f170.body).getD .skip) ann_wire_Out_Digest (env0 0 [(0, (Value.pointer o)), (1, d)]) (topK P Tryz.f170.results.toList R) w = T_wire_Out_Digest o d R w := by kernel_rfl
theorem fn_wire_Out_Digest {o : Option Addr} {d : Value} {R : Ending → World → Prop} {w : World} (hT : T_wire_Out_Digest o d R w) : CallF P F_wire_Out_Digest #[(Value.pointer o), d] w R :=
 fn_of_tr (fn := Tryz.f170) (c := (Tryz.f170.body).getD .skip) (ann := ann_wire_Out_Digest) (args := [(0, (Value.pointer o)), (1, d)]) (qs := qs) mixed Tryz.func170 rfl (by kernel_rfl) (by kernel_rfl) ok_wire_Out_Digest ((eq_wire_Out_Digest o d R w).symm ▸ hT)
def ann_wire_Out_Bytes : Ann := (.seq .leaf (.seq (.seq .leaf (.cond (.seq .leaf .leaf) .leaf)) (.seq .leaf .leaf)))
theorem ok_wire_Out_Bytes : okC P qs Tryz.f171.ntmps ((Tryz.f171.body).getD .skip) ann_wire_Out_Bytes = true := by kernel_rfl
def T_wire_Out_Bytes (o : Option Addr) (R : Ending → World → Prop) (w : World) : Prop :=
  iteP (Option.isNone o) (
  R (.returned (Value.slice none 0 0)) w) (
  withAddr o fun p =>
  ld .slc p w fun (t8 : (Option Addr × Nat × Nat)) =>
  genL P (Builtin.append_ #[y_S_uint8, y_S_uint8] y_S_uint8 #[(Value.slice none 0 0), (Value.slice t8.1 t8.2.1 t8.2.2)]) .slc w fun (t9 : (Option Addr × Nat × Nat)) w_1 =>
  R (.returned (Value.slice t9.1 t9.2.1 t9.2.2)) w_1)
theorem eq_wire_Out_Bytes (o : Option Addr) (R : Ending → World → Prop) (w : World) : tr P qs ((Tryz.f171.body).getD .skip) ann_wire_Out_Bytes (env0 0 [(0, (Value.pointer o))]) (topK P Tryz.f171.results.toList R) w = T_wire_Out_Bytes o R w := by kernel_rfl
theorem fn_wire_Out_Bytes {o : Option Addr} {R : Ending → World → Prop} {w : World} (hT : T_wire_Out_Bytes o R w) : CallF P F_wire_Out_Bytes #[(Value.pointer o)] w R :=
 fn_of_tr (fn := Tryz.f171) (c := (Tryz.f171.body).getD .skip) (ann := ann_wire_Out_Bytes) (args := [(0, (Value.pointer o))]) (qs := qs) mixed Tryz.func171 rfl (by kernel_rfl) (by kernel_rfl) ok_wire_Out_Bytes ((eq_wire_Out_Bytes o R w).symm ▸ hT)
end Go.Proofs.YtbmegmbnlajbbaaGreatDoor
namespace Go.Proofs.YtbmegmbnlajbbaaGreatDoor
open Go Go.Fw Go.Proofs
set_option maxRecDepth 100000
def ann_strings_Join : Ann := (.seq .leaf (.seq (.seq .leaf (.blk (.seq .leaf (.cond (.seq .leaf .leaf) (.seq .leaf (.cond (.seq .leaf .leaf) .leaf)))))) (.seq .leaf (.join [(5, .int .i64)] (.seq .leaf (.cond (.join [] (.seq .leaf (.cond .leaf .leaf)) .leaf) .leaf)) (.seq (.seq .leaf (.blk (.loop [(5, .int .i64), (41, .int .i64)] (.seq .leaf (.seq (.cond .leaf .leaf) (.seq (.jblk [(5, .int .i64)] (.seq .leaf (.join [] (.seq .leaf (.cond .leaf .leaf)) .leaf))) .leaf)))))) (.seq .leaf (.seq .leaf (.seq .leaf (.seq (.seq .leaf (.blk (.loop [(65, .int .i64)] (.seq .leaf (.seq (.cond .leaf .leaf) (.seq (.blk (.seq .leaf (.seq .leaf .leaf))) .leaf)))))) (.seq .leaf .leaf))))))))))
theorem ok_strings_Join : okC P qs Tryz.f112.ntmps ((Tryz.f112.body).getD .skip) ann_strings_Join = true := by kernel_rfl
def T_strings_Join (elems : Option Addr) (elems_l elems_c : Nat) (sep : ByteArray) (R : Ending → World → Prop) (w : World) : Prop :=
  iteP ((elems_l : Int) == 0) (
  R (.returned (Value.string (ByteArray.mk #[]))) w) (
  iteP ((elems_l : Int) == 1) (
  ixS elems elems_l 1 0 fun t18 =>
  ld .str t18 w fun (t19 : ByteArray) =>
  R (.returned (Value.string t19)) w) (
  joinP Int (fun k =>
  iteP (decide ((sep.size : Int) > 0)) (
  joinP Unit (fun k_1 =>
  subI .i64 (elems_l : Int) 1 fun t27 =>
  quoI .i64 9223372036854775807 t27 fun t28 =>
  iteP (decide ((sep.size : Int) ≥ t28)) (
  genQ P (Instr.makeInterface y_string (Value.string (ByteArray.mk #[115, 116, 114, 105, 110, 103, 115, 58, 32, 74, 111, 105, 110, 32, 111, 117, 116, 112, 117, 116, 32, 108, 101, 110, 103, 116, 104, 32, 111, 118, 101, 114, 102, 108, 111, 119]))) .any w fun (_ : Value) =>
  False) (
  k_1 () w)) (fun _ w_1 =>
  subI .i64 (elems_l : Int) 1 fun t36 =>
  mulI .i64 (sep.size : Int) t36 fun t37 =>
  addI .i64 0 t37 fun t38 =>
  k t38 w_1)) (
  k 0 w)) (fun s_1 w_2 =>
  loopP (Int × Int) (fun s_2 w_3 k_2 =>
  iteP (decide (s_2.2 < (elems_l : Int))) (
  joinP Int (fun k_3 =>
  ixS elems elems_l 1 s_2.2 fun t43 =>
  ld .str t43 w_3 fun (t44 : ByteArray) =>
  joinP Unit (fun k_4 =>
  subI .i64 9223372036854775807 s_2.1 fun t48 =>
  iteP (decide ((t44.size : Int) > t48)) (
  genQ P (Instr.makeInterface y_string (Value.string (ByteArray.mk #[115, 116, 114, 105, 110, 103, 115, 58, 32, 74, 111, 105, 110, 32, 111, 117, 116, 112, 117, 116, 32, 108, 101, 110, 103, 116, 104, 32, 111, 118, 101, 114, 102, 108, 111, 119]))) .any w_3 fun (_ : Value) =>
  False) (
  k_4 () w_3)) (fun _ w_4 =>
  addI .i64 s_2.1 (t44.size : Int) fun t54 =>
  k_3 t54 w_4)) (fun s_4 w_5 =>
  addI .i64 s_2.2 1 fun t55 =>
  k_2 (s_4, t55) w_5)) (
  newB (zc P y_strings_Builder) y_strings_Builder w_3 fun b8 w_6 =>
  callF P F_strings_Builder_Grow #[(Value.pointer (some (⟨b8, 0, none⟩ : Addr))), (Value.int .i64 s_2.1)] [] true w_6 fun (_ : Unit) w_7 =>
  ixS elems elems_l 1 0 fun t59 =>
  ld .str t59 w_7 fun (t60 : ByteArray) =>
  callF P F_strings_Builder_WriteString #[(Value.pointer (some (⟨b8, 0, none⟩ : Addr))), (Value.string t60)] [.int .i64, .any] true w_7 fun (_ : (Int × Value)) w_8 =>
  genQ P (Instr.sliceAt y_S_string (Value.slice elems elems_l elems_c) (some (Value.int .i64 1)) none none) .slc w_8 fun (t63 : (Option Addr × Nat × Nat)) =>
  loopP Int (fun s_5 w_9 k_5 =>
  iteP (decide (s_5 < (t63.2.1 : Int))) (
  ixS t63.1 t63.2.1 1 s_5 fun t67 =>
  ld .str t67 w_9 fun (t68 : ByteArray) =>
  callF P F_strings_Builder_WriteString #[(Value.pointer (some (⟨b8, 0, none⟩ : Addr))), (Value.string sep)] [.int .i64, .any] true w_9 fun (_ : (Int × Value)) w_10 =>
  callF P F_strings_Builder_WriteString #[(Value.pointer (some (⟨b8, 0, none⟩ : Addr))), (Value.string t68)] [.int .i64, .any] true w_10 fun (_ : (Int × Value)) w_11 =>
  addI .i64 s_5 1 fun t73 =>
  k_5 t73 w_11) (
  callF P F_strings_Builder_String #[(Value.pointer (some (⟨b8, 0, none⟩ : Addr)))] [.str] false w_9 fun (t74 : ByteArray) w_12 =>
  R (.returned (Value.string t74)) w_12)) 0 w_8)) (s_1, 0) w_2)))
theorem eq_strings_Join (elems : Option Addr) (elems_l elems_c : Nat) (sep : ByteArray) (R : Ending → World → Prop) (w : World) : tr P qs ((Tryz.f112.body).getD .skip) ann_strings_Join (env0 0 [(0, (Value.slice elems elems_l elems_c)), (0, (Value.string sep))]) (topK P Tryz.f112.results.toList R) w = T_strings_Join elems elems_l elems_c sep R w := by kernel_rfl
theorem fn_strings_Join {elems : Option Addr} {elems_l elems_c : Nat} {sep : ByteArray} {R : Ending → World → Prop} {w : World} (hT : T_strings_Join elems elems_l elems_c sep R w) : CallF P F_strings_Join #[(Value.slice elems elems_l elems_c), (Value.string sep)] w R :=
 fn_of_tr (fn := Tryz.f112) (c := (Tryz.f112.body).getD .skip) (ann := ann_strings_Join) (args := [(0, (Value.slice elems elems_l elems_c)), (0, (Value.string sep))]) (qs := qs) mixed Tryz.func112 rfl (by kernel_rfl) (by kernel_rfl) ok_strings_Join ((eq_strings_Join elems elems_l elems_c sep R w).symm ▸ hT)
def ann_strings_Builder_Grow : Ann := (.seq .leaf (.join [] (.seq .leaf (.cond .leaf .leaf)) (.seq (.tree (.op 0 [] (.op 1 [] (.op 2 [] (.op 5 [] (.op 6 [] (.op 7 [] (.op 11 [] (.op 3 [] (.op 4 [] (.op 8 [] (.op 9 [] (.op 10 [] (.op 12 [] .done)))))))))))))) (.cond .leaf .leaf))))
theorem ok_strings_Builder_Grow : okC P qs Tryz.f164.ntmps ((Tryz.f164.body).getD .skip) ann_strings_Builder_Grow = true := by kernel_rfl
def T_strings_Builder_Grow (b : Option Addr) (n : Int) (R : Ending → World → Prop) (w : World) : Prop :=
  callF P F_strings_Builder_copyCheck #[(Value.pointer b)] [] true w fun (_ : Unit) w_1 =>
  joinP Unit (fun k =>
  iteP (decide (n < 0)) (
  genQ P (Instr.makeInterface y_string (Value.string (ByteArray.mk #[115, 116, 114, 105, 110, 103, 115, 46, 66, 117, 105, 108, 100, 101, 114, 46, 71, 114, 111, 119, 58, 32, 110, 101, 103, 97, 116, 105, 118, 101, 32, 99, 111, 117, 110, 116]))) .any w_1 fun (_ : Value) =>
  False) (
  k () w_1)) (fun _ w_2 =>
  drewP w_2 fun w_3 =>
  withAddr b fun p =>
  withAddr b fun p_1 =>
  ld .slc (Addr.add p 1) w_3 fun (t12 : (Option Addr × Nat × Nat)) =>
  genQ P (Builtin.cap_ #[y_S_uint8] y_int #[(Value.slice t12.1 t12.2.1 t12.2.2)]) (.int .i64) w_3 fun (t13 : Int) =>
  ld .slc (Addr.add p_1 1) w_3 fun (t17 : (Option Addr × Nat × Nat)) =>
  subI .i64 t13 (t17.2.1 : Int) fun t19 =>
  iteP (decide (t19 < n)) (
  callF P F_strings_Builder_grow #[(Value.pointer b), (Value.int .i64 n)] [] true w_3 fun (_ : Unit) w_4 =>
  R (.returned (Value.tuple #[])) w_4) (
  R (.returned (Value.tuple #[])) w_3))
theorem eq_strings_Builder_Grow (b : Option Addr) (n : Int) (R : Ending → World → Prop) (w : World) : tr P qs ((Tryz.f164.body).getD .skip) ann_strings_Builder_Grow (env0 0 [(0, (Value.pointer b)), (0, (Value.int .i64 n))]) (topK P Tryz.f164.results.toList R) w = T_strings_Builder_Grow b n R w := by kernel_rfl
theorem fn_strings_Builder_Grow {b : Option Addr} {n : Int} {R : Ending → World → Prop} {w : World} (hT : T_strings_Builder_Grow b n R w) : CallF P F_strings_Builder_Grow #[(Value.pointer b), (Value.int .i64 n)] w R :=
 fn_of_tr (fn := Tryz.f164) (c := (Tryz.f164.body).getD .skip) (ann := ann_strings_Builder_Grow) (args := [(0, (Value.pointer b)), (0, (Value.int .i64 n))]) (qs := qs) mixed Tryz.func164 rfl (by kernel_rfl) (by kernel_rfl) ok_strings_Builder_Grow ((eq_strings_Builder_Grow b n R w).symm ▸ hT)
def ann_strings_Builder_WriteString : Ann := (.seq .leaf (.seq .leaf (.seq .leaf (.seq .leaf .leaf))))
theorem ok_strings_Builder_WriteString : okC P qs Tryz.f165.ntmps ((Tryz.f165.body).getD .skip) ann_strings_Builder_WriteString = true := by kernel_rfl
def T_strings_Builder_WriteString (b : Option Addr) (s : ByteArray) (R : Ending → World → Prop) (w : World) : Prop :=
  callF P F_strings_Builder_copyCheck #[(Value.pointer b)] [] true w fun (_ : Unit) w_1 =>
  withAddr b fun p =>
  ld .slc (Addr.add p 1) w_1 fun (t12 : (Option Addr × Nat × Nat)) =>
  genL P (Builtin.append_ #[y_S_uint8, y_string] y_S_uint8 #[(Value.slice t12.1 t12.2.1 t12.2.2), (Value.string s)]) .slc w_1 fun (t14 : (Option Addr × Nat × Nat)) w_2 =>
  withAddr b fun p_1 =>
  stC (Addr.add p_1 1) (Value.slice t14.1 t14.2.1 t14.2.2) w_2 fun w_3 =>
  R (.returned (Value.tuple #[(Value.int .i64 (s.size : Int)), Value.nilIface])) w_3
theorem eq_strings_Builder_WriteString (b : Option Addr) (s : ByteArray) (R : Ending → World → Prop) (w : World) : tr P qs ((Tryz.f165.body).getD .skip) ann_strings_Builder_WriteString (env0 0 [(0, (Value.pointer b)), (0, (Value.string s))]) (topK P Tryz.f165.results.toList R) w = T_strings_Builder_WriteString b s R w := by kernel_rfl
theorem fn_strings_Builder_WriteString {b : Option Addr} {s : ByteArray} {R : Ending → World → Prop} {w : World} (hT : T_strings_Builder_WriteString b s R w) : CallF P F_strings_Builder_WriteString #[(Value.pointer b), (Value.string s)] w R :=
 fn_of_tr (fn := Tryz.f165) (c := (Tryz.f165.body).getD .skip) (ann := ann_strings_Builder_WriteString) (args := [(0, (Value.pointer b)), (0, (Value.string s))]) (qs := qs) mixed Tryz.func165 rfl (by kernel_rfl) (by kernel_rfl) ok_strings_Builder_WriteString ((eq_strings_Builder_WriteString b s R w).symm ▸ hT)
def ann_strings_Builder_String : Ann := (.seq .leaf (.seq (.tree (.op 0 [] (.op 1 [] (.op 2 [] (.op 5 [] (.op 6 [] (.op 7 [] (.op 3 [] (.op 8 [] (.op 9 [] (.op 4 [8] (.op 10 [] (.op 11 [] .done))))))))))))) .leaf))
theorem ok_strings_Builder_String : okC P qs Tryz.f166.ntmps ((Tryz.f166.body).getD .skip) ann_strings_Builder_String = true := by kernel_rfl
def T_strings_Builder_String (b : Option Addr) (R : Ending → World → Prop) (w : World) : Prop :=
  drewP w fun w_1 =>
  withAddr b fun p =>
  withAddr b fun p_1 =>
  ld .slc (Addr.add p 1) w_1 fun (t6 : (Option Addr × Nat × Nat)) =>
  ld .slc (Addr.add p_1 1) w_1 fun (t11 : (Option Addr × Nat × Nat)) =>
  genL P (Builtin.unsafeSliceData_ #[y_S_uint8] y_p_uint8 #[(Value.slice t6.1 t6.2.1 t6.2.2)]) .ptr w_1 fun (t7 : (Option Addr)) w_2 =>
  ((ld .slc (Addr.add p_1 1) w_2 fun (t11_1 : (Option Addr × Nat × Nat)) =>
  (Value.slice t11_1.1 t11_1.2.1 t11_1.2.2) = (Value.slice t11.1 t11.2.1 t11.2.2)) ∧
  genL P (Builtin.unsafeString_ #[y_p_uint8, y_int] y_string #[(Value.pointer t7), (Value.int .i64 (t11.2.1 : Int))]) .str w_2 fun (t13 : ByteArray) w_3 =>
  R (.returned (Value.string t13)) w_3)
theorem eq_strings_Builder_String (b : Option Addr) (R : Ending → World → Prop) (w : World) : tr P qs ((Tryz.f166.body).getD .skip) ann_strings_Builder_String (env0 0 [(0, (Value.pointer b))]) (topK P Tryz.f166.results.toList R) w = T_strings_Builder_String b R w := by kernel_rfl
theorem fn_strings_Builder_String {b : Option Addr} {R : Ending → World → Prop} {w : World} (hT : T_strings_Builder_String b R w) : CallF P F_strings_Builder_String #[(Value.pointer b)] w R :=
 fn_of_tr (fn := Tryz.f166) (c := (Tryz.f166.body).getD .skip) (ann := ann_strings_Builder_String) (args := [(0, (Value.pointer b))]) (qs := qs) mixed Tryz.func166 rfl (by kernel_rfl) (by kernel_rfl) ok_strings_Builder_String ((eq_strings_Builder_String b R w).symm ▸ hT)
def ann_strings_Cut : Ann := (.seq .leaf (.seq .leaf .leaf))
theorem ok_strings_Cut : okC P qs Tryz.f189.ntmps ((Tryz.f189.body).getD .skip) ann_strings_Cut = true := by kernel_rfl
def T_strings_Cut (s : ByteArray) (sep : ByteArray) (R : Ending → World → Prop) (w : World) : Prop :=
  callF P F_internal_stringslite_Cut #[(Value.string s), (Value.string sep)] [.str, .str, .bool] true w fun (t9 : (ByteArray × ByteArray × Bool)) w_1 =>
  R (.returned (Value.tuple #[(Value.string t9.1), (Value.string t9.2.1), (Value.bool t9.2.2)])) w_1
theorem eq_strings_Cut (s : ByteArray) (sep : ByteArray) (R : Ending → World → Prop) (w : World) : tr P qs ((Tryz.f189.body).getD .skip) ann_strings_Cut (env0 0 [(0, (Value.string s)), (0, (Value.string sep))]) (topK P Tryz.f189.results.toList R) w = T_strings_Cut s sep R w := by kernel_rfl
theorem fn_strings_Cut {s : ByteArray} {sep : ByteArray} {R : Ending → World → Prop} {w : World} (hT : T_strings_Cut s sep R w) : CallF P F_strings_Cut #[(Value.string s), (Value.string sep)] w R :=
 fn_of_tr (fn := Tryz.f189) (c := (Tryz.f189.body).getD .skip) (ann := ann_strings_Cut) (args := [(0, (Value.string s)), (0, (Value.string sep))]) (qs := qs) mixed Tryz.func189 rfl (by kernel_rfl) (by kernel_rfl) ok_strings_Cut ((eq_strings_Cut s sep R w).symm ▸ hT)
def ann_strings_Builder_copyCheck : Ann := (.seq .leaf (.cond .leaf (.seq .leaf (.cond .leaf .leaf))))
theorem ok_strings_Builder_copyCheck : okC P qs Tryz.f201.ntmps ((Tryz.f201.body).getD .skip) ann_strings_Builder_copyCheck = true := by kernel_rfl
def T_strings_Builder_copyCheck (b : Option Addr) (R : Ending → World → Prop) (w : World) : Prop :=
  withAddr b fun p =>
  ld .ptr p w fun (t5 : (Option Addr)) =>
  iteP (Option.isNone t5) (
  genL P (convert y_p_strings_Builder y_unsafe_Pointer (Value.pointer b)) .any w fun (t9 : Value) w_1 =>
  callF P F_internal_abi_NoEscape #[t9] [.any] false w_1 fun (t10 : Value) w_2 =>
  genL P (convert y_unsafe_Pointer y_p_strings_Builder t10) .ptr w_2 fun (t11 : (Option Addr)) w_3 =>
  withAddr b fun p_1 =>
  stC p_1 (Value.pointer t11) w_3 fun w_4 =>
  R (.returned (Value.tuple #[])) w_4) (
  withAddr b fun p_2 =>
  ld .ptr p_2 w fun (t17 : (Option Addr)) =>
  genQ P (eqM .neq y_p_strings_Builder (.tmp 17) (.tmp 18) (Value.pointer t17) (Value.pointer b)) .bool w fun (t19 : Bool) =>
  iteP t19 (
  False) (
  R (.returned (Value.tuple #[])) w))
theorem eq_strings_Builder_copyCheck (b : Option Addr) (R : Ending → World → Prop) (w : World) : tr P qs ((Tryz.f201.body).getD .skip) ann_strings_Builder_copyCheck (env0 0 [(0, (Value.pointer b))]) (topK P Tryz.f201.results.toList R) w = T_strings_Builder_copyCheck b R w := by kernel_rfl
theorem fn_strings_Builder_copyCheck {b : Option Addr} {R : Ending → World → Prop} {w : World} (hT : T_strings_Builder_copyCheck b R w) : CallF P F_strings_Builder_copyCheck #[(Value.pointer b)] w R :=
 fn_of_tr (fn := Tryz.f201) (c := (Tryz.f201.body).getD .skip) (ann := ann_strings_Builder_copyCheck) (args := [(0, (Value.pointer b))]) (qs := qs) mixed Tryz.func201 rfl (by kernel_rfl) (by kernel_rfl) ok_strings_Builder_copyCheck ((eq_strings_Builder_copyCheck b R w).symm ▸ hT)
def ann_strings_Builder_grow : Ann := (.seq (.tree (.op 0 [] (.op 1 [] (.op 2 [] (.op 6 [] (.op 9 [] (.op 10 [] (.op 11 [] (.op 3 [] (.op 4 [] (.op 5 [] (.op 7 [] (.op 12 [] (.op 13 [] (.op 8 [12] (.op 14 [] (.op 15 [] .done))))))))))))))))) (.seq .leaf .leaf))
theorem ok_strings_Builder_grow : okC P qs Tryz.f202.ntmps ((Tryz.f202.body).getD .skip) ann_strings_Builder_grow = true := by kernel_rfl
def T_strings_Builder_grow (b : Option Addr) (n : Int) (R : Ending → World → Prop) (w : World) : Prop :=
  drewP w fun w_1 =>
  withAddr b fun p =>
  withAddr b fun p_1 =>
  ld .slc (Addr.add p 1) w_1 fun (t8 : (Option Addr × Nat × Nat)) =>
  genQ P (Builtin.cap_ #[y_S_uint8] y_int #[(Value.slice t8.1 t8.2.1 t8.2.2)]) (.int .i64) w_1 fun (t9 : Int) =>
  mulI .i64 2 t9 fun t10 =>
  addI .i64 t10 n fun t12 =>
  ld .slc (Addr.add p_1 1) w_1 fun (t17 : (Option Addr × Nat × Nat)) =>
  callF P F_internal_bytealg_MakeNoZero #[(Value.int .i64 t12)] [.slc] false w_1 fun (t13 : (Option Addr × Nat × Nat)) w_2 =>
  ((ld .slc (Addr.add p_1 1) w_2 fun (t17_1 : (Option Addr × Nat × Nat)) =>
  (Value.slice t17_1.1 t17_1.2.1 t17_1.2.2) = (Value.slice t17.1 t17.2.1 t17.2.2)) ∧
  genQ P (Instr.sliceAt y_S_uint8 (Value.slice t13.1 t13.2.1 t13.2.2) none (some (Value.int .i64 (t17.2.1 : Int))) none) .slc w_2 fun (t19 : (Option Addr × Nat × Nat)) =>
  withAddr b fun p_2 =>
  ld .slc (Addr.add p_2 1) w_2 fun (t24 : (Option Addr × Nat × Nat)) =>
  genL P (Builtin.copy_ #[y_S_uint8, y_S_uint8] y_int #[(Value.slice t19.1 t19.2.1 t19.2.2), (Value.slice t24.1 t24.2.1 t24.2.2)]) (.int .i64) w_2 fun (_ : Int) w_3 =>
  withAddr b fun p_3 =>
  stC (Addr.add p_3 1) (Value.slice t19.1 t19.2.1 t19.2.2) w_3 fun w_4 =>
  R (.returned (Value.tuple #[])) w_4)
theorem eq_strings_Builder_grow (b : Option Addr) (n : Int) (R : Ending → World → Prop) (w : World) : tr P qs ((Tryz.f202.body).getD .skip) ann_strings_Builder_grow (env0 0 [(0, (Value.pointer b)), (0, (Value.int .i64 n))]) (topK P Tryz.f202.results.toList R) w = T_strings_Builder_grow b n R w := by kernel_rfl
theorem fn_strings_Builder_grow {b : Option Addr} {n : Int} {R : Ending → World → Prop} {w : World} (hT : T_strings_Builder_grow b n R w) : CallF P F_strings_Builder_grow #[(Value.pointer b), (Value.int .i64 n)] w R :=
 fn_of_tr (fn := Tryz.f202) (c := (Tryz.f202.body).getD .skip) (ann := ann_strings_Builder_grow) (args := [(0, (Value.pointer b)), (0, (Value.int .i64 n))]) (qs := qs) mixed Tryz.func202 rfl (by kernel_rfl) (by kernel_rfl) ok_strings_Builder_grow ((eq_strings_Builder_grow b n R w).symm ▸ hT)
def ann_internal_stringslite_Cut : Ann := (.seq .leaf (.seq (.seq .leaf (.seq .leaf (.cond (.seq (.tree (.op 0 [] (.op 1 [] (.op 3 [] (.op 4 [] (.op 5 [] (.op 6 [] (.op 7 [] (.op 2 [] (.op 9 [] (.op 8 [] (.op 10 [] (.op 11 [] .done))))))))))))) .leaf) .leaf))) (.seq .leaf .leaf)))
theorem ok_internal_stringslite_Cut : okC P qs Tryz.f216.ntmps ((Tryz.f216.body).getD .skip) ann_internal_stringslite_Cut = true := by kernel_rfl
def T_internal_stringslite_Cut (s : ByteArray) (sep : ByteArray) (R : Ending → World → Prop) (w : World) : Prop :=
  callF P F_internal_stringslite_Index #[(Value.string s), (Value.string sep)] [.int .i64] false w fun (t10 : Int) w_1 =>
  iteP (decide (t10 ≥ 0)) (
  drewP w_1 fun w_2 =>
  addI .i64 t10 (sep.size : Int) fun t20 =>
  genQ P (Instr.sliceAt y_string (Value.string s) none (some (Value.int .i64 t10)) none) .str w_2 fun (t15 : ByteArray) =>
  genQ P (Instr.sliceAt y_string (Value.string s) (some (Value.int .i64 t20)) none none) .str w_2 fun (t21 : ByteArray) =>
  R (.returned (Value.tuple #[(Value.string t15), (Value.string t21), (Value.bool true)])) w_2) (
  R (.returned (Value.tuple #[(Value.string s), (Value.string (ByteArray.mk #[])), (Value.bool false)])) w_1)
theorem eq_internal_stringslite_Cut (s : ByteArray) (sep : ByteArray) (R : Ending → World → Prop) (w : World) : tr P qs ((Tryz.f216.body).getD .skip) ann_internal_stringslite_Cut (env0 0 [(0, (Value.string s)), (0, (Value.string sep))]) (topK P Tryz.f216.results.toList R) w = T_internal_stringslite_Cut s sep R w := by kernel_rfl
theorem fn_internal_stringslite_Cut {s : ByteArray} {sep : ByteArray} {R : Ending → World → Prop} {w : World} (hT : T_internal_stringslite_Cut s sep R w) : CallF P F_internal_stringslite_Cut #[(Value.string s), (Value.string sep)] w R :=
 fn_of_tr (fn := Tryz.f216) (c := (Tryz.f216.body).getD .skip) (ann := ann_internal_stringslite_Cut) (args := [(0, (Value.string s)), (0, (Value.string sep))]) (qs := qs) mixed Tryz.func216 rfl (by kernel_rfl) (by kernel_rfl) ok_internal_stringslite_Cut ((eq_internal_stringslite_Cut s sep R w).symm ▸ hT)
theorem x_internal_abi_NoEscape {e : Array Value → Sem Value} (he : Extern.find Tryz.f222 = some e) (args : Array Value) (w : World) : (callFunc F_internal_abi_NoEscape args).run P w = ((e args).run P w).andThen fun v w1 => .ok (.value v) w1 :=
 Go.run_callFunc_extern Tryz.func222 (by kernel_rfl) (by kernel_rfl) (by kernel_rfl) he args w
theorem x_internal_bytealg_MakeNoZero {e : Array Value → Sem Value} (he : Extern.find Tryz.f223 = some e) (args : Array Value) (w : World) : (callFunc F_internal_bytealg_MakeNoZero args).run P w = ((e args).run P w).andThen fun v w1 => .ok (.value v) w1 :=
 Go.run_callFunc_extern Tryz.func223 (by kernel_rfl) (by kernel_rfl) (by kernel_rfl) he args w
def ann_internal_stringslite_Index : Ann := (.seq .leaf (.seq .leaf (.join [] (.jblk [] (.seq .leaf (.cond (.seq .leaf .leaf) (.seq .leaf (.cond (.seq .leaf .leaf) (.seq .leaf (.cond (.seq .leaf .leaf) (.seq .leaf (.cond (.seq .leaf .leaf) .leaf))))))))) (.seq .leaf (.seq .leaf (.seq .leaf (.seq .leaf (.seq .leaf (.seq (.blk (.loop [(8, .int .i64), (10, .int .i64)] (.seq (.seq .leaf (.cond .leaf .leaf)) (.jblk [(8, .int .i64), (10, .int .i64)] (.join [(8, .int .i64)] (.seq .leaf (.cond (.seq .leaf (.seq (.seq .leaf (.cond (.seq .leaf .leaf) .leaf)) .leaf)) .leaf)) (.join [] (.seq .leaf (.cond (.seq .leaf .leaf) .leaf)) (.seq .leaf (.seq .leaf (.join [(107, .bool)] .leaf (.cond (.seq .leaf (.seq (.seq .leaf (.cond (.seq .leaf .leaf) .leaf)) (.seq .leaf .leaf))) (.seq .leaf (.cond (.seq .leaf (.seq (.seq .leaf (.cond (.seq .leaf .leaf) .leaf)) (.seq .leaf .leaf))) .leaf)))))))))))) (.seq .leaf .leaf))))))))))
theorem ok_internal_stringslite_Index : okC P qs Tryz.f228.ntmps ((Tryz.f228.body).getD .skip) ann_internal_stringslite_Index = true := by kernel_rfl
def T_internal_stringslite_Index (s : ByteArray) (substr : ByteArray) (R : Ending → World → Prop) (w : World) : Prop :=
  joinP Unit (fun k =>
  joinP Unit (fun k_1 =>
  iteP ((substr.size : Int) == 0) (
  R (.returned (Value.int .i64 0)) w) (
  iteP (substr.toList == s.toList) (
  R (.returned (Value.int .i64 0)) w) (
  iteP ((substr.size : Int) == 1) (
  ixStr substr 0 fun t29 =>
  callF P F_internal_stringslite_IndexByte #[(Value.string s), (Value.int .u8 t29)] [.int .i64] false w fun (t30 : Int) w_1 =>
  R (.returned (Value.int .i64 t30)) w_1) (
  iteP (decide ((substr.size : Int) ≥ (s.size : Int))) (
  R (.returned (Value.int .i64 (-1))) w) (
  ld (.int .i64) (⟨1, 0, none⟩ : Addr) w fun (t38 : Int) =>
  iteP (decide ((substr.size : Int) ≤ t38)) (
  iteP (decide ((s.size : Int) ≤ 64)) (
  callF P F_internal_bytealg_IndexString #[(Value.string s), (Value.string substr)] [.int .i64] false w fun (t47 : Int) w_2 =>
  R (.returned (Value.int .i64 t47)) w_2) (
  k_1 () w)) (
  k_1 () w)))))) (fun _ w_3 =>
  k () w_3)) (fun _ w_4 =>
  ixStr substr 0 fun t49 =>
  ixStr substr 1 fun t51 =>
  subI .i64 (s.size : Int) (substr.size : Int) fun t55 =>
  addI .i64 t55 1 fun t56 =>
  loopP (Int × Int) (fun s_3 w_5 k_2 =>
  iteP (decide (s_3.1 < t56)) (
  joinP (Int × Int) (fun k_3 =>
  joinP Int (fun k_4 =>
  ixStr s s_3.1 fun t62 =>
  iteP (t62 != t49) (
  addI .i64 s_3.1 1 fun t67 =>
  genQ P (Instr.sliceAt y_string (Value.string s) (some (Value.int .i64 t67)) (some (Value.int .i64 t56)) none) .str w_5 fun (t69 : ByteArray) =>
  callF P F_internal_stringslite_IndexByte #[(Value.string t69), (Value.int .u8 t49)] [.int .i64] false w_5 fun (t71 : Int) w_6 =>
  iteP (decide (t71 < 0)) (
  R (.returned (Value.int .i64 (-1))) w_6) (
  addI .i64 t71 1 fun t76 =>
  addI .i64 s_3.1 t76 fun t77 =>
  k_4 t77 w_6)) (
  k_4 s_3.1 w_5)) (fun s_4 w_7 =>
  joinP Unit (fun k_5 =>
  addI .i64 s_4 1 fun t80 =>
  ixStr s t80 fun t81 =>
  iteP (t81 == t51) (
  addI .i64 s_4 (substr.size : Int) fun t89 =>
  genQ P (Instr.sliceAt y_string (Value.string s) (some (Value.int .i64 s_4)) (some (Value.int .i64 t89)) none) .str w_7 fun (t90 : ByteArray) =>
  iteP (t90.toList == substr.toList) (
  R (.returned (Value.int .i64 s_4)) w_7) (
  k_5 () w_7)) (
  k_5 () w_7)) (fun _ w_8 =>
  addI .i64 s_4 1 fun t96 =>
  addI .i64 s_3.2 1 fun t98 =>
  joinP Bool (fun k_6 =>
  ld (.int .i64) (⟨1, 0, none⟩ : Addr) w_8 fun (t100 : Int) =>
  iteP (decide ((substr.size : Int) ≤ t100)) (
  callF P F_internal_bytealg_Cutover #[(Value.int .i64 t96)] [.int .i64] false w_8 fun (t105 : Int) w_9 =>
  k_6 (decide (t98 > t105)) w_9) (
  k_6 false w_8)) (fun s_6 w_10 =>
  iteP s_6 (
  genQ P (Instr.sliceAt y_string (Value.string s) (some (Value.int .i64 t96)) none none) .str w_10 fun (t110 : ByteArray) =>
  callF P F_internal_bytealg_IndexString #[(Value.string t110), (Value.string substr)] [.int .i64] false w_10 fun (t112 : Int) w_11 =>
  iteP (decide (t112 ≥ 0)) (
  addI .i64 t112 t96 fun t117 =>
  R (.returned (Value.int .i64 t117)) w_11) (
  R (.returned (Value.int .i64 (-1))) w_11)) (
  ld (.int .i64) (⟨1, 0, none⟩ : Addr) w_10 fun (t119 : Int) =>
  iteP (decide ((substr.size : Int) > t119)) (
  shrI .i64 t96 4 fun t124 =>
  addI .i64 4 t124 fun t125 =>
  iteP (decide (t98 ≥ t125)) (
  iteP (decide (t96 < t56)) (
  genQ P (Instr.sliceAt y_string (Value.string s) (some (Value.int .i64 t96)) none none) .str w_10 fun (t135 : ByteArray) =>
  callF P F_internal_bytealg_IndexRabinKarp_string #[(Value.string t135), (Value.string substr)] [.int .i64] false w_10 fun (t137 : Int) w_12 =>
  iteP (decide (t137 < 0)) (
  R (.returned (Value.int .i64 (-1))) w_12) (
  addI .i64 t96 t137 fun t142 =>
  R (.returned (Value.int .i64 t142)) w_12)) (
  k_3 (t96, t98) w_10)) (
  k_3 (t96, t98) w_10)) (
  k_3 (t96, t98) w_10)))))) (fun s_7 w_13 =>
  k_2 (s_7.1, s_7.2) w_13)) (
  R (.returned (Value.int .i64 (-1))) w_5)) (0, 0) w_4)
theorem eq_internal_stringslite_Index (s : ByteArray) (substr : ByteArray) (R : Ending → World → Prop) (w : World) : tr P qs ((Tryz.f228.body).getD .skip) ann_internal_stringslite_Index (env0 0 [(0, (Value.string s)), (0, (Value.string substr))]) (topK P Tryz.f228.results.toList R) w = T_internal_stringslite_Index s substr R w := by kernel_rfl
theorem fn_internal_stringslite_Index {s : ByteArray} {substr : ByteArray} {R : Ending → World → Prop} {w : World} (hT : T_internal_stringslite_Index s substr R w) : CallF P F_internal_stringslite_Index #[(Value.string s), (Value.string substr)] w R :=
 fn_of_tr (fn := Tryz.f228) (c := (Tryz.f228.body).getD .skip) (ann := ann_internal_stringslite_Index) (args := [(0, (Value.string s)), (0, (Value.string substr))]) (qs := qs) mixed Tryz.func228 rfl (by kernel_rfl) (by kernel_rfl) ok_internal_stringslite_Index ((eq_internal_stringslite_Index s substr R w).symm ▸ hT)
def ann_internal_stringslite_IndexByte : Ann := (.seq .leaf (.seq .leaf .leaf))
theorem ok_internal_stringslite_IndexByte : okC P qs Tryz.f231.ntmps ((Tryz.f231.body).getD .skip) ann_internal_stringslite_IndexByte = true := by kernel_rfl
def T_internal_stringslite_IndexByte (s : ByteArray) (c : Int) (R : Ending → World → Prop) (w : World) : Prop :=
  callF P F_internal_bytealg_IndexByteString #[(Value.string s), (Value.int .u8 c)] [.int .i64] false w fun (t7 : Int) w_1 =>
  R (.returned (Value.int .i64 t7)) w_1
theorem eq_internal_stringslite_IndexByte (s : ByteArray) (c : Int) (R : Ending → World → Prop) (w : World) : tr P qs ((Tryz.f231.body).getD .skip) ann_internal_stringslite_IndexByte (env0 0 [(0, (Value.string s)), (0, (Value.int .u8 c))]) (topK P Tryz.f231.results.toList R) w = T_internal_stringslite_IndexByte s c R w := by kernel_rfl
theorem fn_internal_stringslite_IndexByte {s : ByteArray} {c : Int} {R : Ending → World → Prop} {w : World} (hT : T_internal_stringslite_IndexByte s c R w) : CallF P F_internal_stringslite_IndexByte #[(Value.string s), (Value.int .u8 c)] w R :=
 fn_of_tr (fn := Tryz.f231) (c := (Tryz.f231.body).getD .skip) (ann := ann_internal_stringslite_IndexByte) (args := [(0, (Value.string s)), (0, (Value.int .u8 c))]) (qs := qs) mixed Tryz.func231 rfl (by kernel_rfl) (by kernel_rfl) ok_internal_stringslite_IndexByte ((eq_internal_stringslite_IndexByte s c R w).symm ▸ hT)
theorem x_internal_bytealg_IndexByteString {e : Array Value → Sem Value} (he : Extern.find Tryz.f235 = some e) (args : Array Value) (w : World) : (callFunc F_internal_bytealg_IndexByteString args).run P w = ((e args).run P w).andThen fun v w1 => .ok (.value v) w1 :=
 Go.run_callFunc_extern Tryz.func235 (by kernel_rfl) (by kernel_rfl) (by kernel_rfl) he args w
end Go.Proofs.YtbmegmbnlajbbaaGreatDoor
namespace Go.Proofs.YtbmegmbnlajbbaaGreatDoor
open Go Go.Fw Go.Proofs
set_option maxRecDepth 100000
def ann_node_Decode : Ann := (.seq .leaf (.seq .leaf (.seq .leaf (.join [] (.seq .leaf (.cond (.seq .leaf .leaf) .leaf)) (.seq .leaf .leaf)))))
theorem ok_node_Decode : okC P qs Tryz.f85.ntmps ((Tryz.f85.body).getD .skip) ann_node_Decode = true := by kernel_rfl
def T_node_Decode (b : Option Addr) (b_l b_c : Nat) (R : Ending → World → Prop) (w : World) : Prop :=
  newB (zc P y_api_Node) y_api_Node w fun b2 w_1 =>
  callF P F_wire_Read #[(Value.slice b b_l b_c)] [.ptr] false w_1 fun (t7 : (Option Addr)) w_2 =>
  callF P F_node_read #[(Value.pointer t7)] [.any] false w_2 fun (t9 : Value) w_3 =>
  newB (zc P y_api_Node) y_api_Node w_3 fun b5 w_4 =>
  genU P (storeVar y_api_Node (⟨b5, 0, none⟩ : Addr) t9) w_4 fun w_5 =>
  joinP Unit (fun k =>
  callF P F_wire_In_End #[(Value.pointer t7)] [.bool] false w_5 fun (t11 : Bool) w_6 =>
  iteP (!t11) (
  genQ P (Instr.build y_api_Node #[]) .any w_6 fun (t18 : Value) =>
  genU P (storeVar y_api_Node (⟨b2, 0, none⟩ : Addr) t18) w_6 fun w_7 =>
  ldA P 5 (⟨b2, 0, none⟩ : Addr) w_7 fun t2 =>
  R (.returned (Value.tuple #[(Value.agg t2), (Value.int .i64 21)])) w_7) (
  ldA P 5 (⟨b5, 0, none⟩ : Addr) w_6 fun t14 =>
  callF P F_node_right #[(Value.agg t14)] [.bool] false w_6 fun (t15 : Bool) w_8 =>
  iteP (!t15) (
  genQ P (Instr.build y_api_Node #[]) .any w_8 fun (t18_1 : Value) =>
  genU P (storeVar y_api_Node (⟨b2, 0, none⟩ : Addr) t18_1) w_8 fun w_9 =>
  ldA P 5 (⟨b2, 0, none⟩ : Addr) w_9 fun t2_1 =>
  R (.returned (Value.tuple #[(Value.agg t2_1), (Value.int .i64 21)])) w_9) (
  k () w_8))) (fun _ w_10 =>
  ldA P 5 (⟨b5, 0, none⟩ : Addr) w_10 fun t19 =>
  genU P (storeVar y_api_Node (⟨b2, 0, none⟩ : Addr) (Value.agg t19)) w_10 fun w_11 =>
  ldA P 5 (⟨b2, 0, none⟩ : Addr) w_11 fun t2_2 =>
  R (.returned (Value.tuple #[(Value.agg t2_2), (Value.int .i64 0)])) w_11)
theorem eq_node_Decode (b : Option Addr) (b_l b_c : Nat) (R : Ending → World → Prop) (w : World) : tr P qs ((Tryz.f85.body).getD .skip) ann_node_Decode (env0 0 [(0, (Value.slice b b_l b_c))]) (topK P Tryz.f85.results.toList R) w = T_node_Decode b b_l b_c R w := by kernel_rfl
theorem fn_node_Decode {b : Option Addr} {b_l b_c : Nat} {R : Ending → World → Prop} {w : World} (hT : T_node_Decode b b_l b_c R w) : CallF P F_node_Decode #[(Value.slice b b_l b_c)] w R :=
 fn_of_tr (fn := Tryz.f85) (c := (Tryz.f85.body).getD .skip) (ann := ann_node_Decode) (args := [(0, (Value.slice b b_l b_c))]) (qs := qs) mixed Tryz.func85 rfl (by kernel_rfl) (by kernel_rfl) ok_node_Decode ((eq_node_Decode b b_l b_c R w).symm ▸ hT)
def ann_node_Kids : Ann := (.seq .leaf (.seq .leaf (.seq (.seq .leaf (.blk (.loop [(3, .slc), (9, .int .i64)] (.seq .leaf (.seq (.cond .leaf .leaf) (.seq (.blk (.seq .leaf .leaf)) .leaf)))))) (.seq .leaf .leaf))))
theorem ok_node_Kids : okC P qs Tryz.f96.ntmps ((Tryz.f96.body).getD .skip) ann_node_Kids = true := by kernel_rfl
def T_node_Kids (n : Value) (R : Ending → World → Prop) (w : World) : Prop :=
  newB (Value.cells n) y_api_Node w fun b1 w_1 =>
  ld .slc (⟨b1, 3, none⟩ : Addr) w_1 fun (t7 : (Option Addr × Nat × Nat)) =>
  loopP ((Option Addr × Nat × Nat) × Int) (fun s w_2 k =>
  iteP (decide (s.2 < (t7.2.1 : Int))) (
  ixS t7.1 t7.2.1 32 s.2 fun t11 =>
  ldA P 32 t11 w_2 fun t12 =>
  newB (zc P y_api_Digest) y_api_Digest w_2 fun b5 w_3 =>
  genU P (storeVar y_api_Digest (⟨b5, 0, none⟩ : Addr) (Value.agg t12)) w_3 fun w_4 =>
  ldA P 32 (⟨b5, 0, none⟩ : Addr) w_4 fun t14 =>
  genQ P (Instr.build y_api_Item #[(1, (Value.int .i64 1)), (2, (Value.agg t14))]) .any w_4 fun (t15 : Value) =>
  genL P (Instr.buildSlice y_S_api_Item 1 #[(0, t15)]) .slc w_4 fun (t16 : (Option Addr × Nat × Nat)) w_5 =>
  genL P (Builtin.append_ #[y_S_api_Item, y_S_api_Item] y_S_api_Item #[(Value.slice s.1.1 s.1.2.1 s.1.2.2), (Value.slice t16.1 t16.2.1 t16.2.2)]) .slc w_5 fun (t17 : (Option Addr × Nat × Nat)) w_6 =>
  addI .i64 s.2 1 fun t18 =>
  k ((t17.1, t17.2.1, t17.2.2), t18) w_6) (
  ld .slc (⟨b1, 4, none⟩ : Addr) w_2 fun (t21 : (Option Addr × Nat × Nat)) =>
  genL P (Builtin.append_ #[y_S_api_Item, y_S_api_Item] y_S_api_Item #[(Value.slice s.1.1 s.1.2.1 s.1.2.2), (Value.slice t21.1 t21.2.1 t21.2.2)]) .slc w_2 fun (t22 : (Option Addr × Nat × Nat)) w_7 =>
  R (.returned (Value.slice t22.1 t22.2.1 t22.2.2)) w_7)) ((none, 0, 0), 0) w_1
theorem eq_node_Kids (n : Value) (R : Ending → World → Prop) (w : World) : tr P qs ((Tryz.f96.body).getD .skip) ann_node_Kids (env0 0 [(1, n)]) (topK P Tryz.f96.results.toList R) w = T_node_Kids n R w := by kernel_rfl
theorem fn_node_Kids {n : Value} {R : Ending → World → Prop} {w : World} (hT : T_node_Kids n R w) : CallF P F_node_Kids #[n] w R :=
 fn_of_tr (fn := Tryz.f96) (c := (Tryz.f96.body).getD .skip) (ann := ann_node_Kids) (args := [(1, n)]) (qs := qs) mixed Tryz.func96 rfl (by kernel_rfl) (by kernel_rfl) ok_node_Kids ((eq_node_Kids n R w).symm ▸ hT)
def ann_node_Encode : Ann := (.seq .leaf (.seq (.seq .leaf (.cond (.seq .leaf .leaf) .leaf)) (.seq .leaf (.seq .leaf (.join [] (.seq .leaf (.jblk [] (.seq .leaf (.cond .leaf (.seq .leaf (.cond (.seq .leaf (.seq .leaf (.blk (.loop [(55, .int .i64)] (.seq .leaf (.seq (.cond .leaf .leaf) (.seq (.blk (.seq .leaf .leaf)) .leaf))))))) (.seq .leaf (.seq .leaf (.blk (.loop [(26, .int .i64)] (.seq .leaf (.seq (.cond .leaf .leaf) (.seq (.blk (.seq .leaf (.seq .leaf (.seq .leaf .leaf)))) .leaf))))))))))))) (.seq .leaf .leaf))))))
theorem ok_node_Encode : okC P qs Tryz.f114.ntmps ((Tryz.f114.body).getD .skip) ann_node_Encode = true := by kernel_rfl
def T_node_Encode (n : Value) (R : Ending → World → Prop) (w : World) : Prop :=
  newB (Value.cells n) y_api_Node w fun b1 w_1 =>
  ldA P 5 (⟨b1, 0, none⟩ : Addr) w_1 fun t9 =>
  callF P F_node_right #[(Value.agg t9)] [.bool] false w_1 fun (t10 : Bool) w_2 =>
  iteP (!t10) (
  R (.returned (Value.tuple #[(Value.slice none 0 0), (Value.int .i64 21)])) w_2) (
  newB (zc P y_wire_Out) y_wire_Out w_2 fun b4 w_3 =>
  ld (.int .i64) (⟨b1, 0, none⟩ : Addr) w_3 fun (t13 : Int) =>
  cvI .u64 t13 fun t14 =>
  callF P F_wire_Out_Num #[(Value.pointer (some (⟨b4, 0, none⟩ : Addr))), (Value.int .u64 t14)] [] true w_3 fun (_ : Unit) w_4 =>
  joinP Unit (fun k =>
  ld (.int .i64) (⟨b1, 0, none⟩ : Addr) w_4 fun (t17 : Int) =>
  joinP Unit (fun k_1 =>
  iteP (t17 == 1) (
  ld .str (⟨b1, 1, none⟩ : Addr) w_4 fun (t44 : ByteArray) =>
  callF P F_wire_Out_Text #[(Value.pointer (some (⟨b4, 0, none⟩ : Addr))), (Value.string t44)] [] true w_4 fun (_ : Unit) w_5 =>
  k_1 () w_5) (
  iteP (t17 == 2) (
  ld (.int .i64) (⟨b1, 2, none⟩ : Addr) w_4 fun (t49 : Int) =>
  cvI .u64 t49 fun t50 =>
  callF P F_wire_Out_Num #[(Value.pointer (some (⟨b4, 0, none⟩ : Addr))), (Value.int .u64 t50)] [] true w_4 fun (_ : Unit) w_6 =>
  ld .slc (⟨b1, 3, none⟩ : Addr) w_6 fun (t53 : (Option Addr × Nat × Nat)) =>
  loopP Int (fun s w_7 k_2 =>
  iteP (decide (s < (t53.2.1 : Int))) (
  ixS t53.1 t53.2.1 32 s fun t57 =>
  ldA P 32 t57 w_7 fun t58 =>
  newB (zc P y_api_Digest) y_api_Digest w_7 fun b6 w_8 =>
  genU P (storeVar y_api_Digest (⟨b6, 0, none⟩ : Addr) (Value.agg t58)) w_8 fun w_9 =>
  ldA P 32 (⟨b6, 0, none⟩ : Addr) w_9 fun t59 =>
  callF P F_wire_Out_Digest #[(Value.pointer (some (⟨b4, 0, none⟩ : Addr))), (Value.agg t59)] [] true w_9 fun (_ : Unit) w_10 =>
  addI .i64 s 1 fun t61 =>
  k_2 t61 w_10) (
  k_1 () w_7)) 0 w_6) (
  ld .slc (⟨b1, 4, none⟩ : Addr) w_4 fun (t19 : (Option Addr × Nat × Nat)) =>
  cvI .u64 (t19.2.1 : Int) fun t21 =>
  callF P F_wire_Out_Num #[(Value.pointer (some (⟨b4, 0, none⟩ : Addr))), (Value.int .u64 t21)] [] true w_4 fun (_ : Unit) w_11 =>
  ld .slc (⟨b1, 4, none⟩ : Addr) w_11 fun (t24 : (Option Addr × Nat × Nat)) =>
  loopP Int (fun s_1 w_12 k_3 =>
  iteP (decide (s_1 < (t24.2.1 : Int))) (
  ixS t24.1 t24.2.1 34 s_1 fun t28 =>
  ldA P 34 t28 w_12 fun t29 =>
  newB (zc P y_api_Item) y_api_Item w_12 fun b8 w_13 =>
  genU P (storeVar y_api_Item (⟨b8, 0, none⟩ : Addr) (Value.agg t29)) w_13 fun w_14 =>
  ld .str (⟨b8, 0, none⟩ : Addr) w_14 fun (t31 : ByteArray) =>
  callF P F_wire_Out_Text #[(Value.pointer (some (⟨b4, 0, none⟩ : Addr))), (Value.string t31)] [] true w_14 fun (_ : Unit) w_15 =>
  ld (.int .i64) (⟨b8, 1, none⟩ : Addr) w_15 fun (t34 : Int) =>
  cvI .u64 t34 fun t35 =>
  callF P F_wire_Out_Num #[(Value.pointer (some (⟨b4, 0, none⟩ : Addr))), (Value.int .u64 t35)] [] true w_15 fun (_ : Unit) w_16 =>
  ldA P 32 (⟨b8, 2, none⟩ : Addr) w_16 fun t38 =>
  callF P F_wire_Out_Digest #[(Value.pointer (some (⟨b4, 0, none⟩ : Addr))), (Value.agg t38)] [] true w_16 fun (_ : Unit) w_17 =>
  addI .i64 s_1 1 fun t40 =>
  k_3 t40 w_17) (
  k_1 () w_12)) 0 w_11))) (fun _ w_18 =>
  k () w_18)) (fun _ w_19 =>
  callF P F_wire_Out_Bytes #[(Value.pointer (some (⟨b4, 0, none⟩ : Addr)))] [.slc] false w_19 fun (t62 : (Option Addr × Nat × Nat)) w_20 =>
  R (.returned (Value.tuple #[(Value.slice t62.1 t62.2.1 t62.2.2), (Value.int .i64 0)])) w_20))
theorem eq_node_Encode (n : Value) (R : Ending → World → Prop) (w : World) : tr P qs ((Tryz.f114.body).getD .skip) ann_node_Encode (env0 0 [(1, n)]) (topK P Tryz.f114.results.toList R) w = T_node_Encode n R w := by kernel_rfl
theorem fn_node_Encode {n : Value} {R : Ending → World → Prop} {w : World} (hT : T_node_Encode n R w) : CallF P F_node_Encode #[n] w R :=
 fn_of_tr (fn := Tryz.f114) (c := (Tryz.f114.body).getD .skip) (ann := ann_node_Encode) (args := [(1, n)]) (qs := qs) mixed Tryz.func114 rfl (by kernel_rfl) (by kernel_rfl) ok_node_Encode ((eq_node_Encode n R w).symm ▸ hT)
def ann_wire_Read : Ann := (.seq .leaf (.seq .leaf .leaf))
theorem ok_wire_Read : okC P qs Tryz.f137.ntmps ((Tryz.f137.body).getD .skip) ann_wire_Read = true := by kernel_rfl
def T_wire_Read (b : Option Addr) (b_l b_c : Nat) (R : Ending → World → Prop) (w : World) : Prop :=
  genL P (Builtin.append_ #[y_S_uint8, y_S_uint8] y_S_uint8 #[(Value.slice none 0 0), (Value.slice b b_l b_c)]) .slc w fun (t4 : (Option Addr × Nat × Nat)) w_1 =>
  genQ P (Instr.build y_wire_In #[(0, (Value.slice t4.1 t4.2.1 t4.2.2))]) .any w_1 fun (t5 : Value) =>
  newB (Value.cells t5) y_wire_In w_1 fun b6 w_2 =>
  R (.returned (Value.pointer (some (⟨b6, 0, none⟩ : Addr)))) w_2
theorem eq_wire_Read (b : Option Addr) (b_l b_c : Nat) (R : Ending → World → Prop) (w : World) : tr P qs ((Tryz.f137.body).getD .skip) ann_wire_Read (env0 0 [(0, (Value.slice b b_l b_c))]) (topK P Tryz.f137.results.toList R) w = T_wire_Read b b_l b_c R w := by kernel_rfl
theorem fn_wire_Read {b : Option Addr} {b_l b_c : Nat} {R : Ending → World → Prop} {w : World} (hT : T_wire_Read b b_l b_c R w) : CallF P F_wire_Read #[(Value.slice b b_l b_c)] w R :=
 fn_of_tr (fn := Tryz.f137) (c := (Tryz.f137.body).getD .skip) (ann := ann_wire_Read) (args := [(0, (Value.slice b b_l b_c))]) (qs := qs) mixed Tryz.func137 rfl (by kernel_rfl) (by kernel_rfl) ok_wire_Read ((eq_wire_Read b b_l b_c R w).symm ▸ hT)
def ann_node_read : Ann := (.seq .leaf (.seq .leaf (.join [] (.seq .leaf (.jblk [] (.seq .leaf (.cond .leaf (.seq .leaf (.cond (.seq .leaf (.seq .leaf (.blk (.loop [(26, .int .i64)] (.seq .leaf (.seq (.cond .leaf .leaf) (.seq (.blk (.tree (.op 0 [] (.op 2 [] (.op 1 [] (.op 3 [1] (.op 4 [1] (.op 5 [] (.op 6 [] (.op 7 [] .done)))))))))) .leaf))))))) (.seq .leaf (.cond (.seq .leaf (.blk (.loop [(41, .int .u64)] (.seq .leaf (.seq (.cond .leaf .leaf) (.seq (.blk (.tree (.op 0 [] (.op 2 [] (.op 4 [] (.op 8 [] (.op 1 [] (.op 3 [1] (.op 5 [1] (.op 6 [] (.op 7 [] (.op 9 [1, 6] (.op 10 [] (.op 11 [1] (.op 12 [] (.op 13 [] (.op 14 [] .done))))))))))))))))) .leaf)))))) .leaf)))))))) (.seq .leaf .leaf))))
theorem ok_node_read : okC P qs Tryz.f138.ntmps ((Tryz.f138.body).getD .skip) ann_node_read = true := by kernel_rfl
def T_node_read (inv : Option Addr) (R : Ending → World → Prop) (w : World) : Prop :=
  newB (zc P y_api_Node) y_api_Node w fun b2 w_1 =>
  callF P F_wire_In_Num #[(Value.pointer inv)] [.int .u64] false w_1 fun (t5 : Int) w_2 =>
  genQ P (Builtin.min_ #[y_uint64, y_uint64] y_uint64 #[(Value.int .u64 t5), (Value.int .u64 9)]) (.int .u64) w_2 fun (t6 : Int) =>
  cvI .i64 t6 fun t7 =>
  genQ P (Instr.build y_api_Node #[(0, (Value.int .i64 t7))]) .any w_2 fun (t8 : Value) =>
  newB (zc P y_api_Node) y_api_Node w_2 fun b3 w_3 =>
  genU P (storeVar y_api_Node (⟨b3, 0, none⟩ : Addr) t8) w_3 fun w_4 =>
  joinP Unit (fun k =>
  ld (.int .i64) (⟨b3, 0, none⟩ : Addr) w_4 fun (t10 : Int) =>
  joinP Unit (fun k_1 =>
  iteP (t10 == 1) (
  callF P F_wire_In_Text #[(Value.pointer inv), (Value.int .i64 64)] [.str] false w_4 fun (t14 : ByteArray) w_5 =>
  stC (⟨b3, 1, none⟩ : Addr) (Value.string t14) w_5 fun w_6 =>
  k_1 () w_6) (
  iteP (t10 == 2) (
  callF P F_wire_In_Num #[(Value.pointer inv)] [.int .u64] false w_4 fun (t19 : Int) w_7 =>
  genQ P (Builtin.min_ #[y_uint64, y_uint64] y_uint64 #[(Value.int .u64 t19), (Value.int .u64 1025)]) (.int .u64) w_7 fun (t20 : Int) =>
  cvI .i64 t20 fun t21 =>
  stC (⟨b3, 2, none⟩ : Addr) (Value.int .i64 t21) w_7 fun w_8 =>
  ld (.int .i64) (⟨b3, 2, none⟩ : Addr) w_8 fun (t24 : Int) =>
  callF P F_node_parts #[(Value.int .i64 t24)] [.int .i64] false w_8 fun (t25 : Int) w_9 =>
  loopP Int (fun s w_10 k_2 =>
  iteP (decide (s < t25)) (
  drewP w_10 fun w_11 =>
  ld .slc (⟨b3, 3, none⟩ : Addr) w_11 fun (t29 : (Option Addr × Nat × Nat)) =>
  callF P F_wire_In_Digest #[(Value.pointer inv)] [.any] false w_11 fun (t31 : Value) w_12 =>
  ((ld .slc (⟨b3, 3, none⟩ : Addr) w_12 fun (t29_1 : (Option Addr × Nat × Nat)) =>
  (Value.slice t29_1.1 t29_1.2.1 t29_1.2.2) = (Value.slice t29.1 t29.2.1 t29.2.2)) ∧
  genL P (Instr.buildSlice y_S_api_Digest 1 #[(0, t31)]) .slc w_12 fun (t32 : (Option Addr × Nat × Nat)) w_13 =>
  ((ld .slc (⟨b3, 3, none⟩ : Addr) w_13 fun (t29_2 : (Option Addr × Nat × Nat)) =>
  (Value.slice t29_2.1 t29_2.2.1 t29_2.2.2) = (Value.slice t29.1 t29.2.1 t29.2.2)) ∧
  genL P (Builtin.append_ #[y_S_api_Digest, y_S_api_Digest] y_S_api_Digest #[(Value.slice t29.1 t29.2.1 t29.2.2), (Value.slice t32.1 t32.2.1 t32.2.2)]) .slc w_13 fun (t33 : (Option Addr × Nat × Nat)) w_14 =>
  stC (⟨b3, 3, none⟩ : Addr) (Value.slice t33.1 t33.2.1 t33.2.2) w_14 fun w_15 =>
  addI .i64 s 1 fun t35 =>
  k_2 t35 w_15))) (
  k_1 () w_10)) 0 w_9) (
  iteP (t10 == 3) (
  callF P F_wire_In_Num #[(Value.pointer inv)] [.int .u64] false w_4 fun (t39 : Int) w_16 =>
  genQ P (Builtin.min_ #[y_uint64, y_uint64] y_uint64 #[(Value.int .u64 t39), (Value.int .u64 65)]) (.int .u64) w_16 fun (t40 : Int) =>
  loopP Int (fun s_1 w_17 k_3 =>
  iteP (decide (s_1 < t40)) (
  drewP w_17 fun w_18 =>
  ld .slc (⟨b3, 4, none⟩ : Addr) w_18 fun (t44 : (Option Addr × Nat × Nat)) =>
  callF P F_wire_In_Text #[(Value.pointer inv), (Value.int .i64 16)] [.str] false w_18 fun (t46 : ByteArray) w_19 =>
  ((ld .slc (⟨b3, 4, none⟩ : Addr) w_19 fun (t44_1 : (Option Addr × Nat × Nat)) =>
  (Value.slice t44_1.1 t44_1.2.1 t44_1.2.2) = (Value.slice t44.1 t44.2.1 t44.2.2)) ∧
  callF P F_wire_In_Num #[(Value.pointer inv)] [.int .u64] false w_19 fun (t48 : Int) w_20 =>
  ((ld .slc (⟨b3, 4, none⟩ : Addr) w_20 fun (t44_2 : (Option Addr × Nat × Nat)) =>
  (Value.slice t44_2.1 t44_2.2.1 t44_2.2.2) = (Value.slice t44.1 t44.2.1 t44.2.2)) ∧
  genQ P (Builtin.min_ #[y_uint64, y_uint64] y_uint64 #[(Value.int .u64 t48), (Value.int .u64 9)]) (.int .u64) w_20 fun (t49 : Int) =>
  cvI .i64 t49 fun t50 =>
  callF P F_wire_In_Digest #[(Value.pointer inv)] [.any] false w_20 fun (t52 : Value) w_21 =>
  ((genQ P (Builtin.min_ #[y_uint64, y_uint64] y_uint64 #[(Value.int .u64 t48), (Value.int .u64 9)]) (.int .u64) w_21 fun (t49_1 : Int) =>
  (Value.int .u64 t49_1) = (Value.int .u64 t49)) ∧
  ((ld .slc (⟨b3, 4, none⟩ : Addr) w_21 fun (t44_3 : (Option Addr × Nat × Nat)) =>
  (Value.slice t44_3.1 t44_3.2.1 t44_3.2.2) = (Value.slice t44.1 t44.2.1 t44.2.2)) ∧
  genQ P (Instr.build y_api_Item #[(0, (Value.string t46)), (1, (Value.int .i64 t50)), (2, t52)]) .any w_21 fun (t53 : Value) =>
  genL P (Instr.buildSlice y_S_api_Item 1 #[(0, t53)]) .slc w_21 fun (t54 : (Option Addr × Nat × Nat)) w_22 =>
  ((ld .slc (⟨b3, 4, none⟩ : Addr) w_22 fun (t44_4 : (Option Addr × Nat × Nat)) =>
  (Value.slice t44_4.1 t44_4.2.1 t44_4.2.2) = (Value.slice t44.1 t44.2.1 t44.2.2)) ∧
  genL P (Builtin.append_ #[y_S_api_Item, y_S_api_Item] y_S_api_Item #[(Value.slice t44.1 t44.2.1 t44.2.2), (Value.slice t54.1 t54.2.1 t54.2.2)]) .slc w_22 fun (t55 : (Option Addr × Nat × Nat)) w_23 =>
  stC (⟨b3, 4, none⟩ : Addr) (Value.slice t55.1 t55.2.1 t55.2.2) w_23 fun w_24 =>
  addI .u64 s_1 1 fun t57 =>
  k_3 t57 w_24)))))) (
  k_1 () w_17)) 0 w_16) (
  k_1 () w_4)))) (fun _ w_25 =>
  k () w_25)) (fun _ w_26 =>
  ldA P 5 (⟨b3, 0, none⟩ : Addr) w_26 fun t58 =>
  genU P (storeVar y_api_Node (⟨b2, 0, none⟩ : Addr) (Value.agg t58)) w_26 fun w_27 =>
  ldA P 5 (⟨b2, 0, none⟩ : Addr) w_27 fun t2 =>
  R (.returned (Value.agg t2)) w_27)
theorem eq_node_read (inv : Option Addr) (R : Ending → World → Prop) (w : World) : tr P qs ((Tryz.f138.body).getD .skip) ann_node_read (env0 0 [(0, (Value.pointer inv))]) (topK P Tryz.f138.results.toList R) w = T_node_read inv R w := by kernel_rfl
theorem fn_node_read {inv : Option Addr} {R : Ending → World → Prop} {w : World} (hT : T_node_read inv R w) : CallF P F_node_read #[(Value.pointer inv)] w R :=
 fn_of_tr (fn := Tryz.f138) (c := (Tryz.f138.body).getD .skip) (ann := ann_node_read) (args := [(0, (Value.pointer inv))]) (qs := qs) mixed Tryz.func138 rfl (by kernel_rfl) (by kernel_rfl) ok_node_read ((eq_node_read inv R w).symm ▸ hT)
def ann_wire_In_End : Ann := (.seq .leaf (.seq .leaf .leaf))
theorem ok_wire_In_End : okC P qs Tryz.f139.ntmps ((Tryz.f139.body).getD .skip) ann_wire_In_End = true := by kernel_rfl
def T_wire_In_End (i : Option Addr) (R : Ending → World → Prop) (w : World) : Prop :=
  iteP (!(Option.isNone i)) (
  withAddr i fun p =>
  ld (.int .i64) (Addr.add p 1) w fun (t9 : Int) =>
  iteP (t9 == 0) (
  withAddr i fun p_1 =>
  ld .slc p_1 w fun (t16 : (Option Addr × Nat × Nat)) =>
  R (.returned (Value.bool ((t16.2.1 : Int) == 0))) w) (
  R (.returned (Value.bool false)) w)) (
  R (.returned (Value.bool false)) w)
theorem eq_wire_In_End (i : Option Addr) (R : Ending → World → Prop) (w : World) : tr P qs ((Tryz.f139.body).getD .skip) ann_wire_In_End (env0 0 [(0, (Value.pointer i))]) (topK P Tryz.f139.results.toList R) w = T_wire_In_End i R w := by kernel_rfl
theorem fn_wire_In_End {i : Option Addr} {R : Ending → World → Prop} {w : World} (hT : T_wire_In_End i R w) : CallF P F_wire_In_End #[(Value.pointer i)] w R :=
 fn_of_tr (fn := Tryz.f139) (c := (Tryz.f139.body).getD .skip) (ann := ann_wire_In_End) (args := [(0, (Value.pointer i))]) (qs := qs) mixed Tryz.func139 rfl (by kernel_rfl) (by kernel_rfl) ok_wire_In_End ((eq_wire_In_End i R w).symm ▸ hT)
def ann_node_right : Ann := (.seq .leaf (.seq (.seq .leaf (.blk (.seq .leaf (.cond (.seq .leaf .leaf) (.seq .leaf (.cond (.seq (.tree (.op 0 [] (.op 1 [] (.op 2 [] (.op 3 [] (.op 4 [] (.op 5 [] (.op 6 [] (.op 7 [] (.op 8 [] (.op 9 [] (.op 10 [] (.op 11 [] (.op 12 [] (.op 13 [] (.op 14 [] (.op 17 [] (.op 15 [] (.op 16 [] (.op 18 [] (.op 19 [15] (.op 20 [] (.op 21 [] (.op 22 [] (.op 23 [] (.op 24 [] (.op 25 [] (.op 26 [] (.op 27 [] (.op 28 [] .done)))))))))))))))))))))))))))))) .leaf) (.seq .leaf (.cond (.seq .leaf .leaf) .leaf)))))))) (.seq .leaf .leaf)))
theorem ok_node_right : okC P qs Tryz.f140.ntmps ((Tryz.f140.body).getD .skip) ann_node_right = true := by kernel_rfl
def T_node_right (n : Value) (R : Ending → World → Prop) (w : World) : Prop :=
  newB (Value.cells n) y_api_Node w fun b1 w_1 =>
  ld (.int .i64) (⟨b1, 0, none⟩ : Addr) w_1 fun (t4 : Int) =>
  iteP (t4 == 1) (
  ld .str (⟨b1, 1, none⟩ : Addr) w_1 fun (t8 : ByteArray) =>
  iteP (decide ((t8.size : Int) > 0)) (
  ld .str (⟨b1, 1, none⟩ : Addr) w_1 fun (t13 : ByteArray) =>
  iteP (decide ((t13.size : Int) ≤ 64)) (
  ld (.int .i64) (⟨b1, 2, none⟩ : Addr) w_1 fun (t19 : Int) =>
  iteP (t19 == 0) (
  ld .slc (⟨b1, 3, none⟩ : Addr) w_1 fun (t24 : (Option Addr × Nat × Nat)) =>
  iteP ((t24.2.1 : Int) == 0) (
  ld .slc (⟨b1, 4, none⟩ : Addr) w_1 fun (t30 : (Option Addr × Nat × Nat)) =>
  R (.returned (Value.bool ((t30.2.1 : Int) == 0))) w_1) (
  R (.returned (Value.bool false)) w_1)) (
  R (.returned (Value.bool false)) w_1)) (
  R (.returned (Value.bool false)) w_1)) (
  R (.returned (Value.bool false)) w_1)) (
  iteP (t4 == 2) (
  drewP w_1 fun w_2 =>
  ld .str (⟨b1, 1, none⟩ : Addr) w_2 fun (t37 : ByteArray) =>
  iteP (t37.toList == (ByteArray.mk #[]).toList) (
  ld (.int .i64) (⟨b1, 2, none⟩ : Addr) w_2 fun (t41 : Int) =>
  iteP (decide (t41 ≥ 0)) (
  ld (.int .i64) (⟨b1, 2, none⟩ : Addr) w_2 fun (t46 : Int) =>
  iteP (decide (t46 ≤ 1024)) (
  ld .slc (⟨b1, 3, none⟩ : Addr) w_2 fun (t51 : (Option Addr × Nat × Nat)) =>
  ld (.int .i64) (⟨b1, 2, none⟩ : Addr) w_2 fun (t54 : Int) =>
  callF P F_node_parts #[(Value.int .i64 t54)] [.int .i64] false w_2 fun (t55 : Int) w_3 =>
  ((ld .slc (⟨b1, 3, none⟩ : Addr) w_3 fun (t51_1 : (Option Addr × Nat × Nat)) =>
  (Value.slice t51_1.1 t51_1.2.1 t51_1.2.2) = (Value.slice t51.1 t51.2.1 t51.2.2)) ∧
  iteP ((t51.2.1 : Int) == t55) (
  ld .slc (⟨b1, 4, none⟩ : Addr) w_3 fun (t60 : (Option Addr × Nat × Nat)) =>
  R (.returned (Value.bool ((t60.2.1 : Int) == 0))) w_3) (
  R (.returned (Value.bool false)) w_3))) (
  ((undef = undef) ∧
  R (.returned (Value.bool false)) w_2))) (
  ((undef = undef) ∧
  R (.returned (Value.bool false)) w_2))) (
  ((undef = undef) ∧
  R (.returned (Value.bool false)) w_2))) (
  iteP (t4 == 3) (
  ld .str (⟨b1, 1, none⟩ : Addr) w_1 fun (t67 : ByteArray) =>
  iteP (t67.toList == (ByteArray.mk #[]).toList) (
  ld (.int .i64) (⟨b1, 2, none⟩ : Addr) w_1 fun (t71 : Int) =>
  iteP (t71 == 0) (
  ld .slc (⟨b1, 3, none⟩ : Addr) w_1 fun (t76 : (Option Addr × Nat × Nat)) =>
  iteP ((t76.2.1 : Int) == 0) (
  ld .slc (⟨b1, 4, none⟩ : Addr) w_1 fun (t82 : (Option Addr × Nat × Nat)) =>
  callF P F_node_rising #[(Value.slice t82.1 t82.2.1 t82.2.2)] [.bool] false w_1 fun (t83 : Bool) w_4 =>
  R (.returned (Value.bool t83)) w_4) (
  R (.returned (Value.bool false)) w_1)) (
  R (.returned (Value.bool false)) w_1)) (
  R (.returned (Value.bool false)) w_1)) (
  R (.returned (Value.bool false)) w_1)))
theorem eq_node_right (n : Value) (R : Ending → World → Prop) (w : World) : tr P qs ((Tryz.f140.body).getD .skip) ann_node_right (env0 0 [(1, n)]) (topK P Tryz.f140.results.toList R) w = T_node_right n R w := by kernel_rfl
theorem fn_node_right {n : Value} {R : Ending → World → Prop} {w : World} (hT : T_node_right n R w) : CallF P F_node_right #[n] w R :=
 fn_of_tr (fn := Tryz.f140) (c := (Tryz.f140.body).getD .skip) (ann := ann_node_right) (args := [(1, n)]) (qs := qs) mixed Tryz.func140 rfl (by kernel_rfl) (by kernel_rfl) ok_node_right ((eq_node_right n R w).symm ▸ hT)
def ann_wire_In_Num : Ann := (.seq .leaf (.seq .leaf (.seq .leaf (.blk (.loop [(3, .int .u64), (4, .int .i64)] (.seq (.jblk [(3, .int .u64)] (.seq .leaf (.seq (.seq .leaf (.cond (.seq .leaf .leaf) .leaf)) (.join [] (.seq .leaf (.cond (.seq .leaf (.seq .leaf .leaf)) .leaf)) (.seq .leaf (.seq .leaf (.cond (.seq .leaf .leaf) .leaf))))))) .leaf))))))
theorem ok_wire_In_Num : okC P qs Tryz.f176.ntmps ((Tryz.f176.body).getD .skip) ann_wire_In_Num = true := by kernel_rfl
def T_wire_In_Num (i : Option Addr) (R : Ending → World → Prop) (w : World) : Prop :=
  loopP (Int × Int) (fun s w_1 k =>
  joinP Int (fun k_1 =>
  callF P F_wire_In_next #[(Value.pointer i)] [.int .u8, .bool] true w_1 fun (t11 : (Int × Bool)) w_2 =>
  iteP (!t11.2) (
  R (.returned (Value.int .u64 0)) w_2) (
  joinP Unit (fun k_2 =>
  iteP (s.2 == 9) (
  iteP (decide (t11.1 > 1)) (
  callF P F_wire_In_fail #[(Value.pointer i), (Value.int .i64 21)] [] true w_2 fun (_ : Unit) w_3 =>
  R (.returned (Value.int .u64 0)) w_3) (
  iteP (decide (s.2 > 0)) (
  iteP (t11.1 == 0) (
  callF P F_wire_In_fail #[(Value.pointer i), (Value.int .i64 21)] [] true w_2 fun (_ : Unit) w_4 =>
  R (.returned (Value.int .u64 0)) w_4) (
  k_2 () w_2)) (
  k_2 () w_2))) (
  iteP (decide (s.2 > 0)) (
  iteP (t11.1 == 0) (
  callF P F_wire_In_fail #[(Value.pointer i), (Value.int .i64 21)] [] true w_2 fun (_ : Unit) w_5 =>
  R (.returned (Value.int .u64 0)) w_5) (
  k_2 () w_2)) (
  k_2 () w_2))) (fun _ w_6 =>
  andI .u8 t11.1 127 fun t34 =>
  cvI .u64 t34 fun t35 =>
  mulI .i64 7 s.2 fun t37 =>
  shlI .u64 t35 t37 fun t38 =>
  orI .u64 s.1 t38 fun t39 =>
  iteP (decide (t11.1 < 128)) (
  R (.returned (Value.int .u64 t39)) w_6) (
  k_1 t39 w_6)))) (fun s_2 w_7 =>
  addI .i64 s.2 1 fun t8 =>
  k (s_2, t8) w_7)) (0, 0) w
theorem eq_wire_In_Num (i : Option Addr) (R : Ending → World → Prop) (w : World) : tr P qs ((Tryz.f176.body).getD .skip) ann_wire_In_Num (env0 0 [(0, (Value.pointer i))]) (topK P Tryz.f176.results.toList R) w = T_wire_In_Num i R w := by kernel_rfl
theorem fn_wire_In_Num {i : Option Addr} {R : Ending → World → Prop} {w : World} (hT : T_wire_In_Num i R w) : CallF P F_wire_In_Num #[(Value.pointer i)] w R :=
 fn_of_tr (fn := Tryz.f176) (c := (Tryz.f176.body).getD .skip) (ann := ann_wire_In_Num) (args := [(0, (Value.pointer i))]) (qs := qs) mixed Tryz.func176 rfl (by kernel_rfl) (by kernel_rfl) ok_wire_In_Num ((eq_wire_In_Num i R w).symm ▸ hT)
def ann_wire_In_Text : Ann := (.seq .leaf (.seq .leaf (.join [] (.seq .leaf (.cond (.seq .leaf .leaf) .leaf)) (.seq (.seq .leaf (.cond (.seq .leaf (.seq .leaf .leaf)) .leaf)) (.seq .leaf .leaf)))))
theorem ok_wire_In_Text : okC P qs Tryz.f177.ntmps ((Tryz.f177.body).getD .skip) ann_wire_In_Text = true := by kernel_rfl
def T_wire_In_Text (i : Option Addr) (most : Int) (R : Ending → World → Prop) (w : World) : Prop :=
  callF P F_wire_In_Num #[(Value.pointer i)] [.int .u64] false w fun (t7 : Int) w_1 =>
  joinP Unit (fun k =>
  iteP (Option.isNone i) (
  R (.returned (Value.string (ByteArray.mk #[]))) w_1) (
  withAddr i fun p =>
  ld (.int .i64) (Addr.add p 1) w_1 fun (t14 : Int) =>
  iteP (t14 != 0) (
  R (.returned (Value.string (ByteArray.mk #[]))) w_1) (
  k () w_1))) (fun _ w_2 =>
  genQ P (Builtin.max_ #[y_int, y_int] y_int #[(Value.int .i64 most), (Value.int .i64 0)]) (.int .i64) w_2 fun (t19 : Int) =>
  cvI .u64 t19 fun t20 =>
  iteP (decide (t7 > t20)) (
  callF P F_wire_In_fail #[(Value.pointer i), (Value.int .i64 2)] [] true w_2 fun (_ : Unit) w_3 =>
  R (.returned (Value.string (ByteArray.mk #[]))) w_3) (
  cvI .i64 t7 fun t26 =>
  callF P F_wire_In_take #[(Value.pointer i), (Value.int .i64 t26)] [.slc] false w_2 fun (t27 : (Option Addr × Nat × Nat)) w_4 =>
  genQ P (convert y_S_uint8 y_string (Value.slice t27.1 t27.2.1 t27.2.2)) .str w_4 fun (t28 : ByteArray) =>
  R (.returned (Value.string t28)) w_4))
theorem eq_wire_In_Text (i : Option Addr) (most : Int) (R : Ending → World → Prop) (w : World) : tr P qs ((Tryz.f177.body).getD .skip) ann_wire_In_Text (env0 0 [(0, (Value.pointer i)), (0, (Value.int .i64 most))]) (topK P Tryz.f177.results.toList R) w = T_wire_In_Text i most R w := by kernel_rfl
theorem fn_wire_In_Text {i : Option Addr} {most : Int} {R : Ending → World → Prop} {w : World} (hT : T_wire_In_Text i most R w) : CallF P F_wire_In_Text #[(Value.pointer i), (Value.int .i64 most)] w R :=
 fn_of_tr (fn := Tryz.f177) (c := (Tryz.f177.body).getD .skip) (ann := ann_wire_In_Text) (args := [(0, (Value.pointer i)), (0, (Value.int .i64 most))]) (qs := qs) mixed Tryz.func177 rfl (by kernel_rfl) (by kernel_rfl) ok_wire_In_Text ((eq_wire_In_Text i most R w).symm ▸ hT)
def ann_node_parts : Ann := (.seq .leaf (.seq .leaf .leaf))
theorem ok_node_parts : okC P qs Tryz.f178.ntmps ((Tryz.f178.body).getD .skip) ann_node_parts = true := by kernel_rfl
def T_node_parts (size : Int) (R : Ending → World → Prop) (w : World) : Prop :=
  addI .i64 size 64 fun t4 =>
  subI .i64 t4 1 fun t5 =>
  quoI .i64 t5 64 fun t6 =>
  R (.returned (Value.int .i64 t6)) w
theorem eq_node_parts (size : Int) (R : Ending → World → Prop) (w : World) : tr P qs ((Tryz.f178.body).getD .skip) ann_node_parts (env0 0 [(0, (Value.int .i64 size))]) (topK P Tryz.f178.results.toList R) w = T_node_parts size R w := by kernel_rfl
theorem fn_node_parts {size : Int} {R : Ending → World → Prop} {w : World} (hT : T_node_parts size R w) : CallF P F_node_parts #[(Value.int .i64 size)] w R :=
 fn_of_tr (fn := Tryz.f178) (c := (Tryz.f178.body).getD .skip) (ann := ann_node_parts) (args := [(0, (Value.int .i64 size))]) (qs := qs) mixed Tryz.func178 rfl (by kernel_rfl) (by kernel_rfl) ok_node_parts ((eq_node_parts size R w).symm ▸ hT)
def ann_wire_In_Digest : Ann := (.seq .leaf (.seq .leaf (.seq (.tree (.op 1 [] (.op 0 [] (.op 2 [0] (.op 3 [] .done))))) (.seq .leaf .leaf))))
theorem ok_wire_In_Digest : okC P qs Tryz.f179.ntmps ((Tryz.f179.body).getD .skip) ann_wire_In_Digest = true := by kernel_rfl
def T_wire_In_Digest (i : Option Addr) (R : Ending → World → Prop) (w : World) : Prop :=
  newB (zc P y_api_Digest) y_api_Digest w fun b2 w_1 =>
  newB (zc P y_api_Digest) y_api_Digest w_1 fun b3 w_2 =>
  drewP w_2 fun w_3 =>
  genQ P (Instr.sliceAt y_api_Digest (Value.pointer (some (⟨b3, 0, none⟩ : Addr))) none none none) .slc w_3 fun (t4 : (Option Addr × Nat × Nat)) =>
  callF P F_wire_In_take #[(Value.pointer i), (Value.int .i64 32)] [.slc] false w_3 fun (t6 : (Option Addr × Nat × Nat)) w_4 =>
  ((genQ P (Instr.sliceAt y_api_Digest (Value.pointer (some (⟨b3, 0, none⟩ : Addr))) none none none) .slc w_4 fun (t4_1 : (Option Addr × Nat × Nat)) =>
  (Value.slice t4_1.1 t4_1.2.1 t4_1.2.2) = (Value.slice t4.1 t4.2.1 t4.2.2)) ∧
  genL P (Builtin.copy_ #[y_S_uint8, y_S_uint8] y_int #[(Value.slice t4.1 t4.2.1 t4.2.2), (Value.slice t6.1 t6.2.1 t6.2.2)]) (.int .i64) w_4 fun (_ : Int) w_5 =>
  ldA P 32 (⟨b3, 0, none⟩ : Addr) w_5 fun t8 =>
  genU P (storeVar y_api_Digest (⟨b2, 0, none⟩ : Addr) (Value.agg t8)) w_5 fun w_6 =>
  ldA P 32 (⟨b2, 0, none⟩ : Addr) w_6 fun t2 =>
  R (.returned (Value.agg t2)) w_6)
theorem eq_wire_In_Digest (i : Option Addr) (R : Ending → World → Prop) (w : World) : tr P qs ((Tryz.f179.body).getD .skip) ann_wire_In_Digest (env0 0 [(0, (Value.pointer i))]) (topK P Tryz.f179.results.toList R) w = T_wire_In_Digest i R w := by kernel_rfl
theorem fn_wire_In_Digest {i : Option Addr} {R : Ending → World → Prop} {w : World} (hT : T_wire_In_Digest i R w) : CallF P F_wire_In_Digest #[(Value.pointer i)] w R :=
 fn_of_tr (fn := Tryz.f179) (c := (Tryz.f179.body).getD .skip) (ann := ann_wire_In_Digest) (args := [(0, (Value.pointer i))]) (qs := qs) mixed Tryz.func179 rfl (by kernel_rfl) (by kernel_rfl) ok_wire_In_Digest ((eq_wire_In_Digest i R w).symm ▸ hT)
def ann_node_rising : Ann := (.seq .leaf (.seq .leaf (.seq (.seq .leaf (.blk (.loop [(3, .str), (8, .int .i64)] (.seq .leaf (.seq (.cond .leaf .leaf) (.seq (.jblk [(3, .str)] (.seq .leaf (.join [] (.seq .leaf (.cond (.seq .leaf .leaf) .leaf)) (.seq .leaf (.jblk [(3, .str)] (.seq (.blk (.join [] (.jblk [] (.blk (.seq (.seq (.seq .leaf (.cond .leaf .leaf)) (.seq .leaf (.cond .leaf .leaf))) .leaf))) (.seq .leaf .leaf))) (.seq (.seq .leaf .leaf) .leaf))))))) .leaf)))))) (.seq .leaf .leaf))))
theorem ok_node_rising : okC P qs Tryz.f180.ntmps ((Tryz.f180.body).getD .skip) ann_node_rising = true := by kernel_rfl
def T_node_rising (items : Option Addr) (items_l items_c : Nat) (R : Ending → World → Prop) (w : World) : Prop :=
  loopP (ByteArray × Int) (fun s w_1 k =>
  iteP (decide (s.2 < (items_l : Int))) (
  joinP ByteArray (fun k_1 =>
  ixS items items_l 34 s.2 fun t10 =>
  ldA P 34 t10 w_1 fun t11 =>
  newB (zc P y_api_Item) y_api_Item w_1 fun b5 w_2 =>
  genU P (storeVar y_api_Item (⟨b5, 0, none⟩ : Addr) (Value.agg t11)) w_2 fun w_3 =>
  joinP Unit (fun k_2 =>
  ld .str (⟨b5, 0, none⟩ : Addr) w_3 fun (t13 : ByteArray) =>
  iteP ((Op.bytesLess t13.toList s.1.toList) || (t13.toList == s.1.toList)) (
  R (.returned (Value.bool false)) w_3) (
  ld .str (⟨b5, 0, none⟩ : Addr) w_3 fun (t18 : ByteArray) =>
  genL P (Instr.buildSlice y_S_string 1 #[(0, (Value.string t18))]) .slc w_3 fun (t19 : (Option Addr × Nat × Nat)) w_4 =>
  callF P F_vpath_Check #[(Value.slice t19.1 t19.2.1 t19.2.2)] [.int .i64] false w_4 fun (t20 : Int) w_5 =>
  iteP (t20 != 0) (
  R (.returned (Value.bool false)) w_5) (
  k_2 () w_5))) (fun _ w_6 =>
  ld (.int .i64) (⟨b5, 1, none⟩ : Addr) w_6 fun (t24 : Int) =>
  joinP ByteArray (fun k_3 =>
  joinP Unit (fun k_4 =>
  joinP Unit (fun k_5 =>
  iteP (t24 == 2) (
  k_5 () w_6) (
  iteP (t24 == 3) (
  k_5 () w_6) (
  R (.returned (Value.bool false)) w_6))) (fun _ w_7 =>
  k_4 () w_7)) (fun _ w_8 =>
  ld .str (⟨b5, 0, none⟩ : Addr) w_8 fun (t30 : ByteArray) =>
  k_3 t30 w_8)) (fun s_4 w_9 =>
  k_1 s_4 w_9))) (fun s_5 w_10 =>
  addI .i64 s.2 1 fun t31 =>
  k (s_5, t31) w_10)) (
  R (.returned (Value.bool (decide ((items_l : Int) ≤ 64)))) w_1)) ((ByteArray.mk #[]), 0) w
theorem eq_node_rising (items : Option Addr) (items_l items_c : Nat) (R : Ending → World → Prop) (w : World) : tr P qs ((Tryz.f180.body).getD .skip) ann_node_rising (env0 0 [(0, (Value.slice items items_l items_c))]) (topK P Tryz.f180.results.toList R) w = T_node_rising items items_l items_c R w := by kernel_rfl
theorem fn_node_rising {items : Option Addr} {items_l items_c : Nat} {R : Ending → World → Prop} {w : World} (hT : T_node_rising items items_l items_c R w) : CallF P F_node_rising #[(Value.slice items items_l items_c)] w R :=
 fn_of_tr (fn := Tryz.f180) (c := (Tryz.f180.body).getD .skip) (ann := ann_node_rising) (args := [(0, (Value.slice items items_l items_c))]) (qs := qs) mixed Tryz.func180 rfl (by kernel_rfl) (by kernel_rfl) ok_node_rising ((eq_node_rising items items_l items_c R w).symm ▸ hT)
def ann_wire_In_next : Ann := (.seq .leaf (.join [] (.seq .leaf (.cond (.seq .leaf .leaf) .leaf)) (.seq (.seq .leaf (.cond (.seq .leaf (.seq .leaf .leaf)) .leaf)) (.seq .leaf (.seq .leaf (.seq .leaf .leaf))))))
theorem ok_wire_In_next : okC P qs Tryz.f204.ntmps ((Tryz.f204.body).getD .skip) ann_wire_In_next = true := by kernel_rfl
def T_wire_In_next (i : Option Addr) (R : Ending → World → Prop) (w : World) : Prop :=
  joinP Unit (fun k =>
  iteP (Option.isNone i) (
  R (.returned (Value.tuple #[(Value.int .u8 0), (Value.bool false)])) w) (
  withAddr i fun p =>
  ld (.int .i64) (Addr.add p 1) w fun (t11 : Int) =>
  iteP (t11 != 0) (
  R (.returned (Value.tuple #[(Value.int .u8 0), (Value.bool false)])) w) (
  k () w))) (fun _ w_1 =>
  withAddr i fun p_1 =>
  ld .slc p_1 w_1 fun (t17 : (Option Addr × Nat × Nat)) =>
  iteP ((t17.2.1 : Int) == 0) (
  callF P F_wire_In_fail #[(Value.pointer i), (Value.int .i64 20)] [] true w_1 fun (_ : Unit) w_2 =>
  R (.returned (Value.tuple #[(Value.int .u8 0), (Value.bool false)])) w_2) (
  withAddr i fun p_2 =>
  ld .slc p_2 w_1 fun (t25 : (Option Addr × Nat × Nat)) =>
  ixS t25.1 t25.2.1 1 0 fun t26 =>
  ld (.int .u8) t26 w_1 fun (t27 : Int) =>
  withAddr i fun p_3 =>
  ld .slc p_3 w_1 fun (t32 : (Option Addr × Nat × Nat)) =>
  genQ P (Instr.sliceAt y_S_uint8 (Value.slice t32.1 t32.2.1 t32.2.2) (some (Value.int .i64 1)) none none) .slc w_1 fun (t33 : (Option Addr × Nat × Nat)) =>
  withAddr i fun p_4 =>
  stC p_4 (Value.slice t33.1 t33.2.1 t33.2.2) w_1 fun w_3 =>
  R (.returned (Value.tuple #[(Value.int .u8 t27), (Value.bool true)])) w_3))
theorem eq_wire_In_next (i : Option Addr) (R : Ending → World → Prop) (w : World) : tr P qs ((Tryz.f204.body).getD .skip) ann_wire_In_next (env0 0 [(0, (Value.pointer i))]) (topK P Tryz.f204.results.toList R) w = T_wire_In_next i R w := by kernel_rfl
theorem fn_wire_In_next {i : Option Addr} {R : Ending → World → Prop} {w : World} (hT : T_wire_In_next i R w) : CallF P F_wire_In_next #[(Value.pointer i)] w R :=
 fn_of_tr (fn := Tryz.f204) (c := (Tryz.f204.body).getD .skip) (ann := ann_wire_In_next) (args := [(0, (Value.pointer i))]) (qs := qs) mixed Tryz.func204 rfl (by kernel_rfl) (by kernel_rfl) ok_wire_In_next ((eq_wire_In_next i R w).symm ▸ hT)
def ann_wire_In_fail : Ann := .leaf
theorem ok_wire_In_fail : okC P qs Tryz.f205.ntmps ((Tryz.f205.body).getD .skip) ann_wire_In_fail = true := by kernel_rfl
def T_wire_In_fail (i : Option Addr) (e : Int) (R : Ending → World → Prop) (w : World) : Prop :=
  withAddr i fun p =>
  stC p (Value.slice none 0 0) w fun w_1 =>
  withAddr i fun p_1 =>
  stC (Addr.add p_1 1) (Value.int .i64 e) w_1 fun w_2 =>
  R (.returned (Value.tuple #[])) w_2
theorem eq_wire_In_fail (i : Option Addr) (e : Int) (R : Ending → World → Prop) (w : World) : tr P qs ((Tryz.f205.body).getD .skip) ann_wire_In_fail (env0 0 [(0, (Value.pointer i)), (0, (Value.int .i64 e))]) (topK P Tryz.f205.results.toList R) w = T_wire_In_fail i e R w := by kernel_rfl
theorem fn_wire_In_fail {i : Option Addr} {e : Int} {R : Ending → World → Prop} {w : World} (hT : T_wire_In_fail i e R w) : CallF P F_wire_In_fail #[(Value.pointer i), (Value.int .i64 e)] w R :=
 fn_of_tr (fn := Tryz.f205) (c := (Tryz.f205.body).getD .skip) (ann := ann_wire_In_fail) (args := [(0, (Value.pointer i)), (0, (Value.int .i64 e))]) (qs := qs) mixed Tryz.func205 rfl (by kernel_rfl) (by kernel_rfl) ok_wire_In_fail ((eq_wire_In_fail i e R w).symm ▸ hT)
def ann_wire_In_take : Ann := (.seq .leaf (.join [] (.seq .leaf (.cond (.seq .leaf .leaf) .leaf)) (.seq (.seq .leaf (.cond (.seq .leaf (.seq .leaf .leaf)) .leaf)) (.seq .leaf (.seq .leaf (.seq .leaf .leaf))))))
theorem ok_wire_In_take : okC P qs Tryz.f206.ntmps ((Tryz.f206.body).getD .skip) ann_wire_In_take = true := by kernel_rfl
def T_wire_In_take (i : Option Addr) (n : Int) (R : Ending → World → Prop) (w : World) : Prop :=
  joinP Unit (fun k =>
  iteP (Option.isNone i) (
  R (.returned (Value.slice none 0 0)) w) (
  withAddr i fun p =>
  ld (.int .i64) (Addr.add p 1) w fun (t12 : Int) =>
  iteP (t12 != 0) (
  R (.returned (Value.slice none 0 0)) w) (
  k () w))) (fun _ w_1 =>
  withAddr i fun p_1 =>
  ld .slc p_1 w_1 fun (t19 : (Option Addr × Nat × Nat)) =>
  iteP (decide (n > (t19.2.1 : Int))) (
  callF P F_wire_In_fail #[(Value.pointer i), (Value.int .i64 20)] [] true w_1 fun (_ : Unit) w_2 =>
  R (.returned (Value.slice none 0 0)) w_2) (
  withAddr i fun p_2 =>
  ld .slc p_2 w_1 fun (t27 : (Option Addr × Nat × Nat)) =>
  genQ P (Instr.sliceAt y_S_uint8 (Value.slice t27.1 t27.2.1 t27.2.2) none (some (Value.int .i64 n)) none) .slc w_1 fun (t29 : (Option Addr × Nat × Nat)) =>
  withAddr i fun p_3 =>
  ld .slc p_3 w_1 fun (t34 : (Option Addr × Nat × Nat)) =>
  genQ P (Instr.sliceAt y_S_uint8 (Value.slice t34.1 t34.2.1 t34.2.2) (some (Value.int .i64 n)) none none) .slc w_1 fun (t36 : (Option Addr × Nat × Nat)) =>
  withAddr i fun p_4 =>
  stC p_4 (Value.slice t36.1 t36.2.1 t36.2.2) w_1 fun w_3 =>
  R (.returned (Value.slice t29.1 t29.2.1 t29.2.2)) w_3))
theorem eq_wire_In_take (i : Option Addr) (n : Int) (R : Ending → World → Prop) (w : World) : tr P qs ((Tryz.f206.body).getD .skip) ann_wire_In_take (env0 0 [(0, (Value.pointer i)), (0, (Value.int .i64 n))]) (topK P Tryz.f206.results.toList R) w = T_wire_In_take i n R w := by kernel_rfl
theorem fn_wire_In_take {i : Option Addr} {n : Int} {R : Ending → World → Prop} {w : World} (hT : T_wire_In_take i n R w) : CallF P F_wire_In_take #[(Value.pointer i), (Value.int .i64 n)] w R :=
 fn_of_tr (fn := Tryz.f206) (c := (Tryz.f206.body).getD .skip) (ann := ann_wire_In_take) (args := [(0, (Value.pointer i)), (0, (Value.int .i64 n))]) (qs := qs) mixed Tryz.func206 rfl (by kernel_rfl) (by kernel_rfl) ok_wire_In_take ((eq_wire_In_take i n R w).symm ▸ hT)
end Go.Proofs.YtbmegmbnlajbbaaGreatDoor
namespace Go.Proofs.YtbmegmbnlajbbaaGreatDoor
open Go Go.Fw Go.Proofs
set_option maxRecDepth 100000
def ann_tree_Build : Ann := (.seq .leaf (.seq (.seq .leaf (.cond (.seq .leaf .leaf) .leaf)) (.seq .leaf (.seq (.seq .leaf (.cond (.seq .leaf .leaf) .leaf)) (.seq .leaf (.seq (.seq .leaf (.cond (.seq .leaf .leaf) .leaf)) (.seq .leaf (.seq .leaf (.seq .leaf (.seq .leaf (.seq (.seq .leaf (.seq .leaf (.cond (.seq .leaf .leaf) .leaf))) (.seq .leaf .leaf))))))))))))
theorem ok_tree_Build : okC P qs Tryz.f14.ntmps ((Tryz.f14.body).getD .skip) ann_tree_Build = true := by kernel_rfl
def T_tree_Build (s : Option Addr) (list : Option Addr) (list_l list_c : Nat) (R : Ending → World → Prop) (w : World) : Prop :=
  newB (zc P y_api_Digest) y_api_Digest w fun b4 w_1 =>
  iteP (Option.isNone s) (
  genQ P (Instr.build y_api_Digest #[]) .any w_1 fun (t15 : Value) =>
  genU P (storeVar y_api_Digest (⟨b4, 0, none⟩ : Addr) t15) w_1 fun w_2 =>
  ldA P 32 (⟨b4, 0, none⟩ : Addr) w_2 fun t4 =>
  R (.returned (Value.tuple #[(Value.agg t4), (Value.int .i64 7)])) w_2) (
  callF P F_tree_parse #[(Value.slice list list_l list_c)] [.slc, .int .i64] true w_1 fun (t18 : ((Option Addr × Nat × Nat) × Int)) w_3 =>
  iteP (t18.2 != 0) (
  genQ P (Instr.build y_api_Digest #[]) .any w_3 fun (t23 : Value) =>
  genU P (storeVar y_api_Digest (⟨b4, 0, none⟩ : Addr) t23) w_3 fun w_4 =>
  ldA P 32 (⟨b4, 0, none⟩ : Addr) w_4 fun t4_1 =>
  R (.returned (Value.tuple #[(Value.agg t4_1), (Value.int .i64 t18.2)])) w_4) (
  callF P F_tree_shape #[(Value.slice t18.1.1 t18.1.2.1 t18.1.2.2)] [.map, .int .i64] true w_3 fun (t27 : ((Option Nat) × Int)) w_5 =>
  newB (zc P y_M_string_S_tree_entry) y_M_string_S_tree_entry w_5 fun b8 w_6 =>
  stC (⟨b8, 0, none⟩ : Addr) (Value.map t27.1) w_6 fun w_7 =>
  iteP (t27.2 != 0) (
  genQ P (Instr.build y_api_Digest #[]) .any w_7 fun (t32 : Value) =>
  genU P (storeVar y_api_Digest (⟨b4, 0, none⟩ : Addr) t32) w_7 fun w_8 =>
  ldA P 32 (⟨b4, 0, none⟩ : Addr) w_8 fun t4_2 =>
  R (.returned (Value.tuple #[(Value.agg t4_2), (Value.int .i64 t27.2)])) w_8) (
  newB (zc P y_S_S_uint8) y_S_S_uint8 w_7 fun b9 w_9 =>
  newB (zc P y_func_9d2e5c) y_func_9d2e5c w_9 fun b10 w_10 =>
  genQ P (Instr.makeFunc (Go.Fn.func F_tree_Build_1) #[] #[(Value.pointer (some (⟨b8, 0, none⟩ : Addr))), (Value.pointer (some (⟨b10, 0, none⟩ : Addr))), (Value.pointer (some (⟨b9, 0, none⟩ : Addr)))]) .any w_10 fun (t34 : Value) =>
  genU P (storeVar y_func_9d2e5c (⟨b10, 0, none⟩ : Addr) t34) w_10 fun w_11 =>
  ld .any (⟨b10, 0, none⟩ : Addr) w_11 fun (t35 : Value) =>
  callV P t35 #[(Value.string (ByteArray.mk #[47]))] [.any] false w_11 fun (t36 : Value) w_12 =>
  newB (zc P y_api_Digest) y_api_Digest w_12 fun b11 w_13 =>
  genU P (storeVar y_api_Digest (⟨b11, 0, none⟩ : Addr) t36) w_13 fun w_14 =>
  ld .slc (⟨b9, 0, none⟩ : Addr) w_14 fun (t38 : (Option Addr × Nat × Nat)) =>
  callF P F_blob_Store_PutAll #[(Value.pointer s), (Value.slice t38.1 t38.2.1 t38.2.2)] [.int .i64] false w_14 fun (t39 : Int) w_15 =>
  iteP (t39 != 0) (
  genQ P (Instr.build y_api_Digest #[]) .any w_15 fun (t42 : Value) =>
  genU P (storeVar y_api_Digest (⟨b4, 0, none⟩ : Addr) t42) w_15 fun w_16 =>
  ldA P 32 (⟨b4, 0, none⟩ : Addr) w_16 fun t4_3 =>
  R (.returned (Value.tuple #[(Value.agg t4_3), (Value.int .i64 t39)])) w_16) (
  ldA P 32 (⟨b11, 0, none⟩ : Addr) w_15 fun t44 =>
  genU P (storeVar y_api_Digest (⟨b4, 0, none⟩ : Addr) (Value.agg t44)) w_15 fun w_17 =>
  ldA P 32 (⟨b4, 0, none⟩ : Addr) w_17 fun t4_4 =>
  R (.returned (Value.tuple #[(Value.agg t4_4), (Value.int .i64 0)])) w_17))))
theorem eq_tree_Build (s : Option Addr) (list : Option Addr) (list_l list_c : Nat) (R : Ending → World → Prop) (w : World) : tr P qs ((Tryz.f14.body).getD .skip) ann_tree_Build (env0 0 [(0, (Value.pointer s)), (0, (Value.slice list list_l list_c))]) (topK P Tryz.f14.results.toList R) w = T_tree_Build s list list_l list_c R w := by kernel_rfl
theorem fn_tree_Build {s : Option Addr} {list : Option Addr} {list_l list_c : Nat} {R : Ending → World → Prop} {w : World} (hT : T_tree_Build s list list_l list_c R w) : CallF P F_tree_Build #[(Value.pointer s), (Value.slice list list_l list_c)] w R :=
 fn_of_tr (fn := Tryz.f14) (c := (Tryz.f14.body).getD .skip) (ann := ann_tree_Build) (args := [(0, (Value.pointer s)), (0, (Value.slice list list_l list_c))]) (qs := qs) mixed Tryz.func14 rfl (by kernel_rfl) (by kernel_rfl) ok_tree_Build ((eq_tree_Build s list list_l list_c R w).symm ▸ hT)
def ann_tree_parse : Ann := (.seq .leaf (.seq .leaf (.seq (.seq .leaf (.blk (.loop [(4, .slc), (11, .int .i64)] (.seq .leaf (.seq (.cond .leaf .leaf) (.seq (.blk (.seq .leaf (.seq .leaf (.seq (.seq .leaf (.cond (.seq .leaf .leaf) .leaf)) .leaf)))) .leaf)))))) (.seq (.seq .leaf (.cond (.seq .leaf .leaf) .leaf)) (.seq (.seq .leaf (.cond (.seq .leaf .leaf) .leaf)) (.seq .leaf .leaf))))))
theorem ok_tree_parse : okC P qs Tryz.f54.ntmps ((Tryz.f54.body).getD .skip) ann_tree_parse = true := by kernel_rfl
def T_tree_parse (list : Option Addr) (list_l list_c : Nat) (R : Ending → World → Prop) (w : World) : Prop :=
  loopP ((Option Addr × Nat × Nat) × Int) (fun s w_1 k =>
  iteP (decide (s.2 < (list_l : Int))) (
  ixS list list_l 3 s.2 fun t13 =>
  ldA P 3 t13 w_1 fun t14 =>
  newB (zc P y_api_File) y_api_File w_1 fun b6 w_2 =>
  genU P (storeVar y_api_File (⟨b6, 0, none⟩ : Addr) (Value.agg t14)) w_2 fun w_3 =>
  ld .str (⟨b6, 0, none⟩ : Addr) w_3 fun (t17 : ByteArray) =>
  callF P F_vpath_Parse #[(Value.string t17)] [.slc, .int .i64] true w_3 fun (t18 : ((Option Addr × Nat × Nat) × Int)) w_4 =>
  iteP (t18.2 != 0) (
  R (.returned (Value.tuple #[(Value.slice none 0 0), (Value.int .i64 t18.2)])) w_4) (
  ldA P 3 (⟨b6, 0, none⟩ : Addr) w_4 fun t26 =>
  genQ P (Instr.build y_tree_entry #[(0, (Value.slice t18.1.1 t18.1.2.1 t18.1.2.2)), (1, (Value.agg t26))]) .any w_4 fun (t27 : Value) =>
  genL P (Instr.buildSlice y_S_tree_entry 1 #[(0, t27)]) .slc w_4 fun (t28 : (Option Addr × Nat × Nat)) w_5 =>
  genL P (Builtin.append_ #[y_S_tree_entry, y_S_tree_entry] y_S_tree_entry #[(Value.slice s.1.1 s.1.2.1 s.1.2.2), (Value.slice t28.1 t28.2.1 t28.2.2)]) .slc w_5 fun (t29 : (Option Addr × Nat × Nat)) w_6 =>
  addI .i64 s.2 1 fun t30 =>
  k ((t29.1, t29.2.1, t29.2.2), t30) w_6)) (
  callF P F_slices_ContainsFunc_S_api_File_api_File #[(Value.slice list list_l list_c), (Value.func (.func F_tree_parse_1) #[] #[])] [.bool] false w_1 fun (t32 : Bool) w_7 =>
  iteP t32 (
  R (.returned (Value.tuple #[(Value.slice none 0 0), (Value.int .i64 1)])) w_7) (
  callF P F_slices_ContainsFunc_S_api_File_api_File #[(Value.slice list list_l list_c), (Value.func (.func F_tree_parse_2) #[] #[])] [.bool] false w_7 fun (t34 : Bool) w_8 =>
  iteP t34 (
  R (.returned (Value.tuple #[(Value.slice none 0 0), (Value.int .i64 134)])) w_8) (
  R (.returned (Value.tuple #[(Value.slice s.1.1 s.1.2.1 s.1.2.2), (Value.int .i64 0)])) w_8)))) ((none, 0, 0), 0) w
theorem eq_tree_parse (list : Option Addr) (list_l list_c : Nat) (R : Ending → World → Prop) (w : World) : tr P qs ((Tryz.f54.body).getD .skip) ann_tree_parse (env0 0 [(0, (Value.slice list list_l list_c))]) (topK P Tryz.f54.results.toList R) w = T_tree_parse list list_l list_c R w := by kernel_rfl
theorem fn_tree_parse {list : Option Addr} {list_l list_c : Nat} {R : Ending → World → Prop} {w : World} (hT : T_tree_parse list list_l list_c R w) : CallF P F_tree_parse #[(Value.slice list list_l list_c)] w R :=
 fn_of_tr (fn := Tryz.f54) (c := (Tryz.f54.body).getD .skip) (ann := ann_tree_parse) (args := [(0, (Value.slice list list_l list_c))]) (qs := qs) mixed Tryz.func54 rfl (by kernel_rfl) (by kernel_rfl) ok_tree_parse ((eq_tree_parse list list_l list_c R w).symm ▸ hT)
def ann_tree_shape : Ann := (.seq .leaf (.seq .leaf (.seq (.seq .leaf (.blk (.loop [(24, .int .i64)] (.seq .leaf (.seq (.cond .leaf .leaf) (.seq (.blk (.seq .leaf (.seq (.seq .leaf (.seq .leaf (.cond (.seq .leaf .leaf) .leaf))) (.tree (.op 0 [] (.op 1 [] (.op 2 [] (.op 4 [] (.op 3 [4] (.op 5 [] .done)))))))))) .leaf)))))) (.seq .leaf (.seq .leaf (.seq (.seq .leaf (.blk (.loop [(10, .bool), (46, .int .i64)] (.seq .leaf (.seq (.cond .leaf .leaf) (.seq (.blk (.seq .leaf (.seq .leaf (.seq .leaf (.seq (.seq .leaf (.cond (.seq .leaf .leaf) .leaf)) (.join [(10, .bool)] .leaf .leaf)))))) .leaf)))))) (.seq (.seq .leaf (.cond (.seq .leaf .leaf) .leaf)) (.seq (.seq .leaf (.blk (.loop [] (.seq .leaf (.seq (.cond .leaf .leaf) (.blk (.seq .leaf (.seq (.seq .leaf (.cond (.seq .leaf .leaf) .leaf)) .leaf)))))))) (.seq .leaf .leaf)))))))))
theorem ok_tree_shape : okC P qs Tryz.f55.ntmps ((Tryz.f55.body).getD .skip) ann_tree_shape = true := by kernel_rfl
def T_tree_shape (list : Option Addr) (list_l list_c : Nat) (R : Ending → World → Prop) (w : World) : Prop :=
  genL P (Instr.makeMap y_M_string_tree_entry none) .map w fun (t18 : (Option Nat)) w_1 =>
  genQ P (Instr.build y_api_File #[(1, (Value.bool true))]) .any w_1 fun (t19 : Value) =>
  genQ P (Instr.build y_tree_entry #[(0, (Value.slice none 0 0)), (1, t19)]) .any w_1 fun (t20 : Value) =>
  genU P (Instr.mapUpdate y_M_string_tree_entry (Value.map t18) (Value.string (ByteArray.mk #[47])) t20) w_1 fun w_2 =>
  loopP Int (fun s w_3 k =>
  iteP (decide (s < (list_l : Int))) (
  ixS list list_l 4 s fun t26 =>
  ldA P 4 t26 w_3 fun t27 =>
  newB (zc P y_tree_entry) y_tree_entry w_3 fun b6 w_4 =>
  genU P (storeVar y_tree_entry (⟨b6, 0, none⟩ : Addr) (Value.agg t27)) w_4 fun w_5 =>
  ld .slc (⟨b6, 0, none⟩ : Addr) w_5 fun (t31 : (Option Addr × Nat × Nat)) =>
  callF P F_vpath_Show #[(Value.slice t31.1 t31.2.1 t31.2.2)] [.str] false w_5 fun (t32 : ByteArray) w_6 =>
  genT P (Instr.lookup y_M_string_tree_entry (Value.map t18) (Value.string t32) true) [.any, .bool] w_6 fun (t33 : (Value × Bool)) =>
  newB (zc P y_tree_entry) y_tree_entry w_6 fun b7 w_7 =>
  genU P (storeVar y_tree_entry (⟨b7, 0, none⟩ : Addr) t33.1) w_7 fun w_8 =>
  iteP t33.2 (
  R (.returned (Value.tuple #[(Value.map none), (Value.int .i64 5)])) w_8) (
  drewP w_8 fun w_9 =>
  ld .slc (⟨b6, 0, none⟩ : Addr) w_9 fun (t39 : (Option Addr × Nat × Nat)) =>
  ldA P 4 (⟨b6, 0, none⟩ : Addr) w_9 fun t41 =>
  callF P F_vpath_Show #[(Value.slice t39.1 t39.2.1 t39.2.2)] [.str] false w_9 fun (t40 : ByteArray) w_10 =>
  ((ldA P 4 (⟨b6, 0, none⟩ : Addr) w_10 fun t41_1 =>
  (Value.agg t41_1) = (Value.agg t41)) ∧
  genU P (Instr.mapUpdate y_M_string_tree_entry (Value.map t18) (Value.string t40) (Value.agg t41)) w_10 fun w_11 =>
  addI .i64 s 1 fun t42 =>
  k t42 w_11))) (
  genL P (Instr.makeMap y_M_string_S_tree_entry none) .map w_3 fun (t43 : (Option Nat)) w_12 =>
  loopP (Bool × Int) (fun s_1 w_13 k_1 =>
  iteP (decide (s_1.2 < (list_l : Int))) (
  ixS list list_l 4 s_1.2 fun t48 =>
  ldA P 4 t48 w_13 fun t49 =>
  newB (zc P y_tree_entry) y_tree_entry w_13 fun b12 w_14 =>
  genU P (storeVar y_tree_entry (⟨b12, 0, none⟩ : Addr) (Value.agg t49)) w_14 fun w_15 =>
  ld .slc (⟨b12, 0, none⟩ : Addr) w_15 fun (t51 : (Option Addr × Nat × Nat)) =>
  ld .slc (⟨b12, 0, none⟩ : Addr) w_15 fun (t53 : (Option Addr × Nat × Nat)) =>
  subI .i64 (t53.2.1 : Int) 1 fun t55 =>
  genQ P (Instr.sliceAt y_S_string (Value.slice t51.1 t51.2.1 t51.2.2) none (some (Value.int .i64 t55)) none) .slc w_15 fun (t56 : (Option Addr × Nat × Nat)) =>
  callF P F_vpath_Show #[(Value.slice t56.1 t56.2.1 t56.2.2)] [.str] false w_15 fun (t57 : ByteArray) w_16 =>
  genT P (Instr.lookup y_M_string_tree_entry (Value.map t18) (Value.string t57) true) [.any, .bool] w_16 fun (t61 : (Value × Bool)) =>
  newB (zc P y_tree_entry) y_tree_entry w_16 fun b14 w_17 =>
  genU P (storeVar y_tree_entry (⟨b14, 0, none⟩ : Addr) t61.1) w_17 fun w_18 =>
  iteP (!t61.2) (
  R (.returned (Value.tuple #[(Value.map none), (Value.int .i64 4)])) w_18) (
  joinP Bool (fun k_2 =>
  iteP s_1.1 (
  k_2 true w_18) (
  ld .bool (⟨b14, 2, none⟩ : Addr) w_18 fun (t70 : Bool) =>
  k_2 (!t70) w_18)) (fun s_2 w_19 =>
  genQ P (Instr.lookup y_M_string_S_tree_entry (Value.map t43) (Value.string t57) false) .slc w_19 fun (t77 : (Option Addr × Nat × Nat)) =>
  ldA P 4 (⟨b12, 0, none⟩ : Addr) w_19 fun t78 =>
  genL P (Instr.buildSlice y_S_tree_entry 1 #[(0, (Value.agg t78))]) .slc w_19 fun (t79 : (Option Addr × Nat × Nat)) w_20 =>
  genL P (Builtin.append_ #[y_S_tree_entry, y_S_tree_entry] y_S_tree_entry #[(Value.slice t77.1 t77.2.1 t77.2.2), (Value.slice t79.1 t79.2.1 t79.2.2)]) .slc w_20 fun (t80 : (Option Addr × Nat × Nat)) w_21 =>
  genU P (Instr.mapUpdate y_M_string_S_tree_entry (Value.map t43) (Value.string t57) (Value.slice t80.1 t80.2.1 t80.2.2)) w_21 fun w_22 =>
  addI .i64 s_1.2 1 fun t81 =>
  k_1 (s_2, t81) w_22))) (
  iteP s_1.1 (
  R (.returned (Value.tuple #[(Value.map none), (Value.int .i64 70)])) w_13) (
  genL P (Instr.range y_M_string_S_tree_entry (Value.map t43)) .ptr w_13 fun (t84 : (Option Addr)) w_23 =>
  loopP Unit (fun _ w_24 k_3 =>
  genL P (Instr.next (Value.pointer t84) false y_tuple_bcd8b0) .any w_24 fun (t85 : Value) w_25 =>
  exV t85 0 .bool fun (t86 : Bool) =>
  iteP t86 (
  genQ P (Instr.entry (Value.pointer t84)) .any w_25 fun (t87 : Value) =>
  exV t87 1 .slc fun (t88 : (Option Addr × Nat × Nat)) =>
  iteP (decide ((t88.2.1 : Int) > 64)) (
  R (.returned (Value.tuple #[(Value.map none), (Value.int .i64 8)])) w_25) (
  callF P F_slices_SortFunc_S_tree_entry_tree_entry #[(Value.slice t88.1 t88.2.1 t88.2.2), (Value.func (.func F_tree_shape_1) #[] #[])] [] true w_25 fun (_ : Unit) w_26 =>
  k_3 () w_26)) (
  R (.returned (Value.tuple #[(Value.map t43), (Value.int .i64 0)])) w_25)) () w_23))) (false, 0) w_12)) 0 w_2
theorem eq_tree_shape (list : Option Addr) (list_l list_c : Nat) (R : Ending → World → Prop) (w : World) : tr P qs ((Tryz.f55.body).getD .skip) ann_tree_shape (env0 0 [(0, (Value.slice list list_l list_c))]) (topK P Tryz.f55.results.toList R) w = T_tree_shape list list_l list_c R w := by kernel_rfl
theorem fn_tree_shape {list : Option Addr} {list_l list_c : Nat} {R : Ending → World → Prop} {w : World} (hT : T_tree_shape list list_l list_c R w) : CallF P F_tree_shape #[(Value.slice list list_l list_c)] w R :=
 fn_of_tr (fn := Tryz.f55) (c := (Tryz.f55.body).getD .skip) (ann := ann_tree_shape) (args := [(0, (Value.slice list list_l list_c))]) (qs := qs) mixed Tryz.func55 rfl (by kernel_rfl) (by kernel_rfl) ok_tree_shape ((eq_tree_shape list list_l list_c R w).symm ▸ hT)
def ann_tree_Build_1 : Ann := (.seq .leaf (.seq .leaf (.seq (.seq .leaf (.blk (.loop [(16, .int .i64)] (.seq .leaf (.seq (.cond .leaf .leaf) (.join [] (.jblk [] (.seq .leaf (.seq .leaf (.join [] (.seq .leaf (.cond (.tree (.op 1 [] (.op 5 [] (.op 0 [] (.op 2 [] (.op 3 [0] (.op 4 [] (.op 6 [] (.op 7 [] (.op 8 [] .done)))))))))) .leaf)) .leaf)))) .leaf)))))) (.seq .leaf (.seq .leaf (.seq .leaf .leaf))))))
theorem ok_tree_Build_1 : okC P qs Tryz.f56.ntmps ((Tryz.f56.body).getD .skip) ann_tree_Build_1 = true := by kernel_rfl
def T_tree_Build_1 (atv : ByteArray) (c0 : Option Addr) (c1 : Option Addr) (c2 : Option Addr) (R : Ending → World → Prop) (w : World) : Prop :=
  newB (zc P y_api_Digest) y_api_Digest w fun b5 w_1 =>
  genQ P (Instr.build y_api_Node #[(0, (Value.int .i64 3))]) .any w_1 fun (t11 : Value) =>
  newB (zc P y_api_Node) y_api_Node w_1 fun b6 w_2 =>
  genU P (storeVar y_api_Node (⟨b6, 0, none⟩ : Addr) t11) w_2 fun w_3 =>
  withAddr c0 fun p =>
  ld .map p w_3 fun (t12 : (Option Nat)) =>
  genQ P (Instr.lookup y_M_string_S_tree_entry (Value.map t12) (Value.string atv) false) .slc w_3 fun (t14 : (Option Addr × Nat × Nat)) =>
  loopP Int (fun s w_4 k =>
  iteP (decide (s < (t14.2.1 : Int))) (
  joinP Unit (fun k_1 =>
  joinP Unit (fun k_2 =>
  ixS t14.1 t14.2.1 4 s fun t18 =>
  ldA P 4 t18 w_4 fun t19 =>
  newB (zc P y_tree_entry) y_tree_entry w_4 fun b8 w_5 =>
  genU P (storeVar y_tree_entry (⟨b8, 0, none⟩ : Addr) (Value.agg t19)) w_5 fun w_6 =>
  ld .slc (⟨b8, 0, none⟩ : Addr) w_6 fun (t21 : (Option Addr × Nat × Nat)) =>
  ld .slc (⟨b8, 0, none⟩ : Addr) w_6 fun (t23 : (Option Addr × Nat × Nat)) =>
  subI .i64 (t23.2.1 : Int) 1 fun t25 =>
  ixS t21.1 t21.2.1 1 t25 fun t26 =>
  ld .str t26 w_6 fun (t27 : ByteArray) =>
  genQ P (Instr.build y_api_Item #[(0, (Value.string t27)), (1, (Value.int .i64 2))]) .any w_6 fun (t28 : Value) =>
  newB (zc P y_api_Item) y_api_Item w_6 fun b9 w_7 =>
  genU P (storeVar y_api_Item (⟨b9, 0, none⟩ : Addr) t28) w_7 fun w_8 =>
  joinP Unit (fun k_3 =>
  ld .bool (⟨b8, 2, none⟩ : Addr) w_8 fun (t31 : Bool) =>
  iteP t31 (
  drewP w_8 fun w_9 =>
  withAddr c1 fun p_1 =>
  ld .any p_1 w_9 fun (t32 : Value) =>
  ld .slc (⟨b8, 0, none⟩ : Addr) w_9 fun (t34 : (Option Addr × Nat × Nat)) =>
  callF P F_vpath_Show #[(Value.slice t34.1 t34.2.1 t34.2.2)] [.str] false w_9 fun (t35 : ByteArray) w_10 =>
  ((withAddr c1 fun p_2 =>
  ld .any p_2 w_10 fun (t32_1 : Value) =>
  t32_1 = t32) ∧
  callV P t32 #[(Value.string t35)] [.any] false w_10 fun (t36 : Value) w_11 =>
  stC (⟨b9, 1, none⟩ : Addr) (Value.int .i64 3) w_11 fun w_12 =>
  genU P (storeVar y_api_Digest (⟨b9, 2, none⟩ : Addr) t36) w_12 fun w_13 =>
  k_3 () w_13)) (
  withAddr c2 fun p_3 =>
  ld .slc p_3 w_8 fun (t40 : (Option Addr × Nat × Nat)) =>
  ld .str (⟨b8, 3, none⟩ : Addr) w_8 fun (t43 : ByteArray) =>
  callF P F_tree_file #[(Value.slice t40.1 t40.2.1 t40.2.2), (Value.string t43)] [.slc, .any] true w_8 fun (t44 : ((Option Addr × Nat × Nat) × Value)) w_14 =>
  withAddr c2 fun p_4 =>
  stC p_4 (Value.slice t44.1.1 t44.1.2.1 t44.1.2.2) w_14 fun w_15 =>
  genU P (storeVar y_api_Digest (⟨b9, 2, none⟩ : Addr) t44.2) w_15 fun w_16 =>
  k_3 () w_16)) (fun _ w_17 =>
  ld .slc (⟨b6, 4, none⟩ : Addr) w_17 fun (t49 : (Option Addr × Nat × Nat)) =>
  ldA P 34 (⟨b9, 0, none⟩ : Addr) w_17 fun t50 =>
  genL P (Instr.buildSlice y_S_api_Item 1 #[(0, (Value.agg t50))]) .slc w_17 fun (t51 : (Option Addr × Nat × Nat)) w_18 =>
  genL P (Builtin.append_ #[y_S_api_Item, y_S_api_Item] y_S_api_Item #[(Value.slice t49.1 t49.2.1 t49.2.2), (Value.slice t51.1 t51.2.1 t51.2.2)]) .slc w_18 fun (t52 : (Option Addr × Nat × Nat)) w_19 =>
  stC (⟨b6, 4, none⟩ : Addr) (Value.slice t52.1 t52.2.1 t52.2.2) w_19 fun w_20 =>
  k_2 () w_20)) (fun _ w_21 =>
  k_1 () w_21)) (fun _ w_22 =>
  addI .i64 s 1 fun t54 =>
  k t54 w_22)) (
  newB (zc P y_api_Digest) y_api_Digest w_4 fun b10 w_23 =>
  withAddr c2 fun p_5 =>
  ld .slc p_5 w_23 fun (t56 : (Option Addr × Nat × Nat)) =>
  ldA P 5 (⟨b6, 0, none⟩ : Addr) w_23 fun t57 =>
  callF P F_tree_pack #[(Value.slice t56.1 t56.2.1 t56.2.2), (Value.agg t57)] [.slc, .any] true w_23 fun (t58 : ((Option Addr × Nat × Nat) × Value)) w_24 =>
  withAddr c2 fun p_6 =>
  stC p_6 (Value.slice t58.1.1 t58.1.2.1 t58.1.2.2) w_24 fun w_25 =>
  genU P (storeVar y_api_Digest (⟨b10, 0, none⟩ : Addr) t58.2) w_25 fun w_26 =>
  ldA P 32 (⟨b10, 0, none⟩ : Addr) w_26 fun t61 =>
  genU P (storeVar y_api_Digest (⟨b5, 0, none⟩ : Addr) (Value.agg t61)) w_26 fun w_27 =>
  ldA P 32 (⟨b5, 0, none⟩ : Addr) w_27 fun t5 =>
  R (.returned (Value.agg t5)) w_27)) 0 w_3
theorem eq_tree_Build_1 (atv : ByteArray) (c0 : Option Addr) (c1 : Option Addr) (c2 : Option Addr) (R : Ending → World → Prop) (w : World) : tr P qs ((Tryz.f56.body).getD .skip) ann_tree_Build_1 (env0 0 [(0, (Value.string atv)), (0, (Value.pointer c0)), (0, (Value.pointer c1)), (0, (Value.pointer c2))]) (topK P Tryz.f56.results.toList R) w = T_tree_Build_1 atv c0 c1 c2 R w := by kernel_rfl
theorem fn_tree_Build_1 {atv : ByteArray} {c0 : Option Addr} {c1 : Option Addr} {c2 : Option Addr} {R : Ending → World → Prop} {w : World} (hT : T_tree_Build_1 atv c0 c1 c2 R w) : CallF P F_tree_Build_1 #[(Value.string atv), (Value.pointer c0), (Value.pointer c1), (Value.pointer c2)] w R :=
 fn_of_tr (fn := Tryz.f56) (c := (Tryz.f56.body).getD .skip) (ann := ann_tree_Build_1) (args := [(0, (Value.string atv)), (0, (Value.pointer c0)), (0, (Value.pointer c1)), (0, (Value.pointer c2))]) (qs := qs) mixed Tryz.func56 rfl (by kernel_rfl) (by kernel_rfl) ok_tree_Build_1 ((eq_tree_Build_1 atv c0 c1 c2 R w).symm ▸ hT)
def ann_tree_file : Ann2 := (.seq (.pure .leaf) (.seq (.pure .leaf) (.seq (.seq (.pure .leaf) (.blk (.rng [(15, .slc)] false [] .leaf (.blk (.seq .leaf (.seq .leaf .leaf)))))) (.pure (.seq .leaf .leaf)))))
theorem ok_tree_file : okC2 P qs Tryz.f58.ntmps ((Tryz.f58.body).getD .skip) ann_tree_file = true := by kernel_rfl
def T_tree_file (list : Option Addr) (list_l list_c : Nat) (data : ByteArray) (R : Ending → World → Prop) (w : World) : Prop :=
  newB #[(Value.slice list list_l list_c)] y_S_S_uint8 w fun b2 w_1 =>
  newB (zc P y_api_Digest) y_api_Digest w_1 fun b5 w_2 =>
  genQ P (Instr.build y_api_Node #[(0, (Value.int .i64 2)), (2, (Value.int .i64 (data.size : Int)))]) .any w_2 fun (t11 : Value) =>
  newB (zc P y_api_Node) y_api_Node w_2 fun b6 w_3 =>
  genU P (storeVar y_api_Node (⟨b6, 0, none⟩ : Addr) t11) w_3 fun w_4 =>
  genL P (convert y_string y_S_uint8 (Value.string data)) .slc w_4 fun (t13 : (Option Addr × Nat × Nat)) w_5 =>
  callF P F_slices_Chunk_S_byte_byte #[(Value.slice t13.1 t13.2.1 t13.2.2), (Value.int .i64 64)] [.any] false w_5 fun (t14 : Value) w_6 =>
  rangeP P [.slc] t14 w_6 (fun (x : (Option Addr × Nat × Nat)) w_7 beg kc _ _ =>
  beg w_7 fun w_8 =>
  newB (zc P y_api_Digest) y_api_Digest w_8 fun b8 w_9 =>
  ld .slc (⟨b2, 0, none⟩ : Addr) w_9 fun (t17 : (Option Addr × Nat × Nat)) =>
  genQ P (convert y_S_uint8 y_string (Value.slice x.1 x.2.1 x.2.2)) .str w_9 fun (t19 : ByteArray) =>
  genQ P (Instr.build y_api_Node #[(0, (Value.int .i64 1)), (1, (Value.string t19))]) .any w_9 fun (t20 : Value) =>
  callF P F_tree_pack #[(Value.slice t17.1 t17.2.1 t17.2.2), t20] [.slc, .any] true w_9 fun (t21 : ((Option Addr × Nat × Nat) × Value)) w_10 =>
  stC (⟨b2, 0, none⟩ : Addr) (Value.slice t21.1.1 t21.1.2.1 t21.1.2.2) w_10 fun w_11 =>
  genU P (storeVar y_api_Digest (⟨b8, 0, none⟩ : Addr) t21.2) w_11 fun w_12 =>
  ld .slc (⟨b6, 3, none⟩ : Addr) w_12 fun (t25 : (Option Addr × Nat × Nat)) =>
  ldA P 32 (⟨b8, 0, none⟩ : Addr) w_12 fun t26 =>
  genL P (Instr.buildSlice y_S_api_Digest 1 #[(0, (Value.agg t26))]) .slc w_12 fun (t27 : (Option Addr × Nat × Nat)) w_13 =>
  genL P (Builtin.append_ #[y_S_api_Digest, y_S_api_Digest] y_S_api_Digest #[(Value.slice t25.1 t25.2.1 t25.2.2), (Value.slice t27.1 t27.2.1 t27.2.2)]) .slc w_13 fun (t28 : (Option Addr × Nat × Nat)) w_14 =>
  stC (⟨b6, 3, none⟩ : Addr) (Value.slice t28.1 t28.2.1 t28.2.2) w_14 fun w_15 =>
  kc w_15) (fun D w_16 =>
  ld .slc (⟨b2, 0, none⟩ : Addr) w_16 fun (t30 : (Option Addr × Nat × Nat)) =>
  ldA P 5 (⟨b6, 0, none⟩ : Addr) w_16 fun t31 =>
  callF P F_tree_pack #[(Value.slice t30.1 t30.2.1 t30.2.2), (Value.agg t31)] [.slc, .any] true w_16 fun (t32 : ((Option Addr × Nat × Nat) × Value)) w_17 =>
  genU P (storeVar y_api_Digest (⟨b5, 0, none⟩ : Addr) t32.2) w_17 fun w_18 =>
  (w_18.heap[D]? = some (.deferred (some [])) ∧ ∀ w_19, w_19 = World.putObj w_18 D (.deferred none) →
  ldA P 32 (⟨b5, 0, none⟩ : Addr) w_19 fun t5 =>
  R (.returned (Value.tuple #[(Value.slice t32.1.1 t32.1.2.1 t32.1.2.2), (Value.agg t5)])) w_19)) (fun _D _w => False) (fun _ _D _w => False)
theorem eq_tree_file (list : Option Addr) (list_l list_c : Nat) (data : ByteArray) (R : Ending → World → Prop) (w : World) : tr2 P qs ((Tryz.f58.body).getD .skip) ann_tree_file [] (env0 0 [(0, (Value.slice list list_l list_c)), (0, (Value.string data))]) (topK2 P Tryz.f58.results.toList R) w = T_tree_file list list_l list_c data R w := by kernel_rfl
theorem fn_tree_file {list : Option Addr} {list_l list_c : Nat} {data : ByteArray} {R : Ending → World → Prop} {w : World} (hT : T_tree_file list list_l list_c data R w) : CallF P F_tree_file #[(Value.slice list list_l list_c), (Value.string data)] w R :=
 fn_of_tr2 (fn := Tryz.f58) (c := (Tryz.f58.body).getD .skip) (ann := ann_tree_file) (args := [(0, (Value.slice list list_l list_c)), (0, (Value.string data))]) (qs := qs) mixed Tryz.func58 rfl (by kernel_rfl) (by kernel_rfl) ok_tree_file ((eq_tree_file list list_l list_c data R w).symm ▸ hT)
def ann_tree_pack : Ann := (.seq .leaf (.seq .leaf (.seq .leaf .leaf)))
theorem ok_tree_pack : okC P qs Tryz.f59.ntmps ((Tryz.f59.body).getD .skip) ann_tree_pack = true := by kernel_rfl
def T_tree_pack (list : Option Addr) (list_l list_c : Nat) (n : Value) (R : Ending → World → Prop) (w : World) : Prop :=
  newB (Value.cells n) y_api_Node w fun b3 w_1 =>
  newB (zc P y_api_Digest) y_api_Digest w_1 fun b5 w_2 =>
  ldA P 5 (⟨b3, 0, none⟩ : Addr) w_2 fun t9 =>
  callF P F_node_Encode #[(Value.agg t9)] [.slc, .int .i64] true w_2 fun (t10 : ((Option Addr × Nat × Nat) × Int)) w_3 =>
  genL P (Instr.buildSlice y_S_S_uint8 1 #[(0, (Value.slice t10.1.1 t10.1.2.1 t10.1.2.2))]) .slc w_3 fun (t15 : (Option Addr × Nat × Nat)) w_4 =>
  genL P (Builtin.append_ #[y_S_S_uint8, y_S_S_uint8] y_S_S_uint8 #[(Value.slice list list_l list_c), (Value.slice t15.1 t15.2.1 t15.2.2)]) .slc w_4 fun (t16 : (Option Addr × Nat × Nat)) w_5 =>
  callF P F_sha_Sum #[(Value.slice t10.1.1 t10.1.2.1 t10.1.2.2)] [.any] false w_5 fun (t18 : Value) w_6 =>
  genU P (storeVar y_api_Digest (⟨b5, 0, none⟩ : Addr) t18) w_6 fun w_7 =>
  ldA P 32 (⟨b5, 0, none⟩ : Addr) w_7 fun t5 =>
  R (.returned (Value.tuple #[(Value.slice t16.1 t16.2.1 t16.2.2), (Value.agg t5)])) w_7
theorem eq_tree_pack (list : Option Addr) (list_l list_c : Nat) (n : Value) (R : Ending → World → Prop) (w : World) : tr P qs ((Tryz.f59.body).getD .skip) ann_tree_pack (env0 0 [(0, (Value.slice list list_l list_c)), (1, n)]) (topK P Tryz.f59.results.toList R) w = T_tree_pack list list_l list_c n R w := by kernel_rfl
theorem fn_tree_pack {list : Option Addr} {list_l list_c : Nat} {n : Value} {R : Ending → World → Prop} {w : World} (hT : T_tree_pack list list_l list_c n R w) : CallF P F_tree_pack #[(Value.slice list list_l list_c), n] w R :=
 fn_of_tr (fn := Tryz.f59) (c := (Tryz.f59.body).getD .skip) (ann := ann_tree_pack) (args := [(0, (Value.slice list list_l list_c)), (1, n)]) (qs := qs) mixed Tryz.func59 rfl (by kernel_rfl) (by kernel_rfl) ok_tree_pack ((eq_tree_pack list list_l list_c n R w).symm ▸ hT)
def ann_tree_get : Ann := (.seq .leaf (.seq .leaf (.seq (.seq .leaf (.cond (.seq .leaf .leaf) .leaf)) (.seq .leaf (.join [] (.seq .leaf (.cond (.seq .leaf .leaf) .leaf)) (.seq .leaf .leaf))))))
theorem ok_tree_get : okC P qs Tryz.f103.ntmps ((Tryz.f103.body).getD .skip) ann_tree_get = true := by kernel_rfl
def T_tree_get (s : Option Addr) (d : Value) (kind : Int) (R : Ending → World → Prop) (w : World) : Prop :=
  newB (Value.cells d) y_api_Digest w fun b4 w_1 =>
  newB (zc P y_api_Node) y_api_Node w_1 fun b6 w_2 =>
  ldA P 32 (⟨b4, 0, none⟩ : Addr) w_2 fun t13 =>
  callF P F_blob_Store_Get #[(Value.pointer s), (Value.agg t13)] [.slc, .int .i64] true w_2 fun (t14 : ((Option Addr × Nat × Nat) × Int)) w_3 =>
  iteP (t14.2 != 0) (
  genQ P (Instr.build y_api_Node #[]) .any w_3 fun (t19 : Value) =>
  genU P (storeVar y_api_Node (⟨b6, 0, none⟩ : Addr) t19) w_3 fun w_4 =>
  ldA P 5 (⟨b6, 0, none⟩ : Addr) w_4 fun t6 =>
  R (.returned (Value.tuple #[(Value.agg t6), (Value.int .i64 t14.2)])) w_4) (
  callF P F_node_Decode #[(Value.slice t14.1.1 t14.1.2.1 t14.1.2.2)] [.any, .int .i64] true w_3 fun (t23 : (Value × Int)) w_5 =>
  newB (zc P y_api_Node) y_api_Node w_5 fun b10 w_6 =>
  genU P (storeVar y_api_Node (⟨b10, 0, none⟩ : Addr) t23.1) w_6 fun w_7 =>
  joinP Unit (fun k =>
  iteP (t23.2 != 0) (
  genQ P (Instr.build y_api_Node #[]) .any w_7 fun (t34 : Value) =>
  genU P (storeVar y_api_Node (⟨b6, 0, none⟩ : Addr) t34) w_7 fun w_8 =>
  ldA P 5 (⟨b6, 0, none⟩ : Addr) w_8 fun t6_1 =>
  R (.returned (Value.tuple #[(Value.agg t6_1), (Value.int .i64 21)])) w_8) (
  ld (.int .i64) (⟨b10, 0, none⟩ : Addr) w_7 fun (t30 : Int) =>
  iteP (t30 != kind) (
  genQ P (Instr.build y_api_Node #[]) .any w_7 fun (t34_1 : Value) =>
  genU P (storeVar y_api_Node (⟨b6, 0, none⟩ : Addr) t34_1) w_7 fun w_9 =>
  ldA P 5 (⟨b6, 0, none⟩ : Addr) w_9 fun t6_2 =>
  R (.returned (Value.tuple #[(Value.agg t6_2), (Value.int .i64 21)])) w_9) (
  k () w_7))) (fun _ w_10 =>
  ldA P 5 (⟨b10, 0, none⟩ : Addr) w_10 fun t35 =>
  genU P (storeVar y_api_Node (⟨b6, 0, none⟩ : Addr) (Value.agg t35)) w_10 fun w_11 =>
  ldA P 5 (⟨b6, 0, none⟩ : Addr) w_11 fun t6_3 =>
  R (.returned (Value.tuple #[(Value.agg t6_3), (Value.int .i64 0)])) w_11))
theorem eq_tree_get (s : Option Addr) (d : Value) (kind : Int) (R : Ending → World → Prop) (w : World) : tr P qs ((Tryz.f103.body).getD .skip) ann_tree_get (env0 0 [(0, (Value.pointer s)), (1, d), (0, (Value.int .i64 kind))]) (topK P Tryz.f103.results.toList R) w = T_tree_get s d kind R w := by kernel_rfl
theorem fn_tree_get {s : Option Addr} {d : Value} {kind : Int} {R : Ending → World → Prop} {w : World} (hT : T_tree_get s d kind R w) : CallF P F_tree_get #[(Value.pointer s), d, (Value.int .i64 kind)] w R :=
 fn_of_tr (fn := Tryz.f103) (c := (Tryz.f103.body).getD .skip) (ann := ann_tree_get) (args := [(0, (Value.pointer s)), (1, d), (0, (Value.int .i64 kind))]) (qs := qs) mixed Tryz.func103 rfl (by kernel_rfl) (by kernel_rfl) ok_tree_get ((eq_tree_get s d kind R w).symm ▸ hT)
def ann_slices_ContainsFunc_S_api_File_api_File : Ann := (.seq .leaf (.seq .leaf .leaf))
theorem ok_slices_ContainsFunc_S_api_File_api_File : okC P qs Tryz.f106.ntmps ((Tryz.f106.body).getD .skip) ann_slices_ContainsFunc_S_api_File_api_File = true := by kernel_rfl
def T_slices_ContainsFunc_S_api_File_api_File (s : Option Addr) (s_l s_c : Nat) (f : Value) (R : Ending → World → Prop) (w : World) : Prop :=
  callF P F_slices_IndexFunc_S_api_File_api_File #[(Value.slice s s_l s_c), f] [.int .i64] false w fun (t7 : Int) w_1 =>
  R (.returned (Value.bool (decide (t7 ≥ 0)))) w_1
theorem eq_slices_ContainsFunc_S_api_File_api_File (s : Option Addr) (s_l s_c : Nat) (f : Value) (R : Ending → World → Prop) (w : World) : tr P qs ((Tryz.f106.body).getD .skip) ann_slices_ContainsFunc_S_api_File_api_File (env0 0 [(0, (Value.slice s s_l s_c)), (1, f)]) (topK P Tryz.f106.results.toList R) w = T_slices_ContainsFunc_S_api_File_api_File s s_l s_c f R w := by kernel_rfl
theorem fn_slices_ContainsFunc_S_api_File_api_File {s : Option Addr} {s_l s_c : Nat} {f : Value} {R : Ending → World → Prop} {w : World} (hT : T_slices_ContainsFunc_S_api_File_api_File s s_l s_c f R w) : CallF P F_slices_ContainsFunc_S_api_File_api_File #[(Value.slice s s_l s_c), f] w R :=
 fn_of_tr (fn := Tryz.f106) (c := (Tryz.f106.body).getD .skip) (ann := ann_slices_ContainsFunc_S_api_File_api_File) (args := [(0, (Value.slice s s_l s_c)), (1, f)]) (qs := qs) mixed Tryz.func106 rfl (by kernel_rfl) (by kernel_rfl) ok_slices_ContainsFunc_S_api_File_api_File ((eq_slices_ContainsFunc_S_api_File_api_File s s_l s_c f R w).symm ▸ hT)
def ann_tree_parse_1 : Ann := (.seq .leaf (.seq .leaf .leaf))
theorem ok_tree_parse_1 : okC P qs Tryz.f107.ntmps ((Tryz.f107.body).getD .skip) ann_tree_parse_1 = true := by kernel_rfl
def T_tree_parse_1 (f : Value) (R : Ending → World → Prop) (w : World) : Prop :=
  newB (Value.cells f) y_api_File w fun b1 w_1 =>
  ld .bool (⟨b1, 1, none⟩ : Addr) w_1 fun (t4 : Bool) =>
  iteP t4 (
  ld .str (⟨b1, 2, none⟩ : Addr) w_1 fun (t7 : ByteArray) =>
  R (.returned (Value.bool (!(t7.toList == (ByteArray.mk #[]).toList)))) w_1) (
  R (.returned (Value.bool false)) w_1)
theorem eq_tree_parse_1 (f : Value) (R : Ending → World → Prop) (w : World) : tr P qs ((Tryz.f107.body).getD .skip) ann_tree_parse_1 (env0 0 [(1, f)]) (topK P Tryz.f107.results.toList R) w = T_tree_parse_1 f R w := by kernel_rfl
theorem fn_tree_parse_1 {f : Value} {R : Ending → World → Prop} {w : World} (hT : T_tree_parse_1 f R w) : CallF P F_tree_parse_1 #[f] w R :=
 fn_of_tr (fn := Tryz.f107) (c := (Tryz.f107.body).getD .skip) (ann := ann_tree_parse_1) (args := [(1, f)]) (qs := qs) mixed Tryz.func107 rfl (by kernel_rfl) (by kernel_rfl) ok_tree_parse_1 ((eq_tree_parse_1 f R w).symm ▸ hT)
def ann_tree_parse_2 : Ann := (.seq .leaf (.seq .leaf .leaf))
theorem ok_tree_parse_2 : okC P qs Tryz.f108.ntmps ((Tryz.f108.body).getD .skip) ann_tree_parse_2 = true := by kernel_rfl
def T_tree_parse_2 (f : Value) (R : Ending → World → Prop) (w : World) : Prop :=
  newB (Value.cells f) y_api_File w fun b1 w_1 =>
  ld .str (⟨b1, 2, none⟩ : Addr) w_1 fun (t4 : ByteArray) =>
  R (.returned (Value.bool (decide ((t4.size : Int) > 1024)))) w_1
theorem eq_tree_parse_2 (f : Value) (R : Ending → World → Prop) (w : World) : tr P qs ((Tryz.f108.body).getD .skip) ann_tree_parse_2 (env0 0 [(1, f)]) (topK P Tryz.f108.results.toList R) w = T_tree_parse_2 f R w := by kernel_rfl
theorem fn_tree_parse_2 {f : Value} {R : Ending → World → Prop} {w : World} (hT : T_tree_parse_2 f R w) : CallF P F_tree_parse_2 #[f] w R :=
 fn_of_tr (fn := Tryz.f108) (c := (Tryz.f108.body).getD .skip) (ann := ann_tree_parse_2) (args := [(1, f)]) (qs := qs) mixed Tryz.func108 rfl (by kernel_rfl) (by kernel_rfl) ok_tree_parse_2 ((eq_tree_parse_2 f R w).symm ▸ hT)
def ann_tree_shape_1 : Ann := (.seq .leaf (.seq .leaf .leaf))
theorem ok_tree_shape_1 : okC P qs Tryz.f110.ntmps ((Tryz.f110.body).getD .skip) ann_tree_shape_1 = true := by kernel_rfl
def T_tree_shape_1 (a : Value) (b : Value) (R : Ending → World → Prop) (w : World) : Prop :=
  newB (Value.cells a) y_tree_entry w fun b2 w_1 =>
  newB (Value.cells b) y_tree_entry w_1 fun b3 w_2 =>
  ld .slc (⟨b2, 0, none⟩ : Addr) w_2 fun (t6 : (Option Addr × Nat × Nat)) =>
  ld .slc (⟨b3, 0, none⟩ : Addr) w_2 fun (t8 : (Option Addr × Nat × Nat)) =>
  callF P F_vpath_Compare #[(Value.slice t6.1 t6.2.1 t6.2.2), (Value.slice t8.1 t8.2.1 t8.2.2)] [.int .i64] false w_2 fun (t9 : Int) w_3 =>
  R (.returned (Value.int .i64 t9)) w_3
theorem eq_tree_shape_1 (a : Value) (b : Value) (R : Ending → World → Prop) (w : World) : tr P qs ((Tryz.f110.body).getD .skip) ann_tree_shape_1 (env0 0 [(1, a), (1, b)]) (topK P Tryz.f110.results.toList R) w = T_tree_shape_1 a b R w := by kernel_rfl
theorem fn_tree_shape_1 {a : Value} {b : Value} {R : Ending → World → Prop} {w : World} (hT : T_tree_shape_1 a b R w) : CallF P F_tree_shape_1 #[a, b] w R :=
 fn_of_tr (fn := Tryz.f110) (c := (Tryz.f110.body).getD .skip) (ann := ann_tree_shape_1) (args := [(1, a), (1, b)]) (qs := qs) mixed Tryz.func110 rfl (by kernel_rfl) (by kernel_rfl) ok_tree_shape_1 ((eq_tree_shape_1 a b R w).symm ▸ hT)
def ann_slices_Chunk_S_byte_byte : Ann := (.seq .leaf (.join [] (.seq .leaf (.cond .leaf .leaf)) (.seq .leaf .leaf)))
theorem ok_slices_Chunk_S_byte_byte : okC P qs Tryz.f113.ntmps ((Tryz.f113.body).getD .skip) ann_slices_Chunk_S_byte_byte = true := by kernel_rfl
def T_slices_Chunk_S_byte_byte (s : Option Addr) (s_l s_c : Nat) (n : Int) (R : Ending → World → Prop) (w : World) : Prop :=
  newB #[(Value.slice s s_l s_c)] y_S_uint8 w fun b2 w_1 =>
  newB #[(Value.int .i64 n)] y_int w_1 fun b3 w_2 =>
  joinP Unit (fun k =>
  ld (.int .i64) (⟨b3, 0, none⟩ : Addr) w_2 fun (t5 : Int) =>
  iteP (decide (t5 < 1)) (
  genQ P (Instr.makeInterface y_string (Value.string (ByteArray.mk #[99, 97, 110, 110, 111, 116, 32, 98, 101, 32, 108, 101, 115, 115, 32, 116, 104, 97, 110, 32, 49]))) .any w_2 fun (_ : Value) =>
  False) (
  k () w_2)) (fun _ w_3 =>
  genQ P (Instr.makeFunc (Go.Fn.func F_slices_Chunk_S_byte_byte_1) #[] #[(Value.pointer (some (⟨b2, 0, none⟩ : Addr))), (Value.pointer (some (⟨b3, 0, none⟩ : Addr)))]) .any w_3 fun (t8 : Value) =>
  R (.returned t8) w_3)
theorem eq_slices_Chunk_S_byte_byte (s : Option Addr) (s_l s_c : Nat) (n : Int) (R : Ending → World → Prop) (w : World) : tr P qs ((Tryz.f113.body).getD .skip) ann_slices_Chunk_S_byte_byte (env0 0 [(0, (Value.slice s s_l s_c)), (0, (Value.int .i64 n))]) (topK P Tryz.f113.results.toList R) w = T_slices_Chunk_S_byte_byte s s_l s_c n R w := by kernel_rfl
theorem fn_slices_Chunk_S_byte_byte {s : Option Addr} {s_l s_c : Nat} {n : Int} {R : Ending → World → Prop} {w : World} (hT : T_slices_Chunk_S_byte_byte s s_l s_c n R w) : CallF P F_slices_Chunk_S_byte_byte #[(Value.slice s s_l s_c), (Value.int .i64 n)] w R :=
 fn_of_tr (fn := Tryz.f113) (c := (Tryz.f113.body).getD .skip) (ann := ann_slices_Chunk_S_byte_byte) (args := [(0, (Value.slice s s_l s_c)), (0, (Value.int .i64 n))]) (qs := qs) mixed Tryz.func113 rfl (by kernel_rfl) (by kernel_rfl) ok_slices_Chunk_S_byte_byte ((eq_slices_Chunk_S_byte_byte s s_l s_c n R w).symm ▸ hT)
def ann_slices_IndexFunc_S_api_File_api_File : Ann := (.seq .leaf (.seq (.seq .leaf (.blk (.loop [(8, .int .i64)] (.seq .leaf (.seq (.cond .leaf .leaf) (.seq (.blk (.seq .leaf (.seq .leaf (.cond (.seq .leaf .leaf) .leaf)))) .leaf)))))) (.seq .leaf .leaf)))
theorem ok_slices_IndexFunc_S_api_File_api_File : okC P qs Tryz.f159.ntmps ((Tryz.f159.body).getD .skip) ann_slices_IndexFunc_S_api_File_api_File = true := by kernel_rfl
def T_slices_IndexFunc_S_api_File_api_File (s : Option Addr) (s_l s_c : Nat) (f : Value) (R : Ending → World → Prop) (w : World) : Prop :=
  loopP Int (fun s_1 w_1 k =>
  iteP (decide (s_1 < (s_l : Int))) (
  ixS s s_l 3 s_1 fun t14 =>
  ldA P 3 t14 w_1 fun t15 =>
  callV P f #[(Value.agg t15)] [.bool] false w_1 fun (t16 : Bool) w_2 =>
  iteP t16 (
  R (.returned (Value.int .i64 s_1)) w_2) (
  addI .i64 s_1 1 fun t18 =>
  k t18 w_2)) (
  R (.returned (Value.int .i64 (-1))) w_1)) 0 w
theorem eq_slices_IndexFunc_S_api_File_api_File (s : Option Addr) (s_l s_c : Nat) (f : Value) (R : Ending → World → Prop) (w : World) : tr P qs ((Tryz.f159.body).getD .skip) ann_slices_IndexFunc_S_api_File_api_File (env0 0 [(0, (Value.slice s s_l s_c)), (1, f)]) (topK P Tryz.f159.results.toList R) w = T_slices_IndexFunc_S_api_File_api_File s s_l s_c f R w := by kernel_rfl
theorem fn_slices_IndexFunc_S_api_File_api_File {s : Option Addr} {s_l s_c : Nat} {f : Value} {R : Ending → World → Prop} {w : World} (hT : T_slices_IndexFunc_S_api_File_api_File s s_l s_c f R w) : CallF P F_slices_IndexFunc_S_api_File_api_File #[(Value.slice s s_l s_c), f] w R :=
 fn_of_tr (fn := Tryz.f159) (c := (Tryz.f159.body).getD .skip) (ann := ann_slices_IndexFunc_S_api_File_api_File) (args := [(0, (Value.slice s s_l s_c)), (1, f)]) (qs := qs) mixed Tryz.func159 rfl (by kernel_rfl) (by kernel_rfl) ok_slices_IndexFunc_S_api_File_api_File ((eq_slices_IndexFunc_S_api_File_api_File s s_l s_c f R w).symm ▸ hT)
def ann_slices_Chunk_S_byte_byte_1 : Ann := (.seq .leaf (.blk (.loop [(4, .int .i64)] (.seq (.seq .leaf (.cond .leaf .leaf)) (.seq (.blk (.seq (.tree (.op 2 [] (.op 0 [] (.op 1 [] (.op 3 [] (.op 4 [] (.op 5 [] (.op 6 [] .done)))))))) (.seq .leaf (.cond .leaf .leaf)))) .leaf)))))
theorem ok_slices_Chunk_S_byte_byte_1 : okC P qs Tryz.f167.ntmps ((Tryz.f167.body).getD .skip) ann_slices_Chunk_S_byte_byte_1 = true := by kernel_rfl
def T_slices_Chunk_S_byte_byte_1 (yield : Value) (c0 : Option Addr) (c1 : Option Addr) (R : Ending → World → Prop) (w : World) : Prop :=
  loopP Int (fun s w_1 k =>
  withAddr c0 fun p =>
  ld .slc p w_1 fun (t7 : (Option Addr × Nat × Nat)) =>
  iteP (decide (s < (t7.2.1 : Int))) (
  drewP w_1 fun w_2 =>
  withAddr c1 fun p_1 =>
  ld (.int .i64) p_1 w_2 fun (t13 : Int) =>
  withAddr c0 fun p_2 =>
  ld .slc p_2 w_2 fun (t14 : (Option Addr × Nat × Nat)) =>
  genQ P (Instr.sliceAt y_S_uint8 (Value.slice t14.1 t14.2.1 t14.2.2) (some (Value.int .i64 s)) none none) .slc w_2 fun (t16 : (Option Addr × Nat × Nat)) =>
  genQ P (Builtin.min_ #[y_int, y_int] y_int #[(Value.int .i64 t13), (Value.int .i64 (t16.2.1 : Int))]) (.int .i64) w_2 fun (t18 : Int) =>
  withAddr c0 fun p_3 =>
  ld .slc p_3 w_2 fun (t20 : (Option Addr × Nat × Nat)) =>
  addI .i64 s t18 fun t24 =>
  addI .i64 s t18 fun t27 =>
  genQ P (Instr.sliceAt y_S_uint8 (Value.slice t20.1 t20.2.1 t20.2.2) (some (Value.int .i64 s)) (some (Value.int .i64 t24)) (some (Value.int .i64 t27))) .slc w_2 fun (t28 : (Option Addr × Nat × Nat)) =>
  callV P yield #[(Value.slice t28.1 t28.2.1 t28.2.2)] [.bool] false w_2 fun (t29 : Bool) w_3 =>
  iteP (!t29) (
  R (.returned (Value.tuple #[])) w_3) (
  withAddr c1 fun p_4 =>
  ld (.int .i64) p_4 w_3 fun (t11 : Int) =>
  addI .i64 s t11 fun t12 =>
  k t12 w_3)) (
  R (.returned (Value.tuple #[])) w_1)) 0 w
theorem eq_slices_Chunk_S_byte_byte_1 (yield : Value) (c0 : Option Addr) (c1 : Option Addr) (R : Ending → World → Prop) (w : World) : tr P qs ((Tryz.f167.body).getD .skip) ann_slices_Chunk_S_byte_byte_1 (env0 0 [(1, yield), (0, (Value.pointer c0)), (0, (Value.pointer c1))]) (topK P Tryz.f167.results.toList R) w = T_slices_Chunk_S_byte_byte_1 yield c0 c1 R w := by kernel_rfl
theorem fn_slices_Chunk_S_byte_byte_1 {yield : Value} {c0 : Option Addr} {c1 : Option Addr} {R : Ending → World → Prop} {w : World} (hT : T_slices_Chunk_S_byte_byte_1 yield c0 c1 R w) : CallF P F_slices_Chunk_S_byte_byte_1 #[yield, (Value.pointer c0), (Value.pointer c1)] w R :=
 fn_of_tr (fn := Tryz.f167) (c := (Tryz.f167.body).getD .skip) (ann := ann_slices_Chunk_S_byte_byte_1) (args := [(1, yield), (0, (Value.pointer c0)), (0, (Value.pointer c1))]) (qs := qs) mixed Tryz.func167 rfl (by kernel_rfl) (by kernel_rfl) ok_slices_Chunk_S_byte_byte_1 ((eq_slices_Chunk_S_byte_byte_1 yield c0 c1 R w).symm ▸ hT)
end Go.Proofs.YtbmegmbnlajbbaaGreatDoor
namespace Go.Proofs.YtbmegmbnlajbbaaGreatDoor
open Go Go.Fw Go.Proofs
set_option maxRecDepth 100000
def ann_r07_Files : Ann := (.seq .leaf (.seq (.seq .leaf (.cond (.seq .leaf .leaf) .leaf)) (.seq (.seq .leaf (.blk (.loop [(5, .int .i64)] (.seq (.seq .leaf (.cond .leaf .leaf)) (.seq (.blk (.seq (.tree (.op 0 [] (.op 1 [] (.op 2 [] (.op 4 [] (.op 5 [] (.op 6 [] (.op 3 [] (.op 7 [] (.op 8 [] .done)))))))))) (.cond (.seq .leaf .leaf) .leaf))) .leaf))))) (.seq .leaf .leaf))))
theorem ok_r07_Files : okC P qs Tryz.f16.ntmps ((Tryz.f16.body).getD .skip) ann_r07_Files = true := by kernel_rfl
def T_r07_Files (a : Option Addr) (a_l a_c : Nat) (b : Option Addr) (b_l b_c : Nat) (R : Ending → World → Prop) (w : World) : Prop :=
  iteP ((a_l : Int) != (b_l : Int)) (
  R (.returned (Value.bool false)) w) (
  loopP Int (fun s w_1 k =>
  iteP (decide (s < (a_l : Int))) (
  drewP w_1 fun w_2 =>
  ixS a a_l 3 s fun t19 =>
  ixS b b_l 3 s fun t23 =>
  ldA P 3 t19 w_2 fun t20 =>
  ldA P 3 t23 w_2 fun t24 =>
  genQ P (eqM .neq y_api_File (.tmp 20) (.tmp 24) (Value.agg t20) (Value.agg t24)) .bool w_2 fun (t25 : Bool) =>
  iteP t25 (
  R (.returned (Value.bool false)) w_2) (
  addI .i64 s 1 fun t16 =>
  k t16 w_2)) (
  R (.returned (Value.bool true)) w_1)) 0 w)
theorem eq_r07_Files (a : Option Addr) (a_l a_c : Nat) (b : Option Addr) (b_l b_c : Nat) (R : Ending → World → Prop) (w : World) : tr P qs ((Tryz.f16.body).getD .skip) ann_r07_Files (env0 0 [(0, (Value.slice a a_l a_c)), (0, (Value.slice b b_l b_c))]) (topK P Tryz.f16.results.toList R) w = T_r07_Files a a_l a_c b b_l b_c R w := by kernel_rfl
theorem fn_r07_Files {a : Option Addr} {a_l a_c : Nat} {b : Option Addr} {b_l b_c : Nat} {R : Ending → World → Prop} {w : World} (hT : T_r07_Files a a_l a_c b b_l b_c R w) : CallF P F_r07_Files #[(Value.slice a a_l a_c), (Value.slice b b_l b_c)] w R :=
 fn_of_tr (fn := Tryz.f16) (c := (Tryz.f16.body).getD .skip) (ann := ann_r07_Files) (args := [(0, (Value.slice a a_l a_c)), (0, (Value.slice b b_l b_c))]) (qs := qs) mixed Tryz.func16 rfl (by kernel_rfl) (by kernel_rfl) ok_r07_Files ((eq_r07_Files a a_l a_c b b_l b_c R w).symm ▸ hT)
end Go.Proofs.YtbmegmbnlajbbaaGreatDoor
