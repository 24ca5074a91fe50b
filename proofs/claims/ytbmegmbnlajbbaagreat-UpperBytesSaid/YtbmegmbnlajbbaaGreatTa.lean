/- Functions of the program as propositions; printed by wip/tools/fw.py, checked by the kernel. -/
import Derived.Test.YtbmegmbnlajbbaaGreatProg
import Derived.Test.YtbmegmbnlajbbaaGreatFwF
namespace Go.Proofs.YtbmegmbnlajbbaaGreat
open Go Go.Fw Go.Proofs
set_option maxRecDepth 100000
noncomputable abbrev P : Program := Tryz.prog
def qs : List FuncId := [70, 67, 78, 66, 79]
theorem mixed : P.follows .mixedOrders = true := by kernel_rfl
abbrev F_main_main : FuncId := 0
abbrev F_gosem_cut : FuncId := 1
abbrev F_gosem_cut_init : FuncId := 2
abbrev F_l12_UpperBytes : FuncId := 3
abbrev F_l12_awake : FuncId := 4
abbrev F_l12_fits : FuncId := 5
abbrev F_upper_New : FuncId := 6
abbrev F_r12_New : FuncId := 7
abbrev F_l12_play : FuncId := 8
abbrev F_upper_Upper_Encode : FuncId := 9
abbrev F_r12_Upper_Encode : FuncId := 10
abbrev F_upper_Decode : FuncId := 11
abbrev F_r12_Decode : FuncId := 12
abbrev F_l12_same : FuncId := 13
abbrev F_upper_Upper_Put : FuncId := 14
abbrev F_upper_Upper_Count : FuncId := 15
abbrev F_upper_Upper_Size : FuncId := 16
abbrev F_upper_Upper_Over : FuncId := 17
abbrev F_upper_Upper_Drop : FuncId := 18
abbrev F_r12_Upper_Drop : FuncId := 19
abbrev F_r12_Upper_Put : FuncId := 20
abbrev F_wire_Out_Num : FuncId := 21
abbrev F_upper_Upper_Below : FuncId := 22
abbrev F_wire_Out_Text : FuncId := 23
abbrev F_wire_Out_Flag : FuncId := 24
abbrev F_wire_Out_Bytes : FuncId := 25
abbrev F_r02_Num : FuncId := 26
abbrev F_r02_Text : FuncId := 27
abbrev F_r02_Flag : FuncId := 28
abbrev F_wire_Read : FuncId := 29
abbrev F_wire_In_Num : FuncId := 30
abbrev F_wire_In_Err : FuncId := 31
abbrev F_wire_In_Text : FuncId := 32
abbrev F_wire_In_Flag : FuncId := 33
abbrev F_upper_names : FuncId := 34
abbrev F_vpath_Show : FuncId := 35
abbrev F_vpath_Compare : FuncId := 36
abbrev F_wire_In_End : FuncId := 37
abbrev F_r02_In_Num : FuncId := 38
abbrev F_r02_In_Text : FuncId := 39
abbrev F_r02_In_Flag : FuncId := 40
abbrev F_r02_In_Left : FuncId := 41
abbrev F_r12_Inodes : FuncId := 42
abbrev F_r12_Upper_Size : FuncId := 43
abbrev F_r12_Upper_Over : FuncId := 44
abbrev F_vpath_Parse : FuncId := 45
abbrev F_upper_form : FuncId := 46
abbrev F_upper_Upper_Get : FuncId := 47
abbrev F_r04_Within : FuncId := 48
abbrev F_r07_Names : FuncId := 49
abbrev F_r04_Parse : FuncId := 50
abbrev F_r12_Upper_Get : FuncId := 51
abbrev F_r12_Upper_Below : FuncId := 52
abbrev F_r04_Show : FuncId := 53
abbrev F_r12_Upper_place : FuncId := 54
abbrev F_r04_Compare : FuncId := 55
abbrev F_vpath_Within : FuncId := 56
abbrev F_slices_SortFunc_S_api_Inode_api_Inode : FuncId := 57
abbrev F_upper_Upper_Below_1 : FuncId := 58
abbrev F_wire_In_next : FuncId := 59
abbrev F_wire_In_fail : FuncId := 60
abbrev F_wire_In_take : FuncId := 61
abbrev F_strings_Join : FuncId := 62
abbrev F_slices_CompareFunc_S_string_S_string_string_string : FuncId := 63
abbrev F_cmp_Compare_string : FuncId := 64
abbrev F_r02_In_bad : FuncId := 65
abbrev F_strings_HasPrefix : FuncId := 66
abbrev F_vpath_plain : FuncId := 67
abbrev F_vpath_pieces : FuncId := 68
abbrev F_vpath_Check : FuncId := 69
abbrev F_r04_Plain : FuncId := 70
abbrev F_r04_Check : FuncId := 71
abbrev F_slices_Equal_S_string_string : FuncId := 72
abbrev F_slices_pdqsortCmpFunc_api_Inode : FuncId := 73
abbrev F_math_bits_Len : FuncId := 74
abbrev F_strings_Builder_Grow : FuncId := 75
abbrev F_strings_Builder_WriteString : FuncId := 76
abbrev F_strings_Builder_String : FuncId := 77
abbrev F_cmp_isNaN_string : FuncId := 78
abbrev F_internal_stringslite_HasPrefix : FuncId := 79
abbrev F_vpath_pieces_1 : FuncId := 80
abbrev F_strings_Cut : FuncId := 81
abbrev F_vpath_name : FuncId := 82
abbrev F_r04_Name : FuncId := 83
abbrev F_slices_insertionSortCmpFunc_api_Inode : FuncId := 84
abbrev F_slices_heapSortCmpFunc_api_Inode : FuncId := 85
abbrev F_slices_breakPatternsCmpFunc_api_Inode : FuncId := 86
abbrev F_slices_choosePivotCmpFunc_api_Inode : FuncId := 87
abbrev F_slices_reverseRangeCmpFunc_api_Inode : FuncId := 88
abbrev F_slices_partialInsertionSortCmpFunc_api_Inode : FuncId := 89
abbrev F_slices_partitionEqualCmpFunc_api_Inode : FuncId := 90
abbrev F_slices_partitionCmpFunc_api_Inode : FuncId := 91
abbrev F_math_bits_Len32 : FuncId := 92
abbrev F_math_bits_Len64 : FuncId := 93
abbrev F_strings_Builder_copyCheck : FuncId := 94
abbrev F_strings_Builder_grow : FuncId := 95
abbrev F_internal_stringslite_Cut : FuncId := 96
abbrev F_slices_siftDownCmpFunc_api_Inode : FuncId := 97
abbrev F_slices_nextPowerOfTwo : FuncId := 98
abbrev F_slices_xorshift_Next : FuncId := 99
abbrev F_slices_medianAdjacentCmpFunc_api_Inode : FuncId := 100
abbrev F_slices_medianCmpFunc_api_Inode : FuncId := 101
abbrev F_internal_abi_NoEscape : FuncId := 102
abbrev F_internal_bytealg_MakeNoZero : FuncId := 103
abbrev F_internal_stringslite_Index : FuncId := 104
abbrev F_slices_order2CmpFunc_api_Inode : FuncId := 105
abbrev F_internal_stringslite_IndexByte : FuncId := 106
abbrev F_internal_bytealg_IndexString : FuncId := 107
abbrev F_internal_bytealg_Cutover : FuncId := 108
abbrev F_internal_bytealg_IndexRabinKarp_string : FuncId := 109
abbrev F_internal_bytealg_IndexByteString : FuncId := 110
abbrev F_internal_bytealg_hashStr_string : FuncId := 111
abbrev F_runtime_boundsError_Error : FuncId := 112
abbrev F_runtime_boundsError_RuntimeError : FuncId := 113
abbrev F_runtime_errorString_Error : FuncId := 114
abbrev F_runtime_errorString_RuntimeError : FuncId := 115
abbrev F_runtime_plainError_Error : FuncId := 116
abbrev F_runtime_plainError_RuntimeError : FuncId := 117
abbrev F_runtime_errorAddressString_Error : FuncId := 118
abbrev F_runtime_errorAddressString_RuntimeError : FuncId := 119
abbrev F_runtime_TypeAssertionError_Error : FuncId := 120
abbrev F_runtime_TypeAssertionError_RuntimeError : FuncId := 121
abbrev F_runtime_PanicNilError_Error : FuncId := 122
abbrev F_runtime_PanicNilError_RuntimeError : FuncId := 123
abbrev F_internal_abi_Type_Align : FuncId := 124
abbrev F_internal_runtime_maps_unhashableTypeError_Error : FuncId := 125
abbrev F_internal_runtime_maps_unhashableTypeError_RuntimeError : FuncId := 126
abbrev F_api_Errno_Error : FuncId := 127
abbrev F_strings_Builder_Reset : FuncId := 128
abbrev F_internal_abi_Kind_String : FuncId := 129
abbrev y_tuple_bcd8b0 : TypeId := 0
abbrev y_func_f6bc82 : TypeId := 1
abbrev y_int64 : TypeId := 2
abbrev y_int : TypeId := 3
abbrev y_bool : TypeId := 4
abbrev y_uint8 : TypeId := 5
abbrev y_abi_BoundsErrorCode : TypeId := 6
abbrev y_struct_763d8d : TypeId := 7
abbrev y_runtime_boundsError : TypeId := 8
abbrev y_string : TypeId := 9
abbrev y_runtime_errorString : TypeId := 10
abbrev y_runtime_plainError : TypeId := 11
abbrev y_uintptr : TypeId := 12
abbrev y_struct_94a4d9 : TypeId := 13
abbrev y_runtime_errorAddressString : TypeId := 14
abbrev y_p_runtime_TypeAssertionError : TypeId := 15
abbrev y_p_runtime_PanicNilError : TypeId := 16
abbrev y_p_abi_Type : TypeId := 17
abbrev y_struct_9a58c1 : TypeId := 18
abbrev y_maps_unhashableTypeError : TypeId := 19
abbrev y_any : TypeId := 20
abbrev y_int32 : TypeId := 21
abbrev y_S_l12_Step : TypeId := 22
abbrev y_S_uint8 : TypeId := 23
abbrev y_func_1354cb : TypeId := 24
abbrev y_func_21d79e : TypeId := 25
abbrev y_p_upper_Upper : TypeId := 26
abbrev y_api_Errno : TypeId := 27
abbrev y_tuple_074696 : TypeId := 28
abbrev y_func_85d6f8 : TypeId := 29
abbrev y_p_r12_Upper : TypeId := 30
abbrev y_tuple_341e50 : TypeId := 31
abbrev y_func_00a55e : TypeId := 32
abbrev y_func_9eff2c : TypeId := 33
abbrev y_func_de696f : TypeId := 34
abbrev y_func_4e4383 : TypeId := 35
abbrev y_tuple_7dc3f8 : TypeId := 36
abbrev y_func_0d430d : TypeId := 37
abbrev y_func_d801f2 : TypeId := 38
abbrev y_func_6b4caa : TypeId := 39
abbrev y_func_3216e9 : TypeId := 40
abbrev y_struct_58c551 : TypeId := 41
abbrev y_api_Inode : TypeId := 42
abbrev y_func_e58639 : TypeId := 43
abbrev y_S_string : TypeId := 44
abbrev y_struct_3d5711 : TypeId := 45
abbrev y_l12_Step : TypeId := 46
abbrev y_M_string_api_Inode : TypeId := 47
abbrev y_struct_39124b : TypeId := 48
abbrev y_upper_Upper : TypeId := 49
abbrev y_S_api_Inode : TypeId := 50
abbrev y_struct_2cc85d : TypeId := 51
abbrev y_r12_Upper : TypeId := 52
abbrev y_func_fe9a3b : TypeId := 53
abbrev y_struct_93cd5f : TypeId := 54
abbrev y_wire_Out : TypeId := 55
abbrev y_func_47279e : TypeId := 56
abbrev y_uint64 : TypeId := 57
abbrev y_func_b5986f : TypeId := 58
abbrev y_func_8ac7b9 : TypeId := 59
abbrev y_func_3748f9 : TypeId := 60
abbrev y_func_203f4c : TypeId := 61
abbrev y_func_45c127 : TypeId := 62
abbrev y_func_a9ce16 : TypeId := 63
abbrev y_p_wire_In : TypeId := 64
abbrev y_func_66411a : TypeId := 65
abbrev y_func_0cd3e7 : TypeId := 66
abbrev y_func_763eb0 : TypeId := 67
abbrev y_func_c484dd : TypeId := 68
abbrev y_func_20bb48 : TypeId := 69
abbrev y_func_bf12b7 : TypeId := 70
abbrev y_func_2250aa : TypeId := 71
abbrev y_p_r02_In : TypeId := 72
abbrev y_struct_c32f59 : TypeId := 73
abbrev y_r02_In : TypeId := 74
abbrev y_func_5d28b7 : TypeId := 75
abbrev y_tuple_80b3fb : TypeId := 76
abbrev y_func_0213fa : TypeId := 77
abbrev y_tuple_e115e1 : TypeId := 78
abbrev y_func_db138c : TypeId := 79
abbrev y_func_032069 : TypeId := 80
abbrev y_p_wire_Out : TypeId := 81
abbrev y_uint : TypeId := 82
abbrev y_func_167f08 : TypeId := 83
abbrev y_func_5d77b1 : TypeId := 84
abbrev y_struct_a396d9 : TypeId := 85
abbrev y_wire_In : TypeId := 86
abbrev y_tuple_d30e0e : TypeId := 87
abbrev y_func_afc742 : TypeId := 88
abbrev y_func_494897 : TypeId := 89
abbrev y_func_fd7a7e : TypeId := 90
abbrev y_func_4e4559 : TypeId := 91
abbrev y_func_dba0a6 : TypeId := 92
abbrev y_func_0f3618 : TypeId := 93
abbrev y_func_1b3cc4 : TypeId := 94
abbrev y_func_470475 : TypeId := 95
abbrev y_func_c91c0e : TypeId := 96
abbrev y_iter_Seq_string : TypeId := 97
abbrev y_func_49f488 : TypeId := 98
abbrev y_func_29676f : TypeId := 99
abbrev y_func_80fb0d : TypeId := 100
abbrev y_func_98380a : TypeId := 101
abbrev y_p_strings_Builder : TypeId := 102
abbrev y_struct_383a00 : TypeId := 103
abbrev y_strings_Builder : TypeId := 104
abbrev y_func_84e6f1 : TypeId := 105
abbrev y_interface_Error_string : TypeId := 106
abbrev y_error : TypeId := 107
abbrev y_tuple_9305e7 : TypeId := 108
abbrev y_func_ea47b4 : TypeId := 109
abbrev y_func_a26dcb : TypeId := 110
abbrev y_func_2af701 : TypeId := 111
abbrev y_tuple_12ad95 : TypeId := 112
abbrev y_func_6d81f9 : TypeId := 113
abbrev y_func_74ac50 : TypeId := 114
abbrev y_slices_sortedHint : TypeId := 115
abbrev y_tuple_40d546 : TypeId := 116
abbrev y_func_937960 : TypeId := 117
abbrev y_func_dd7632 : TypeId := 118
abbrev y_func_5eedd4 : TypeId := 119
abbrev y_tuple_c22e02 : TypeId := 120
abbrev y_func_d4ccc7 : TypeId := 121
abbrev y_func_73ee18 : TypeId := 122
abbrev y_uint32 : TypeId := 123
abbrev y_func_71279d : TypeId := 124
abbrev y_p_uint8 : TypeId := 125
abbrev y_slices_xorshift : TypeId := 126
abbrev y_func_abb944 : TypeId := 127
abbrev y_func_d8225f : TypeId := 128
abbrev y_p_int : TypeId := 129
abbrev y_func_aaf2ee : TypeId := 130
abbrev y_unsafe_Pointer : TypeId := 131
abbrev y_func_047742 : TypeId := 132
abbrev y_p_slices_xorshift : TypeId := 133
abbrev y_tuple_b67474 : TypeId := 134
abbrev y_func_08f6f6 : TypeId := 135
abbrev y_func_2e22f1 : TypeId := 136
abbrev y_func_983c32 : TypeId := 137
abbrev y_tuple_89011d : TypeId := 138
abbrev y_func_ef626e : TypeId := 139
abbrev y_struct_35d589 : TypeId := 140
abbrev y_runtime_TypeAssertionError : TypeId := 141
abbrev y_0_p_runtime_PanicNilError : TypeId := 142
abbrev y_struct_9df1fc : TypeId := 143
abbrev y_runtime_PanicNilError : TypeId := 144
abbrev y_abi_TFlag : TypeId := 145
abbrev y_abi_Kind : TypeId := 146
abbrev y_func_727316 : TypeId := 147
abbrev y_abi_NameOff : TypeId := 148
abbrev y_abi_TypeOff : TypeId := 149
abbrev y_struct_72b795 : TypeId := 150
abbrev y_abi_Type : TypeId := 151
def ann_vpath_plain : Ann := (.seq .leaf (.join [] (.jblk [] (.join [] (.jblk [] (.jblk [] (.jblk [] (.join [] (.join [] (.seq .leaf (.cond .leaf .leaf)) (.join [] (.seq .leaf (.cond .leaf .leaf)) (.seq .leaf (.cond .leaf .leaf)))) .leaf)))) (.seq (.seq .leaf .leaf) .leaf))) (.seq .leaf .leaf)))
theorem ok_vpath_plain : okC P qs Tryz.f67.ntmps ((Tryz.f67.body).getD .skip) ann_vpath_plain = true := by kernel_rfl
def T_vpath_plain (c : Int) (R : Ending → World → Prop) (w : World) : Prop :=
    joinP Unit (fun k =>
    joinP Unit (fun k_1 =>
    joinP Unit (fun k_2 =>
    joinP Unit (fun k_3 =>
    joinP Unit (fun k_4 =>
    joinP Unit (fun k_5 =>
    joinP Unit (fun k_6 =>
    joinP Unit (fun k_7 =>
    iteP (c == 46) (
    k_5 () w) (
    iteP (c == 95) (
    k_5 () w) (
    iteP (c == 45) (
    k_5 () w) (
    k_7 () w)))) (fun _ w_1 =>
    joinP Unit (fun k_8 =>
    iteP (decide (c ≥ 48)) (
    iteP (decide (c ≤ 57)) (
    k_4 () w_1) (
    k_8 () w_1)) (
    k_8 () w_1)) (fun _ w_2 =>
    iteP (decide (c ≥ 97)) (
    iteP (decide (c ≤ 122)) (
    k_3 () w_2) (
    k_6 () w_2)) (
    k_6 () w_2)))) (fun _ w_3 =>
    k_1 () w_3)) (fun _ w_4 =>
    k_4 () w_4)) (fun _ w_5 =>
    k_3 () w_5)) (fun _ w_6 =>
    k_2 () w_6)) (fun _ w_7 =>
    R (.returned (Value.bool true)) w_7)) (fun _ w_8 =>
    k () w_8)) (fun _ w_9 =>
    iteP (decide (c ≥ 65)) (
    R (.returned (Value.bool (decide (c ≤ 90)))) w_9) (
    R (.returned (Value.bool false)) w_9))
theorem eq_vpath_plain (c : Int) (R : Ending → World → Prop) (w : World) : tr P qs ((Tryz.f67.body).getD .skip) ann_vpath_plain (env0 0 [(0, (Value.int .u8 c))]) (topK P Tryz.f67.results.toList R) w = T_vpath_plain c R w := by kernel_rfl
/-- veneer/vpath.plain -/
theorem fn_vpath_plain {c : Int} {R : Ending → World → Prop} {w : World} (hT : T_vpath_plain c R w) : CallF P F_vpath_plain #[(Value.int .u8 c)] w R :=
  fn_of_tr (fn := Tryz.f67) (c := (Tryz.f67.body).getD .skip) (ann := ann_vpath_plain) (args := [(0, (Value.int .u8 c))]) (qs := qs) mixed Tryz.func67 rfl (by kernel_rfl) (by kernel_rfl) ok_vpath_plain ((eq_vpath_plain c R w).symm ▸ hT)
def ann_r04_Plain : Ann := (.seq .leaf (.seq .leaf .leaf))
theorem ok_r04_Plain : okC P qs Tryz.f70.ntmps ((Tryz.f70.body).getD .skip) ann_r04_Plain = true := by kernel_rfl
def T_r04_Plain (c : Int) (R : Ending → World → Prop) (w : World) : Prop :=
    iteP (decide (c ≥ 97)) (
    iteP (decide (c ≤ 122)) (
    R (.returned (Value.bool true)) w) (
    iteP (decide (c ≥ 65)) (
    iteP (decide (c ≤ 90)) (
    R (.returned (Value.bool true)) w) (
    iteP (decide (c ≥ 48)) (
    iteP (decide (c ≤ 57)) (
    R (.returned (Value.bool true)) w) (
    iteP (c == 46) (
    R (.returned (Value.bool true)) w) (
    iteP (c == 95) (
    R (.returned (Value.bool true)) w) (
    R (.returned (Value.bool (c == 45))) w)))) (
    iteP (c == 46) (
    R (.returned (Value.bool true)) w) (
    iteP (c == 95) (
    R (.returned (Value.bool true)) w) (
    R (.returned (Value.bool (c == 45))) w))))) (
    iteP (decide (c ≥ 48)) (
    iteP (decide (c ≤ 57)) (
    R (.returned (Value.bool true)) w) (
    iteP (c == 46) (
    R (.returned (Value.bool true)) w) (
    iteP (c == 95) (
    R (.returned (Value.bool true)) w) (
    R (.returned (Value.bool (c == 45))) w)))) (
    iteP (c == 46) (
    R (.returned (Value.bool true)) w) (
    iteP (c == 95) (
    R (.returned (Value.bool true)) w) (
    R (.returned (Value.bool (c == 45))) w)))))) (
    iteP (decide (c ≥ 65)) (
    iteP (decide (c ≤ 90)) (
    R (.returned (Value.bool true)) w) (
    iteP (decide (c ≥ 48)) (
    iteP (decide (c ≤ 57)) (
    R (.returned (Value.bool true)) w) (
    iteP (c == 46) (
    R (.returned (Value.bool true)) w) (
    iteP (c == 95) (
    R (.returned (Value.bool true)) w) (
    R (.returned (Value.bool (c == 45))) w)))) (
    iteP (c == 46) (
    R (.returned (Value.bool true)) w) (
    iteP (c == 95) (
    R (.returned (Value.bool true)) w) (
    R (.returned (Value.bool (c == 45))) w))))) (
    iteP (decide (c ≥ 48)) (
    iteP (decide (c ≤ 57)) (
    R (.returned (Value.bool true)) w) (
    iteP (c == 46) (
    R (.returned (Value.bool true)) w) (
    iteP (c == 95) (
    R (.returned (Value.bool true)) w) (
    R (.returned (Value.bool (c == 45))) w)))) (
    iteP (c == 46) (
    R (.returned (Value.bool true)) w) (
    iteP (c == 95) (
    R (.returned (Value.bool true)) w) (
    R (.returned (Value.bool (c == 45))) w)))))
theorem eq_r04_Plain (c : Int) (R : Ending → World → Prop) (w : World) : tr P qs ((Tryz.f70.body).getD .skip) ann_r04_Plain (env0 0 [(0, (Value.int .u8 c))]) (topK P Tryz.f70.results.toList R) w = T_r04_Plain c R w := by kernel_rfl
/-- veneer/veneerref04.Plain -/
theorem fn_r04_Plain {c : Int} {R : Ending → World → Prop} {w : World} (hT : T_r04_Plain c R w) : CallF P F_r04_Plain #[(Value.int .u8 c)] w R :=
  fn_of_tr (fn := Tryz.f70) (c := (Tryz.f70.body).getD .skip) (ann := ann_r04_Plain) (args := [(0, (Value.int .u8 c))]) (qs := qs) mixed Tryz.func70 rfl (by kernel_rfl) (by kernel_rfl) ok_r04_Plain ((eq_r04_Plain c R w).symm ▸ hT)
def ann_cmp_isNaN_string : Ann := (.seq .leaf (.seq .leaf .leaf))
theorem ok_cmp_isNaN_string : okC P qs Tryz.f78.ntmps ((Tryz.f78.body).getD .skip) ann_cmp_isNaN_string = true := by kernel_rfl
def T_cmp_isNaN_string (x : ByteArray) (R : Ending → World → Prop) (w : World) : Prop :=
    R (.returned (Value.bool (!(x.toList == x.toList)))) w
theorem eq_cmp_isNaN_string (x : ByteArray) (R : Ending → World → Prop) (w : World) : tr P qs ((Tryz.f78.body).getD .skip) ann_cmp_isNaN_string (env0 0 [(0, (Value.string x))]) (topK P Tryz.f78.results.toList R) w = T_cmp_isNaN_string x R w := by kernel_rfl
/-- cmp.isNaN[string] -/
theorem fn_cmp_isNaN_string {x : ByteArray} {R : Ending → World → Prop} {w : World} (hT : T_cmp_isNaN_string x R w) : CallF P F_cmp_isNaN_string #[(Value.string x)] w R :=
  fn_of_tr (fn := Tryz.f78) (c := (Tryz.f78.body).getD .skip) (ann := ann_cmp_isNaN_string) (args := [(0, (Value.string x))]) (qs := qs) mixed Tryz.func78 rfl (by kernel_rfl) (by kernel_rfl) ok_cmp_isNaN_string ((eq_cmp_isNaN_string x R w).symm ▸ hT)
def ann_strings_HasPrefix : Ann := (.seq .leaf (.seq .leaf .leaf))
theorem ok_strings_HasPrefix : okC P qs Tryz.f66.ntmps ((Tryz.f66.body).getD .skip) ann_strings_HasPrefix = true := by kernel_rfl
def T_strings_HasPrefix (s : ByteArray) (prefixv : ByteArray) (R : Ending → World → Prop) (w : World) : Prop :=
    callQ P F_internal_stringslite_HasPrefix #[(Value.string s), (Value.string prefixv)] [.bool] false w fun (t7 : Bool) =>
    R (.returned (Value.bool t7)) w
theorem eq_strings_HasPrefix (s : ByteArray) (prefixv : ByteArray) (R : Ending → World → Prop) (w : World) : tr P qs ((Tryz.f66.body).getD .skip) ann_strings_HasPrefix (env0 0 [(0, (Value.string s)), (0, (Value.string prefixv))]) (topK P Tryz.f66.results.toList R) w = T_strings_HasPrefix s prefixv R w := by kernel_rfl
/-- strings.HasPrefix -/
theorem fn_strings_HasPrefix {s : ByteArray} {prefixv : ByteArray} {R : Ending → World → Prop} {w : World} (hT : T_strings_HasPrefix s prefixv R w) : CallF P F_strings_HasPrefix #[(Value.string s), (Value.string prefixv)] w R :=
  fn_of_tr (fn := Tryz.f66) (c := (Tryz.f66.body).getD .skip) (ann := ann_strings_HasPrefix) (args := [(0, (Value.string s)), (0, (Value.string prefixv))]) (qs := qs) mixed Tryz.func66 rfl (by kernel_rfl) (by kernel_rfl) ok_strings_HasPrefix ((eq_strings_HasPrefix s prefixv R w).symm ▸ hT)
def ann_internal_stringslite_HasPrefix : Ann := (.seq .leaf (.seq .leaf .leaf))
theorem ok_internal_stringslite_HasPrefix : okC P qs Tryz.f79.ntmps ((Tryz.f79.body).getD .skip) ann_internal_stringslite_HasPrefix = true := by kernel_rfl
def T_internal_stringslite_HasPrefix (s : ByteArray) (prefixv : ByteArray) (R : Ending → World → Prop) (w : World) : Prop :=
    iteP (decide ((s.size : Int) ≥ (prefixv.size : Int))) (
    genQ P (Instr.sliceAt y_string (Value.string s) none (some (Value.int .i64 (prefixv.size : Int))) none) .str w fun (t14 : ByteArray) =>
    R (.returned (Value.bool (t14.toList == prefixv.toList))) w) (
    R (.returned (Value.bool false)) w)
theorem eq_internal_stringslite_HasPrefix (s : ByteArray) (prefixv : ByteArray) (R : Ending → World → Prop) (w : World) : tr P qs ((Tryz.f79.body).getD .skip) ann_internal_stringslite_HasPrefix (env0 0 [(0, (Value.string s)), (0, (Value.string prefixv))]) (topK P Tryz.f79.results.toList R) w = T_internal_stringslite_HasPrefix s prefixv R w := by kernel_rfl
/-- internal/stringslite.HasPrefix -/
theorem fn_internal_stringslite_HasPrefix {s : ByteArray} {prefixv : ByteArray} {R : Ending → World → Prop} {w : World} (hT : T_internal_stringslite_HasPrefix s prefixv R w) : CallF P F_internal_stringslite_HasPrefix #[(Value.string s), (Value.string prefixv)] w R :=
  fn_of_tr (fn := Tryz.f79) (c := (Tryz.f79.body).getD .skip) (ann := ann_internal_stringslite_HasPrefix) (args := [(0, (Value.string s)), (0, (Value.string prefixv))]) (qs := qs) mixed Tryz.func79 rfl (by kernel_rfl) (by kernel_rfl) ok_internal_stringslite_HasPrefix ((eq_internal_stringslite_HasPrefix s prefixv R w).symm ▸ hT)
def ann_vpath_name : Ann := (.seq .leaf (.join [] (.seq .leaf (.cond (.seq .leaf .leaf) .leaf)) (.seq (.seq .leaf (.blk (.loop [(21, .int .i64)] (.seq .leaf (.seq (.cond .leaf .leaf) (.seq (.blk (.seq .leaf (.seq .leaf (.cond (.seq .leaf .leaf) .leaf)))) .leaf)))))) (.seq .leaf .leaf))))
theorem ok_vpath_name : okC P qs Tryz.f82.ntmps ((Tryz.f82.body).getD .skip) ann_vpath_name = true := by kernel_rfl
def T_vpath_name (s : ByteArray) (R : Ending → World → Prop) (w : World) : Prop :=
    joinP Unit (fun k =>
    iteP (s.toList == (ByteArray.mk #[]).toList) (
    R (.returned (Value.bool false)) w) (
    iteP (decide ((s.size : Int) > 16)) (
    R (.returned (Value.bool false)) w) (
    iteP (s.toList == (ByteArray.mk #[46]).toList) (
    R (.returned (Value.bool false)) w) (
    iteP (s.toList == (ByteArray.mk #[46, 46]).toList) (
    R (.returned (Value.bool false)) w) (
    k () w))))) (fun _ w_1 =>
    loopP Int (fun s_2 w_2 k_1 =>
    iteP (decide (s_2 < (s.size : Int))) (
    ixStr s s_2 fun t26 =>
    callQ P F_vpath_plain #[(Value.int .u8 t26)] [.bool] false w_2 fun (t27 : Bool) =>
    iteP (!t27) (
    R (.returned (Value.bool false)) w_2) (
    addI .i64 s_2 1 fun t29 =>
    k_1 t29 w_2)) (
    R (.returned (Value.bool true)) w_2)) 0 w_1)
theorem eq_vpath_name (s : ByteArray) (R : Ending → World → Prop) (w : World) : tr P qs ((Tryz.f82.body).getD .skip) ann_vpath_name (env0 0 [(0, (Value.string s))]) (topK P Tryz.f82.results.toList R) w = T_vpath_name s R w := by kernel_rfl
/-- veneer/vpath.name -/
theorem fn_vpath_name {s : ByteArray} {R : Ending → World → Prop} {w : World} (hT : T_vpath_name s R w) : CallF P F_vpath_name #[(Value.string s)] w R :=
  fn_of_tr (fn := Tryz.f82) (c := (Tryz.f82.body).getD .skip) (ann := ann_vpath_name) (args := [(0, (Value.string s))]) (qs := qs) mixed Tryz.func82 rfl (by kernel_rfl) (by kernel_rfl) ok_vpath_name ((eq_vpath_name s R w).symm ▸ hT)
def ann_vpath_Check : Ann := (.seq .leaf (.seq (.seq .leaf (.blk (.loop [(7, .int .i64)] (.seq .leaf (.seq (.cond .leaf .leaf) (.seq (.blk (.seq .leaf (.seq .leaf (.cond (.seq .leaf .leaf) .leaf)))) .leaf)))))) (.seq (.seq .leaf (.cond (.seq .leaf .leaf) .leaf)) (.seq .leaf .leaf))))
theorem ok_vpath_Check : okC P qs Tryz.f69.ntmps ((Tryz.f69.body).getD .skip) ann_vpath_Check = true := by kernel_rfl
def T_vpath_Check (names : Option Addr) (names_l names_c : Nat) (R : Ending → World → Prop) (w : World) : Prop :=
    loopP Int (fun s w_1 k =>
    iteP (decide (s < (names_l : Int))) (
    ixS names names_l 1 s fun t9 =>
    ld .str t9 w_1 fun (t10 : ByteArray) =>
    callF P F_vpath_name #[(Value.string t10)] [.bool] false w_1 fun (t12 : Bool) w_2 =>
    iteP (!t12) (
    R (.returned (Value.int .i64 41)) w_2) (
    addI .i64 s 1 fun t14 =>
    k t14 w_2)) (
    iteP (decide ((names_l : Int) > 8)) (
    R (.returned (Value.int .i64 42)) w_1) (
    R (.returned (Value.int .i64 0)) w_1))) 0 w
theorem eq_vpath_Check (names : Option Addr) (names_l names_c : Nat) (R : Ending → World → Prop) (w : World) : tr P qs ((Tryz.f69.body).getD .skip) ann_vpath_Check (env0 0 [(0, (Value.slice names names_l names_c))]) (topK P Tryz.f69.results.toList R) w = T_vpath_Check names names_l names_c R w := by kernel_rfl
/-- veneer/vpath.Check -/
theorem fn_vpath_Check {names : Option Addr} {names_l names_c : Nat} {R : Ending → World → Prop} {w : World} (hT : T_vpath_Check names names_l names_c R w) : CallF P F_vpath_Check #[(Value.slice names names_l names_c)] w R :=
  fn_of_tr (fn := Tryz.f69) (c := (Tryz.f69.body).getD .skip) (ann := ann_vpath_Check) (args := [(0, (Value.slice names names_l names_c))]) (qs := qs) mixed Tryz.func69 rfl (by kernel_rfl) (by kernel_rfl) ok_vpath_Check ((eq_vpath_Check names names_l names_c R w).symm ▸ hT)
def ann_slices_Equal_S_string_string : Ann := (.seq .leaf (.seq (.seq .leaf (.cond (.seq .leaf .leaf) .leaf)) (.seq (.seq .leaf (.blk (.loop [(13, .int .i64)] (.seq .leaf (.seq (.cond .leaf .leaf) (.seq (.blk (.seq .leaf (.seq (.tree (.op 0 [] (.op 1 [] (.op 2 [] (.op 4 [] (.op 5 [] (.op 6 [] (.op 3 [] (.op 7 [] (.op 8 [] .done)))))))))) (.cond (.seq .leaf .leaf) .leaf)))) .leaf)))))) (.seq .leaf .leaf))))
theorem ok_slices_Equal_S_string_string : okC P qs Tryz.f72.ntmps ((Tryz.f72.body).getD .skip) ann_slices_Equal_S_string_string = true := by kernel_rfl
def T_slices_Equal_S_string_string (s1 : Option Addr) (s1_l s1_c : Nat) (s2 : Option Addr) (s2_l s2_c : Nat) (R : Ending → World → Prop) (w : World) : Prop :=
    iteP ((s1_l : Int) != (s2_l : Int)) (
    R (.returned (Value.bool false)) w) (
    loopP Int (fun s w_1 k =>
    iteP (decide (s < (s1_l : Int))) (
    drewP w_1 fun w_2 =>
    ixS s1 s1_l 1 s fun t18 =>
    ixS s2 s2_l 1 s fun t22 =>
    ld .str t18 w_2 fun (t19 : ByteArray) =>
    ld .str t22 w_2 fun (t23 : ByteArray) =>
    iteP (!(t19.toList == t23.toList)) (
    R (.returned (Value.bool false)) w_2) (
    addI .i64 s 1 fun t25 =>
    k t25 w_2)) (
    R (.returned (Value.bool true)) w_1)) 0 w)
theorem eq_slices_Equal_S_string_string (s1 : Option Addr) (s1_l s1_c : Nat) (s2 : Option Addr) (s2_l s2_c : Nat) (R : Ending → World → Prop) (w : World) : tr P qs ((Tryz.f72.body).getD .skip) ann_slices_Equal_S_string_string (env0 0 [(0, (Value.slice s1 s1_l s1_c)), (0, (Value.slice s2 s2_l s2_c))]) (topK P Tryz.f72.results.toList R) w = T_slices_Equal_S_string_string s1 s1_l s1_c s2 s2_l s2_c R w := by kernel_rfl
/-- slices.Equal[[]string,string] -/
theorem fn_slices_Equal_S_string_string {s1 : Option Addr} {s1_l s1_c : Nat} {s2 : Option Addr} {s2_l s2_c : Nat} {R : Ending → World → Prop} {w : World} (hT : T_slices_Equal_S_string_string s1 s1_l s1_c s2 s2_l s2_c R w) : CallF P F_slices_Equal_S_string_string #[(Value.slice s1 s1_l s1_c), (Value.slice s2 s2_l s2_c)] w R :=
  fn_of_tr (fn := Tryz.f72) (c := (Tryz.f72.body).getD .skip) (ann := ann_slices_Equal_S_string_string) (args := [(0, (Value.slice s1 s1_l s1_c)), (0, (Value.slice s2 s2_l s2_c))]) (qs := qs) mixed Tryz.func72 rfl (by kernel_rfl) (by kernel_rfl) ok_slices_Equal_S_string_string ((eq_slices_Equal_S_string_string s1 s1_l s1_c s2 s2_l s2_c R w).symm ▸ hT)
def ann_vpath_Within : Ann := (.seq .leaf (.seq .leaf .leaf))
theorem ok_vpath_Within : okC P qs Tryz.f56.ntmps ((Tryz.f56.body).getD .skip) ann_vpath_Within = true := by kernel_rfl
def T_vpath_Within (path : Option Addr) (path_l path_c : Nat) (of : Option Addr) (of_l of_c : Nat) (R : Ending → World → Prop) (w : World) : Prop :=
    iteP (decide ((path_l : Int) ≥ (of_l : Int))) (
    genQ P (Instr.sliceAt y_S_string (Value.slice path path_l path_c) none (some (Value.int .i64 (of_l : Int))) none) .slc w fun (t14 : (Option Addr × Nat × Nat)) =>
    callF P F_slices_Equal_S_string_string #[(Value.slice t14.1 t14.2.1 t14.2.2), (Value.slice of of_l of_c)] [.bool] false w fun (t16 : Bool) w_1 =>
    R (.returned (Value.bool t16)) w_1) (
    R (.returned (Value.bool false)) w)
theorem eq_vpath_Within (path : Option Addr) (path_l path_c : Nat) (of : Option Addr) (of_l of_c : Nat) (R : Ending → World → Prop) (w : World) : tr P qs ((Tryz.f56.body).getD .skip) ann_vpath_Within (env0 0 [(0, (Value.slice path path_l path_c)), (0, (Value.slice of of_l of_c))]) (topK P Tryz.f56.results.toList R) w = T_vpath_Within path path_l path_c of of_l of_c R w := by kernel_rfl
/-- veneer/vpath.Within -/
theorem fn_vpath_Within {path : Option Addr} {path_l path_c : Nat} {of : Option Addr} {of_l of_c : Nat} {R : Ending → World → Prop} {w : World} (hT : T_vpath_Within path path_l path_c of of_l of_c R w) : CallF P F_vpath_Within #[(Value.slice path path_l path_c), (Value.slice of of_l of_c)] w R :=
  fn_of_tr (fn := Tryz.f56) (c := (Tryz.f56.body).getD .skip) (ann := ann_vpath_Within) (args := [(0, (Value.slice path path_l path_c)), (0, (Value.slice of of_l of_c))]) (qs := qs) mixed Tryz.func56 rfl (by kernel_rfl) (by kernel_rfl) ok_vpath_Within ((eq_vpath_Within path path_l path_c of of_l of_c R w).symm ▸ hT)
def ann_cmp_Compare_string : Ann := (.seq .leaf (.seq .leaf (.seq .leaf (.seq (.seq .leaf (.cond (.seq (.seq .leaf (.cond (.seq .leaf .leaf) .leaf)) (.seq .leaf .leaf)) .leaf)) (.seq (.seq .leaf (.cond (.seq .leaf .leaf) .leaf)) (.seq (.seq .leaf (.cond (.seq .leaf .leaf) .leaf)) (.seq (.seq .leaf (.cond (.seq .leaf .leaf) .leaf)) (.seq .leaf .leaf))))))))
theorem ok_cmp_Compare_string : okC P qs Tryz.f64.ntmps ((Tryz.f64.body).getD .skip) ann_cmp_Compare_string = true := by kernel_rfl
def T_cmp_Compare_string (x : ByteArray) (y : ByteArray) (R : Ending → World → Prop) (w : World) : Prop :=
    callQ P F_cmp_isNaN_string #[(Value.string x)] [.bool] false w fun (t8 : Bool) =>
    callQ P F_cmp_isNaN_string #[(Value.string y)] [.bool] false w fun (t10 : Bool) =>
    iteP t8 (
    iteP t10 (
    R (.returned (Value.int .i64 0)) w) (
    R (.returned (Value.int .i64 (-1))) w)) (
    iteP t10 (
    R (.returned (Value.int .i64 1)) w) (
    iteP (Op.bytesLess x.toList y.toList) (
    R (.returned (Value.int .i64 (-1))) w) (
    iteP (!((Op.bytesLess x.toList y.toList) || (x.toList == y.toList))) (
    R (.returned (Value.int .i64 1)) w) (
    R (.returned (Value.int .i64 0)) w))))
theorem eq_cmp_Compare_string (x : ByteArray) (y : ByteArray) (R : Ending → World → Prop) (w : World) : tr P qs ((Tryz.f64.body).getD .skip) ann_cmp_Compare_string (env0 0 [(0, (Value.string x)), (0, (Value.string y))]) (topK P Tryz.f64.results.toList R) w = T_cmp_Compare_string x y R w := by kernel_rfl
/-- cmp.Compare[string] -/
theorem fn_cmp_Compare_string {x : ByteArray} {y : ByteArray} {R : Ending → World → Prop} {w : World} (hT : T_cmp_Compare_string x y R w) : CallF P F_cmp_Compare_string #[(Value.string x), (Value.string y)] w R :=
  fn_of_tr (fn := Tryz.f64) (c := (Tryz.f64.body).getD .skip) (ann := ann_cmp_Compare_string) (args := [(0, (Value.string x)), (0, (Value.string y))]) (qs := qs) mixed Tryz.func64 rfl (by kernel_rfl) (by kernel_rfl) ok_cmp_Compare_string ((eq_cmp_Compare_string x y R w).symm ▸ hT)
def ann_slices_CompareFunc_S_string_S_string_string_string : Ann := (.seq .leaf (.seq (.seq .leaf (.blk (.loop [(13, .int .i64)] (.seq .leaf (.seq (.cond .leaf .leaf) (.seq (.blk (.seq .leaf (.seq (.seq .leaf (.cond (.seq .leaf .leaf) .leaf)) (.seq .leaf (.seq .leaf (.seq .leaf (.cond (.seq .leaf .leaf) .leaf))))))) .leaf)))))) (.seq (.seq .leaf (.cond (.seq .leaf .leaf) .leaf)) (.seq .leaf .leaf))))
theorem ok_slices_CompareFunc_S_string_S_string_string_string : okC P qs Tryz.f63.ntmps ((Tryz.f63.body).getD .skip) ann_slices_CompareFunc_S_string_S_string_string_string = true := by kernel_rfl
def T_slices_CompareFunc_S_string_S_string_string_string (s1 : Option Addr) (s1_l s1_c : Nat) (s2 : Option Addr) (s2_l s2_c : Nat) (cmp : Value) (R : Ending → World → Prop) (w : World) : Prop :=
    loopP Int (fun s w_1 k =>
    iteP (decide (s < (s1_l : Int))) (
    ixS s1 s1_l 1 s fun t16 =>
    ld .str t16 w_1 fun (t17 : ByteArray) =>
    iteP (decide (s ≥ (s2_l : Int))) (
    R (.returned (Value.int .i64 1)) w_1) (
    ixS s2 s2_l 1 s fun t24 =>
    ld .str t24 w_1 fun (t25 : ByteArray) =>
    callV P cmp #[(Value.string t17), (Value.string t25)] [.int .i64] false w_1 fun (t29 : Int) w_2 =>
    iteP (t29 != 0) (
    R (.returned (Value.int .i64 t29)) w_2) (
    addI .i64 s 1 fun t33 =>
    k t33 w_2))) (
    iteP (decide ((s1_l : Int) < (s2_l : Int))) (
    R (.returned (Value.int .i64 (-1))) w_1) (
    R (.returned (Value.int .i64 0)) w_1))) 0 w
theorem eq_slices_CompareFunc_S_string_S_string_string_string (s1 : Option Addr) (s1_l s1_c : Nat) (s2 : Option Addr) (s2_l s2_c : Nat) (cmp : Value) (R : Ending → World → Prop) (w : World) : tr P qs ((Tryz.f63.body).getD .skip) ann_slices_CompareFunc_S_string_S_string_string_string (env0 0 [(0, (Value.slice s1 s1_l s1_c)), (0, (Value.slice s2 s2_l s2_c)), (1, cmp)]) (topK P Tryz.f63.results.toList R) w = T_slices_CompareFunc_S_string_S_string_string_string s1 s1_l s1_c s2 s2_l s2_c cmp R w := by kernel_rfl
/-- slices.CompareFunc[[]string,[]string,string,string] -/
theorem fn_slices_CompareFunc_S_string_S_string_string_string {s1 : Option Addr} {s1_l s1_c : Nat} {s2 : Option Addr} {s2_l s2_c : Nat} {cmp : Value} {R : Ending → World → Prop} {w : World} (hT : T_slices_CompareFunc_S_string_S_string_string_string s1 s1_l s1_c s2 s2_l s2_c cmp R w) : CallF P F_slices_CompareFunc_S_string_S_string_string_string #[(Value.slice s1 s1_l s1_c), (Value.slice s2 s2_l s2_c), cmp] w R :=
  fn_of_tr (fn := Tryz.f63) (c := (Tryz.f63.body).getD .skip) (ann := ann_slices_CompareFunc_S_string_S_string_string_string) (args := [(0, (Value.slice s1 s1_l s1_c)), (0, (Value.slice s2 s2_l s2_c)), (1, cmp)]) (qs := qs) mixed Tryz.func63 rfl (by kernel_rfl) (by kernel_rfl) ok_slices_CompareFunc_S_string_S_string_string_string ((eq_slices_CompareFunc_S_string_S_string_string_string s1 s1_l s1_c s2 s2_l s2_c cmp R w).symm ▸ hT)
def ann_vpath_Compare : Ann := (.seq .leaf (.seq .leaf .leaf))
theorem ok_vpath_Compare : okC P qs Tryz.f36.ntmps ((Tryz.f36.body).getD .skip) ann_vpath_Compare = true := by kernel_rfl
def T_vpath_Compare (a : Option Addr) (a_l a_c : Nat) (b : Option Addr) (b_l b_c : Nat) (R : Ending → World → Prop) (w : World) : Prop :=
    callF P F_slices_CompareFunc_S_string_S_string_string_string #[(Value.slice a a_l a_c), (Value.slice b b_l b_c), (Value.func (.func F_cmp_Compare_string) #[] #[])] [.int .i64] false w fun (t7 : Int) w_1 =>
    R (.returned (Value.int .i64 t7)) w_1
theorem eq_vpath_Compare (a : Option Addr) (a_l a_c : Nat) (b : Option Addr) (b_l b_c : Nat) (R : Ending → World → Prop) (w : World) : tr P qs ((Tryz.f36.body).getD .skip) ann_vpath_Compare (env0 0 [(0, (Value.slice a a_l a_c)), (0, (Value.slice b b_l b_c))]) (topK P Tryz.f36.results.toList R) w = T_vpath_Compare a a_l a_c b b_l b_c R w := by kernel_rfl
/-- veneer/vpath.Compare -/
theorem fn_vpath_Compare {a : Option Addr} {a_l a_c : Nat} {b : Option Addr} {b_l b_c : Nat} {R : Ending → World → Prop} {w : World} (hT : T_vpath_Compare a a_l a_c b b_l b_c R w) : CallF P F_vpath_Compare #[(Value.slice a a_l a_c), (Value.slice b b_l b_c)] w R :=
  fn_of_tr (fn := Tryz.f36) (c := (Tryz.f36.body).getD .skip) (ann := ann_vpath_Compare) (args := [(0, (Value.slice a a_l a_c)), (0, (Value.slice b b_l b_c))]) (qs := qs) mixed Tryz.func36 rfl (by kernel_rfl) (by kernel_rfl) ok_vpath_Compare ((eq_vpath_Compare a a_l a_c b b_l b_c R w).symm ▸ hT)
def ann_vpath_pieces_1 : Ann := (.blk (.loop [] (.seq (.seq .leaf (.cond .leaf .leaf)) (.blk (.seq .leaf (.seq (.seq .leaf (.cond .leaf .leaf)) .leaf))))))
theorem ok_vpath_pieces_1 : okC P qs Tryz.f80.ntmps ((Tryz.f80.body).getD .skip) ann_vpath_pieces_1 = true := by kernel_rfl
def T_vpath_pieces_1 (yield : Value) (c0 : Option Addr) (R : Ending → World → Prop) (w : World) : Prop :=
    loopP Unit (fun _ w_1 k =>
    withAddr c0 fun p =>
    ld .str p w_1 fun (t6 : ByteArray) =>
    iteP (!(t6.toList == (ByteArray.mk #[]).toList)) (
    withAddr c0 fun p_1 =>
    ld .str p_1 w_1 fun (t9 : ByteArray) =>
    callF P F_strings_Cut #[(Value.string t9), (Value.string (ByteArray.mk #[47]))] [.str, .str, .bool] true w_1 fun (t10 : (ByteArray × ByteArray × Bool)) w_2 =>
    callV P yield #[(Value.string t10.1)] [.bool] false w_2 fun (t16 : Bool) w_3 =>
    iteP (!t16) (
    R (.returned (Value.tuple #[])) w_3) (
    withAddr c0 fun p_2 =>
    stC p_2 (Value.string t10.2.1) w_3 fun w_4 =>
    k () w_4)) (
    R (.returned (Value.tuple #[])) w_1)) () w
theorem eq_vpath_pieces_1 (yield : Value) (c0 : Option Addr) (R : Ending → World → Prop) (w : World) : tr P qs ((Tryz.f80.body).getD .skip) ann_vpath_pieces_1 (env0 0 [(1, yield), (0, (Value.pointer c0))]) (topK P Tryz.f80.results.toList R) w = T_vpath_pieces_1 yield c0 R w := by kernel_rfl
/-- veneer/vpath.pieces$1 -/
theorem fn_vpath_pieces_1 {yield : Value} {c0 : Option Addr} {R : Ending → World → Prop} {w : World} (hT : T_vpath_pieces_1 yield c0 R w) : CallF P F_vpath_pieces_1 #[yield, (Value.pointer c0)] w R :=
  fn_of_tr (fn := Tryz.f80) (c := (Tryz.f80.body).getD .skip) (ann := ann_vpath_pieces_1) (args := [(1, yield), (0, (Value.pointer c0))]) (qs := qs) mixed Tryz.func80 rfl (by kernel_rfl) (by kernel_rfl) ok_vpath_pieces_1 ((eq_vpath_pieces_1 yield c0 R w).symm ▸ hT)
def ann_vpath_pieces : Ann := (.seq .leaf (.seq .leaf .leaf))
theorem ok_vpath_pieces : okC P qs Tryz.f68.ntmps ((Tryz.f68.body).getD .skip) ann_vpath_pieces = true := by kernel_rfl
def T_vpath_pieces (s : ByteArray) (R : Ending → World → Prop) (w : World) : Prop :=
    newB #[(Value.string s)] y_string w fun b1 w_1 =>
    genQ P (Instr.makeFunc (Go.Fn.func F_vpath_pieces_1) #[] #[(Value.pointer (some (⟨b1, 0, none⟩ : Addr)))]) .any w_1 fun (t3 : Value) =>
    R (.returned t3) w_1
theorem eq_vpath_pieces (s : ByteArray) (R : Ending → World → Prop) (w : World) : tr P qs ((Tryz.f68.body).getD .skip) ann_vpath_pieces (env0 0 [(0, (Value.string s))]) (topK P Tryz.f68.results.toList R) w = T_vpath_pieces s R w := by kernel_rfl
/-- veneer/vpath.pieces -/
theorem fn_vpath_pieces {s : ByteArray} {R : Ending → World → Prop} {w : World} (hT : T_vpath_pieces s R w) : CallF P F_vpath_pieces #[(Value.string s)] w R :=
  fn_of_tr (fn := Tryz.f68) (c := (Tryz.f68.body).getD .skip) (ann := ann_vpath_pieces) (args := [(0, (Value.string s))]) (qs := qs) mixed Tryz.func68 rfl (by kernel_rfl) (by kernel_rfl) ok_vpath_pieces ((eq_vpath_pieces s R w).symm ▸ hT)
def ann_vpath_Parse : Ann2 := (.seq (.pure .leaf) (.seq (.pure (.seq .leaf (.cond (.seq .leaf .leaf) .leaf))) (.seq (.pure (.seq .leaf (.cond (.seq .leaf .leaf) .leaf))) (.seq (.pure (.seq .leaf (.blk (.loop [(15, .int .i64)] (.seq .leaf (.seq (.cond .leaf .leaf) (.join [] (.jblk [] (.seq .leaf (.seq .leaf (.cond (.seq .leaf .leaf) .leaf)))) .leaf))))))) (.seq (.pure .leaf) (.seq (.seq (.pure .leaf) (.blk (.rng [(32, .str)] true [] .leaf (.jblk [] (.jblk [] (.seq .leaf (.cond (.seq .leaf .leaf) (.seq .leaf (.cond .leaf (.seq .leaf (.cond .leaf .leaf))))))))))) (.pure (.seq (.seq .leaf (.cond (.seq .leaf .leaf) .leaf)) (.seq .leaf .leaf)))))))))
theorem ok_vpath_Parse : okC2 P qs Tryz.f45.ntmps ((Tryz.f45.body).getD .skip) ann_vpath_Parse = true := by kernel_rfl
def T_vpath_Parse (s : ByteArray) (R : Ending → World → Prop) (w : World) : Prop :=
    newB (zc P y_S_string) y_S_string w fun b2 w_1 =>
    newB (zc P y_api_Errno) y_api_Errno w_1 fun b3 w_2 =>
    iteP (decide ((s.size : Int) > 256)) (
    stC (⟨b2, 0, none⟩ : Addr) (Value.slice none 0 0) w_2 fun w_3 =>
    stC (⟨b3, 0, none⟩ : Addr) (Value.int .i64 2) w_3 fun w_4 =>
    ld .slc (⟨b2, 0, none⟩ : Addr) w_4 fun (t2 : (Option Addr × Nat × Nat)) =>
    ld (.int .i64) (⟨b3, 0, none⟩ : Addr) w_4 fun (t3 : Int) =>
    R (.returned (Value.tuple #[(Value.slice t2.1 t2.2.1 t2.2.2), (Value.int .i64 t3)])) w_4) (
    callQ P F_strings_HasPrefix #[(Value.string s), (Value.string (ByteArray.mk #[47]))] [.bool] false w_2 fun (t11 : Bool) =>
    iteP (!t11) (
    stC (⟨b2, 0, none⟩ : Addr) (Value.slice none 0 0) w_2 fun w_5 =>
    stC (⟨b3, 0, none⟩ : Addr) (Value.int .i64 40) w_5 fun w_6 =>
    ld .slc (⟨b2, 0, none⟩ : Addr) w_6 fun (t2_1 : (Option Addr × Nat × Nat)) =>
    ld (.int .i64) (⟨b3, 0, none⟩ : Addr) w_6 fun (t3_1 : Int) =>
    R (.returned (Value.tuple #[(Value.slice t2_1.1 t2_1.2.1 t2_1.2.2), (Value.int .i64 t3_1)])) w_6) (
    loopP Int (fun s_1 w_7 k =>
    iteP (decide (s_1 < (s.size : Int))) (
    joinP Unit (fun k_1 =>
    joinP Unit (fun k_2 =>
    ixStr s s_1 fun t20 =>
    iteP (t20 != 47) (
    ixStr s s_1 fun t25 =>
    callQ P F_vpath_plain #[(Value.int .u8 t25)] [.bool] false w_7 fun (t26 : Bool) =>
    iteP (!t26) (
    stC (⟨b2, 0, none⟩ : Addr) (Value.slice none 0 0) w_7 fun w_8 =>
    stC (⟨b3, 0, none⟩ : Addr) (Value.int .i64 40) w_8 fun w_9 =>
    ld .slc (⟨b2, 0, none⟩ : Addr) w_9 fun (t2_2 : (Option Addr × Nat × Nat)) =>
    ld (.int .i64) (⟨b3, 0, none⟩ : Addr) w_9 fun (t3_2 : Int) =>
    R (.returned (Value.tuple #[(Value.slice t2_2.1 t2_2.2.1 t2_2.2.2), (Value.int .i64 t3_2)])) w_9) (
    k_2 () w_7)) (
    k_2 () w_7)) (fun _ w_10 =>
    k_1 () w_10)) (fun _ w_11 =>
    addI .i64 s_1 1 fun t29 =>
    k t29 w_11)) (
    newB (zc P y_S_string) y_S_string w_7 fun b5 w_12 =>
    callF P F_vpath_pieces #[(Value.string s)] [.any] false w_12 fun (t31 : Value) w_13 =>
    rangeP P [.str] t31 w_13 (fun (x : ByteArray) w_14 beg kc kr _ =>
    beg w_14 fun w_15 =>
    joinP Unit (fun k_3 =>
    joinP Unit (fun k_4 =>
    iteP (decide ((x.size : Int) > 16)) (
    stC (⟨b2, 0, none⟩ : Addr) (Value.slice none 0 0) w_15 fun w_16 =>
    stC (⟨b3, 0, none⟩ : Addr) (Value.int .i64 41) w_16 fun w_17 =>
    kr w_17) (
    iteP (x.toList == (ByteArray.mk #[]).toList) (
    k_4 () w_15) (
    iteP (x.toList == (ByteArray.mk #[46]).toList) (
    k_4 () w_15) (
    iteP (x.toList == (ByteArray.mk #[46, 46]).toList) (
    ld .slc (⟨b5, 0, none⟩ : Addr) w_15 fun (t51 : (Option Addr × Nat × Nat)) =>
    ld .slc (⟨b5, 0, none⟩ : Addr) w_15 fun (t52 : (Option Addr × Nat × Nat)) =>
    subI .i64 (t52.2.1 : Int) 1 fun t54 =>
    genQ P (Builtin.max_ #[y_int, y_int] y_int #[(Value.int .i64 t54), (Value.int .i64 0)]) (.int .i64) w_15 fun (t55 : Int) =>
    genQ P (Instr.sliceAt y_S_string (Value.slice t51.1 t51.2.1 t51.2.2) none (some (Value.int .i64 t55)) none) .slc w_15 fun (t56 : (Option Addr × Nat × Nat)) =>
    stC (⟨b5, 0, none⟩ : Addr) (Value.slice t56.1 t56.2.1 t56.2.2) w_15 fun w_18 =>
    k_4 () w_18) (
    ld .slc (⟨b5, 0, none⟩ : Addr) w_15 fun (t33 : (Option Addr × Nat × Nat)) =>
    genL P (Instr.buildSlice y_S_string 1 #[(0, (Value.string x))]) .slc w_15 fun (t35 : (Option Addr × Nat × Nat)) w_19 =>
    genL P (Builtin.append_ #[y_S_string, y_S_string] y_S_string #[(Value.slice t33.1 t33.2.1 t33.2.2), (Value.slice t35.1 t35.2.1 t35.2.2)]) .slc w_19 fun (t36 : (Option Addr × Nat × Nat)) w_20 =>
    stC (⟨b5, 0, none⟩ : Addr) (Value.slice t36.1 t36.2.1 t36.2.2) w_20 fun w_21 =>
    k_4 () w_21))))) (fun _ w_22 =>
    k_3 () w_22)) (fun _ w_23 =>
    kc w_23)) (fun D w_24 =>
    ld .slc (⟨b5, 0, none⟩ : Addr) w_24 fun (t57 : (Option Addr × Nat × Nat)) =>
    iteP (decide ((t57.2.1 : Int) > 8)) (
    stC (⟨b2, 0, none⟩ : Addr) (Value.slice none 0 0) w_24 fun w_25 =>
    stC (⟨b3, 0, none⟩ : Addr) (Value.int .i64 42) w_25 fun w_26 =>
    (w_26.heap[D]? = some (.deferred (some [])) ∧ ∀ w_27, w_27 = World.putObj w_26 D (.deferred none) →
    ld .slc (⟨b2, 0, none⟩ : Addr) w_27 fun (t2_3 : (Option Addr × Nat × Nat)) =>
    ld (.int .i64) (⟨b3, 0, none⟩ : Addr) w_27 fun (t3_3 : Int) =>
    R (.returned (Value.tuple #[(Value.slice t2_3.1 t2_3.2.1 t2_3.2.2), (Value.int .i64 t3_3)])) w_27)) (
    ld .slc (⟨b5, 0, none⟩ : Addr) w_24 fun (t60 : (Option Addr × Nat × Nat)) =>
    stC (⟨b2, 0, none⟩ : Addr) (Value.slice t60.1 t60.2.1 t60.2.2) w_24 fun w_28 =>
    stC (⟨b3, 0, none⟩ : Addr) (Value.int .i64 0) w_28 fun w_29 =>
    (w_29.heap[D]? = some (.deferred (some [])) ∧ ∀ w_30, w_30 = World.putObj w_29 D (.deferred none) →
    ld .slc (⟨b2, 0, none⟩ : Addr) w_30 fun (t2_4 : (Option Addr × Nat × Nat)) =>
    ld (.int .i64) (⟨b3, 0, none⟩ : Addr) w_30 fun (t3_4 : Int) =>
    R (.returned (Value.tuple #[(Value.slice t2_4.1 t2_4.2.1 t2_4.2.2), (Value.int .i64 t3_4)])) w_30))) (fun D_1 w_31 =>
    (w_31.heap[D_1]? = some (.deferred (some [])) ∧ ∀ w_32, w_32 = World.putObj w_31 D_1 (.deferred none) →
    ld .slc (⟨b2, 0, none⟩ : Addr) w_32 fun (t2_5 : (Option Addr × Nat × Nat)) =>
    ld (.int .i64) (⟨b3, 0, none⟩ : Addr) w_32 fun (t3_5 : Int) =>
    R (.returned (Value.tuple #[(Value.slice t2_5.1 t2_5.2.1 t2_5.2.2), (Value.int .i64 t3_5)])) w_32)) (fun _ _ _ => False))) 0 w_2))
theorem eq_vpath_Parse (s : ByteArray) (R : Ending → World → Prop) (w : World) : tr2 P qs ((Tryz.f45.body).getD .skip) ann_vpath_Parse [] (env0 0 [(0, (Value.string s))]) (topK2 P Tryz.f45.results.toList R) w = T_vpath_Parse s R w := by kernel_rfl
/-- veneer/vpath.Parse -/
theorem fn_vpath_Parse {s : ByteArray} {R : Ending → World → Prop} {w : World} (hT : T_vpath_Parse s R w) : CallF P F_vpath_Parse #[(Value.string s)] w R :=
  fn_of_tr2 (fn := Tryz.f45) (c := (Tryz.f45.body).getD .skip) (ann := ann_vpath_Parse) (args := [(0, (Value.string s))]) (qs := qs) mixed Tryz.func45 rfl (by kernel_rfl) (by kernel_rfl) ok_vpath_Parse ((eq_vpath_Parse s R w).symm ▸ hT)
def ann_vpath_Show : Ann := (.seq .leaf (.seq .leaf .leaf))
theorem ok_vpath_Show : okC P qs Tryz.f35.ntmps ((Tryz.f35.body).getD .skip) ann_vpath_Show = true := by kernel_rfl
def T_vpath_Show (names : Option Addr) (names_l names_c : Nat) (R : Ending → World → Prop) (w : World) : Prop :=
    callF P F_strings_Join #[(Value.slice names names_l names_c), (Value.string (ByteArray.mk #[47]))] [.str] false w fun (t4 : ByteArray) w_1 =>
    catS (ByteArray.mk #[47]) t4 fun t5 =>
    R (.returned (Value.string t5)) w_1
theorem eq_vpath_Show (names : Option Addr) (names_l names_c : Nat) (R : Ending → World → Prop) (w : World) : tr P qs ((Tryz.f35.body).getD .skip) ann_vpath_Show (env0 0 [(0, (Value.slice names names_l names_c))]) (topK P Tryz.f35.results.toList R) w = T_vpath_Show names names_l names_c R w := by kernel_rfl
/-- veneer/vpath.Show -/
theorem fn_vpath_Show {names : Option Addr} {names_l names_c : Nat} {R : Ending → World → Prop} {w : World} (hT : T_vpath_Show names names_l names_c R w) : CallF P F_vpath_Show #[(Value.slice names names_l names_c)] w R :=
  fn_of_tr (fn := Tryz.f35) (c := (Tryz.f35.body).getD .skip) (ann := ann_vpath_Show) (args := [(0, (Value.slice names names_l names_c))]) (qs := qs) mixed Tryz.func35 rfl (by kernel_rfl) (by kernel_rfl) ok_vpath_Show ((eq_vpath_Show names names_l names_c R w).symm ▸ hT)
def ann_r04_Name : Ann := (.seq .leaf (.join [] (.seq .leaf (.cond (.seq .leaf .leaf) .leaf)) (.seq (.seq .leaf (.blk (.loop [(3, .int .i64)] (.seq (.seq .leaf (.cond .leaf .leaf)) (.seq (.blk (.seq .leaf (.cond (.seq .leaf .leaf) .leaf))) .leaf))))) (.seq .leaf .leaf))))
theorem ok_r04_Name : okC P qs Tryz.f83.ntmps ((Tryz.f83.body).getD .skip) ann_r04_Name = true := by kernel_rfl
def T_r04_Name (s : ByteArray) (R : Ending → World → Prop) (w : World) : Prop :=
    joinP Unit (fun k =>
    iteP (decide ((s.size : Int) < 1)) (
    R (.returned (Value.bool false)) w) (
    iteP (decide ((s.size : Int) > 16)) (
    R (.returned (Value.bool false)) w) (
    iteP (s.toList == (ByteArray.mk #[46]).toList) (
    R (.returned (Value.bool false)) w) (
    iteP (s.toList == (ByteArray.mk #[46, 46]).toList) (
    R (.returned (Value.bool false)) w) (
    k () w))))) (fun _ w_1 =>
    loopP Int (fun s_2 w_2 k_1 =>
    iteP (decide (s_2 < (s.size : Int))) (
    ixStr s s_2 fun t28 =>
    callQ P F_r04_Plain #[(Value.int .u8 t28)] [.bool] false w_2 fun (t29 : Bool) =>
    iteP (!t29) (
    R (.returned (Value.bool false)) w_2) (
    addI .i64 s_2 1 fun t25 =>
    k_1 t25 w_2)) (
    R (.returned (Value.bool true)) w_2)) 0 w_1)
theorem eq_r04_Name (s : ByteArray) (R : Ending → World → Prop) (w : World) : tr P qs ((Tryz.f83.body).getD .skip) ann_r04_Name (env0 0 [(0, (Value.string s))]) (topK P Tryz.f83.results.toList R) w = T_r04_Name s R w := by kernel_rfl
/-- veneer/veneerref04.Name -/
theorem fn_r04_Name {s : ByteArray} {R : Ending → World → Prop} {w : World} (hT : T_r04_Name s R w) : CallF P F_r04_Name #[(Value.string s)] w R :=
  fn_of_tr (fn := Tryz.f83) (c := (Tryz.f83.body).getD .skip) (ann := ann_r04_Name) (args := [(0, (Value.string s))]) (qs := qs) mixed Tryz.func83 rfl (by kernel_rfl) (by kernel_rfl) ok_r04_Name ((eq_r04_Name s R w).symm ▸ hT)
def ann_r04_Check : Ann := (.seq .leaf (.seq (.seq .leaf (.blk (.loop [(3, .int .i64)] (.seq (.seq .leaf (.cond .leaf .leaf)) (.seq (.blk (.seq .leaf (.cond (.seq .leaf .leaf) .leaf))) .leaf))))) (.seq (.seq .leaf (.cond (.seq .leaf .leaf) .leaf)) (.seq .leaf .leaf))))
theorem ok_r04_Check : okC P qs Tryz.f71.ntmps ((Tryz.f71.body).getD .skip) ann_r04_Check = true := by kernel_rfl
def T_r04_Check (names : Option Addr) (names_l names_c : Nat) (R : Ending → World → Prop) (w : World) : Prop :=
    loopP Int (fun s w_1 k =>
    iteP (decide (s < (names_l : Int))) (
    ixS names names_l 1 s fun t12 =>
    ld .str t12 w_1 fun (t13 : ByteArray) =>
    callF P F_r04_Name #[(Value.string t13)] [.bool] false w_1 fun (t14 : Bool) w_2 =>
    iteP (!t14) (
    R (.returned (Value.int .i64 41)) w_2) (
    addI .i64 s 1 fun t9 =>
    k t9 w_2)) (
    iteP (decide ((names_l : Int) > 8)) (
    R (.returned (Value.int .i64 42)) w_1) (
    R (.returned (Value.int .i64 0)) w_1))) 0 w
theorem eq_r04_Check (names : Option Addr) (names_l names_c : Nat) (R : Ending → World → Prop) (w : World) : tr P qs ((Tryz.f71.body).getD .skip) ann_r04_Check (env0 0 [(0, (Value.slice names names_l names_c))]) (topK P Tryz.f71.results.toList R) w = T_r04_Check names names_l names_c R w := by kernel_rfl
/-- veneer/veneerref04.Check -/
theorem fn_r04_Check {names : Option Addr} {names_l names_c : Nat} {R : Ending → World → Prop} {w : World} (hT : T_r04_Check names names_l names_c R w) : CallF P F_r04_Check #[(Value.slice names names_l names_c)] w R :=
  fn_of_tr (fn := Tryz.f71) (c := (Tryz.f71.body).getD .skip) (ann := ann_r04_Check) (args := [(0, (Value.slice names names_l names_c))]) (qs := qs) mixed Tryz.func71 rfl (by kernel_rfl) (by kernel_rfl) ok_r04_Check ((eq_r04_Check names names_l names_c R w).symm ▸ hT)
def ann_r04_Parse : Ann := (.seq .leaf (.seq (.seq .leaf (.cond (.seq .leaf .leaf) .leaf)) (.join [] (.seq .leaf (.cond (.seq .leaf .leaf) .leaf)) (.seq (.seq .leaf (.blk (.loop [(4, .int .i64)] (.seq (.seq .leaf (.cond .leaf .leaf)) (.join [] (.jblk [] (.seq .leaf (.cond (.seq .leaf .leaf) .leaf))) .leaf))))) (.seq .leaf (.seq .leaf (.seq (.seq .leaf (.blk (.loop [(5, .slc), (6, .int .i64), (7, .int .i64)] (.seq (.seq .leaf (.cond .leaf .leaf)) (.seq (.jblk [(5, .slc), (6, .int .i64)] (.join [] (.seq .leaf (.cond .leaf .leaf)) (.seq .leaf (.seq .leaf (.seq (.seq .leaf (.cond (.seq .leaf .leaf) .leaf)) (.join [(5, .slc)] (.seq .leaf (.cond .leaf .leaf)) (.seq .leaf (.cond .leaf .leaf)))))))) .leaf))))) (.seq (.seq .leaf (.cond (.seq .leaf .leaf) .leaf)) (.seq .leaf .leaf)))))))))
theorem ok_r04_Parse : okC P qs Tryz.f50.ntmps ((Tryz.f50.body).getD .skip) ann_r04_Parse = true := by kernel_rfl
def T_r04_Parse (s : ByteArray) (R : Ending → World → Prop) (w : World) : Prop :=
    iteP (decide ((s.size : Int) > 256)) (
    R (.returned (Value.tuple #[(Value.slice none 0 0), (Value.int .i64 2)])) w) (
    joinP Unit (fun k =>
    iteP ((s.size : Int) == 0) (
    R (.returned (Value.tuple #[(Value.slice none 0 0), (Value.int .i64 40)])) w) (
    ixStr s 0 fun t17 =>
    iteP (t17 != 47) (
    R (.returned (Value.tuple #[(Value.slice none 0 0), (Value.int .i64 40)])) w) (
    k () w))) (fun _ w_1 =>
    loopP Int (fun s_2 w_2 k_1 =>
    iteP (decide (s_2 < (s.size : Int))) (
    joinP Unit (fun k_2 =>
    joinP Unit (fun k_3 =>
    ixStr s s_2 fun t28 =>
    iteP (t28 != 47) (
    ixStr s s_2 fun t33 =>
    callQ P F_r04_Plain #[(Value.int .u8 t33)] [.bool] false w_2 fun (t34 : Bool) =>
    iteP (!t34) (
    R (.returned (Value.tuple #[(Value.slice none 0 0), (Value.int .i64 40)])) w_2) (
    k_3 () w_2)) (
    k_3 () w_2)) (fun _ w_3 =>
    k_2 () w_3)) (fun _ w_4 =>
    addI .i64 s_2 1 fun t25 =>
    k_1 t25 w_4)) (
    loopP ((Option Addr × Nat × Nat) × Int × Int) (fun s_5 w_5 k_4 =>
    iteP (decide (s_5.2.2 ≤ (s.size : Int))) (
    joinP ((Option Addr × Nat × Nat) × Int) (fun k_5 =>
    joinP Unit (fun k_6 =>
    iteP (decide (s_5.2.2 < (s.size : Int))) (
    ixStr s s_5.2.2 fun t50 =>
    iteP (t50 != 47) (
    k_5 ((s_5.1.1, s_5.1.2.1, s_5.1.2.2), s_5.2.1) w_5) (
    k_6 () w_5)) (
    k_6 () w_5)) (fun _ w_6 =>
    genQ P (Instr.sliceAt y_string (Value.string s) (some (Value.int .i64 s_5.2.1)) (some (Value.int .i64 s_5.2.2)) none) .str w_6 fun (t56 : ByteArray) =>
    addI .i64 s_5.2.2 1 fun t58 =>
    iteP (decide ((t56.size : Int) > 16)) (
    R (.returned (Value.tuple #[(Value.slice none 0 0), (Value.int .i64 41)])) w_6) (
    joinP (Option Addr × Nat × Nat) (fun k_7 =>
    iteP (t56.toList == (ByteArray.mk #[46, 46]).toList) (
    iteP (decide ((s_5.1.2.1 : Int) > 0)) (
    genL P (Instr.buildSlice y_S_string 0 #[]) .slc w_6 fun (t69 : (Option Addr × Nat × Nat)) w_7 =>
    subI .i64 (s_5.1.2.1 : Int) 1 fun t73 =>
    genQ P (Instr.sliceAt y_S_string (Value.slice s_5.1.1 s_5.1.2.1 s_5.1.2.2) none (some (Value.int .i64 t73)) none) .slc w_7 fun (t74 : (Option Addr × Nat × Nat)) =>
    genL P (Builtin.append_ #[y_S_string, y_S_string] y_S_string #[(Value.slice t69.1 t69.2.1 t69.2.2), (Value.slice t74.1 t74.2.1 t74.2.2)]) .slc w_7 fun (t75 : (Option Addr × Nat × Nat)) w_8 =>
    k_7 (t75.1, t75.2.1, t75.2.2) w_8) (
    k_7 (s_5.1.1, s_5.1.2.1, s_5.1.2.2) w_6)) (
    k_7 (s_5.1.1, s_5.1.2.1, s_5.1.2.2) w_6)) (fun s_7 w_9 =>
    iteP (!(t56.toList == (ByteArray.mk #[]).toList)) (
    iteP (!(t56.toList == (ByteArray.mk #[46]).toList)) (
    iteP (!(t56.toList == (ByteArray.mk #[46, 46]).toList)) (
    genL P (Instr.buildSlice y_S_string 1 #[(0, (Value.string t56))]) .slc w_9 fun (t88 : (Option Addr × Nat × Nat)) w_10 =>
    genL P (Builtin.append_ #[y_S_string, y_S_string] y_S_string #[(Value.slice s_7.1 s_7.2.1 s_7.2.2), (Value.slice t88.1 t88.2.1 t88.2.2)]) .slc w_10 fun (t89 : (Option Addr × Nat × Nat)) w_11 =>
    k_5 ((t89.1, t89.2.1, t89.2.2), t58) w_11) (
    k_5 ((s_7.1, s_7.2.1, s_7.2.2), t58) w_9)) (
    k_5 ((s_7.1, s_7.2.1, s_7.2.2), t58) w_9)) (
    k_5 ((s_7.1, s_7.2.1, s_7.2.2), t58) w_9))))) (fun s_8 w_12 =>
    addI .i64 s_5.2.2 1 fun t42 =>
    k_4 ((s_8.1.1, s_8.1.2.1, s_8.1.2.2), s_8.2, t42) w_12)) (
    iteP (decide ((s_5.1.2.1 : Int) > 8)) (
    R (.returned (Value.tuple #[(Value.slice none 0 0), (Value.int .i64 42)])) w_5) (
    R (.returned (Value.tuple #[(Value.slice s_5.1.1 s_5.1.2.1 s_5.1.2.2), (Value.int .i64 0)])) w_5))) ((none, 0, 0), 1, 1) w_2)) 0 w_1))
theorem eq_r04_Parse (s : ByteArray) (R : Ending → World → Prop) (w : World) : tr P qs ((Tryz.f50.body).getD .skip) ann_r04_Parse (env0 0 [(0, (Value.string s))]) (topK P Tryz.f50.results.toList R) w = T_r04_Parse s R w := by kernel_rfl
/-- veneer/veneerref04.Parse -/
theorem fn_r04_Parse {s : ByteArray} {R : Ending → World → Prop} {w : World} (hT : T_r04_Parse s R w) : CallF P F_r04_Parse #[(Value.string s)] w R :=
  fn_of_tr (fn := Tryz.f50) (c := (Tryz.f50.body).getD .skip) (ann := ann_r04_Parse) (args := [(0, (Value.string s))]) (qs := qs) mixed Tryz.func50 rfl (by kernel_rfl) (by kernel_rfl) ok_r04_Parse ((eq_r04_Parse s R w).symm ▸ hT)
def ann_r04_Show : Ann := (.seq .leaf (.seq (.seq .leaf (.cond (.seq .leaf .leaf) .leaf)) (.seq .leaf (.seq (.seq .leaf (.blk (.loop [(3, .str), (4, .int .i64)] (.seq (.seq .leaf (.cond .leaf .leaf)) (.seq (.blk .leaf) .leaf))))) (.seq .leaf .leaf)))))
theorem ok_r04_Show : okC P qs Tryz.f53.ntmps ((Tryz.f53.body).getD .skip) ann_r04_Show = true := by kernel_rfl
def T_r04_Show (names : Option Addr) (names_l names_c : Nat) (R : Ending → World → Prop) (w : World) : Prop :=
    iteP ((names_l : Int) == 0) (
    R (.returned (Value.string (ByteArray.mk #[47]))) w) (
    loopP (ByteArray × Int) (fun s w_1 k =>
    iteP (decide (s.2 < (names_l : Int))) (
    catS s.1 (ByteArray.mk #[47]) fun t15 =>
    ixS names names_l 1 s.2 fun t18 =>
    ld .str t18 w_1 fun (t19 : ByteArray) =>
    catS t15 t19 fun t20 =>
    addI .i64 s.2 1 fun t13 =>
    k (t20, t13) w_1) (
    R (.returned (Value.string s.1)) w_1)) ((ByteArray.mk #[]), 0) w)
theorem eq_r04_Show (names : Option Addr) (names_l names_c : Nat) (R : Ending → World → Prop) (w : World) : tr P qs ((Tryz.f53.body).getD .skip) ann_r04_Show (env0 0 [(0, (Value.slice names names_l names_c))]) (topK P Tryz.f53.results.toList R) w = T_r04_Show names names_l names_c R w := by kernel_rfl
/-- veneer/veneerref04.Show -/
theorem fn_r04_Show {names : Option Addr} {names_l names_c : Nat} {R : Ending → World → Prop} {w : World} (hT : T_r04_Show names names_l names_c R w) : CallF P F_r04_Show #[(Value.slice names names_l names_c)] w R :=
  fn_of_tr (fn := Tryz.f53) (c := (Tryz.f53.body).getD .skip) (ann := ann_r04_Show) (args := [(0, (Value.slice names names_l names_c))]) (qs := qs) mixed Tryz.func53 rfl (by kernel_rfl) (by kernel_rfl) ok_r04_Show ((eq_r04_Show names names_l names_c R w).symm ▸ hT)
def ann_r04_Compare : Ann := (.seq .leaf (.join [] (.seq .leaf (.jblk [] (.loop [(5, .int .i64)] (.join [] (.seq .leaf (.cond .leaf .leaf)) (.seq (.blk (.seq (.seq (.tree (.op 0 [] (.op 1 [] (.op 2 [] (.op 4 [] (.op 5 [] (.op 6 [] (.op 3 [] (.op 7 [] (.op 8 [] .done)))))))))) (.cond (.seq .leaf .leaf) .leaf)) (.seq (.tree (.op 0 [] (.op 1 [] (.op 2 [] (.op 4 [] (.op 5 [] (.op 6 [] (.op 3 [] (.op 7 [] (.op 8 [] .done)))))))))) (.cond (.seq .leaf .leaf) .leaf)))) .leaf))))) (.seq (.seq .leaf (.cond (.seq .leaf .leaf) .leaf)) (.seq (.seq .leaf (.cond (.seq .leaf .leaf) .leaf)) (.seq .leaf .leaf)))))
theorem ok_r04_Compare : okC P qs Tryz.f55.ntmps ((Tryz.f55.body).getD .skip) ann_r04_Compare = true := by kernel_rfl
def T_r04_Compare (a : Option Addr) (a_l a_c : Nat) (b : Option Addr) (b_l b_c : Nat) (R : Ending → World → Prop) (w : World) : Prop :=
    joinP Unit (fun k =>
    joinP Unit (fun k_1 =>
    loopP Int (fun s w_1 k_2 =>
    joinP Unit (fun k_3 =>
    iteP (decide (s < (a_l : Int))) (
    iteP (decide (s < (b_l : Int))) (
    k_3 () w_1) (
    k_1 () w_1)) (
    k_1 () w_1)) (fun _ w_2 =>
    drewP w_2 fun w_3 =>
    ixS a a_l 1 s fun t20 =>
    ixS b b_l 1 s fun t24 =>
    ld .str t20 w_3 fun (t21 : ByteArray) =>
    ld .str t24 w_3 fun (t25 : ByteArray) =>
    iteP (Op.bytesLess t21.toList t25.toList) (
    R (.returned (Value.int .i64 (-1))) w_3) (
    drewP w_3 fun w_4 =>
    ixS a a_l 1 s fun t29 =>
    ixS b b_l 1 s fun t33 =>
    ld .str t29 w_4 fun (t30 : ByteArray) =>
    ld .str t33 w_4 fun (t34 : ByteArray) =>
    iteP (!((Op.bytesLess t30.toList t34.toList) || (t30.toList == t34.toList))) (
    R (.returned (Value.int .i64 1)) w_4) (
    addI .i64 s 1 fun t17 =>
    k_2 t17 w_4)))) 0 w) (fun _ w_5 =>
    k () w_5)) (fun _ w_6 =>
    iteP (decide ((a_l : Int) < (b_l : Int))) (
    R (.returned (Value.int .i64 (-1))) w_6) (
    iteP (decide ((a_l : Int) > (b_l : Int))) (
    R (.returned (Value.int .i64 1)) w_6) (
    R (.returned (Value.int .i64 0)) w_6)))
theorem eq_r04_Compare (a : Option Addr) (a_l a_c : Nat) (b : Option Addr) (b_l b_c : Nat) (R : Ending → World → Prop) (w : World) : tr P qs ((Tryz.f55.body).getD .skip) ann_r04_Compare (env0 0 [(0, (Value.slice a a_l a_c)), (0, (Value.slice b b_l b_c))]) (topK P Tryz.f55.results.toList R) w = T_r04_Compare a a_l a_c b b_l b_c R w := by kernel_rfl
/-- veneer/veneerref04.Compare -/
theorem fn_r04_Compare {a : Option Addr} {a_l a_c : Nat} {b : Option Addr} {b_l b_c : Nat} {R : Ending → World → Prop} {w : World} (hT : T_r04_Compare a a_l a_c b b_l b_c R w) : CallF P F_r04_Compare #[(Value.slice a a_l a_c), (Value.slice b b_l b_c)] w R :=
  fn_of_tr (fn := Tryz.f55) (c := (Tryz.f55.body).getD .skip) (ann := ann_r04_Compare) (args := [(0, (Value.slice a a_l a_c)), (0, (Value.slice b b_l b_c))]) (qs := qs) mixed Tryz.func55 rfl (by kernel_rfl) (by kernel_rfl) ok_r04_Compare ((eq_r04_Compare a a_l a_c b b_l b_c R w).symm ▸ hT)
def ann_r04_Within : Ann := (.seq .leaf (.seq (.seq .leaf (.cond (.seq .leaf .leaf) .leaf)) (.seq (.seq .leaf (.blk (.loop [(5, .int .i64)] (.seq (.seq .leaf (.cond .leaf .leaf)) (.seq (.blk (.seq (.tree (.op 0 [] (.op 1 [] (.op 2 [] (.op 4 [] (.op 5 [] (.op 6 [] (.op 3 [] (.op 7 [] (.op 8 [] .done)))))))))) (.cond (.seq .leaf .leaf) .leaf))) .leaf))))) (.seq .leaf .leaf))))
theorem ok_r04_Within : okC P qs Tryz.f48.ntmps ((Tryz.f48.body).getD .skip) ann_r04_Within = true := by kernel_rfl
def T_r04_Within (path : Option Addr) (path_l path_c : Nat) (of : Option Addr) (of_l of_c : Nat) (R : Ending → World → Prop) (w : World) : Prop :=
    iteP (decide ((path_l : Int) < (of_l : Int))) (
    R (.returned (Value.bool false)) w) (
    loopP Int (fun s w_1 k =>
    iteP (decide (s < (of_l : Int))) (
    drewP w_1 fun w_2 =>
    ixS path path_l 1 s fun t19 =>
    ixS of of_l 1 s fun t23 =>
    ld .str t19 w_2 fun (t20 : ByteArray) =>
    ld .str t23 w_2 fun (t24 : ByteArray) =>
    iteP (!(t20.toList == t24.toList)) (
    R (.returned (Value.bool false)) w_2) (
    addI .i64 s 1 fun t16 =>
    k t16 w_2)) (
    R (.returned (Value.bool true)) w_1)) 0 w)
theorem eq_r04_Within (path : Option Addr) (path_l path_c : Nat) (of : Option Addr) (of_l of_c : Nat) (R : Ending → World → Prop) (w : World) : tr P qs ((Tryz.f48.body).getD .skip) ann_r04_Within (env0 0 [(0, (Value.slice path path_l path_c)), (0, (Value.slice of of_l of_c))]) (topK P Tryz.f48.results.toList R) w = T_r04_Within path path_l path_c of of_l of_c R w := by kernel_rfl
/-- veneer/veneerref04.Within -/
theorem fn_r04_Within {path : Option Addr} {path_l path_c : Nat} {of : Option Addr} {of_l of_c : Nat} {R : Ending → World → Prop} {w : World} (hT : T_r04_Within path path_l path_c of of_l of_c R w) : CallF P F_r04_Within #[(Value.slice path path_l path_c), (Value.slice of of_l of_c)] w R :=
  fn_of_tr (fn := Tryz.f48) (c := (Tryz.f48.body).getD .skip) (ann := ann_r04_Within) (args := [(0, (Value.slice path path_l path_c)), (0, (Value.slice of of_l of_c))]) (qs := qs) mixed Tryz.func48 rfl (by kernel_rfl) (by kernel_rfl) ok_r04_Within ((eq_r04_Within path path_l path_c of of_l of_c R w).symm ▸ hT)
def ann_r07_Names : Ann := (.seq .leaf (.seq .leaf (.seq .leaf .leaf)))
theorem ok_r07_Names : okC P qs Tryz.f49.ntmps ((Tryz.f49.body).getD .skip) ann_r07_Names = true := by kernel_rfl
def T_r07_Names (path : ByteArray) (R : Ending → World → Prop) (w : World) : Prop :=
    callF P F_r04_Parse #[(Value.string path)] [.slc, .int .i64] true w fun (t7 : ((Option Addr × Nat × Nat) × Int)) w_1 =>
    R (.returned (Value.slice t7.1.1 t7.1.2.1 t7.1.2.2)) w_1
theorem eq_r07_Names (path : ByteArray) (R : Ending → World → Prop) (w : World) : tr P qs ((Tryz.f49.body).getD .skip) ann_r07_Names (env0 0 [(0, (Value.string path))]) (topK P Tryz.f49.results.toList R) w = T_r07_Names path R w := by kernel_rfl
/-- veneer/veneerref07.Names -/
theorem fn_r07_Names {path : ByteArray} {R : Ending → World → Prop} {w : World} (hT : T_r07_Names path R w) : CallF P F_r07_Names #[(Value.string path)] w R :=
  fn_of_tr (fn := Tryz.f49) (c := (Tryz.f49.body).getD .skip) (ann := ann_r07_Names) (args := [(0, (Value.string path))]) (qs := qs) mixed Tryz.func49 rfl (by kernel_rfl) (by kernel_rfl) ok_r07_Names ((eq_r07_Names path R w).symm ▸ hT)
def ann_upper_names : Ann := (.seq .leaf (.seq .leaf (.seq .leaf .leaf)))
theorem ok_upper_names : okC P qs Tryz.f34.ntmps ((Tryz.f34.body).getD .skip) ann_upper_names = true := by kernel_rfl
def T_upper_names (path : ByteArray) (R : Ending → World → Prop) (w : World) : Prop :=
    callF P F_vpath_Parse #[(Value.string path)] [.slc, .int .i64] true w fun (t7 : ((Option Addr × Nat × Nat) × Int)) w_1 =>
    R (.returned (Value.slice t7.1.1 t7.1.2.1 t7.1.2.2)) w_1
theorem eq_upper_names (path : ByteArray) (R : Ending → World → Prop) (w : World) : tr P qs ((Tryz.f34.body).getD .skip) ann_upper_names (env0 0 [(0, (Value.string path))]) (topK P Tryz.f34.results.toList R) w = T_upper_names path R w := by kernel_rfl
/-- veneer/upper.names -/
theorem fn_upper_names {path : ByteArray} {R : Ending → World → Prop} {w : World} (hT : T_upper_names path R w) : CallF P F_upper_names #[(Value.string path)] w R :=
  fn_of_tr (fn := Tryz.f34) (c := (Tryz.f34.body).getD .skip) (ann := ann_upper_names) (args := [(0, (Value.string path))]) (qs := qs) mixed Tryz.func34 rfl (by kernel_rfl) (by kernel_rfl) ok_upper_names ((eq_upper_names path R w).symm ▸ hT)
end Go.Proofs.YtbmegmbnlajbbaaGreat
