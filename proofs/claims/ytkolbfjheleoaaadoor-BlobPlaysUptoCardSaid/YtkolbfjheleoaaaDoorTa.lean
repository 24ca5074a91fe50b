/- Functions of the program as propositions; printed by wip/tools/fw.py, checked by the kernel. -/
import Derived.Test.YtkolbfjheleoaaaDoorProg
import Derived.Test.YtkolbfjheleoaaaDoorFwP
namespace Go.Proofs.YtkolbfjheleoaaaDoor
open Go Go.Fw Go.Proofs
set_option maxRecDepth 100000
noncomputable abbrev P : Program := Tryd.prog
def qs : List FuncId := [28, 56]
theorem mixed : P.follows .mixedOrders = true := by kernel_rfl
abbrev F_main_main : FuncId := 0
abbrev F_gosem_cut : FuncId := 1
abbrev F_gosem_cut_init : FuncId := 2
abbrev F_l05_BlobBack : FuncId := 3
abbrev F_l05_BlobRoom : FuncId := 4
abbrev F_l05_BlobPlays : FuncId := 5
abbrev F_l05_BlobApart : FuncId := 6
abbrev F_l05_awake : FuncId := 7
abbrev F_blob_New : FuncId := 8
abbrev F_blob_Store_Put : FuncId := 9
abbrev F_blob_Store_Count : FuncId := 10
abbrev F_blob_Store_Get : FuncId := 11
abbrev F_r01_Sum : FuncId := 12
abbrev F_blob_Store_Spoil : FuncId := 13
abbrev F_blob_Store_Bytes : FuncId := 14
abbrev F_blob_Store_Has : FuncId := 15
abbrev F_blob_Store_Drop : FuncId := 16
abbrev F_l05_heavy : FuncId := 17
abbrev F_r05_New : FuncId := 18
abbrev F_blob_Store_Clone : FuncId := 19
abbrev F_r05_Store_Clone : FuncId := 20
abbrev F_l05_do : FuncId := 21
abbrev F_r05_Store_Has : FuncId := 22
abbrev F_l05_same : FuncId := 23
abbrev F_blob_Store_All : FuncId := 24
abbrev F_blob_Store_PutAll : FuncId := 25
abbrev F_sha_Sum : FuncId := 26
abbrev F_slices_Clone_S_byte_byte : FuncId := 27
abbrev F_r01_turn : FuncId := 28
abbrev F_r01_constant : FuncId := 29
abbrev F_r05_Store_Put : FuncId := 30
abbrev F_r05_Store_Get : FuncId := 31
abbrev F_r05_Store_Drop : FuncId := 32
abbrev F_r05_Store_Spoil : FuncId := 33
abbrev F_r05_Store_PutAll : FuncId := 34
abbrev F_r05_Store_find : FuncId := 35
abbrev F_r05_Store_Bytes : FuncId := 36
abbrev F_slices_SortedFunc_api_Digest : FuncId := 37
abbrev F_maps_Keys_M_api_Digest_S_byte_api_Digest_S_byte : FuncId := 38
abbrev F_sha_Compare : FuncId := 39
abbrev F_slices_Values_S_api_Digest_api_Digest : FuncId := 40
abbrev F_sha_New : FuncId := 41
abbrev F_sha_Hash_Write : FuncId := 42
abbrev F_sha_Hash_Sum : FuncId := 43
abbrev F_r05_Store_fresh : FuncId := 44
abbrev F_r01_Compare : FuncId := 45
abbrev F_slices_Collect_api_Digest : FuncId := 46
abbrev F_slices_SortFunc_S_api_Digest_api_Digest : FuncId := 47
abbrev F_maps_Keys_M_api_Digest_S_byte_api_Digest_S_byte_1 : FuncId := 48
abbrev F_bytes_Compare : FuncId := 49
abbrev F_slices_Values_S_api_Digest_api_Digest_1 : FuncId := 50
abbrev F_sha_Hash_mix : FuncId := 51
abbrev F_slices_AppendSeq_S_api_Digest_api_Digest : FuncId := 52
abbrev F_slices_pdqsortCmpFunc_api_Digest : FuncId := 53
abbrev F_math_bits_Len : FuncId := 54
abbrev F_internal_bytealg_Compare : FuncId := 55
abbrev F_math_bits_RotateLeft32 : FuncId := 56
abbrev F_slices_insertionSortCmpFunc_api_Digest : FuncId := 57
abbrev F_slices_heapSortCmpFunc_api_Digest : FuncId := 58
abbrev F_slices_breakPatternsCmpFunc_api_Digest : FuncId := 59
abbrev F_slices_choosePivotCmpFunc_api_Digest : FuncId := 60
abbrev F_slices_reverseRangeCmpFunc_api_Digest : FuncId := 61
abbrev F_slices_partialInsertionSortCmpFunc_api_Digest : FuncId := 62
abbrev F_slices_partitionEqualCmpFunc_api_Digest : FuncId := 63
abbrev F_slices_partitionCmpFunc_api_Digest : FuncId := 64
abbrev F_math_bits_Len32 : FuncId := 65
abbrev F_math_bits_Len64 : FuncId := 66
abbrev F_slices_siftDownCmpFunc_api_Digest : FuncId := 67
abbrev F_slices_nextPowerOfTwo : FuncId := 68
abbrev F_slices_xorshift_Next : FuncId := 69
abbrev F_slices_medianAdjacentCmpFunc_api_Digest : FuncId := 70
abbrev F_slices_medianCmpFunc_api_Digest : FuncId := 71
abbrev F_slices_order2CmpFunc_api_Digest : FuncId := 72
abbrev F_runtime_boundsError_Error : FuncId := 73
abbrev F_runtime_boundsError_RuntimeError : FuncId := 74
abbrev F_runtime_errorString_Error : FuncId := 75
abbrev F_runtime_errorString_RuntimeError : FuncId := 76
abbrev F_runtime_plainError_Error : FuncId := 77
abbrev F_runtime_plainError_RuntimeError : FuncId := 78
abbrev F_runtime_errorAddressString_Error : FuncId := 79
abbrev F_runtime_errorAddressString_RuntimeError : FuncId := 80
abbrev F_runtime_TypeAssertionError_Error : FuncId := 81
abbrev F_runtime_TypeAssertionError_RuntimeError : FuncId := 82
abbrev F_runtime_PanicNilError_Error : FuncId := 83
abbrev F_runtime_PanicNilError_RuntimeError : FuncId := 84
abbrev F_internal_abi_Type_Align : FuncId := 85
abbrev F_internal_runtime_maps_unhashableTypeError_Error : FuncId := 86
abbrev F_internal_runtime_maps_unhashableTypeError_RuntimeError : FuncId := 87
abbrev F_api_Errno_Error : FuncId := 88
abbrev F_sha_Hash_Len : FuncId := 89
abbrev F_internal_abi_Kind_String : FuncId := 90
abbrev F_var_s_door_gosem_cut_vars_holds_initiali_f81981 : FuncId := 91
abbrev F_var_s_door_the_look_of_gosem_cut_vars_we_04e29c : FuncId := 92
abbrev F_var_s_door_sha_rounds_is_laid_by_its_own_36c152 : FuncId := 93
abbrev F_gosem_cut_vars : FuncId := 94
abbrev y_tuple_bcd8b0 : TypeId := 0
abbrev y_func_f6bc82 : TypeId := 1
abbrev y_int64 : TypeId := 2
abbrev y_int : TypeId := 3
abbrev y_bool : TypeId := 4
abbrev y_uint8 : TypeId := 5
abbrev y_abi_BoundsErrorCode : TypeId := 6
abbrev y_struct_763d8d : TypeId := 7
abbrev y_runtime_boundsError : TypeId := 8
abbrev y_string : TypeId := 9
abbrev y_runtime_errorString : TypeId := 10
abbrev y_runtime_plainError : TypeId := 11
abbrev y_uintptr : TypeId := 12
abbrev y_struct_94a4d9 : TypeId := 13
abbrev y_runtime_errorAddressString : TypeId := 14
abbrev y_p_runtime_TypeAssertionError : TypeId := 15
abbrev y_p_runtime_PanicNilError : TypeId := 16
abbrev y_p_abi_Type : TypeId := 17
abbrev y_struct_9a58c1 : TypeId := 18
abbrev y_maps_unhashableTypeError : TypeId := 19
abbrev y_any : TypeId := 20
abbrev y_int32 : TypeId := 21
abbrev y_S_uint8 : TypeId := 22
abbrev y_func_1354cb : TypeId := 23
abbrev y_p_blob_Store : TypeId := 24
abbrev y_func_547e58 : TypeId := 25
abbrev y_32_uint8 : TypeId := 26
abbrev y_api_Digest : TypeId := 27
abbrev y_api_Errno : TypeId := 28
abbrev y_tuple_292ff7 : TypeId := 29
abbrev y_func_5e2a1c : TypeId := 30
abbrev y_func_e58639 : TypeId := 31
abbrev y_tuple_fd2280 : TypeId := 32
abbrev y_func_aa30c5 : TypeId := 33
abbrev y_func_378f7a : TypeId := 34
abbrev y_func_4d1666 : TypeId := 35
abbrev y_func_1dda7c : TypeId := 36
abbrev y_S_S_uint8 : TypeId := 37
abbrev y_func_bf5f21 : TypeId := 38
abbrev y_func_ed09d0 : TypeId := 39
abbrev y_func_3eed0d : TypeId := 40
abbrev y_S_l05_Do : TypeId := 41
abbrev y_func_8a7339 : TypeId := 42
abbrev y_p_r05_Store : TypeId := 43
abbrev y_func_6f5710 : TypeId := 44
abbrev y_uint : TypeId := 45
abbrev y_struct_e2ce77 : TypeId := 46
abbrev y_l05_Do : TypeId := 47
abbrev y_func_0cbb70 : TypeId := 48
abbrev y_func_0e26d5 : TypeId := 49
abbrev y_func_f0e2cc : TypeId := 50
abbrev y_func_6b101a : TypeId := 51
abbrev y_func_544897 : TypeId := 52
abbrev y_func_aab9cc : TypeId := 53
abbrev y_iter_Seq_veneer_api_Digest : TypeId := 54
abbrev y_func_dadd82 : TypeId := 55
abbrev y_func_b96d38 : TypeId := 56
abbrev y_M_api_Digest_S_uint8 : TypeId := 57
abbrev y_struct_b80db1 : TypeId := 58
abbrev y_blob_Store : TypeId := 59
abbrev y_func_bb80a2 : TypeId := 60
abbrev y_tuple_ed8b65 : TypeId := 61
abbrev y_func_9beb9e : TypeId := 62
abbrev y_uint64 : TypeId := 63
abbrev y_uint32 : TypeId := 64
abbrev y_8_uint32 : TypeId := 65
abbrev y_64_uint32 : TypeId := 66
abbrev y_func_ff741c : TypeId := 67
abbrev y_func_2f2bc1 : TypeId := 68
abbrev y_S_r05_Blob : TypeId := 69
abbrev y_struct_f6c152 : TypeId := 70
abbrev y_r05_Store : TypeId := 71
abbrev y_struct_60428f : TypeId := 72
abbrev y_r05_Blob : TypeId := 73
abbrev y_tuple_c22e02 : TypeId := 74
abbrev y_func_d38b7b : TypeId := 75
abbrev y_S_api_Digest : TypeId := 76
abbrev y_func_3be91a : TypeId := 77
abbrev y_func_cc9b17 : TypeId := 78
abbrev y_func_95d08a : TypeId := 79
abbrev y_func_e71bf4 : TypeId := 80
abbrev y_p_sha_Hash : TypeId := 81
abbrev y_func_143ccb : TypeId := 82
abbrev y_func_a77bed : TypeId := 83
abbrev y_func_ebe257 : TypeId := 84
abbrev y_func_c28629 : TypeId := 85
abbrev y_func_f3380f : TypeId := 86
abbrev y_func_df15f5 : TypeId := 87
abbrev y_func_92e4fb : TypeId := 88
abbrev y_64_uint8 : TypeId := 89
abbrev y_struct_e74f1c : TypeId := 90
abbrev y_sha_Hash : TypeId := 91
abbrev y_8_uint8 : TypeId := 92
abbrev y_func_61ef2d : TypeId := 93
abbrev y_func_b2039e : TypeId := 94
abbrev y_func_98380a : TypeId := 95
abbrev y_func_851d04 : TypeId := 96
abbrev y_func_dbf7e1 : TypeId := 97
abbrev y_slices_sortedHint : TypeId := 98
abbrev y_tuple_40d546 : TypeId := 99
abbrev y_func_9e2da2 : TypeId := 100
abbrev y_func_31263c : TypeId := 101
abbrev y_func_692ee8 : TypeId := 102
abbrev y_func_b45d4b : TypeId := 103
abbrev y_func_73ee18 : TypeId := 104
abbrev y_func_71279d : TypeId := 105
abbrev y_slices_xorshift : TypeId := 106
abbrev y_func_abb944 : TypeId := 107
abbrev y_func_0cd3e7 : TypeId := 108
abbrev y_func_7cb36e : TypeId := 109
abbrev y_p_int : TypeId := 110
abbrev y_func_46f1a8 : TypeId := 111
abbrev y_p_slices_xorshift : TypeId := 112
abbrev y_tuple_b67474 : TypeId := 113
abbrev y_func_953c89 : TypeId := 114
abbrev y_func_a26dcb : TypeId := 115
abbrev y_struct_35d589 : TypeId := 116
abbrev y_runtime_TypeAssertionError : TypeId := 117
abbrev y_0_p_runtime_PanicNilError : TypeId := 118
abbrev y_struct_9df1fc : TypeId := 119
abbrev y_runtime_PanicNilError : TypeId := 120
abbrev y_abi_TFlag : TypeId := 121
abbrev y_abi_Kind : TypeId := 122
abbrev y_func_727316 : TypeId := 123
abbrev y_p_uint8 : TypeId := 124
abbrev y_abi_NameOff : TypeId := 125
abbrev y_abi_TypeOff : TypeId := 126
abbrev y_struct_72b795 : TypeId := 127
abbrev y_abi_Type : TypeId := 128
abbrev y_func_617c91 : TypeId := 129
abbrev y_unsafe_Pointer : TypeId := 130
def ann_r01_turn : Ann := (.seq .leaf (.seq .leaf .leaf))
theorem ok_r01_turn : okC P qs Tryd.f28.ntmps ((Tryd.f28.body).getD .skip) ann_r01_turn = true := by kernel_rfl
def T_r01_turn (x : Int) (n : Int) (R : Ending → World → Prop) (w : World) : Prop :=
    shrI .u32 x n fun t7 =>
    subI .u64 32 n fun t10 =>
    shlI .u32 x t10 fun t11 =>
    orI .u32 t7 t11 fun t12 =>
    R (.returned (Value.int .u32 t12)) w
theorem eq_r01_turn (x : Int) (n : Int) (R : Ending → World → Prop) (w : World) : tr P qs ((Tryd.f28.body).getD .skip) ann_r01_turn (env0 0 [(0, (Value.int .u32 x)), (0, (Value.int .u64 n))]) (topK P Tryd.f28.results.toList R) w = T_r01_turn x n R w := by kernel_rfl
/-- veneer/veneerref01.turn -/
theorem fn_r01_turn {x : Int} {n : Int} {R : Ending → World → Prop} {w : World} (hT : T_r01_turn x n R w) : CallF P F_r01_turn #[(Value.int .u32 x), (Value.int .u64 n)] w R :=
  fn_of_tr (fn := Tryd.f28) (c := (Tryd.f28.body).getD .skip) (ann := ann_r01_turn) (args := [(0, (Value.int .u32 x)), (0, (Value.int .u64 n))]) (qs := qs) mixed Tryd.func28 rfl (by kernel_rfl) (by kernel_rfl) ok_r01_turn ((eq_r01_turn x n R w).symm ▸ hT)
def ann_r01_constant : Ann := (.seq .leaf (.seq .leaf (.seq .leaf .leaf)))
theorem ok_r01_constant : okC P qs Tryd.f29.ntmps ((Tryd.f29.body).getD .skip) ann_r01_constant = true := by kernel_rfl
def T_r01_constant (t : Int) (R : Ending → World → Prop) (w : World) : Prop :=
    genQ P (Instr.build y_64_uint32 #[(0, (Value.int .u32 1116352408)), (1, (Value.int .u32 1899447441)), (2, (Value.int .u32 3049323471)), (3, (Value.int .u32 3921009573)), (4, (Value.int .u32 961987163)), (5, (Value.int .u32 1508970993)), (6, (Value.int .u32 2453635748)), (7, (Value.int .u32 2870763221)), (8, (Value.int .u32 3624381080)), (9, (Value.int .u32 310598401)), (10, (Value.int .u32 607225278)), (11, (Value.int .u32 1426881987)), (12, (Value.int .u32 1925078388)), (13, (Value.int .u32 2162078206)), (14, (Value.int .u32 2614888103)), (15, (Value.int .u32 3248222580)), (16, (Value.int .u32 3835390401)), (17, (Value.int .u32 4022224774)), (18, (Value.int .u32 264347078)), (19, (Value.int .u32 604807628)), (20, (Value.int .u32 770255983)), (21, (Value.int .u32 1249150122)), (22, (Value.int .u32 1555081692)), (23, (Value.int .u32 1996064986)), (24, (Value.int .u32 2554220882)), (25, (Value.int .u32 2821834349)), (26, (Value.int .u32 2952996808)), (27, (Value.int .u32 3210313671)), (28, (Value.int .u32 3336571891)), (29, (Value.int .u32 3584528711)), (30, (Value.int .u32 113926993)), (31, (Value.int .u32 338241895)), (32, (Value.int .u32 666307205)), (33, (Value.int .u32 773529912)), (34, (Value.int .u32 1294757372)), (35, (Value.int .u32 1396182291)), (36, (Value.int .u32 1695183700)), (37, (Value.int .u32 1986661051)), (38, (Value.int .u32 2177026350)), (39, (Value.int .u32 2456956037)), (40, (Value.int .u32 2730485921)), (41, (Value.int .u32 2820302411)), (42, (Value.int .u32 3259730800)), (43, (Value.int .u32 3345764771)), (44, (Value.int .u32 3516065817)), (45, (Value.int .u32 3600352804)), (46, (Value.int .u32 4094571909)), (47, (Value.int .u32 275423344)), (48, (Value.int .u32 430227734)), (49, (Value.int .u32 506948616)), (50, (Value.int .u32 659060556)), (51, (Value.int .u32 883997877)), (52, (Value.int .u32 958139571)), (53, (Value.int .u32 1322822218)), (54, (Value.int .u32 1537002063)), (55, (Value.int .u32 1747873779)), (56, (Value.int .u32 1955562222)), (57, (Value.int .u32 2024104815)), (58, (Value.int .u32 2227730452)), (59, (Value.int .u32 2361852424)), (60, (Value.int .u32 2428436474)), (61, (Value.int .u32 2756734187)), (62, (Value.int .u32 3204031479)), (63, (Value.int .u32 3329325298))]) .any w fun (t4 : Value) =>
    newB (zc P y_64_uint32) y_64_uint32 w fun b3 w_1 =>
    genU P (storeVar y_64_uint32 (⟨b3, 0, none⟩ : Addr) t4) w_1 fun w_2 =>
    ixR (⟨b3, 0, none⟩ : Addr) 64 1 t fun t6 =>
    ld (.int .u32) t6 w_2 fun (t7 : Int) =>
    R (.returned (Value.int .u32 t7)) w_2
theorem eq_r01_constant (t : Int) (R : Ending → World → Prop) (w : World) : tr P qs ((Tryd.f29.body).getD .skip) ann_r01_constant (env0 0 [(0, (Value.int .i64 t))]) (topK P Tryd.f29.results.toList R) w = T_r01_constant t R w := by kernel_rfl
/-- veneer/veneerref01.constant -/
theorem fn_r01_constant {t : Int} {R : Ending → World → Prop} {w : World} (hT : T_r01_constant t R w) : CallF P F_r01_constant #[(Value.int .i64 t)] w R :=
  fn_of_tr (fn := Tryd.f29) (c := (Tryd.f29.body).getD .skip) (ann := ann_r01_constant) (args := [(0, (Value.int .i64 t))]) (qs := qs) mixed Tryd.func29 rfl (by kernel_rfl) (by kernel_rfl) ok_r01_constant ((eq_r01_constant t R w).symm ▸ hT)
def ann_math_bits_RotateLeft32 : Ann := (.seq .leaf (.seq .leaf (.seq .leaf .leaf)))
theorem ok_math_bits_RotateLeft32 : okC P qs Tryd.f56.ntmps ((Tryd.f56.body).getD .skip) ann_math_bits_RotateLeft32 = true := by kernel_rfl
def T_math_bits_RotateLeft32 (x : Int) (k : Int) (R : Ending → World → Prop) (w : World) : Prop :=
    cvI .u64 k fun t7 =>
    andI .u64 t7 31 fun t8 =>
    shlI .u32 x t8 fun t11 =>
    subI .u64 32 t8 fun t14 =>
    shrI .u32 x t14 fun t15 =>
    orI .u32 t11 t15 fun t16 =>
    R (.returned (Value.int .u32 t16)) w
theorem eq_math_bits_RotateLeft32 (x : Int) (k : Int) (R : Ending → World → Prop) (w : World) : tr P qs ((Tryd.f56.body).getD .skip) ann_math_bits_RotateLeft32 (env0 0 [(0, (Value.int .u32 x)), (0, (Value.int .i64 k))]) (topK P Tryd.f56.results.toList R) w = T_math_bits_RotateLeft32 x k R w := by kernel_rfl
/-- math/bits.RotateLeft32 -/
theorem fn_math_bits_RotateLeft32 {x : Int} {k : Int} {R : Ending → World → Prop} {w : World} (hT : T_math_bits_RotateLeft32 x k R w) : CallF P F_math_bits_RotateLeft32 #[(Value.int .u32 x), (Value.int .i64 k)] w R :=
  fn_of_tr (fn := Tryd.f56) (c := (Tryd.f56.body).getD .skip) (ann := ann_math_bits_RotateLeft32) (args := [(0, (Value.int .u32 x)), (0, (Value.int .i64 k))]) (qs := qs) mixed Tryd.func56 rfl (by kernel_rfl) (by kernel_rfl) ok_math_bits_RotateLeft32 ((eq_math_bits_RotateLeft32 x k R w).symm ▸ hT)
def ann_sha_New : Ann := (.seq .leaf (.seq .leaf .leaf))
theorem ok_sha_New : okC P qs Tryd.f41.ntmps ((Tryd.f41.body).getD .skip) ann_sha_New = true := by kernel_rfl
def T_sha_New  (R : Ending → World → Prop) (w : World) : Prop :=
    genQ P (Instr.build y_8_uint32 #[(0, (Value.int .u32 1779033703)), (1, (Value.int .u32 3144134277)), (2, (Value.int .u32 1013904242)), (3, (Value.int .u32 2773480762)), (4, (Value.int .u32 1359893119)), (5, (Value.int .u32 2600822924)), (6, (Value.int .u32 528734635)), (7, (Value.int .u32 1541459225))]) .any w fun (t1 : Value) =>
    genQ P (Instr.build y_sha_Hash #[(0, t1)]) .any w fun (t2 : Value) =>
    newB (Value.cells t2) y_sha_Hash w fun b3 w_1 =>
    R (.returned (Value.pointer (some (⟨b3, 0, none⟩ : Addr)))) w_1
theorem eq_sha_New  (R : Ending → World → Prop) (w : World) : tr P qs ((Tryd.f41.body).getD .skip) ann_sha_New (env0 0 []) (topK P Tryd.f41.results.toList R) w = T_sha_New  R w := by kernel_rfl
/-- veneer/sha.New -/
theorem fn_sha_New  {R : Ending → World → Prop} {w : World} (hT : T_sha_New  R w) : CallF P F_sha_New #[] w R :=
  fn_of_tr (fn := Tryd.f41) (c := (Tryd.f41.body).getD .skip) (ann := ann_sha_New) (args := []) (qs := qs) mixed Tryd.func41 rfl (by kernel_rfl) (by kernel_rfl) ok_sha_New ((eq_sha_New  R w).symm ▸ hT)
def ann_sha_Hash_mix : Ann := (.seq .leaf (.seq (.seq .leaf (.blk (.loop [(18, .int .i64)] (.seq .leaf (.seq (.cond .leaf .leaf) (.seq (.blk (.seq .leaf (.tree (.op 0 [] (.op 1 [] (.op 2 [] (.op 3 [] (.op 4 [] (.op 8 [] (.op 9 [] (.op 10 [] (.op 11 [] (.op 12 [] (.op 17 [] (.op 18 [] (.op 19 [] (.op 20 [] (.op 21 [] (.op 26 [] (.op 27 [] (.op 28 [] (.op 29 [] (.op 30 [] (.op 5 [] (.op 6 [] (.op 7 [] (.op 13 [] (.op 14 [] (.op 15 [] (.op 16 [] (.op 22 [] (.op 23 [] (.op 24 [] (.op 25 [] (.op 31 [] (.op 32 [] (.op 33 [] (.op 34 [] (.op 35 [] .done))))))))))))))))))))))))))))))))))))))) .leaf)))))) (.seq (.seq .leaf (.blk (.loop [(6, .int .i64)] (.seq (.seq .leaf (.cond .leaf .leaf)) (.seq (.blk (.seq (.tree (.op 0 [] (.op 1 [] (.op 2 [] (.op 4 [] (.op 5 [] (.op 6 [] (.op 3 [] (.op 8 [] (.op 7 [] (.op 9 [] .done))))))))))) (.seq .leaf (.seq .leaf (.tree (.op 0 [] (.op 1 [] (.op 2 [] (.op 3 [] (.op 4 [] (.op 7 [] (.op 9 [] (.op 10 [] (.op 11 [] (.op 5 [] (.op 6 [] (.op 8 [] (.op 12 [] (.op 13 [] (.op 14 [] (.op 15 [] .done))))))))))))))))))))) .leaf))))) (.seq .leaf (.seq (.seq .leaf (.blk (.loop [(104, .int .i64)] (.seq .leaf (.seq (.cond .leaf .leaf) (.seq (.blk (.seq .leaf (.seq (.tree (.op 0 [] (.op 3 [] (.op 7 [] (.op 1 [] (.op 2 [] (.op 4 [] (.op 5 [] (.op 6 [] (.op 8 [] (.op 9 [] (.op 10 [] (.op 11 [] .done))))))))))))) (.seq (.tree (.op 0 [] (.op 2 [] (.op 4 [] (.op 6 [] (.op 9 [] (.op 12 [] (.op 17 [] (.op 18 [] (.op 21 [] (.op 22 [] (.op 1 [] (.op 3 [] (.op 5 [] (.op 7 [] (.op 8 [] (.op 10 [] (.op 11 [] (.op 13 [] (.op 14 [] (.op 15 [] (.op 16 [] (.op 19 [] (.op 20 [] (.op 23 [] (.op 24 [] (.op 25 [] .done))))))))))))))))))))))))))) (.seq (.tree (.op 0 [] (.op 3 [] (.op 7 [] (.op 1 [] (.op 2 [] (.op 4 [] (.op 5 [] (.op 6 [] (.op 8 [] (.op 9 [] (.op 10 [] (.op 11 [] .done))))))))))))) (.seq .leaf .leaf)))))) .leaf)))))) (.seq .leaf (.blk (.loop [(194, .int .i64)] (.seq .leaf (.seq (.cond .leaf .leaf) (.seq (.blk (.seq .leaf (.tree (.op 0 [] (.op 1 [] (.op 2 [] (.op 3 [] (.op 4 [] (.op 6 [] (.op 7 [] (.op 10 [] (.op 11 [] (.op 5 [] (.op 8 [] (.op 9 [] (.op 12 [] (.op 13 [] .done))))))))))))))))) .leaf)))))))))))
theorem ok_sha_Hash_mix : okC P qs Tryd.f51.ntmps ((Tryd.f51.body).getD .skip) ann_sha_Hash_mix = true := by kernel_rfl
def T_sha_Hash_mix (hv : Option Addr) (b : Option Addr) (b_l b_c : Nat) (R : Ending → World → Prop) (w : World) : Prop :=
    newB (zc P y_64_uint32) y_64_uint32 w fun b4 w_1 =>
    loopP Int (fun s w_2 k =>
    iteP (decide (s < 16)) (
    drewP w_2 fun w_3 =>
    mulI .i64 4 s fun t24 =>
    ixS b b_l 1 t24 fun t25 =>
    mulI .i64 4 s fun t31 =>
    addI .i64 t31 1 fun t32 =>
    ixS b b_l 1 t32 fun t33 =>
    mulI .i64 4 s fun t40 =>
    addI .i64 t40 2 fun t41 =>
    ixS b b_l 1 t41 fun t42 =>
    mulI .i64 4 s fun t49 =>
    addI .i64 t49 3 fun t50 =>
    ixS b b_l 1 t50 fun t51 =>
    ld (.int .u8) t25 w_3 fun (t26 : Int) =>
    cvI .u32 t26 fun t27 =>
    shlI .u32 t27 24 fun t28 =>
    ld (.int .u8) t33 w_3 fun (t34 : Int) =>
    cvI .u32 t34 fun t35 =>
    shlI .u32 t35 16 fun t36 =>
    orI .u32 t28 t36 fun t37 =>
    ld (.int .u8) t42 w_3 fun (t43 : Int) =>
    cvI .u32 t43 fun t44 =>
    shlI .u32 t44 8 fun t45 =>
    orI .u32 t37 t45 fun t46 =>
    ld (.int .u8) t51 w_3 fun (t52 : Int) =>
    cvI .u32 t52 fun t53 =>
    orI .u32 t46 t53 fun t54 =>
    ixR (⟨b4, 0, none⟩ : Addr) 64 1 s fun t55 =>
    stC t55 (Value.int .u32 t54) w_3 fun w_4 =>
    addI .i64 s 1 fun t56 =>
    k t56 w_4) (
    loopP Int (fun s_1 w_5 k_1 =>
    iteP (decide (s_1 < 64)) (
    drewP w_5 fun w_6 =>
    subI .i64 s_1 2 fun t62 =>
    ixR (⟨b4, 0, none⟩ : Addr) 64 1 t62 fun t63 =>
    subI .i64 s_1 15 fun t66 =>
    ixR (⟨b4, 0, none⟩ : Addr) 64 1 t66 fun t67 =>
    ld (.int .u32) t63 w_6 fun (t64 : Int) =>
    ld (.int .u32) t67 w_6 fun (t68 : Int) =>
    callQ P F_math_bits_RotateLeft32 #[(Value.int .u32 t64), (Value.int .i64 (-17))] [.int .u32] false w_6 fun (t70 : Int) =>
    callQ P F_math_bits_RotateLeft32 #[(Value.int .u32 t64), (Value.int .i64 (-19))] [.int .u32] false w_6 fun (t72 : Int) =>
    xorI .u32 t70 t72 fun t73 =>
    shrI .u32 t64 10 fun t75 =>
    xorI .u32 t73 t75 fun t76 =>
    callQ P F_math_bits_RotateLeft32 #[(Value.int .u32 t68), (Value.int .i64 (-7))] [.int .u32] false w_6 fun (t78 : Int) =>
    callQ P F_math_bits_RotateLeft32 #[(Value.int .u32 t68), (Value.int .i64 (-18))] [.int .u32] false w_6 fun (t80 : Int) =>
    xorI .u32 t78 t80 fun t81 =>
    shrI .u32 t68 3 fun t83 =>
    xorI .u32 t81 t83 fun t84 =>
    drewP w_6 fun w_7 =>
    subI .i64 s_1 7 fun t88 =>
    ixR (⟨b4, 0, none⟩ : Addr) 64 1 t88 fun t89 =>
    subI .i64 s_1 16 fun t95 =>
    ixR (⟨b4, 0, none⟩ : Addr) 64 1 t95 fun t96 =>
    ld (.int .u32) t89 w_7 fun (t90 : Int) =>
    addI .u32 t76 t90 fun t91 =>
    addI .u32 t91 t84 fun t93 =>
    ld (.int .u32) t96 w_7 fun (t97 : Int) =>
    addI .u32 t93 t97 fun t98 =>
    ixR (⟨b4, 0, none⟩ : Addr) 64 1 s_1 fun t99 =>
    stC t99 (Value.int .u32 t98) w_7 fun w_8 =>
    addI .i64 s_1 1 fun t60 =>
    k_1 t60 w_8) (
    withAddr hv fun p =>
    ldA P 8 p w_5 fun t103 =>
    newB (zc P y_8_uint32) y_8_uint32 w_5 fun b11 w_9 =>
    genU P (storeVar y_8_uint32 (⟨b11, 0, none⟩ : Addr) (Value.agg t103)) w_9 fun w_10 =>
    loopP Int (fun s_2 w_11 k_2 =>
    iteP (decide (s_2 < 64)) (
    drewP w_11 fun w_12 =>
    ld (.int .u32) (⟨b11, 4, none⟩ : Addr) w_12 fun (t108 : Int) =>
    callQ P F_math_bits_RotateLeft32 #[(Value.int .u32 t108), (Value.int .i64 (-6))] [.int .u32] false w_12 fun (t109 : Int) =>
    ld (.int .u32) (⟨b11, 4, none⟩ : Addr) w_12 fun (t111 : Int) =>
    callQ P F_math_bits_RotateLeft32 #[(Value.int .u32 t111), (Value.int .i64 (-11))] [.int .u32] false w_12 fun (t112 : Int) =>
    xorI .u32 t109 t112 fun t113 =>
    ld (.int .u32) (⟨b11, 4, none⟩ : Addr) w_12 fun (t115 : Int) =>
    callQ P F_math_bits_RotateLeft32 #[(Value.int .u32 t115), (Value.int .i64 (-25))] [.int .u32] false w_12 fun (t116 : Int) =>
    xorI .u32 t113 t116 fun t117 =>
    drewP w_12 fun w_13 =>
    ixR (⟨0, 0, none⟩ : Addr) 64 1 s_2 fun t136 =>
    ixR (⟨b4, 0, none⟩ : Addr) 64 1 s_2 fun t140 =>
    ld (.int .u32) (⟨b11, 7, none⟩ : Addr) w_13 fun (t119 : Int) =>
    addI .u32 t119 t117 fun t121 =>
    ld (.int .u32) (⟨b11, 4, none⟩ : Addr) w_13 fun (t123 : Int) =>
    ld (.int .u32) (⟨b11, 5, none⟩ : Addr) w_13 fun (t125 : Int) =>
    andI .u32 t123 t125 fun t126 =>
    ld (.int .u32) (⟨b11, 4, none⟩ : Addr) w_13 fun (t128 : Int) =>
    xorI .u32 (IntKind.max .u32) t128 fun t129 =>
    ld (.int .u32) (⟨b11, 6, none⟩ : Addr) w_13 fun (t131 : Int) =>
    andI .u32 t129 t131 fun t132 =>
    xorI .u32 t126 t132 fun t133 =>
    addI .u32 t121 t133 fun t134 =>
    ld (.int .u32) t136 w_13 fun (t137 : Int) =>
    addI .u32 t134 t137 fun t138 =>
    ld (.int .u32) t140 w_13 fun (t141 : Int) =>
    addI .u32 t138 t141 fun t142 =>
    drewP w_13 fun w_14 =>
    ld (.int .u32) (⟨b11, 0, none⟩ : Addr) w_14 fun (t144 : Int) =>
    callQ P F_math_bits_RotateLeft32 #[(Value.int .u32 t144), (Value.int .i64 (-2))] [.int .u32] false w_14 fun (t145 : Int) =>
    ld (.int .u32) (⟨b11, 0, none⟩ : Addr) w_14 fun (t147 : Int) =>
    callQ P F_math_bits_RotateLeft32 #[(Value.int .u32 t147), (Value.int .i64 (-13))] [.int .u32] false w_14 fun (t148 : Int) =>
    xorI .u32 t145 t148 fun t149 =>
    ld (.int .u32) (⟨b11, 0, none⟩ : Addr) w_14 fun (t151 : Int) =>
    callQ P F_math_bits_RotateLeft32 #[(Value.int .u32 t151), (Value.int .i64 (-22))] [.int .u32] false w_14 fun (t152 : Int) =>
    xorI .u32 t149 t152 fun t153 =>
    ld (.int .u32) (⟨b11, 0, none⟩ : Addr) w_14 fun (t156 : Int) =>
    ld (.int .u32) (⟨b11, 1, none⟩ : Addr) w_14 fun (t158 : Int) =>
    andI .u32 t156 t158 fun t159 =>
    ld (.int .u32) (⟨b11, 0, none⟩ : Addr) w_14 fun (t161 : Int) =>
    ld (.int .u32) (⟨b11, 2, none⟩ : Addr) w_14 fun (t163 : Int) =>
    andI .u32 t161 t163 fun t164 =>
    xorI .u32 t159 t164 fun t165 =>
    ld (.int .u32) (⟨b11, 1, none⟩ : Addr) w_14 fun (t167 : Int) =>
    ld (.int .u32) (⟨b11, 2, none⟩ : Addr) w_14 fun (t169 : Int) =>
    andI .u32 t167 t169 fun t170 =>
    xorI .u32 t165 t170 fun t171 =>
    addI .u32 t153 t171 fun t172 =>
    addI .u32 t142 t172 fun t175 =>
    ld (.int .u32) (⟨b11, 0, none⟩ : Addr) w_14 fun (t177 : Int) =>
    ld (.int .u32) (⟨b11, 1, none⟩ : Addr) w_14 fun (t179 : Int) =>
    ld (.int .u32) (⟨b11, 2, none⟩ : Addr) w_14 fun (t181 : Int) =>
    ld (.int .u32) (⟨b11, 3, none⟩ : Addr) w_14 fun (t183 : Int) =>
    addI .u32 t183 t142 fun t185 =>
    ld (.int .u32) (⟨b11, 4, none⟩ : Addr) w_14 fun (t187 : Int) =>
    ld (.int .u32) (⟨b11, 5, none⟩ : Addr) w_14 fun (t189 : Int) =>
    ld (.int .u32) (⟨b11, 6, none⟩ : Addr) w_14 fun (t191 : Int) =>
    genQ P (Instr.build y_8_uint32 #[(0, (Value.int .u32 t175)), (1, (Value.int .u32 t177)), (2, (Value.int .u32 t179)), (3, (Value.int .u32 t181)), (4, (Value.int .u32 t185)), (5, (Value.int .u32 t187)), (6, (Value.int .u32 t189)), (7, (Value.int .u32 t191))]) .any w_14 fun (t192 : Value) =>
    genU P (storeVar y_8_uint32 (⟨b11, 0, none⟩ : Addr) t192) w_14 fun w_15 =>
    addI .i64 s_2 1 fun t193 =>
    k_2 t193 w_15) (
    loopP Int (fun s_3 w_16 k_3 =>
    iteP (decide (s_3 < 8)) (
    drewP w_16 fun w_17 =>
    withAddr hv fun p_1 =>
    ixR p_1 8 1 s_3 fun t201 =>
    ixR (⟨b11, 0, none⟩ : Addr) 8 1 s_3 fun t204 =>
    withAddr hv fun p_2 =>
    ld (.int .u32) t201 w_17 fun (t202 : Int) =>
    ld (.int .u32) t204 w_17 fun (t205 : Int) =>
    addI .u32 t202 t205 fun t206 =>
    ixR p_2 8 1 s_3 fun t209 =>
    stC t209 (Value.int .u32 t206) w_17 fun w_18 =>
    addI .i64 s_3 1 fun t210 =>
    k_3 t210 w_18) (
    R (.returned (Value.tuple #[])) w_16)) 0 w_11)) 0 w_10)) 16 w_2)) 0 w_1
theorem eq_sha_Hash_mix (hv : Option Addr) (b : Option Addr) (b_l b_c : Nat) (R : Ending → World → Prop) (w : World) : tr P qs ((Tryd.f51.body).getD .skip) ann_sha_Hash_mix (env0 0 [(0, (Value.pointer hv)), (0, (Value.slice b b_l b_c))]) (topK P Tryd.f51.results.toList R) w = T_sha_Hash_mix hv b b_l b_c R w := by kernel_rfl
/-- (*veneer/sha.Hash).mix -/
theorem fn_sha_Hash_mix {hv : Option Addr} {b : Option Addr} {b_l b_c : Nat} {R : Ending → World → Prop} {w : World} (hT : T_sha_Hash_mix hv b b_l b_c R w) : CallF P F_sha_Hash_mix #[(Value.pointer hv), (Value.slice b b_l b_c)] w R :=
  fn_of_tr (fn := Tryd.f51) (c := (Tryd.f51.body).getD .skip) (ann := ann_sha_Hash_mix) (args := [(0, (Value.pointer hv)), (0, (Value.slice b b_l b_c))]) (qs := qs) mixed Tryd.func51 rfl (by kernel_rfl) (by kernel_rfl) ok_sha_Hash_mix ((eq_sha_Hash_mix hv b b_l b_c R w).symm ▸ hT)
def ann_sha_Hash_Write : Ann := (.seq (.seq .leaf (.cond .leaf .leaf)) (.seq .leaf (.blk (.loop [(1, .slc)] (.seq (.seq .leaf (.cond .leaf .leaf)) (.jblk [(1, .slc)] (.seq (.tree (.op 0 [] (.op 1 [] (.op 2 [] (.op 3 [] (.op 4 [] (.op 5 [] (.op 8 [] (.op 6 [] (.op 7 [] (.op 9 [] (.op 10 [] .done)))))))))))) (.seq (.tree (.op 0 [] (.op 1 [] (.op 2 [] (.op 3 [] (.op 5 [] (.op 7 [] (.op 8 [] (.op 4 [] (.op 6 [] (.op 10 [] (.op 11 [] (.op 9 [] (.op 12 [9] (.op 13 [] .done))))))))))))))) (.seq .leaf (.cond (.seq .leaf .leaf) .leaf))))))))))
theorem ok_sha_Hash_Write : okC P qs Tryd.f42.ntmps ((Tryd.f42.body).getD .skip) ann_sha_Hash_Write = true := by kernel_rfl
def T_sha_Hash_Write (hv : Option Addr) (b : Option Addr) (b_l b_c : Nat) (R : Ending → World → Prop) (w : World) : Prop :=
    iteP (Option.isNone hv) (
    R (.returned (Value.tuple #[])) w) (
    withAddr hv fun p =>
    ld (.int .i64) (Addr.add p 73) w fun (t10 : Int) =>
    addI .i64 t10 (b_l : Int) fun t13 =>
    withAddr hv fun p_1 =>
    stC (Addr.add p_1 73) (Value.int .i64 t13) w fun w_1 =>
    loopP (Option Addr × Nat × Nat) (fun s w_2 k =>
    iteP (decide ((s.2.1 : Int) > 0)) (
    joinP (Option Addr × Nat × Nat) (fun k_1 =>
    drewP w_2 fun w_3 =>
    withAddr hv fun p_2 =>
    withAddr hv fun p_3 =>
    ld (.int .i64) (Addr.add p_3 72) w_3 fun (t25 : Int) =>
    genQ P (Instr.sliceAt y_64_uint8 (Value.pointer (some (Addr.add p_2 8))) (some (Value.int .i64 t25)) none none) .slc w_3 fun (t26 : (Option Addr × Nat × Nat)) =>
    genL P (Builtin.copy_ #[y_S_uint8, y_S_uint8] y_int #[(Value.slice t26.1 t26.2.1 t26.2.2), (Value.slice s.1 s.2.1 s.2.2)]) (.int .i64) w_3 fun (t28 : Int) w_4 =>
    drewP w_4 fun w_5 =>
    withAddr hv fun p_4 =>
    ld (.int .i64) (Addr.add p_4 72) w_5 fun (t33 : Int) =>
    addI .i64 t33 t28 fun t35 =>
    withAddr hv fun p_5 =>
    genQ P (Instr.sliceAt y_S_uint8 (Value.slice s.1 s.2.1 s.2.2) (some (Value.int .i64 t28)) none none) .slc w_5 fun (t38 : (Option Addr × Nat × Nat)) =>
    stC (Addr.add p_5 72) (Value.int .i64 t35) w_5 fun w_6 =>
    ((genQ P (Instr.sliceAt y_S_uint8 (Value.slice s.1 s.2.1 s.2.2) (some (Value.int .i64 t28)) none none) .slc w_6 fun (t38_1 : (Option Addr × Nat × Nat)) =>
    (Value.slice t38_1.1 t38_1.2.1 t38_1.2.2) = (Value.slice t38.1 t38.2.1 t38.2.2)) ∧
    withAddr hv fun p_6 =>
    ld (.int .i64) (Addr.add p_6 72) w_6 fun (t44 : Int) =>
    iteP (t44 == 64) (
    withAddr hv fun p_7 =>
    genQ P (Instr.sliceAt y_64_uint8 (Value.pointer (some (Addr.add p_7 8))) none none none) .slc w_6 fun (t50 : (Option Addr × Nat × Nat)) =>
    callF P F_sha_Hash_mix #[(Value.pointer hv), (Value.slice t50.1 t50.2.1 t50.2.2)] [] true w_6 fun (_ : Unit) w_7 =>
    withAddr hv fun p_8 =>
    stC (Addr.add p_8 72) (Value.int .i64 0) w_7 fun w_8 =>
    k_1 (t38.1, t38.2.1, t38.2.2) w_8) (
    k_1 (t38.1, t38.2.1, t38.2.2) w_6))) (fun s_1 w_9 =>
    k (s_1.1, s_1.2.1, s_1.2.2) w_9)) (
    R (.returned (Value.tuple #[])) w_2)) (b, b_l, b_c) w_1)
theorem eq_sha_Hash_Write (hv : Option Addr) (b : Option Addr) (b_l b_c : Nat) (R : Ending → World → Prop) (w : World) : tr P qs ((Tryd.f42.body).getD .skip) ann_sha_Hash_Write (env0 0 [(0, (Value.pointer hv)), (0, (Value.slice b b_l b_c))]) (topK P Tryd.f42.results.toList R) w = T_sha_Hash_Write hv b b_l b_c R w := by kernel_rfl
/-- (*veneer/sha.Hash).Write -/
theorem fn_sha_Hash_Write {hv : Option Addr} {b : Option Addr} {b_l b_c : Nat} {R : Ending → World → Prop} {w : World} (hT : T_sha_Hash_Write hv b b_l b_c R w) : CallF P F_sha_Hash_Write #[(Value.pointer hv), (Value.slice b b_l b_c)] w R :=
  fn_of_tr (fn := Tryd.f42) (c := (Tryd.f42.body).getD .skip) (ann := ann_sha_Hash_Write) (args := [(0, (Value.pointer hv)), (0, (Value.slice b b_l b_c))]) (qs := qs) mixed Tryd.func42 rfl (by kernel_rfl) (by kernel_rfl) ok_sha_Hash_Write ((eq_sha_Hash_Write hv b b_l b_c R w).symm ▸ hT)
def ann_sha_Hash_Sum : Ann := (.seq .leaf (.join [(0, .ptr)] (.seq .leaf (.cond .leaf .leaf)) (.seq .leaf (.seq .leaf (.seq .leaf (.seq (.blk (.loop [] (.seq (.seq .leaf (.cond .leaf .leaf)) (.blk .leaf)))) (.seq .leaf (.seq (.seq .leaf (.blk (.loop [(27, .int .i64)] (.seq .leaf (.seq (.cond .leaf .leaf) (.seq (.blk (.seq .leaf .leaf)) .leaf)))))) (.seq .leaf (.seq .leaf (.seq (.seq .leaf (.blk (.loop [(43, .int .i64)] (.seq .leaf (.seq (.cond .leaf .leaf) (.seq (.blk (.seq .leaf .leaf)) .leaf)))))) (.seq .leaf .leaf))))))))))))
theorem ok_sha_Hash_Sum : okC P qs Tryd.f43.ntmps ((Tryd.f43.body).getD .skip) ann_sha_Hash_Sum = true := by kernel_rfl
def T_sha_Hash_Sum (hv : Option Addr) (R : Ending → World → Prop) (w : World) : Prop :=
    newB (zc P y_api_Digest) y_api_Digest w fun b2 w_1 =>
    joinP (Option Addr) (fun k =>
    iteP (Option.isNone hv) (
    callF P F_sha_New #[] [.ptr] false w_1 fun (t12 : (Option Addr)) w_2 =>
    k t12 w_2) (
    k hv w_1)) (fun s w_3 =>
    withAddr s fun p =>
    ldA P 74 p w_3 fun t15 =>
    newB (zc P y_sha_Hash) y_sha_Hash w_3 fun b3 w_4 =>
    genU P (storeVar y_sha_Hash (⟨b3, 0, none⟩ : Addr) (Value.agg t15)) w_4 fun w_5 =>
    ld (.int .i64) (⟨b3, 73, none⟩ : Addr) w_5 fun (t17 : Int) =>
    cvI .u64 t17 fun t18 =>
    mulI .u64 t18 8 fun t19 =>
    genL P (Instr.buildSlice y_S_uint8 1 #[(0, (Value.int .u8 128))]) .slc w_5 fun (t20 : (Option Addr × Nat × Nat)) w_6 =>
    callF P F_sha_Hash_Write #[(Value.pointer (some (⟨b3, 0, none⟩ : Addr))), (Value.slice t20.1 t20.2.1 t20.2.2)] [] true w_6 fun (_ : Unit) w_7 =>
    loopP Unit (fun _ w_8 k_1 =>
    ld (.int .i64) (⟨b3, 72, none⟩ : Addr) w_8 fun (t23 : Int) =>
    iteP (t23 != 56) (
    genL P (Instr.buildSlice y_S_uint8 1 #[(0, (Value.int .u8 0))]) .slc w_8 fun (t25 : (Option Addr × Nat × Nat)) w_9 =>
    callF P F_sha_Hash_Write #[(Value.pointer (some (⟨b3, 0, none⟩ : Addr))), (Value.slice t25.1 t25.2.1 t25.2.2)] [] true w_9 fun (_ : Unit) w_10 =>
    k_1 () w_10) (
    newB (zc P y_8_uint8) y_8_uint8 w_8 fun b5 w_11 =>
    loopP Int (fun s_2 w_12 k_2 =>
    iteP (decide (s_2 < 8)) (
    mulI .i64 8 s_2 fun t33 =>
    subI .i64 56 t33 fun t34 =>
    shrI .u64 t19 t34 fun t35 =>
    cvI .u8 t35 fun t36 =>
    ixR (⟨b5, 0, none⟩ : Addr) 8 1 s_2 fun t37 =>
    stC t37 (Value.int .u8 t36) w_12 fun w_13 =>
    addI .i64 s_2 1 fun t38 =>
    k_2 t38 w_13) (
    genQ P (Instr.sliceAt y_8_uint8 (Value.pointer (some (⟨b5, 0, none⟩ : Addr))) none none none) .slc w_12 fun (t39 : (Option Addr × Nat × Nat)) =>
    callF P F_sha_Hash_Write #[(Value.pointer (some (⟨b3, 0, none⟩ : Addr))), (Value.slice t39.1 t39.2.1 t39.2.2)] [] true w_12 fun (_ : Unit) w_14 =>
    newB (zc P y_api_Digest) y_api_Digest w_14 fun b7 w_15 =>
    ldA P 8 (⟨b3, 0, none⟩ : Addr) w_15 fun t42 =>
    loopP Int (fun s_3 w_16 k_3 =>
    iteP (decide (s_3 < 8)) (
    genQ P (Instr.index y_8_uint32 (Value.agg t42) (Value.int .i64 s_3)) (.int .u32) w_16 fun (t46 : Int) =>
    mulI .i64 4 s_3 fun t48 =>
    mulI .i64 4 s_3 fun t50 =>
    addI .i64 t50 1 fun t51 =>
    mulI .i64 4 s_3 fun t53 =>
    addI .i64 t53 2 fun t54 =>
    mulI .i64 4 s_3 fun t56 =>
    addI .i64 t56 3 fun t57 =>
    shrI .u32 t46 24 fun t59 =>
    cvI .u8 t59 fun t60 =>
    shrI .u32 t46 16 fun t62 =>
    cvI .u8 t62 fun t63 =>
    shrI .u32 t46 8 fun t65 =>
    cvI .u8 t65 fun t66 =>
    cvI .u8 t46 fun t68 =>
    ixR (⟨b7, 0, none⟩ : Addr) 32 1 t48 fun t69 =>
    stC t69 (Value.int .u8 t60) w_16 fun w_17 =>
    ixR (⟨b7, 0, none⟩ : Addr) 32 1 t51 fun t70 =>
    stC t70 (Value.int .u8 t63) w_17 fun w_18 =>
    ixR (⟨b7, 0, none⟩ : Addr) 32 1 t54 fun t71 =>
    stC t71 (Value.int .u8 t66) w_18 fun w_19 =>
    ixR (⟨b7, 0, none⟩ : Addr) 32 1 t57 fun t72 =>
    stC t72 (Value.int .u8 t68) w_19 fun w_20 =>
    addI .i64 s_3 1 fun t73 =>
    k_3 t73 w_20) (
    ldA P 32 (⟨b7, 0, none⟩ : Addr) w_16 fun t74 =>
    genU P (storeVar y_api_Digest (⟨b2, 0, none⟩ : Addr) (Value.agg t74)) w_16 fun w_21 =>
    ldA P 32 (⟨b2, 0, none⟩ : Addr) w_21 fun t2 =>
    R (.returned (Value.agg t2)) w_21)) 0 w_15)) 0 w_11)) () w_7)
theorem eq_sha_Hash_Sum (hv : Option Addr) (R : Ending → World → Prop) (w : World) : tr P qs ((Tryd.f43.body).getD .skip) ann_sha_Hash_Sum (env0 0 [(0, (Value.pointer hv))]) (topK P Tryd.f43.results.toList R) w = T_sha_Hash_Sum hv R w := by kernel_rfl
/-- (*veneer/sha.Hash).Sum -/
theorem fn_sha_Hash_Sum {hv : Option Addr} {R : Ending → World → Prop} {w : World} (hT : T_sha_Hash_Sum hv R w) : CallF P F_sha_Hash_Sum #[(Value.pointer hv)] w R :=
  fn_of_tr (fn := Tryd.f43) (c := (Tryd.f43.body).getD .skip) (ann := ann_sha_Hash_Sum) (args := [(0, (Value.pointer hv))]) (qs := qs) mixed Tryd.func43 rfl (by kernel_rfl) (by kernel_rfl) ok_sha_Hash_Sum ((eq_sha_Hash_Sum hv R w).symm ▸ hT)
def ann_sha_Sum : Ann := (.seq .leaf (.seq .leaf (.seq .leaf (.seq .leaf .leaf))))
theorem ok_sha_Sum : okC P qs Tryd.f26.ntmps ((Tryd.f26.body).getD .skip) ann_sha_Sum = true := by kernel_rfl
def T_sha_Sum (b : Option Addr) (b_l b_c : Nat) (R : Ending → World → Prop) (w : World) : Prop :=
    newB (zc P y_api_Digest) y_api_Digest w fun b2 w_1 =>
    callF P F_sha_New #[] [.ptr] false w_1 fun (t4 : (Option Addr)) w_2 =>
    callF P F_sha_Hash_Write #[(Value.pointer t4), (Value.slice b b_l b_c)] [] true w_2 fun (_ : Unit) w_3 =>
    callF P F_sha_Hash_Sum #[(Value.pointer t4)] [.any] false w_3 fun (t9 : Value) w_4 =>
    genU P (storeVar y_api_Digest (⟨b2, 0, none⟩ : Addr) t9) w_4 fun w_5 =>
    ldA P 32 (⟨b2, 0, none⟩ : Addr) w_5 fun t2 =>
    R (.returned (Value.agg t2)) w_5
theorem eq_sha_Sum (b : Option Addr) (b_l b_c : Nat) (R : Ending → World → Prop) (w : World) : tr P qs ((Tryd.f26.body).getD .skip) ann_sha_Sum (env0 0 [(0, (Value.slice b b_l b_c))]) (topK P Tryd.f26.results.toList R) w = T_sha_Sum b b_l b_c R w := by kernel_rfl
/-- veneer/sha.Sum -/
theorem fn_sha_Sum {b : Option Addr} {b_l b_c : Nat} {R : Ending → World → Prop} {w : World} (hT : T_sha_Sum b b_l b_c R w) : CallF P F_sha_Sum #[(Value.slice b b_l b_c)] w R :=
  fn_of_tr (fn := Tryd.f26) (c := (Tryd.f26.body).getD .skip) (ann := ann_sha_Sum) (args := [(0, (Value.slice b b_l b_c))]) (qs := qs) mixed Tryd.func26 rfl (by kernel_rfl) (by kernel_rfl) ok_sha_Sum ((eq_sha_Sum b b_l b_c R w).symm ▸ hT)
def ann_r01_Sum : Ann := (.seq .leaf (.seq .leaf (.seq .leaf (.seq (.blk (.loop [(3, .slc)] (.seq (.seq .leaf (.cond .leaf .leaf)) (.blk .leaf)))) (.seq .leaf (.seq (.seq .leaf (.blk (.loop [(3, .slc), (5, .int .i64)] (.seq (.seq .leaf (.cond .leaf .leaf)) (.seq (.blk .leaf) .leaf))))) (.seq .leaf (.seq .leaf (.seq (.seq .leaf (.blk (.loop [(8, .int .i64)] (.seq (.seq .leaf (.cond .leaf .leaf)) (.seq (.blk (.seq (.seq .leaf (.blk (.loop [(9, .int .i64)] (.seq (.seq .leaf (.cond .leaf .leaf)) (.join [] (.jblk [] (.seq (.seq .leaf (.cond (.seq .leaf (.seq (.seq .leaf (.blk (.loop [(10, .int .i64)] (.seq (.seq .leaf (.cond .leaf .leaf)) (.seq (.blk (.tree (.op 0 [] (.op 1 [] (.op 2 [] (.op 5 [] (.op 6 [] (.op 7 [] (.op 8 [] (.op 9 [] (.op 10 [] (.op 11 [] (.op 12 [] (.op 3 [] (.op 4 [] (.op 13 [] (.op 14 [] (.op 15 [] (.op 16 [] (.op 17 [] .done)))))))))))))))))))) .leaf))))) .leaf)) .leaf)) (.seq .leaf (.seq .leaf (.tree (.op 0 [] (.op 1 [] (.op 3 [] (.op 6 [] (.op 7 [] (.op 9 [] (.op 10 [] (.op 11 [] (.op 14 [] (.op 16 [] (.op 19 [] (.op 20 [] (.op 23 [] (.op 24 [] (.op 25 [] (.op 2 [] (.op 4 [] (.op 5 [] (.op 8 [] (.op 12 [] (.op 13 [] (.op 15 [] (.op 17 [] (.op 18 [] (.op 21 [] (.op 22 [] (.op 26 [] (.op 27 [] (.op 28 [] (.op 29 [] .done))))))))))))))))))))))))))))))))))) .leaf))))) (.seq .leaf (.seq (.seq .leaf (.blk (.loop [(14, .int .i64)] (.seq (.seq .leaf (.cond .leaf .leaf)) (.seq (.blk (.seq .leaf (.seq .leaf (.seq (.tree (.op 0 [] (.op 2 [] (.op 4 [] (.op 7 [] (.op 11 [] (.op 12 [] (.op 15 [] (.op 16 [] (.op 17 [] (.op 22 [] (.op 25 [] (.op 26 [] (.op 1 [] (.op 3 [] (.op 5 [] (.op 6 [] (.op 8 [] (.op 9 [] (.op 10 [] (.op 13 [] (.op 14 [] (.op 18 [] (.op 19 [] (.op 20 [] (.op 21 [] (.op 27 [] (.op 23 [1, 13, 18, 27] (.op 24 [] (.op 28 [] (.op 29 [] .done))))))))))))))))))))))))))))))) (.seq (.tree (.op 0 [] (.op 2 [] (.op 5 [] (.op 8 [] (.op 9 [] (.op 12 [] (.op 13 [] (.op 17 [] (.op 19 [] (.op 1 [] (.op 3 [] (.op 4 [] (.op 6 [] (.op 7 [] (.op 10 [] (.op 11 [] (.op 14 [] (.op 15 [] (.op 16 [] (.op 18 [] (.op 20 [] (.op 21 [] (.op 22 [] (.op 23 [] (.op 24 [] .done)))))))))))))))))))))))))) (.seq (.seq .leaf (.blk (.loop [(19, .int .i64)] (.seq (.seq .leaf (.cond .leaf .leaf)) (.seq (.blk .leaf) .leaf))))) (.seq .leaf .leaf))))))) .leaf))))) (.seq .leaf (.blk (.loop [(20, .int .i64)] (.seq (.seq .leaf (.cond .leaf .leaf)) (.seq (.blk (.tree (.op 0 [] (.op 1 [] (.op 2 [] (.op 4 [] (.op 5 [] (.op 3 [] (.op 6 [] (.op 7 [] (.op 8 [] (.op 9 [] .done)))))))))))) .leaf))))))))) .leaf))))) (.seq .leaf (.seq (.seq .leaf (.blk (.loop [(22, .int .i64)] (.seq (.seq .leaf (.cond .leaf .leaf)) (.seq (.blk .leaf) .leaf))))) (.seq .leaf .leaf))))))))))))
theorem ok_r01_Sum : okC P qs Tryd.f12.ntmps ((Tryd.f12.body).getD .skip) ann_r01_Sum = true := by kernel_rfl
def T_r01_Sum (b : Option Addr) (b_l b_c : Nat) (R : Ending → World → Prop) (w : World) : Prop :=
    newB (zc P y_api_Digest) y_api_Digest w fun b2 w_1 =>
    genL P (Instr.buildSlice y_S_uint8 0 #[]) .slc w_1 fun (t23 : (Option Addr × Nat × Nat)) w_2 =>
    genL P (Builtin.append_ #[y_S_uint8, y_S_uint8] y_S_uint8 #[(Value.slice t23.1 t23.2.1 t23.2.2), (Value.slice b b_l b_c)]) .slc w_2 fun (t25 : (Option Addr × Nat × Nat)) w_3 =>
    genL P (Instr.buildSlice y_S_uint8 1 #[(0, (Value.int .u8 128))]) .slc w_3 fun (t27 : (Option Addr × Nat × Nat)) w_4 =>
    genL P (Builtin.append_ #[y_S_uint8, y_S_uint8] y_S_uint8 #[(Value.slice t25.1 t25.2.1 t25.2.2), (Value.slice t27.1 t27.2.1 t27.2.2)]) .slc w_4 fun (t28 : (Option Addr × Nat × Nat)) w_5 =>
    loopP (Option Addr × Nat × Nat) (fun s w_6 k =>
    remI (s.2.1 : Int) 64 fun t31 =>
    iteP (t31 != 56) (
    genL P (Instr.buildSlice y_S_uint8 1 #[(0, (Value.int .u8 0))]) .slc w_6 fun (t34 : (Option Addr × Nat × Nat)) w_7 =>
    genL P (Builtin.append_ #[y_S_uint8, y_S_uint8] y_S_uint8 #[(Value.slice s.1 s.2.1 s.2.2), (Value.slice t34.1 t34.2.1 t34.2.2)]) .slc w_7 fun (t35 : (Option Addr × Nat × Nat)) w_8 =>
    k (t35.1, t35.2.1, t35.2.2) w_8) (
    cvI .u64 (b_l : Int) fun t38 =>
    mulI .u64 t38 8 fun t39 =>
    loopP ((Option Addr × Nat × Nat) × Int) (fun s_1 w_9 k_1 =>
    iteP (decide (s_1.2 < 8)) (
    mulI .i64 8 s_1.2 fun t47 =>
    subI .i64 56 t47 fun t48 =>
    cvI .u64 t48 fun t49 =>
    shrI .u64 t39 t49 fun t50 =>
    cvI .u8 t50 fun t51 =>
    genL P (Instr.buildSlice y_S_uint8 1 #[(0, (Value.int .u8 t51))]) .slc w_9 fun (t52 : (Option Addr × Nat × Nat)) w_10 =>
    genL P (Builtin.append_ #[y_S_uint8, y_S_uint8] y_S_uint8 #[(Value.slice s_1.1.1 s_1.1.2.1 s_1.1.2.2), (Value.slice t52.1 t52.2.1 t52.2.2)]) .slc w_10 fun (t53 : (Option Addr × Nat × Nat)) w_11 =>
    addI .i64 s_1.2 1 fun t43 =>
    k_1 ((t53.1, t53.2.1, t53.2.2), t43) w_11) (
    genQ P (Instr.build y_8_uint32 #[(0, (Value.int .u32 1779033703)), (1, (Value.int .u32 3144134277)), (2, (Value.int .u32 1013904242)), (3, (Value.int .u32 2773480762)), (4, (Value.int .u32 1359893119)), (5, (Value.int .u32 2600822924)), (6, (Value.int .u32 528734635)), (7, (Value.int .u32 1541459225))]) .any w_9 fun (t54 : Value) =>
    newB (zc P y_8_uint32) y_8_uint32 w_9 fun b6 w_12 =>
    genU P (storeVar y_8_uint32 (⟨b6, 0, none⟩ : Addr) t54) w_12 fun w_13 =>
    newB (zc P y_64_uint32) y_64_uint32 w_13 fun b7 w_14 =>
    loopP Int (fun s_2 w_15 k_2 =>
    iteP (decide (s_2 < (s_1.1.2.1 : Int))) (
    loopP Int (fun s_3 w_16 k_3 =>
    iteP (decide (s_3 < 64)) (
    joinP Unit (fun k_4 =>
    joinP Unit (fun k_5 =>
    iteP (decide (s_3 < 16)) (
    ixR (⟨b7, 0, none⟩ : Addr) 64 1 s_3 fun t68 =>
    stC t68 (Value.int .u32 0) w_16 fun w_17 =>
    loopP Int (fun s_4 w_18 k_6 =>
    iteP (decide (s_4 < 4)) (
    drewP w_18 fun w_19 =>
    ixR (⟨b7, 0, none⟩ : Addr) 64 1 s_3 fun t75 =>
    mulI .i64 4 s_3 fun t81 =>
    addI .i64 s_2 t81 fun t82 =>
    addI .i64 t82 s_4 fun t84 =>
    ixS s_1.1.1 s_1.1.2.1 1 t84 fun t85 =>
    ld (.int .u32) t75 w_19 fun (t76 : Int) =>
    shlI .u32 t76 8 fun t77 =>
    ld (.int .u8) t85 w_19 fun (t86 : Int) =>
    cvI .u32 t86 fun t87 =>
    orI .u32 t77 t87 fun t88 =>
    ixR (⟨b7, 0, none⟩ : Addr) 64 1 s_3 fun t89 =>
    stC t89 (Value.int .u32 t88) w_19 fun w_20 =>
    addI .i64 s_4 1 fun t72 =>
    k_6 t72 w_20) (
    k_5 () w_18)) 0 w_17) (
    subI .i64 s_3 2 fun t91 =>
    ixR (⟨b7, 0, none⟩ : Addr) 64 1 t91 fun t92 =>
    ld (.int .u32) t92 w_16 fun (t93 : Int) =>
    subI .i64 s_3 15 fun t95 =>
    ixR (⟨b7, 0, none⟩ : Addr) 64 1 t95 fun t96 =>
    ld (.int .u32) t96 w_16 fun (t97 : Int) =>
    drewP w_16 fun w_21 =>
    shrI .u32 t93 10 fun t105 =>
    subI .i64 s_3 7 fun t108 =>
    ixR (⟨b7, 0, none⟩ : Addr) 64 1 t108 fun t109 =>
    shrI .u32 t97 3 fun t118 =>
    subI .i64 s_3 16 fun t122 =>
    ixR (⟨b7, 0, none⟩ : Addr) 64 1 t122 fun t123 =>
    callQ P F_r01_turn #[(Value.int .u32 t93), (Value.int .u64 17)] [.int .u32] false w_21 fun (t100 : Int) =>
    callQ P F_r01_turn #[(Value.int .u32 t93), (Value.int .u64 19)] [.int .u32] false w_21 fun (t102 : Int) =>
    xorI .u32 t100 t102 fun t103 =>
    xorI .u32 t103 t105 fun t106 =>
    ld (.int .u32) t109 w_21 fun (t110 : Int) =>
    addI .u32 t106 t110 fun t111 =>
    callQ P F_r01_turn #[(Value.int .u32 t97), (Value.int .u64 7)] [.int .u32] false w_21 fun (t113 : Int) =>
    callQ P F_r01_turn #[(Value.int .u32 t97), (Value.int .u64 18)] [.int .u32] false w_21 fun (t115 : Int) =>
    xorI .u32 t113 t115 fun t116 =>
    xorI .u32 t116 t118 fun t119 =>
    addI .u32 t111 t119 fun t120 =>
    ld (.int .u32) t123 w_21 fun (t124 : Int) =>
    addI .u32 t120 t124 fun t125 =>
    ixR (⟨b7, 0, none⟩ : Addr) 64 1 s_3 fun t126 =>
    stC t126 (Value.int .u32 t125) w_21 fun w_22 =>
    k_5 () w_22)) (fun _ w_23 =>
    k_4 () w_23)) (fun _ w_24 =>
    addI .i64 s_3 1 fun t64 =>
    k_3 t64 w_24)) (
    ldA P 8 (⟨b6, 0, none⟩ : Addr) w_16 fun t127 =>
    newB (zc P y_8_uint32) y_8_uint32 w_16 fun b13 w_25 =>
    genU P (storeVar y_8_uint32 (⟨b13, 0, none⟩ : Addr) (Value.agg t127)) w_25 fun w_26 =>
    loopP Int (fun s_7 w_27 k_7 =>
    iteP (decide (s_7 < 64)) (
    ld (.int .u32) (⟨b13, 4, none⟩ : Addr) w_27 fun (t133 : Int) =>
    ld (.int .u32) (⟨b13, 0, none⟩ : Addr) w_27 fun (t135 : Int) =>
    drewP w_27 fun w_28 =>
    xorI .u32 4294967295 t133 fun t152 =>
    ixR (⟨b7, 0, none⟩ : Addr) 64 1 s_7 fun t162 =>
    ld (.int .u32) (⟨b13, 7, none⟩ : Addr) w_28 fun (t137 : Int) =>
    callQ P F_r01_turn #[(Value.int .u32 t133), (Value.int .u64 6)] [.int .u32] false w_28 fun (t139 : Int) =>
    callQ P F_r01_turn #[(Value.int .u32 t133), (Value.int .u64 11)] [.int .u32] false w_28 fun (t141 : Int) =>
    xorI .u32 t139 t141 fun t142 =>
    callQ P F_r01_turn #[(Value.int .u32 t133), (Value.int .u64 25)] [.int .u32] false w_28 fun (t144 : Int) =>
    xorI .u32 t142 t144 fun t145 =>
    addI .u32 t137 t145 fun t146 =>
    ld (.int .u32) (⟨b13, 5, none⟩ : Addr) w_28 fun (t149 : Int) =>
    andI .u32 t133 t149 fun t150 =>
    ld (.int .u32) (⟨b13, 6, none⟩ : Addr) w_28 fun (t154 : Int) =>
    andI .u32 t152 t154 fun t155 =>
    xorI .u32 t150 t155 fun t156 =>
    addI .u32 t146 t156 fun t157 =>
    ld (.int .u32) t162 w_28 fun (t163 : Int) =>
    callF P F_r01_constant #[(Value.int .i64 s_7)] [.int .u32] false w_28 fun (t159 : Int) w_29 =>
    ((ld (.int .u32) t162 w_29 fun (t163_1 : Int) =>
    (Value.int .u32 t163_1) = (Value.int .u32 t163)) ∧
    ((ld (.int .u32) (⟨b13, 6, none⟩ : Addr) w_29 fun (t154_1 : Int) =>
    (Value.int .u32 t154_1) = (Value.int .u32 t154)) ∧
    ((ld (.int .u32) (⟨b13, 5, none⟩ : Addr) w_29 fun (t149_1 : Int) =>
    (Value.int .u32 t149_1) = (Value.int .u32 t149)) ∧
    ((ld (.int .u32) (⟨b13, 7, none⟩ : Addr) w_29 fun (t137_1 : Int) =>
    (Value.int .u32 t137_1) = (Value.int .u32 t137)) ∧
    addI .u32 t157 t159 fun t160 =>
    addI .u32 t160 t163 fun t164 =>
    drewP w_29 fun w_30 =>
    callQ P F_r01_turn #[(Value.int .u32 t135), (Value.int .u64 2)] [.int .u32] false w_30 fun (t166 : Int) =>
    callQ P F_r01_turn #[(Value.int .u32 t135), (Value.int .u64 13)] [.int .u32] false w_30 fun (t168 : Int) =>
    xorI .u32 t166 t168 fun t169 =>
    callQ P F_r01_turn #[(Value.int .u32 t135), (Value.int .u64 22)] [.int .u32] false w_30 fun (t171 : Int) =>
    xorI .u32 t169 t171 fun t172 =>
    ld (.int .u32) (⟨b13, 1, none⟩ : Addr) w_30 fun (t175 : Int) =>
    andI .u32 t135 t175 fun t176 =>
    ld (.int .u32) (⟨b13, 2, none⟩ : Addr) w_30 fun (t179 : Int) =>
    andI .u32 t135 t179 fun t180 =>
    xorI .u32 t176 t180 fun t181 =>
    ld (.int .u32) (⟨b13, 1, none⟩ : Addr) w_30 fun (t183 : Int) =>
    ld (.int .u32) (⟨b13, 2, none⟩ : Addr) w_30 fun (t185 : Int) =>
    andI .u32 t183 t185 fun t186 =>
    xorI .u32 t181 t186 fun t187 =>
    addI .u32 t172 t187 fun t188 =>
    loopP Int (fun s_8 w_31 k_8 =>
    iteP (decide (s_8 > 0)) (
    subI .i64 s_8 1 fun t195 =>
    ixR (⟨b13, 0, none⟩ : Addr) 8 1 t195 fun t196 =>
    ld (.int .u32) t196 w_31 fun (t197 : Int) =>
    ixR (⟨b13, 0, none⟩ : Addr) 8 1 s_8 fun t198 =>
    stC t198 (Value.int .u32 t197) w_31 fun w_32 =>
    subI .i64 s_8 1 fun t192 =>
    k_8 t192 w_32) (
    ld (.int .u32) (⟨b13, 4, none⟩ : Addr) w_31 fun (t200 : Int) =>
    addI .u32 t200 t164 fun t202 =>
    stC (⟨b13, 4, none⟩ : Addr) (Value.int .u32 t202) w_31 fun w_33 =>
    addI .u32 t164 t188 fun t206 =>
    stC (⟨b13, 0, none⟩ : Addr) (Value.int .u32 t206) w_33 fun w_34 =>
    addI .i64 s_7 1 fun t131 =>
    k_7 t131 w_34)) 7 w_30))))) (
    loopP Int (fun s_9 w_35 k_9 =>
    iteP (decide (s_9 < 8)) (
    drewP w_35 fun w_36 =>
    ixR (⟨b6, 0, none⟩ : Addr) 8 1 s_9 fun t214 =>
    ixR (⟨b13, 0, none⟩ : Addr) 8 1 s_9 fun t217 =>
    ld (.int .u32) t214 w_36 fun (t215 : Int) =>
    ld (.int .u32) t217 w_36 fun (t218 : Int) =>
    addI .u32 t215 t218 fun t219 =>
    ixR (⟨b6, 0, none⟩ : Addr) 8 1 s_9 fun t220 =>
    stC t220 (Value.int .u32 t219) w_36 fun w_37 =>
    addI .i64 s_9 1 fun t211 =>
    k_9 t211 w_37) (
    addI .i64 s_2 64 fun t60 =>
    k_2 t60 w_35)) 0 w_27)) 0 w_26)) 0 w_15) (
    newB (zc P y_api_Digest) y_api_Digest w_15 fun b21 w_38 =>
    loopP Int (fun s_10 w_39 k_10 =>
    iteP (decide (s_10 < 32)) (
    quoI .i64 s_10 4 fun t227 =>
    ixR (⟨b6, 0, none⟩ : Addr) 8 1 t227 fun t228 =>
    ld (.int .u32) t228 w_39 fun (t229 : Int) =>
    remI s_10 4 fun t231 =>
    mulI .i64 8 t231 fun t232 =>
    subI .i64 24 t232 fun t233 =>
    cvI .u64 t233 fun t234 =>
    shrI .u32 t229 t234 fun t235 =>
    cvI .u8 t235 fun t236 =>
    ixR (⟨b21, 0, none⟩ : Addr) 32 1 s_10 fun t237 =>
    stC t237 (Value.int .u8 t236) w_39 fun w_40 =>
    addI .i64 s_10 1 fun t224 =>
    k_10 t224 w_40) (
    ldA P 32 (⟨b21, 0, none⟩ : Addr) w_39 fun t238 =>
    genU P (storeVar y_api_Digest (⟨b2, 0, none⟩ : Addr) (Value.agg t238)) w_39 fun w_41 =>
    ldA P 32 (⟨b2, 0, none⟩ : Addr) w_41 fun t2 =>
    R (.returned (Value.agg t2)) w_41)) 0 w_38)) 0 w_14)) ((s.1, s.2.1, s.2.2), 0) w_6)) (t28.1, t28.2.1, t28.2.2) w_5
theorem eq_r01_Sum (b : Option Addr) (b_l b_c : Nat) (R : Ending → World → Prop) (w : World) : tr P qs ((Tryd.f12.body).getD .skip) ann_r01_Sum (env0 0 [(0, (Value.slice b b_l b_c))]) (topK P Tryd.f12.results.toList R) w = T_r01_Sum b b_l b_c R w := by kernel_rfl
/-- veneer/veneerref01.Sum -/
theorem fn_r01_Sum {b : Option Addr} {b_l b_c : Nat} {R : Ending → World → Prop} {w : World} (hT : T_r01_Sum b b_l b_c R w) : CallF P F_r01_Sum #[(Value.slice b b_l b_c)] w R :=
  fn_of_tr (fn := Tryd.f12) (c := (Tryd.f12.body).getD .skip) (ann := ann_r01_Sum) (args := [(0, (Value.slice b b_l b_c))]) (qs := qs) mixed Tryd.func12 rfl (by kernel_rfl) (by kernel_rfl) ok_r01_Sum ((eq_r01_Sum b b_l b_c R w).symm ▸ hT)
end Go.Proofs.YtkolbfjheleoaaaDoor
