/- Part 5 of the proof's ground: The code of the functions that the statements reach, with its types resolved. -/
import Derived.Test.YtfalonfjpihgeaaTide4

/- The code of the functions that the statements reach, with its types resolved. -/
set_option linter.unusedVariables false
namespace Go.Tide
abbrev n_main_main : Nat := 0
abbrev n_gosem_cut : Nat := 1
abbrev n_gosem_cut_init : Nat := 2
abbrev n_tidelaw15_WindowNumbers : Nat := 3
abbrev n_tidelaw15_WindowParts : Nat := 4
abbrev n_tidelaw15_WindowKeeps : Nat := 5
abbrev n_tidelaw15_WindowLast : Nat := 6
abbrev n_tidelaw15_alive : Nat := 7
abbrev n_window_Window : Nat := 8
abbrev n_tidelaw15_col : Nat := 9
abbrev n_ops_Filter : Nat := 10
abbrev n_tideref1_Is : Nat := 11
abbrev n_tideref1_Equal : Nat := 12
abbrev n_tideref2_Same : Nat := 13
abbrev n_zsets_Positive : Nat := 14
abbrev n_tidelaw15_cut : Nat := 15
abbrev n_ops_Group : Nat := 16
abbrev n_tidelaw15_num : Nat := 17
abbrev n_ops_Types : Nat := 18
abbrev n_window_Types : Nat := 19
abbrev n_ops_Input : Nat := 20
abbrev n_ops_Values : Nat := 21
abbrev n_slices_SortStableFunc__P_window_line : Nat := 22
abbrev n_window_Window_1 : Nat := 23
abbrev n_vals_Rows : Nat := 24
abbrev n_window_teller_tell : Nat := 25
abbrev n_zsets_Sum : Nat := 26
abbrev n_cmp_Or__api_Errno : Nat := 27
abbrev n_ops_truth : Nat := 28
abbrev n_vals_True : Nat := 29
abbrev n_exprs_Of : Nat := 30
abbrev n_tideref1_Null : Nat := 31
abbrev n_tideref1_Truth : Nat := 32
abbrev n_tideref1_Order : Nat := 33
abbrev n_zsets_each : Nat := 34
abbrev n_zsets_Positive_1 : Nat := 35
abbrev n_zsets_Of : Nat := 36
abbrev n_ops_AggTypes : Nat := 37
abbrev n_ops_Grouped : Nat := 38
abbrev n_exprs_Type : Nat := 39
abbrev n_zsets_Wrong : Nat := 40
abbrev n_exprs_Fits : Nat := 41
abbrev n_slices_stableCmpFunc__P_window_line : Nat := 42
abbrev n_vals_Compare : Nat := 43
abbrev n_cmp_Compare__int : Nat := 44
abbrev n_slices_Clone__api_Val : Nat := 45
abbrev n_vals_Int : Nat := 46
abbrev n_vals_Null : Nat := 47
abbrev n_zsets_Fit : Nat := 48
abbrev n_zsets_Total : Nat := 49
abbrev n_vals_rank : Nat := 50
abbrev n_exprs_Of_1 : Nat := 51
abbrev n_vals_Bare : Nat := 52
abbrev n_vals_Not : Nat := 53
abbrev n_vals_And : Nat := 54
abbrev n_vals_Or : Nat := 55
abbrev n_vals_Reckon : Nat := 56
abbrev n_vals_Join : Nat := 57
abbrev n_vals_Bool : Nat := 58
abbrev n_exprs_compared : Nat := 59
abbrev n_zsets_right : Nat := 60
abbrev n_zsets_bare : Nat := 61
abbrev n_zsets_row : Nat := 62
abbrev n_zsets_weight : Nat := 63
abbrev n_slices_SortStableFunc__ops_group : Nat := 64
abbrev n_ops_Grouped_1 : Nat := 65
abbrev n_ops_aggregate : Nat := 66
abbrev n_exprs_looker_typ : Nat := 67
abbrev n_vals_Wrong : Nat := 68
abbrev n_slices_insertionSortCmpFunc__P_window_line : Nat := 69
abbrev n_slices_symMergeCmpFunc__P_window_line : Nat := 70
abbrev n_cmp_Or__int : Nat := 71
abbrev n_cmp_Compare__int64 : Nat := 72
abbrev n_strings_Compare : Nat := 73
abbrev n_cmp_isNaN__int : Nat := 74
abbrev n_slices_ContainsFunc__api_ZRow : Nat := 75
abbrev n_zsets_Fit_1 : Nat := 76
abbrev n_slices_SortStableFunc__api_ZRow : Nat := 77
abbrev n_zsets_Total_1 : Nat := 78
abbrev n_vals_ranked : Nat := 79
abbrev n_vals_Equal : Nat := 80
abbrev n_vals_Less : Nat := 81
abbrev n_slices_stableCmpFunc__ops_group : Nat := 82
abbrev n_ops_total_add : Nat := 83
abbrev n_ops_total_val : Nat := 84
abbrev n_exprs_kids : Nat := 85
abbrev n_exprs_kind : Nat := 86
abbrev n_slices_rotateCmpFunc__P_window_line : Nat := 87
abbrev n_cmp_isNaN__int64 : Nat := 88
abbrev n_bytealg_CompareString : Nat := 89
abbrev n_slices_IndexFunc__api_ZRow : Nat := 90
abbrev n_slices_stableCmpFunc__api_ZRow : Nat := 91
abbrev n_vals_alike : Nat := 92
abbrev n_slices_insertionSortCmpFunc__ops_group : Nat := 93
abbrev n_slices_symMergeCmpFunc__ops_group : Nat := 94
abbrev n_exprs_all : Nat := 95
abbrev n_exprs_one : Nat := 96
abbrev n_slices_swapRangeCmpFunc__P_window_line : Nat := 97
abbrev n_bytealg_abigen_runtime_cmpstring : Nat := 98
abbrev n_slices_insertionSortCmpFunc__api_ZRow : Nat := 99
abbrev n_slices_symMergeCmpFunc__api_ZRow : Nat := 100
abbrev n_slices_rotateCmpFunc__ops_group : Nat := 101
abbrev n_slices_rotateCmpFunc__api_ZRow : Nat := 102
abbrev n_slices_swapRangeCmpFunc__ops_group : Nat := 103
abbrev n_slices_swapRangeCmpFunc__api_ZRow : Nat := 104
abbrev n_runtime_boundsError_Error : Nat := 105
abbrev n_runtime_boundsError_RuntimeError : Nat := 106
abbrev n_runtime_errorString_Error : Nat := 107
abbrev n_runtime_errorString_RuntimeError : Nat := 108
abbrev n_runtime_plainError_Error : Nat := 109
abbrev n_runtime_plainError_RuntimeError : Nat := 110
abbrev n_runtime_errorAddressString_Error : Nat := 111
abbrev n_runtime_errorAddressString_RuntimeError : Nat := 112
abbrev n_runtime_TypeAssertionError_Error : Nat := 113
abbrev n_runtime_TypeAssertionError_RuntimeError : Nat := 114
abbrev n_runtime_PanicNilError_Error : Nat := 115
abbrev n_runtime_PanicNilError_RuntimeError : Nat := 116
abbrev n_abi_Type_Align : Nat := 117
abbrev n_maps_unhashableTypeError_Error : Nat := 118
abbrev n_maps_unhashableTypeError_RuntimeError : Nat := 119
abbrev n_abi_Kind_String : Nat := 120
abbrev ty_L_api_Expr : Nat := 23
abbrev ty_L_api_ZRow : Nat := 24
abbrev ty_P_window_line : Nat := 61
abbrev ty_api_Agg : Nat := 51
abbrev ty_api_Errno : Nat := 26
abbrev ty_api_Expr : Nat := 32
abbrev ty_api_Val : Nat := 30
abbrev ty_api_Win : Nat := 34
abbrev ty_api_ZRow : Nat := 39
abbrev ty_bool : Nat := 4
abbrev ty_int : Nat := 3
abbrev ty_int32 : Nat := 21
abbrev ty_int64 : Nat := 2
abbrev ty_ops_group : Nat := 106
/-! tidelaw15_WindowParts -/
/--  -/
abbrev s_tidelaw15_WindowParts_r (t12 : A) (x : Sto) : St := ⟨upd (fun _ => .undef) 12 t12, fun _ => none, x⟩
/--  -/
abbrev s_tidelaw15_WindowParts_x0 (t15 t18 t19 : A) (o19 : Ob) (x : Sto) : St := ⟨upd (upd (upd (fun _ => .undef) 19 t19) 18 t18) 15 t15, updS (fun _ => none) 19 (some o19), x⟩
/--  -/
abbrev s_tidelaw15_WindowParts_l0 (t1 t11 t15 t18 t19 t78 t79 t80 : A) (o19 : Ob) (x : Sto) : St := ⟨upd (upd (upd (upd (upd (upd (upd (upd (fun _ => .undef) 80 t80) 79 t79) 78 t78) 19 t19) 18 t18) 15 t15) 11 t11) 1 t1, updS (fun _ => none) 19 (some o19), x⟩
/--  -/
abbrev s_tidelaw15_WindowParts_x1 (t1 t11 t15 t18 t19 t78 t79 t80 : A) (o19 : Ob) (x : Sto) : St := ⟨upd (upd (upd (upd (upd (upd (upd (upd (fun _ => .undef) 80 t80) 79 t79) 78 t78) 19 t19) 18 t18) 15 t15) 11 t11) 1 t1, updS (fun _ => none) 19 (some o19), x⟩
def i_tidelaw15_WindowParts_l0 : IC := .seq (.seq (.reg [⟨some 81, .bin .lss (.t 80) (.t 79), none⟩])
 (.seq (.cond (.t 81) .skip (.seq (.keep [15, 18, 19] [19]) (.exit 0)))
 (.seq (.seq (.block 1 (.seq (.seq (.reg [⟨some 82, .idxp (.t 78) (.t 80) 2, none⟩,
  ⟨some 83, .load (.t 82) (some 2), none⟩,
  ⟨some 21, .alloc [.sl [], .int .i64 0], none⟩,
  ⟨none, .store (.t 21) (.t 83) (some 2), none⟩]) (.frz 21 [1, 11, 15, 18, 19, 21, 78, 79, 80] [19]))
 (.seq (.dreg [⟨some 84, .fieldp (.t 21) 0 none, none⟩,
  ⟨some 85, .load (.t 84) none, none⟩,
  ⟨some 86, .mov (.t 1), none⟩,
  ⟨some 87, .idxp (.t 85) (.t 86) 3, none⟩,
  ⟨some 88, .load (.t 87) (some 3), none⟩,
  ⟨some 89, .load (.t 11) (some 3), none⟩,
  ⟨some 90, .call (.c (.fn n_tideref1_Equal [])) [(.t 88), (.t 89)] (some []) true [], none⟩,
  ⟨some 91, .call (.c (.fn n_tideref1_Is [])) [(.t 90), (.c (.bool true))] (some []) true [], none⟩])
 (.cond (.t 91) (.reg [⟨some 92, .mov (.t 19), none⟩,
  ⟨some 93, .load (.t 21) (some 2), none⟩,
  ⟨some 94, .lit ty_api_ZRow 2 1 [.sl [], .int .i64 0] [(0, (.t 93))] false, none⟩,
  ⟨some 95, .app (.t 92) (.t 94) ty_api_ZRow 2 32, none⟩,
  ⟨some 19, .mov (.t 95), none⟩]) .skip)))) (.keep [1, 11, 15, 18, 19, 78, 79, 80] [19]))
 (.reg [⟨some 96, .bin .add (.t 80) (.c (.int .i64 1)), none⟩,
  ⟨some 80, .mov (.t 96), none⟩])))) (.keep [1, 11, 15, 18, 19, 78, 79, 80] [19])
def i_tidelaw15_WindowParts_a0 : IC := (.seq (.reg [⟨some 97, .mov (.t 15), none⟩,
  ⟨some 98, .bin .eql (.t 97) (.c (.int .i64 0)), none⟩,
  ⟨some 99, .mov (.t 98), none⟩,
  ⟨some 100, .mov (.t 18), some (99, true)⟩,
  ⟨some 101, .mov (.t 19), some (99, true)⟩,
  ⟨some 102, .call (.c (.fn n_tideref2_Same [])) [(.t 100), (.t 101)] (some []) true [], some (99, true)⟩,
  ⟨some 103, .pick (.t 99) (.t 102) (.c (.bool false)), none⟩,
  ⟨some 12, .mov (.t 103), none⟩])
 (.seq (.keep [12] []) .ret))
def i_tidelaw15_WindowParts : IFn := ⟨6, [.tmp 12 false],
 (.seq (.reg [⟨some 11, .ibox (.t 5), none⟩,
  ⟨some 12, .mov (.c (.bool false)), none⟩])
 (.seq (.seq (.reg [⟨some 22, .call (.c (.fn n_tidelaw15_alive [])) [] (some []) true [], none⟩,
  ⟨some 23, .not (.t 22), none⟩])
 (.cond (.t 23) (.seq (.reg [⟨some 12, .mov (.c (.bool false)), none⟩])
 (.seq (.keep [12] []) .ret)) .skip))
 (.seq (.seq (.reg [⟨some 24, .mov (.t 1), none⟩,
  ⟨some 25, .bin .lss (.t 24) (.c (.int .i64 0)), none⟩,
  ⟨some 26, .mov (.t 25), none⟩,
  ⟨some 27, .mov (.t 1), some (26, false)⟩,
  ⟨some 28, .mov (.t 0), some (26, false)⟩,
  ⟨some 29, .len false (.t 28), some (26, false)⟩,
  ⟨some 30, .bin .geq (.t 27) (.t 29), some (26, false)⟩,
  ⟨some 31, .pick (.t 26) (.c (.bool true)) (.t 30), none⟩,
  ⟨some 32, .mov (.t 31), none⟩,
  ⟨some 33, .fieldp (.t 11) 0 none, some (32, false)⟩,
  ⟨some 34, .load (.t 33) none, some (32, false)⟩,
  ⟨some 35, .bin .eql (.t 34) (.c (.int .i64 1)), some (32, false)⟩,
  ⟨some 36, .pick (.t 32) (.c (.bool true)) (.t 35), none⟩])
 (.cond (.t 36) (.seq (.reg [⟨some 12, .mov (.c (.bool true)), none⟩])
 (.seq (.keep [12] []) .ret)) .skip))
 (.seq (.seq (.dreg [⟨some 37, .mov (.t 1), none⟩,
  ⟨some 38, .call (.c (.fn n_tidelaw15_col [])) [(.t 37)] (some []) true [], none⟩,
  ⟨some 39, .load (.t 11) (some 3), none⟩,
  ⟨some 40, .build [.int .i64 0, .int .i64 0, .int .i64 0, .str ⟨#[]⟩, .int .i64 0, .sl []] [(0, 1, (.c (.int .i64 1))), (1, 3, (.t 39))], none⟩,
  ⟨some 41, .lit ty_api_Expr 6 2 [.int .i64 0, .int .i64 0, .int .i64 0, .str ⟨#[]⟩, .int .i64 0, .sl []] [(0, (.t 38)), (1, (.t 40))] false, none⟩,
  ⟨some 42, .build [.int .i64 0, .int .i64 0, .int .i64 0, .str ⟨#[]⟩, .int .i64 0, .sl []] [(0, 1, (.c (.int .i64 6))), (5, 1, (.t 41))], none⟩,
  ⟨some 13, .alloc [.int .i64 0, .int .i64 0, .int .i64 0, .str ⟨#[]⟩, .int .i64 0, .sl []], none⟩,
  ⟨none, .store (.t 13) (.t 42) (some 6), none⟩]) (.frz 13 [0, 1, 2, 3, 4, 11, 13] []))
 (.seq (.reg [⟨some 44, .mov (.t 0), none⟩,
  ⟨some 45, .mov (.t 1), none⟩,
  ⟨some 46, .call (.c (.fn n_tidelaw15_col [])) [(.t 45)] (some []) true [], none⟩,
  ⟨some 47, .lit ty_api_Expr 6 1 [.int .i64 0, .int .i64 0, .int .i64 0, .str ⟨#[]⟩, .int .i64 0, .sl []] [(0, (.t 46))] false, none⟩,
  ⟨some 48, .mov (.t 2), none⟩,
  ⟨some 49, .mov (.t 3), none⟩,
  ⟨some 50, .mov (.t 4), none⟩,
  ⟨some 51, .call (.c (.fn n_window_Window [])) [(.t 44), (.t 47), (.t 48), (.t 49), (.t 50)] (some []) true [], none⟩,
  ⟨some 43, .mov (.t 51), none⟩,
  ⟨some 52, .ext (.t 43) 0, none⟩,
  ⟨some 53, .ext (.t 43) 1, none⟩,
  ⟨some 14, .mov (.t 52), none⟩,
  ⟨some 15, .mov (.t 53), none⟩])
 (.seq (.reg [⟨some 55, .mov (.t 0), none⟩,
  ⟨some 56, .load (.t 13) (some 6), none⟩,
  ⟨some 57, .mov (.t 4), none⟩,
  ⟨some 58, .call (.c (.fn n_ops_Filter [])) [(.t 55), (.t 56), (.t 57)] (some []) true [], none⟩,
  ⟨some 54, .mov (.t 58), none⟩,
  ⟨some 59, .ext (.t 54) 0, none⟩,
  ⟨some 60, .ext (.t 54) 1, none⟩,
  ⟨some 16, .mov (.t 59), none⟩,
  ⟨some 17, .mov (.t 60), none⟩])
 (.seq (.seq (.reg [⟨some 61, .mov (.t 15), none⟩,
  ⟨some 62, .bin .neq (.t 61) (.c (.int .i64 0)), none⟩,
  ⟨some 63, .mov (.t 62), none⟩,
  ⟨some 64, .mov (.t 17), some (63, false)⟩,
  ⟨some 65, .bin .neq (.t 64) (.c (.int .i64 0)), some (63, false)⟩,
  ⟨some 66, .pick (.t 63) (.c (.bool true)) (.t 65), none⟩])
 (.cond (.t 66) (.seq (.reg [⟨some 12, .mov (.c (.bool true)), none⟩])
 (.seq (.keep [12] []) .ret)) .skip))
 (.seq (.reg [⟨some 68, .mov (.t 0), none⟩,
  ⟨some 69, .mov (.t 1), none⟩,
  ⟨some 70, .call (.c (.fn n_tidelaw15_col [])) [(.t 69)] (some []) true [], none⟩,
  ⟨some 71, .lit ty_api_Expr 6 1 [.int .i64 0, .int .i64 0, .int .i64 0, .str ⟨#[]⟩, .int .i64 0, .sl []] [(0, (.t 70))] false, none⟩,
  ⟨some 72, .mov (.t 2), none⟩,
  ⟨some 73, .mov (.t 3), none⟩,
  ⟨some 74, .mov (.t 16), none⟩,
  ⟨some 75, .call (.c (.fn n_window_Window [])) [(.t 68), (.t 71), (.t 72), (.t 73), (.t 74)] (some []) true [], none⟩,
  ⟨some 67, .mov (.t 75), none⟩,
  ⟨some 76, .ext (.t 67) 0, none⟩,
  ⟨some 77, .ext (.t 67) 1, none⟩,
  ⟨some 18, .mov (.t 76), none⟩,
  ⟨some 15, .mov (.t 77), none⟩])
 (.seq (.reg [⟨some 19, .ntok ty_api_ZRow 2, none⟩])
 (.seq (.seq (.reg [⟨some 78, .mov (.t 14), none⟩,
  ⟨some 79, .len false (.t 78), none⟩,
  ⟨some 80, .mov (.c (.int .i64 0)), none⟩])
 (.block 0 (.seq (.keep [1, 11, 15, 18, 19, 78, 79, 80] [19]) (.loop i_tidelaw15_WindowParts_l0))))
 i_tidelaw15_WindowParts_a0))))))))))⟩
/-! tidelaw15_WindowKeeps -/
/--  -/
abbrev s_tidelaw15_WindowKeeps_r (t10 : A) (x : Sto) : St := ⟨upd (fun _ => .undef) 10 t10, fun _ => none, x⟩
/-- t0 cols, t11 w, t13 p -/
abbrev s_tidelaw15_WindowKeeps_x0 (t0 t11 t13 : A) (x : Sto) : St := ⟨upd (upd (upd (fun _ => .undef) 13 t13) 11 t11) 0 t0, fun _ => none, x⟩
/-- t0 cols, t3 wins, t11 w, t13 p -/
abbrev s_tidelaw15_WindowKeeps_l0 (t0 t3 t11 t13 t42 t43 t44 : A) (x : Sto) : St := ⟨upd (upd (upd (upd (upd (upd (upd (fun _ => .undef) 44 t44) 43 t43) 42 t42) 13 t13) 11 t11) 3 t3) 0 t0, fun _ => none, x⟩
/-- t0 cols, t3 wins, t11 w, t13 p -/
abbrev s_tidelaw15_WindowKeeps_x1 (t0 t3 t11 t13 t42 t43 t44 : A) (x : Sto) : St := ⟨upd (upd (upd (upd (upd (upd (upd (fun _ => .undef) 44 t44) 43 t43) 42 t42) 13 t13) 11 t11) 3 t3) 0 t0, fun _ => none, x⟩
def i_tidelaw15_WindowKeeps_l0 : IC := .seq (.seq (.reg [⟨some 45, .bin .lss (.t 44) (.t 43), none⟩])
 (.seq (.cond (.t 45) .skip (.seq (.keep [0, 11, 13] []) (.exit 0)))
 (.seq (.block 1 (.seq (.seq (.reg [⟨some 46, .idxp (.t 42) (.t 44) 2, none⟩,
  ⟨some 47, .load (.t 46) (some 2), none⟩,
  ⟨some 16, .alloc [.sl [], .int .i64 0], none⟩,
  ⟨none, .store (.t 16) (.t 47) (some 2), none⟩]) (.frz 16 [0, 3, 11, 13, 16, 42, 43, 44] []))
 (.seq (.reg [⟨some 48, .fieldp (.t 16) 0 none, none⟩,
  ⟨some 49, .load (.t 48) none, none⟩,
  ⟨some 50, .len false (.t 49), none⟩,
  ⟨some 51, .mov (.t 0), none⟩,
  ⟨some 52, .len false (.t 51), none⟩,
  ⟨some 53, .mov (.t 3), none⟩,
  ⟨some 54, .len false (.t 53), none⟩,
  ⟨some 55, .bin .add (.t 52) (.t 54), none⟩,
  ⟨some 56, .bin .neq (.t 50) (.t 55), none⟩])
 (.cond (.t 56) (.seq (.reg [⟨some 10, .mov (.c (.bool false)), none⟩])
 (.seq (.keep [10] []) .ret)) .skip))))
 (.reg [⟨some 57, .bin .add (.t 44) (.c (.int .i64 1)), none⟩,
  ⟨some 44, .mov (.t 57), none⟩])))) (.keep [0, 3, 11, 13, 42, 43, 44] [])
def i_tidelaw15_WindowKeeps_a0 : IC := (.seq (.reg [⟨some 58, .mov (.t 11), none⟩,
  ⟨some 59, .mov (.t 0), none⟩,
  ⟨some 60, .len false (.t 59), none⟩,
  ⟨some 61, .call (.c (.fn n_tidelaw15_cut [])) [(.t 58), (.t 60)] (some []) true [], none⟩,
  ⟨some 62, .mov (.t 13), none⟩,
  ⟨some 63, .call (.c (.fn n_tideref2_Same [])) [(.t 61), (.t 62)] (some []) true [], none⟩,
  ⟨some 10, .mov (.t 63), none⟩])
 (.seq (.keep [10] []) .ret))
def i_tidelaw15_WindowKeeps : IFn := ⟨5, [.tmp 10 false],
 (.seq (.reg [⟨some 10, .mov (.c (.bool false)), none⟩])
 (.seq (.seq (.reg [⟨some 17, .call (.c (.fn n_tidelaw15_alive [])) [] (some []) true [], none⟩,
  ⟨some 18, .not (.t 17), none⟩])
 (.cond (.t 18) (.seq (.reg [⟨some 10, .mov (.c (.bool false)), none⟩])
 (.seq (.keep [10] []) .ret)) .skip))
 (.seq (.reg [⟨some 20, .mov (.t 0), none⟩,
  ⟨some 21, .mov (.t 1), none⟩,
  ⟨some 22, .mov (.t 2), none⟩,
  ⟨some 23, .mov (.t 3), none⟩,
  ⟨some 24, .mov (.t 4), none⟩,
  ⟨some 25, .call (.c (.fn n_window_Window [])) [(.t 20), (.t 21), (.t 22), (.t 23), (.t 24)] (some []) true [], none⟩,
  ⟨some 19, .mov (.t 25), none⟩,
  ⟨some 26, .ext (.t 19) 0, none⟩,
  ⟨some 27, .ext (.t 19) 1, none⟩,
  ⟨some 11, .mov (.t 26), none⟩,
  ⟨some 12, .mov (.t 27), none⟩])
 (.seq (.reg [⟨some 29, .mov (.t 4), none⟩,
  ⟨some 30, .call (.c (.fn n_zsets_Positive [])) [(.t 29)] (some []) true [], none⟩,
  ⟨some 28, .mov (.t 30), none⟩,
  ⟨some 31, .ext (.t 28) 0, none⟩,
  ⟨some 32, .ext (.t 28) 1, none⟩,
  ⟨some 13, .mov (.t 31), none⟩,
  ⟨some 14, .mov (.t 32), none⟩])
 (.seq (.seq (.reg [⟨some 33, .mov (.t 12), none⟩,
  ⟨some 34, .bin .neq (.t 33) (.c (.int .i64 0)), none⟩,
  ⟨some 35, .mov (.t 34), none⟩,
  ⟨some 36, .mov (.t 14), some (35, false)⟩,
  ⟨some 37, .bin .neq (.t 36) (.c (.int .i64 0)), some (35, false)⟩,
  ⟨some 38, .pick (.t 35) (.c (.bool true)) (.t 37), none⟩])
 (.cond (.t 38) (.seq (.reg [⟨some 39, .mov (.t 11), none⟩,
  ⟨some 40, .len false (.t 39), none⟩,
  ⟨some 41, .bin .eql (.t 40) (.c (.int .i64 0)), none⟩,
  ⟨some 10, .mov (.t 41), none⟩])
 (.seq (.keep [10] []) .ret)) .skip))
 (.seq (.seq (.reg [⟨some 42, .mov (.t 11), none⟩,
  ⟨some 43, .len false (.t 42), none⟩,
  ⟨some 44, .mov (.c (.int .i64 0)), none⟩])
 (.block 0 (.seq (.keep [0, 3, 11, 13, 42, 43, 44] []) (.loop i_tidelaw15_WindowKeeps_l0))))
 i_tidelaw15_WindowKeeps_a0))))))⟩
/-! tidelaw15_WindowLast -/
/--  -/
abbrev s_tidelaw15_WindowLast_r (t8 : A) (x : Sto) : St := ⟨upd (fun _ => .undef) 8 t8, fun _ => none, x⟩
/--  -/
abbrev s_tidelaw15_WindowLast_x0 (x : Sto) : St := ⟨fun _ => .undef, fun _ => none, x⟩
/-- t0 toArray -/
abbrev s_tidelaw15_WindowLast_l0 (t0 t9 t11 t59 t60 t61 : A) (x : Sto) : St := ⟨upd (upd (upd (upd (upd (upd (fun _ => .undef) 61 t61) 60 t60) 59 t59) 11 t11) 9 t9) 0 t0, fun _ => none, x⟩
/-- t0 toArray -/
abbrev s_tidelaw15_WindowLast_x1 (t0 t9 t11 t59 t60 t61 : A) (x : Sto) : St := ⟨upd (upd (upd (upd (upd (upd (fun _ => .undef) 61 t61) 60 t60) 59 t59) 11 t11) 9 t9) 0 t0, fun _ => none, x⟩
def i_tidelaw15_WindowLast_l0 : IC := .seq (.seq (.reg [⟨some 62, .bin .lss (.t 61) (.t 60), none⟩])
 (.seq (.cond (.t 62) .skip (.seq (.keep [] []) (.exit 0)))
 (.seq (.block 1 (.seq (.seq (.reg [⟨some 63, .idxp (.t 59) (.t 61) 2, none⟩,
  ⟨some 64, .load (.t 63) (some 2), none⟩,
  ⟨some 14, .alloc [.sl [], .int .i64 0], none⟩,
  ⟨none, .store (.t 14) (.t 64) (some 2), none⟩]) (.frz 14 [0, 9, 11, 14, 59, 60, 61] []))
 (.seq (.dreg [⟨some 65, .fieldp (.t 14) 0 none, none⟩,
  ⟨some 66, .load (.t 65) none, none⟩,
  ⟨some 67, .mov (.t 0), none⟩,
  ⟨some 68, .len false (.t 67), none⟩,
  ⟨some 69, .idxp (.t 66) (.t 68) 3, none⟩,
  ⟨some 70, .fieldp (.t 69) 1 none, none⟩,
  ⟨some 71, .load (.t 70) none, none⟩,
  ⟨some 72, .mov (.t 9), none⟩,
  ⟨some 73, .len false (.t 72), none⟩,
  ⟨some 74, .bin .eql (.t 71) (.t 73), none⟩,
  ⟨some 75, .mov (.t 74), none⟩,
  ⟨some 76, .fieldp (.t 14) 0 none, some (75, true)⟩,
  ⟨some 77, .load (.t 76) none, some (75, true)⟩,
  ⟨some 78, .mov (.t 0), some (75, true)⟩,
  ⟨some 79, .len false (.t 78), some (75, true)⟩,
  ⟨some 80, .bin .add (.t 79) (.c (.int .i64 1)), some (75, true)⟩,
  ⟨some 81, .idxp (.t 77) (.t 80) 3, some (75, true)⟩,
  ⟨some 82, .load (.t 81) (some 3), some (75, true)⟩,
  ⟨some 83, .mov (.t 11), some (75, true)⟩,
  ⟨some 84, .idxp (.t 83) (.c (.int .i64 0)) 2, some (75, true)⟩,
  ⟨some 85, .fieldp (.t 84) 0 none, some (75, true)⟩,
  ⟨some 86, .load (.t 85) none, some (75, true)⟩,
  ⟨some 87, .idxp (.t 86) (.c (.int .i64 1)) 3, some (75, true)⟩,
  ⟨some 88, .load (.t 87) (some 3), some (75, true)⟩,
  ⟨some 89, .eqs true [0, 0, 2] (.t 82) (.t 88), some (75, true)⟩,
  ⟨some 90, .pick (.t 75) (.t 89) (.c (.bool false)), none⟩])
 (.cond (.t 90) (.seq (.reg [⟨some 8, .mov (.c (.bool false)), none⟩])
 (.seq (.keep [8] []) .ret)) .skip))))
 (.reg [⟨some 91, .bin .add (.t 61) (.c (.int .i64 1)), none⟩,
  ⟨some 61, .mov (.t 91), none⟩])))) (.keep [0, 9, 11, 59, 60, 61] [])
def i_tidelaw15_WindowLast_a0 : IC := (.seq (.reg [⟨some 8, .mov (.c (.bool true)), none⟩])
 (.seq (.keep [8] []) .ret))
def i_tidelaw15_WindowLast : IFn := ⟨4, [.tmp 8 false],
 (.seq (.reg [⟨some 6, .ibox (.t 2), none⟩,
  ⟨some 8, .mov (.c (.bool false)), none⟩])
 (.seq (.seq (.reg [⟨some 15, .call (.c (.fn n_tidelaw15_alive [])) [] (some []) true [], none⟩,
  ⟨some 16, .not (.t 15), none⟩])
 (.cond (.t 16) (.seq (.reg [⟨some 8, .mov (.c (.bool false)), none⟩])
 (.seq (.keep [8] []) .ret)) .skip))
 (.seq (.reg [⟨some 18, .mov (.t 0), none⟩,
  ⟨some 19, .mov (.t 1), none⟩,
  ⟨some 20, .build [.int .i64 0, .int .i64 0, .int .i64 0, .int .i64 0, .str ⟨#[]⟩, .int .i64 0, .sl []] [(0, 1, (.c (.int .i64 1)))], none⟩,
  ⟨some 21, .load (.t 6) (some 6), none⟩,
  ⟨some 22, .build [.int .i64 0, .int .i64 0, .int .i64 0, .int .i64 0, .str ⟨#[]⟩, .int .i64 0, .sl []] [(0, 1, (.c (.int .i64 4))), (1, 6, (.t 21))], none⟩,
  ⟨some 23, .lit ty_api_Win 7 2 [.int .i64 0, .int .i64 0, .int .i64 0, .int .i64 0, .str ⟨#[]⟩, .int .i64 0, .sl []] [(0, (.t 20)), (1, (.t 22))] false, none⟩,
  ⟨some 24, .mov (.t 3), none⟩,
  ⟨some 25, .call (.c (.fn n_window_Window [])) [(.t 18), (.c (.sl [])), (.t 19), (.t 23), (.t 24)] (some []) true [], none⟩,
  ⟨some 17, .mov (.t 25), none⟩,
  ⟨some 26, .ext (.t 17) 0, none⟩,
  ⟨some 27, .ext (.t 17) 1, none⟩,
  ⟨some 9, .mov (.t 26), none⟩,
  ⟨some 10, .mov (.t 27), none⟩])
 (.seq (.reg [⟨some 29, .mov (.t 0), none⟩,
  ⟨some 30, .build [.int .i64 0, .int .i64 0, .int .i64 0, .int .i64 0, .str ⟨#[]⟩, .int .i64 0, .sl []] [(0, 1, (.c (.int .i64 1)))], none⟩,
  ⟨some 31, .load (.t 6) (some 6), none⟩,
  ⟨some 32, .build [.int .i64 0, .int .i64 0, .int .i64 0, .int .i64 0, .str ⟨#[]⟩, .int .i64 0, .sl []] [(0, 1, (.c (.int .i64 3))), (1, 6, (.t 31))], none⟩,
  ⟨some 33, .lit ty_api_Agg 7 2 [.int .i64 0, .int .i64 0, .int .i64 0, .int .i64 0, .str ⟨#[]⟩, .int .i64 0, .sl []] [(0, (.t 30)), (1, (.t 32))] false, none⟩,
  ⟨some 34, .mov (.t 3), none⟩,
  ⟨some 35, .call (.c (.fn n_ops_Group [])) [(.t 29), (.c (.sl [])), (.t 33), (.t 34)] (some []) true [], none⟩,
  ⟨some 28, .mov (.t 35), none⟩,
  ⟨some 36, .ext (.t 28) 0, none⟩,
  ⟨some 37, .ext (.t 28) 1, none⟩,
  ⟨some 11, .mov (.t 36), none⟩,
  ⟨some 12, .mov (.t 37), none⟩])
 (.seq (.seq (.reg [⟨some 38, .mov (.t 10), none⟩,
  ⟨some 39, .bin .neq (.t 38) (.c (.int .i64 0)), none⟩,
  ⟨some 40, .mov (.t 39), none⟩,
  ⟨some 41, .mov (.t 12), some (40, false)⟩,
  ⟨some 42, .bin .neq (.t 41) (.c (.int .i64 0)), some (40, false)⟩,
  ⟨some 43, .pick (.t 40) (.c (.bool true)) (.t 42), none⟩,
  ⟨some 44, .mov (.t 43), none⟩,
  ⟨some 45, .mov (.t 11), some (44, false)⟩,
  ⟨some 46, .len false (.t 45), some (44, false)⟩,
  ⟨some 47, .bin .neq (.t 46) (.c (.int .i64 1)), some (44, false)⟩,
  ⟨some 48, .pick (.t 44) (.c (.bool true)) (.t 47), none⟩])
 (.cond (.t 48) (.seq (.reg [⟨some 8, .mov (.c (.bool true)), none⟩])
 (.seq (.keep [8] []) .ret)) .skip))
 (.seq (.seq (.dreg [⟨some 49, .mov (.t 11), none⟩,
  ⟨some 50, .idxp (.t 49) (.c (.int .i64 0)) 2, none⟩,
  ⟨some 51, .fieldp (.t 50) 0 none, none⟩,
  ⟨some 52, .load (.t 51) none, none⟩,
  ⟨some 53, .idxp (.t 52) (.c (.int .i64 0)) 3, none⟩,
  ⟨some 54, .load (.t 53) (some 3), none⟩,
  ⟨some 55, .mov (.t 9), none⟩,
  ⟨some 56, .len false (.t 55), none⟩,
  ⟨some 57, .call (.c (.fn n_tidelaw15_num [])) [(.t 56)] (some []) true [], none⟩,
  ⟨some 58, .eqs true [0, 0, 2] (.t 54) (.t 57), none⟩])
 (.cond (.t 58) (.seq (.reg [⟨some 8, .mov (.c (.bool false)), none⟩])
 (.seq (.keep [8] []) .ret)) .skip))
 (.seq (.seq (.reg [⟨some 59, .mov (.t 9), none⟩,
  ⟨some 60, .len false (.t 59), none⟩,
  ⟨some 61, .mov (.c (.int .i64 0)), none⟩])
 (.block 0 (.seq (.keep [0, 9, 11, 59, 60, 61] []) (.loop i_tidelaw15_WindowLast_l0))))
 i_tidelaw15_WindowLast_a0)))))))⟩
/-! tidelaw15_alive -/
/--  -/
abbrev s_tidelaw15_alive_r (t0 : A) (x : Sto) : St := ⟨upd (fun _ => .undef) 0 t0, fun _ => none, x⟩
def i_tidelaw15_alive : IFn := ⟨0, [.tmp 0 false],
 (.seq (.reg [⟨some 0, .mov (.c (.bool false)), none⟩])
 (.seq (.reg [⟨some 4, .call (.c (.fn n_tidelaw15_num [])) [(.c (.int .i64 5))] (some []) true [], none⟩,
  ⟨some 5, .lit ty_api_Val 3 1 [.int .i64 0, .int .i64 0, .str ⟨#[]⟩] [(0, (.t 4))] false, none⟩,
  ⟨some 6, .build [.sl [], .int .i64 0] [(0, 1, (.t 5)), (1, 1, (.c (.int .i64 2)))], none⟩,
  ⟨some 7, .call (.c (.fn n_tidelaw15_num [])) [(.c (.int .i64 7))] (some []) true [], none⟩,
  ⟨some 8, .lit ty_api_Val 3 1 [.int .i64 0, .int .i64 0, .str ⟨#[]⟩] [(0, (.t 7))] false, none⟩,
  ⟨some 9, .build [.sl [], .int .i64 0] [(0, 1, (.t 8)), (1, 1, (.c (.int .i64 1)))], none⟩,
  ⟨some 10, .lit ty_api_ZRow 2 2 [.sl [], .int .i64 0] [(0, (.t 6)), (1, (.t 9))] false, none⟩,
  ⟨some 1, .mov (.t 10), none⟩])
 (.seq (.reg [⟨some 12, .lit ty_int 1 1 [.int .i64 0] [(0, (.c (.int .i64 3)))] false, none⟩,
  ⟨some 13, .call (.c (.fn n_tidelaw15_col [])) [(.c (.int .i64 0))] (some []) true [], none⟩,
  ⟨some 14, .lit ty_api_Expr 6 1 [.int .i64 0, .int .i64 0, .int .i64 0, .str ⟨#[]⟩, .int .i64 0, .sl []] [(0, (.t 13))] false, none⟩,
  ⟨some 15, .build [.int .i64 0, .int .i64 0, .int .i64 0, .int .i64 0, .str ⟨#[]⟩, .int .i64 0, .sl []] [(0, 1, (.c (.int .i64 1)))], none⟩,
  ⟨some 16, .build [.int .i64 0, .int .i64 0, .int .i64 0, .int .i64 0, .str ⟨#[]⟩, .int .i64 0, .sl []] [(0, 1, (.c (.int .i64 2)))], none⟩,
  ⟨some 17, .lit ty_api_Win 7 2 [.int .i64 0, .int .i64 0, .int .i64 0, .int .i64 0, .str ⟨#[]⟩, .int .i64 0, .sl []] [(0, (.t 15)), (1, (.t 16))] false, none⟩,
  ⟨some 18, .mov (.t 1), none⟩,
  ⟨some 19, .call (.c (.fn n_window_Window [])) [(.t 12), (.c (.sl [])), (.t 14), (.t 17), (.t 18)] (some []) true [], none⟩,
  ⟨some 11, .mov (.t 19), none⟩,
  ⟨some 20, .ext (.t 11) 0, none⟩,
  ⟨some 21, .ext (.t 11) 1, none⟩,
  ⟨some 2, .mov (.t 20), none⟩,
  ⟨some 3, .mov (.t 21), none⟩])
 (.seq (.dreg [⟨some 22, .mov (.t 3), none⟩,
  ⟨some 23, .bin .eql (.t 22) (.c (.int .i64 0)), none⟩,
  ⟨some 24, .mov (.t 23), none⟩,
  ⟨some 25, .mov (.t 2), some (24, true)⟩,
  ⟨some 26, .len false (.t 25), some (24, true)⟩,
  ⟨some 27, .bin .eql (.t 26) (.c (.int .i64 3)), some (24, true)⟩,
  ⟨some 28, .pick (.t 24) (.t 27) (.c (.bool false)), none⟩,
  ⟨some 29, .mov (.t 28), none⟩,
  ⟨some 30, .mov (.t 2), some (29, true)⟩,
  ⟨some 31, .idxp (.t 30) (.c (.int .i64 1)) 2, some (29, true)⟩,
  ⟨some 32, .fieldp (.t 31) 0 none, some (29, true)⟩,
  ⟨some 33, .load (.t 32) none, some (29, true)⟩,
  ⟨some 34, .idxp (.t 33) (.c (.int .i64 1)) 3, some (29, true)⟩,
  ⟨some 35, .load (.t 34) (some 3), some (29, true)⟩,
  ⟨some 36, .call (.c (.fn n_tidelaw15_num [])) [(.c (.int .i64 2))] (some []) true [], some (29, true)⟩,
  ⟨some 37, .eqs false [0, 0, 2] (.t 35) (.t 36), some (29, true)⟩,
  ⟨some 38, .pick (.t 29) (.t 37) (.c (.bool false)), none⟩,
  ⟨some 39, .mov (.t 38), none⟩,
  ⟨some 40, .mov (.t 2), some (39, true)⟩,
  ⟨some 41, .idxp (.t 40) (.c (.int .i64 1)) 2, some (39, true)⟩,
  ⟨some 42, .fieldp (.t 41) 0 none, some (39, true)⟩,
  ⟨some 43, .load (.t 42) none, some (39, true)⟩,
  ⟨some 44, .idxp (.t 43) (.c (.int .i64 2)) 3, some (39, true)⟩,
  ⟨some 45, .load (.t 44) (some 3), some (39, true)⟩,
  ⟨some 46, .call (.c (.fn n_tidelaw15_num [])) [(.c (.int .i64 1))] (some []) true [], some (39, true)⟩,
  ⟨some 47, .eqs false [0, 0, 2] (.t 45) (.t 46), some (39, true)⟩,
  ⟨some 48, .pick (.t 39) (.t 47) (.c (.bool false)), none⟩,
  ⟨some 49, .mov (.t 48), none⟩,
  ⟨some 50, .mov (.t 2), some (49, true)⟩,
  ⟨some 51, .idxp (.t 50) (.c (.int .i64 2)) 2, some (49, true)⟩,
  ⟨some 52, .fieldp (.t 51) 0 none, some (49, true)⟩,
  ⟨some 53, .load (.t 52) none, some (49, true)⟩,
  ⟨some 54, .idxp (.t 53) (.c (.int .i64 2)) 3, some (49, true)⟩,
  ⟨some 55, .load (.t 54) (some 3), some (49, true)⟩,
  ⟨some 56, .call (.c (.fn n_tidelaw15_num [])) [(.c (.int .i64 3))] (some []) true [], some (49, true)⟩,
  ⟨some 57, .eqs false [0, 0, 2] (.t 55) (.t 56), some (49, true)⟩,
  ⟨some 58, .pick (.t 49) (.t 57) (.c (.bool false)), none⟩,
  ⟨some 0, .mov (.t 58), none⟩])
 (.seq (.keep [0] []) .ret)))))⟩
/-! window_Window -/
/--  -/
abbrev s_window_Window_r (t10 t11 : A) (x : Sto) : St := ⟨upd (upd (fun _ => .undef) 11 t11) 10 t10, fun _ => none, x⟩
/-- t0 toArray -/
abbrev s_window_Window_x0 (t0 t1 t2 t3 t4 : A) (x : Sto) : St := ⟨upd (upd (upd (upd (upd (fun _ => .undef) 4 t4) 3 t3) 2 t2) 1 t1) 0 t0, fun _ => none, x⟩
/-- t0 toArray -/
abbrev s_window_Window_l0 (t0 t1 t2 t3 t4 t34 t35 t36 : A) (x : Sto) : St := ⟨upd (upd (upd (upd (upd (upd (upd (upd (fun _ => .undef) 36 t36) 35 t35) 34 t34) 4 t4) 3 t3) 2 t2) 1 t1) 0 t0, fun _ => none, x⟩
/-- t0 toArray -/
abbrev s_window_Window_x1 (t0 t1 t2 t3 t4 t34 t35 t36 : A) (x : Sto) : St := ⟨upd (upd (upd (upd (upd (upd (upd (upd (fun _ => .undef) 36 t36) 35 t35) 34 t34) 4 t4) 3 t3) 2 t2) 1 t1) 0 t0, fun _ => none, x⟩
/--  -/
abbrev s_window_Window_x2 (t3 t19 : A) (o19 : Ob) (x : Sto) : St := ⟨upd (upd (fun _ => .undef) 19 t19) 3 t3, updS (fun _ => none) 19 (some o19), x⟩
/--  -/
abbrev s_window_Window_l1 (t1 t2 t3 t19 t65 t66 t67 : A) (o19 : Ob) (x : Sto) : St := ⟨upd (upd (upd (upd (upd (upd (upd (fun _ => .undef) 67 t67) 66 t66) 65 t65) 19 t19) 3 t3) 2 t2) 1 t1, updS (fun _ => none) 19 (some o19), x⟩
/--  -/
abbrev s_window_Window_x3 (t1 t2 t3 t19 t65 t66 t67 : A) (o19 : Ob) (x : Sto) : St := ⟨upd (upd (upd (upd (upd (upd (upd (fun _ => .undef) 67 t67) 66 t66) 65 t65) 19 t19) 3 t3) 2 t2) 1 t1, updS (fun _ => none) 19 (some o19), x⟩
/--  -/
abbrev s_window_Window_x4 (t1 t2 t3 t19 t65 t66 t67 : A) (o19 : Ob) (x : Sto) : St := ⟨upd (upd (upd (upd (upd (upd (upd (fun _ => .undef) 67 t67) 66 t66) 65 t65) 19 t19) 3 t3) 2 t2) 1 t1, updS (fun _ => none) 19 (some o19), x⟩
/--  -/
abbrev s_window_Window_l2 (t1 t2 t3 t19 t21 t65 t66 t67 t73 t74 : A) (o19 : Ob) (x : Sto) : St := ⟨upd (upd (upd (upd (upd (upd (upd (upd (upd (upd (fun _ => .undef) 74 t74) 73 t73) 67 t67) 66 t66) 65 t65) 21 t21) 19 t19) 3 t3) 2 t2) 1 t1, updS (fun _ => none) 19 (some o19), x⟩
/--  -/
abbrev s_window_Window_x5 (t1 t2 t3 t19 t21 t65 t66 t67 t73 t74 : A) (o19 : Ob) (x : Sto) : St := ⟨upd (upd (upd (upd (upd (upd (upd (upd (upd (upd (fun _ => .undef) 74 t74) 73 t73) 67 t67) 66 t66) 65 t65) 21 t21) 19 t19) 3 t3) 2 t2) 1 t1, updS (fun _ => none) 19 (some o19), x⟩
/--  -/
abbrev s_window_Window_x6 (t22 : A) (o22 : Ob) (x : Sto) : St := ⟨upd (fun _ => .undef) 22 t22, updS (fun _ => none) 22 (some o22), x⟩
/--  -/
abbrev s_window_Window_l3 (t3 t19 t22 t23 t98 t99 t100 : A) (o19 o22 o125 o128 o130 : Ob) (x : Sto) : St := ⟨upd (upd (upd (upd (upd (upd (upd (fun _ => .undef) 100 t100) 99 t99) 98 t98) 23 t23) 22 t22) 19 t19) 3 t3, updS (updS (updS (updS (updS (fun _ => none) 130 (some o130)) 128 (some o128)) 125 (some o125)) 22 (some o22)) 19 (some o19), x⟩
/--  -/
abbrev s_window_Window_x7 (t3 t19 t22 t23 t98 t99 t100 : A) (o19 o22 o125 o128 o130 : Ob) (x : Sto) : St := ⟨upd (upd (upd (upd (upd (upd (upd (fun _ => .undef) 100 t100) 99 t99) 98 t98) 23 t23) 22 t22) 19 t19) 3 t3, updS (updS (updS (updS (updS (fun _ => none) 130 (some o130)) 128 (some o128)) 125 (some o125)) 22 (some o22)) 19 (some o19), x⟩
def i_window_Window_l0 : IC := .seq (.seq (.reg [⟨some 37, .bin .lss (.t 36) (.t 35), none⟩])
 (.seq (.cond (.t 37) .skip (.seq (.keep [0, 1, 2, 3, 4] []) (.exit 0)))
 (.seq (.block 1 (.seq (.reg [⟨some 38, .idxp (.t 34) (.t 36) 1, none⟩,
  ⟨some 39, .load (.t 38) none, none⟩,
  ⟨some 13, .mov (.t 39), none⟩])
 (.seq (.reg [⟨some 41, .mov (.t 0), none⟩,
  ⟨some 42, .mov (.t 13), none⟩,
  ⟨some 43, .call (.c (.fn n_ops_Types [])) [(.t 41), (.t 42)] (some []) true [], none⟩,
  ⟨some 40, .mov (.t 43), none⟩,
  ⟨some 44, .ext (.t 40) 0, none⟩,
  ⟨some 45, .ext (.t 40) 1, none⟩,
  ⟨some 14, .mov (.t 44), none⟩,
  ⟨some 15, .mov (.t 45), none⟩])
 (.seq (.reg [⟨some 46, .mov (.t 15), none⟩,
  ⟨some 47, .bin .neq (.t 46) (.c (.int .i64 0)), none⟩])
 (.cond (.t 47) (.seq (.reg [⟨some 48, .mov (.t 15), none⟩,
  ⟨some 10, .mov (.c (.sl [])), none⟩,
  ⟨some 11, .mov (.t 48), none⟩])
 (.seq (.keep [10, 11] []) .ret)) .skip)))))
 (.reg [⟨some 49, .bin .add (.t 36) (.c (.int .i64 1)), none⟩,
  ⟨some 36, .mov (.t 49), none⟩])))) (.keep [0, 1, 2, 3, 4, 34, 35, 36] [])
def i_window_Window_l2 : IC := .seq (.seq (.reg [⟨some 75, .bin .lss (.t 74) (.t 73), none⟩])
 (.seq (.cond (.t 75) .skip (.seq (.keep [1, 2, 3, 19, 65, 66, 67] [19]) (.exit 4)))
 (.seq (.block 5 (.seq (.seq (.reg [⟨some 76, .mov (.t 19), none⟩,
  ⟨some 77, .len false (.t 76), none⟩,
  ⟨some 78, .bin .eql (.t 77) (.c (.int .i64 400)), none⟩])
 (.cond (.t 78) (.seq (.reg [⟨some 10, .mov (.c (.sl [])), none⟩,
  ⟨some 11, .mov (.c (.int .i64 5)), none⟩])
 (.seq (.keep [10, 11] []) .ret)) .skip))
 (.dreg [⟨some 79, .mov (.t 19), none⟩,
  ⟨some 80, .mov (.t 1), none⟩,
  ⟨some 81, .fieldp (.t 21) 0 none, none⟩,
  ⟨some 82, .load (.t 81) none, none⟩,
  ⟨some 83, .call (.c (.fn n_ops_Values [])) [(.t 80), (.t 82)] (some []) true [], none⟩,
  ⟨some 84, .mov (.t 2), none⟩,
  ⟨some 85, .fieldp (.t 21) 0 none, none⟩,
  ⟨some 86, .load (.t 85) none, none⟩,
  ⟨some 87, .call (.c (.fn n_ops_Values [])) [(.t 84), (.t 86)] (some []) true [], none⟩,
  ⟨some 88, .fieldp (.t 21) 0 none, none⟩,
  ⟨some 89, .load (.t 88) none, none⟩,
  ⟨some 90, .build [.sl [], .sl [], .sl []] [(0, 1, (.t 83)), (1, 1, (.t 87)), (2, 1, (.t 89))], none⟩,
  ⟨some 91, .ibox (.t 90), none⟩,
  ⟨some 92, .lit ty_P_window_line 1 1 [.nilp] [(0, (.t 91))] false, none⟩,
  ⟨some 93, .app (.t 79) (.t 92) ty_P_window_line 1 8, none⟩,
  ⟨some 19, .mov (.t 93), none⟩])))
 (.reg [⟨some 94, .bin .add (.t 74) (.c (.int .i64 1)), none⟩,
  ⟨some 74, .mov (.t 94), none⟩])))) (.keep [1, 2, 3, 19, 21, 65, 66, 67, 73, 74] [19])
def i_window_Window_a0 : IC := (.reg [⟨some 95, .bin .add (.t 67) (.c (.int .i64 1)), none⟩,
  ⟨some 67, .mov (.t 95), none⟩])
def i_window_Window_l1 : IC := .seq (.seq (.reg [⟨some 68, .bin .lss (.t 67) (.t 66), none⟩])
 (.seq (.cond (.t 68) .skip (.seq (.keep [3, 19] [19]) (.exit 2)))
 (.seq (.block 3 (.seq (.seq (.reg [⟨some 69, .idxp (.t 65) (.t 67) 2, none⟩,
  ⟨some 70, .load (.t 69) (some 2), none⟩,
  ⟨some 21, .alloc [.sl [], .int .i64 0], none⟩,
  ⟨none, .store (.t 21) (.t 70) (some 2), none⟩]) (.frz 21 [1, 2, 3, 19, 21, 65, 66, 67] [19]))
 (.seq (.reg [⟨some 71, .fieldp (.t 21) 1 none, none⟩,
  ⟨some 72, .load (.t 71) none, none⟩,
  ⟨some 73, .minmax true (.t 72) (.c (.int .i64 0)), none⟩,
  ⟨some 74, .mov (.c (.int .i64 0)), none⟩])
 (.block 4 (.seq (.keep [1, 2, 3, 19, 21, 65, 66, 67, 73, 74] [19]) (.loop i_window_Window_l2))))))
 i_window_Window_a0))) (.keep [1, 2, 3, 19, 65, 66, 67] [19])
def i_window_Window_l3 : IC := .seq (.seq (.reg [⟨some 101, .bin .lss (.t 100) (.t 99), none⟩])
 (.seq (.cond (.t 101) .skip (.seq (.keep [22] [22]) (.exit 6)))
 (.seq (.block 7 (.seq (.reg [⟨some 102, .mov (.t 100), none⟩,
  ⟨some 103, .idxp (.t 98) (.t 100) 1, none⟩,
  ⟨some 104, .load (.t 103) none, none⟩,
  ⟨some 24, .mov (.t 102), none⟩,
  ⟨some 25, .mov (.t 104), none⟩])
 (.seq (.seq (.seq (.dreg [⟨some 105, .mov (.t 24), none⟩,
  ⟨some 106, .bin .eql (.t 105) (.c (.int .i64 0)), none⟩,
  ⟨some 107, .mov (.t 106), none⟩,
  ⟨some 108, .mov (.t 19), some (107, false)⟩,
  ⟨some 109, .mov (.t 24), some (107, false)⟩,
  ⟨some 110, .bin .sub (.t 109) (.c (.int .i64 1)), some (107, false)⟩,
  ⟨some 111, .idxp (.t 108) (.t 110) 1, some (107, false)⟩,
  ⟨some 112, .load (.t 111) none, some (107, false)⟩,
  ⟨some 113, .nilchk (.t 112), some (107, false)⟩,
  ⟨some 114, .fieldp (.t 113) 0 none, some (107, false)⟩,
  ⟨some 115, .load (.t 114) none, some (107, false)⟩,
  ⟨some 116, .mov (.t 25), some (107, false)⟩,
  ⟨some 117, .nilchk (.t 116), some (107, false)⟩,
  ⟨some 118, .fieldp (.t 117) 0 none, some (107, false)⟩,
  ⟨some 119, .load (.t 118) none, some (107, false)⟩,
  ⟨some 120, .call (.c (.fn n_vals_Rows [])) [(.t 115), (.t 119)] (some []) true [], some (107, false)⟩,
  ⟨some 121, .bin .neq (.t 120) (.c (.int .i64 0)), some (107, false)⟩,
  ⟨some 122, .pick (.t 107) (.c (.bool true)) (.t 121), none⟩])
 (.cond (.t 122) (.seq (.keep [3, 19, 22, 25, 98, 99, 100] [19, 22]) (.dreg [⟨some 123, .mov (.t 3), none⟩,
  ⟨some 124, .len false (.t 123), none⟩,
  ⟨some 125, .mkrow ty_int64 1 8 [.int .i64 0] (.t 124), none⟩,
  ⟨some 126, .mov (.t 3), none⟩,
  ⟨some 127, .len false (.t 126), none⟩,
  ⟨some 128, .mkrow ty_bool 1 1 [.bool false] (.t 127), none⟩,
  ⟨some 129, .build [.int .i64 0, .int .i64 0, .int .i64 0, .sl [], .sl [], .nilp] [(3, 1, (.t 125)), (4, 1, (.t 128))], none⟩,
  ⟨some 130, .box (.t 129), none⟩,
  ⟨some 23, .mov (.t 130), none⟩])) .skip)) (.keep [3, 19, 22, 23, 25, 98, 99, 100] [19, 22, 125, 128, 130]))
 (.reg [⟨some 131, .mov (.t 22), none⟩,
  ⟨some 132, .mov (.t 23), none⟩,
  ⟨some 133, .mov (.t 3), none⟩,
  ⟨some 134, .mov (.t 25), none⟩,
  ⟨some 135, .call (.c (.fn n_window_teller_tell [])) [(.t 132), (.t 133), (.t 134)] (some [.L 125, .L 128, .L 130]) false [], none⟩,
  ⟨some 136, .build [.sl [], .int .i64 0] [(0, 1, (.t 135)), (1, 1, (.c (.int .i64 1)))], none⟩,
  ⟨some 137, .lit ty_api_ZRow 2 1 [.sl [], .int .i64 0] [(0, (.t 136))] false, none⟩,
  ⟨some 138, .app (.t 131) (.t 137) ty_api_ZRow 2 32, none⟩,
  ⟨some 22, .mov (.t 138), none⟩]))))
 (.reg [⟨some 139, .bin .add (.t 100) (.c (.int .i64 1)), none⟩,
  ⟨some 100, .mov (.t 139), none⟩])))) (.keep [3, 19, 22, 23, 98, 99, 100] [19, 22, 125, 128, 130])
def i_window_Window_a1 : IC := (.seq (.reg [⟨some 140, .mov (.t 22), none⟩,
  ⟨some 141, .call (.c (.fn n_zsets_Sum [])) [(.t 140)] (some []) true [], none⟩,
  ⟨some 142, .ext (.t 141) 0, none⟩,
  ⟨some 143, .ext (.t 141) 1, none⟩,
  ⟨some 10, .mov (.t 142), none⟩,
  ⟨some 11, .mov (.t 143), none⟩])
 (.seq (.keep [10, 11] []) .ret))
def i_window_Window_a2 : IC := (.seq (.reg [⟨some 96, .mov (.t 19), none⟩,
  ⟨some 97, .call (.c (.fn n_slices_SortStableFunc__P_window_line [])) [(.t 96), (.c (.fn n_window_Window_1 []))] (some [.L 19]) false [], none⟩])
 (.seq (.reg [⟨some 22, .ntok ty_api_ZRow 2, none⟩])
 (.seq (.reg [⟨some 23, .mov (.c .nilp), none⟩])
 (.seq (.seq (.reg [⟨some 98, .mov (.t 19), none⟩,
  ⟨some 99, .len false (.t 98), none⟩,
  ⟨some 100, .mov (.c (.int .i64 0)), none⟩])
 (.block 6 (.seq (.keep [3, 19, 22, 23, 98, 99, 100] [19, 22, 125, 128, 130]) (.loop i_window_Window_l3))))
 i_window_Window_a1))))
def i_window_Window_a3 : IC := (.seq (.seq (.reg [⟨some 51, .mov (.t 0), none⟩,
  ⟨some 52, .mov (.t 3), none⟩,
  ⟨some 53, .call (.c (.fn n_window_Types [])) [(.t 51), (.t 52)] (some []) true [], none⟩,
  ⟨some 50, .mov (.t 53), none⟩,
  ⟨some 54, .ext (.t 50) 0, none⟩,
  ⟨some 55, .ext (.t 50) 1, none⟩,
  ⟨some 16, .mov (.t 54), none⟩,
  ⟨some 17, .mov (.t 55), none⟩])
 (.seq (.reg [⟨some 56, .mov (.t 17), none⟩,
  ⟨some 57, .bin .neq (.t 56) (.c (.int .i64 0)), none⟩])
 (.cond (.t 57) (.seq (.reg [⟨some 58, .mov (.t 17), none⟩,
  ⟨some 10, .mov (.c (.sl [])), none⟩,
  ⟨some 11, .mov (.t 58), none⟩])
 (.seq (.keep [10, 11] []) .ret)) .skip)))
 (.seq (.seq (.reg [⟨some 59, .mov (.t 0), none⟩,
  ⟨some 60, .mov (.t 4), none⟩,
  ⟨some 61, .call (.c (.fn n_ops_Input [])) [(.t 59), (.t 60)] (some []) true [], none⟩,
  ⟨some 18, .mov (.t 61), none⟩])
 (.seq (.reg [⟨some 62, .mov (.t 18), none⟩,
  ⟨some 63, .bin .neq (.t 62) (.c (.int .i64 0)), none⟩])
 (.cond (.t 63) (.seq (.reg [⟨some 64, .mov (.t 18), none⟩,
  ⟨some 10, .mov (.c (.sl [])), none⟩,
  ⟨some 11, .mov (.t 64), none⟩])
 (.seq (.keep [10, 11] []) .ret)) .skip)))
 (.seq (.reg [⟨some 19, .nrow ty_P_window_line 1, none⟩])
 (.seq (.seq (.reg [⟨some 65, .mov (.t 4), none⟩,
  ⟨some 66, .len false (.t 65), none⟩,
  ⟨some 67, .mov (.c (.int .i64 0)), none⟩])
 (.block 2 (.seq (.keep [1, 2, 3, 19, 65, 66, 67] [19]) (.loop i_window_Window_l1))))
 i_window_Window_a2))))
def i_window_Window : IFn := ⟨5, [.tmp 10 false, .tmp 11 false],
 (.seq (.reg [⟨some 10, .mov (.c (.sl [])), none⟩,
  ⟨some 11, .mov (.c (.int .i64 0)), none⟩])
 (.seq (.seq (.reg [⟨some 26, .mov (.t 0), none⟩,
  ⟨some 27, .len false (.t 26), none⟩,
  ⟨some 28, .mov (.t 3), none⟩,
  ⟨some 29, .len false (.t 28), none⟩,
  ⟨some 30, .bin .add (.t 27) (.t 29), none⟩,
  ⟨some 31, .bin .gtr (.t 30) (.c (.int .i64 8)), none⟩])
 (.cond (.t 31) (.seq (.reg [⟨some 10, .mov (.c (.sl [])), none⟩,
  ⟨some 11, .mov (.c (.int .i64 5)), none⟩])
 (.seq (.keep [10, 11] []) .ret)) .skip))
 (.seq (.seq (.reg [⟨some 32, .mov (.t 1), none⟩,
  ⟨some 33, .mov (.t 2), none⟩,
  ⟨some 34, .lit ty_L_api_Expr 1 2 [.sl []] [(0, (.t 32)), (1, (.t 33))] false, none⟩,
  ⟨some 35, .len false (.t 34), none⟩,
  ⟨some 36, .mov (.c (.int .i64 0)), none⟩])
 (.block 0 (.seq (.keep [0, 1, 2, 3, 4, 34, 35, 36] []) (.loop i_window_Window_l0))))
 i_window_Window_a3)))⟩
/-! tidelaw15_col -/
/--  -/
abbrev s_tidelaw15_col_r (t2 : A) (o2 : Ob) (x : Sto) : St := ⟨upd (fun _ => .undef) 2 t2, updS (fun _ => none) 2 (some o2), x⟩
def i_tidelaw15_col : IFn := ⟨1, [.cell 2 (some 6)],
 (.seq (.reg [⟨some 2, .alloc [.int .i64 0, .int .i64 0, .int .i64 0, .str ⟨#[]⟩, .int .i64 0, .sl []], none⟩])
 (.seq (.reg [⟨some 3, .mov (.t 0), none⟩,
  ⟨some 4, .build [.int .i64 0, .int .i64 0, .int .i64 0, .str ⟨#[]⟩, .int .i64 0, .sl []] [(0, 1, (.c (.int .i64 2))), (4, 1, (.t 3))], none⟩,
  ⟨none, .store (.t 2) (.t 4) (some 6), none⟩])
 (.seq (.keep [2] [2]) .ret)))⟩
/-! ops_Filter -/
/--  -/
abbrev s_ops_Filter_r (t6 t7 : A) (x : Sto) : St := ⟨upd (upd (fun _ => .undef) 7 t7) 6 t6, fun _ => none, x⟩
/-- t9 out -/
abbrev s_ops_Filter_x0 (t9 : A) (o9 : Ob) (x : Sto) : St := ⟨upd (fun _ => .undef) 9 t9, updS (fun _ => none) 9 (some o9), x⟩
/-- t4 x, t9 out -/
abbrev s_ops_Filter_l0 (t4 t9 t23 t24 t25 : A) (o9 : Ob) (x : Sto) : St := ⟨upd (upd (upd (upd (upd (fun _ => .undef) 25 t25) 24 t24) 23 t23) 9 t9) 4 t4, updS (fun _ => none) 9 (some o9), x⟩
/-- t4 x, t9 out -/
abbrev s_ops_Filter_x1 (t4 t9 t23 t24 t25 : A) (o9 : Ob) (x : Sto) : St := ⟨upd (upd (upd (upd (upd (fun _ => .undef) 25 t25) 24 t24) 23 t23) 9 t9) 4 t4, updS (fun _ => none) 9 (some o9), x⟩
def i_ops_Filter_l0 : IC := .seq (.seq (.reg [⟨some 26, .bin .lss (.t 25) (.t 24), none⟩])
 (.seq (.cond (.t 26) .skip (.seq (.keep [9] [9]) (.exit 0)))
 (.seq (.seq (.block 1 (.seq (.seq (.reg [⟨some 27, .idxp (.t 23) (.t 25) 2, none⟩,
  ⟨some 28, .load (.t 27) (some 2), none⟩,
  ⟨some 11, .alloc [.sl [], .int .i64 0], none⟩,
  ⟨none, .store (.t 11) (.t 28) (some 2), none⟩]) (.frz 11 [4, 9, 11, 23, 24, 25] [9]))
 (.seq (.reg [⟨some 29, .fieldp (.t 11) 0 none, none⟩,
  ⟨some 30, .load (.t 29) none, none⟩,
  ⟨some 31, .call (.c (.fn n_exprs_Of [])) [(.t 4), (.t 30)] (some []) true [], none⟩,
  ⟨some 32, .call (.c (.fn n_vals_True [])) [(.t 31)] (some []) true [], none⟩])
 (.cond (.t 32) (.reg [⟨some 33, .mov (.t 9), none⟩,
  ⟨some 34, .load (.t 11) (some 2), none⟩,
  ⟨some 35, .lit ty_api_ZRow 2 1 [.sl [], .int .i64 0] [(0, (.t 34))] false, none⟩,
  ⟨some 36, .app (.t 33) (.t 35) ty_api_ZRow 2 32, none⟩,
  ⟨some 9, .mov (.t 36), none⟩]) .skip)))) (.keep [4, 9, 23, 24, 25] [9]))
 (.reg [⟨some 37, .bin .add (.t 25) (.c (.int .i64 1)), none⟩,
  ⟨some 25, .mov (.t 37), none⟩])))) (.keep [4, 9, 23, 24, 25] [9])
def i_ops_Filter_a0 : IC := (.seq (.reg [⟨some 38, .mov (.t 9), none⟩,
  ⟨some 39, .call (.c (.fn n_zsets_Sum [])) [(.t 38)] (some []) true [], none⟩,
  ⟨some 40, .ext (.t 39) 0, none⟩,
  ⟨some 41, .ext (.t 39) 1, none⟩,
  ⟨some 6, .mov (.t 40), none⟩,
  ⟨some 7, .mov (.t 41), none⟩])
 (.seq (.keep [6, 7] []) .ret))
def i_ops_Filter : IFn := ⟨3, [.tmp 6 false, .tmp 7 false],
 (.seq (.reg [⟨some 4, .ibox (.t 1), none⟩,
  ⟨some 6, .mov (.c (.sl [])), none⟩,
  ⟨some 7, .mov (.c (.int .i64 0)), none⟩])
 (.seq (.seq (.reg [⟨some 12, .mov (.t 0), none⟩,
  ⟨some 13, .load (.t 4) (some 6), none⟩,
  ⟨some 14, .call (.c (.fn n_ops_truth [])) [(.t 12), (.t 13)] (some []) true [], none⟩,
  ⟨some 15, .mov (.t 0), none⟩,
  ⟨some 16, .mov (.t 2), none⟩,
  ⟨some 17, .call (.c (.fn n_ops_Input [])) [(.t 15), (.t 16)] (some []) true [], none⟩,
  ⟨some 18, .lit ty_api_Errno 1 2 [.int .i64 0] [(0, (.t 14)), (1, (.t 17))] false, none⟩,
  ⟨some 19, .call (.c (.fn n_cmp_Or__api_Errno [])) [(.t 18)] (some []) true [], none⟩,
  ⟨some 8, .mov (.t 19), none⟩])
 (.seq (.reg [⟨some 20, .mov (.t 8), none⟩,
  ⟨some 21, .bin .neq (.t 20) (.c (.int .i64 0)), none⟩])
 (.cond (.t 21) (.seq (.reg [⟨some 22, .mov (.t 8), none⟩,
  ⟨some 6, .mov (.c (.sl [])), none⟩,
  ⟨some 7, .mov (.t 22), none⟩])
 (.seq (.keep [6, 7] []) .ret)) .skip)))
 (.seq (.reg [⟨some 9, .ntok ty_api_ZRow 2, none⟩])
 (.seq (.seq (.reg [⟨some 23, .mov (.t 2), none⟩,
  ⟨some 24, .len false (.t 23), none⟩,
  ⟨some 25, .mov (.c (.int .i64 0)), none⟩])
 (.block 0 (.seq (.keep [4, 9, 23, 24, 25] [9]) (.loop i_ops_Filter_l0))))
 i_ops_Filter_a0))))⟩
/-! tideref1_Is -/
/--  -/
abbrev s_tideref1_Is_r (t4 : A) (x : Sto) : St := ⟨upd (fun _ => .undef) 4 t4, fun _ => none, x⟩
def i_tideref1_Is : IFn := ⟨2, [.tmp 4 false],
 (.seq (.reg [⟨some 2, .ibox (.t 0), none⟩,
  ⟨some 4, .mov (.c (.bool false)), none⟩])
 (.seq (.reg [⟨some 5, .fieldp (.t 2) 0 none, none⟩,
  ⟨some 6, .load (.t 5) none, none⟩,
  ⟨some 7, .bin .eql (.t 6) (.c (.int .i64 2)), none⟩,
  ⟨some 8, .mov (.t 7), none⟩,
  ⟨some 9, .fieldp (.t 2) 1 none, some (8, true)⟩,
  ⟨some 10, .load (.t 9) none, some (8, true)⟩,
  ⟨some 11, .bin .eql (.t 10) (.c (.int .i64 1)), some (8, true)⟩,
  ⟨some 12, .mov (.t 1), some (8, true)⟩,
  ⟨some 13, .beq false (.t 11) (.t 12), some (8, true)⟩,
  ⟨some 14, .pick (.t 8) (.t 13) (.c (.bool false)), none⟩,
  ⟨some 4, .mov (.t 14), none⟩])
 (.seq (.keep [4] []) .ret)))⟩
/-! tideref1_Equal -/
/--  -/
abbrev s_tideref1_Equal_r (t4 : A) (o4 : Ob) (x : Sto) : St := ⟨upd (fun _ => .undef) 4 t4, updS (fun _ => none) 4 (some o4), x⟩
def i_tideref1_Equal : IFn := ⟨2, [.cell 4 (some 3)],
 (.seq (.reg [⟨some 2, .ibox (.t 0), none⟩,
  ⟨some 3, .ibox (.t 1), none⟩,
  ⟨some 4, .alloc [.int .i64 0, .int .i64 0, .str ⟨#[]⟩], none⟩])
 (.seq (.seq (.reg [⟨some 5, .fieldp (.t 2) 0 none, none⟩,
  ⟨some 6, .load (.t 5) none, none⟩,
  ⟨some 7, .fieldp (.t 3) 0 none, none⟩,
  ⟨some 8, .load (.t 7) none, none⟩,
  ⟨some 9, .bin .neq (.t 6) (.t 8), none⟩,
  ⟨some 10, .mov (.t 9), none⟩,
  ⟨some 11, .fieldp (.t 2) 0 none, some (10, false)⟩,
  ⟨some 12, .load (.t 11) none, some (10, false)⟩,
  ⟨some 13, .bin .eql (.t 12) (.c (.int .i64 1)), some (10, false)⟩,
  ⟨some 14, .pick (.t 10) (.c (.bool true)) (.t 13), none⟩])
 (.cond (.t 14) (.seq (.reg [⟨some 15, .call (.c (.fn n_tideref1_Null [])) [] (some []) true [], none⟩,
  ⟨none, .store (.t 4) (.t 15) (some 3), none⟩])
 (.seq (.keep [4] [4]) .ret)) .skip))
 (.seq (.reg [⟨some 16, .load (.t 2) (some 3), none⟩,
  ⟨some 17, .load (.t 3) (some 3), none⟩,
  ⟨some 18, .call (.c (.fn n_tideref1_Order [])) [(.t 16), (.t 17)] (some []) true [], none⟩,
  ⟨some 19, .bin .eql (.t 18) (.c (.int .i64 0)), none⟩,
  ⟨some 20, .call (.c (.fn n_tideref1_Truth [])) [(.t 19)] (some []) true [], none⟩,
  ⟨none, .store (.t 4) (.t 20) (some 3), none⟩])
 (.seq (.keep [4] [4]) .ret))))⟩
/-! tideref2_Same -/
/--  -/
abbrev s_tideref2_Same_r (t4 : A) (x : Sto) : St := ⟨upd (fun _ => .undef) 4 t4, fun _ => none, x⟩
/--  -/
abbrev s_tideref2_Same_x0 (x : Sto) : St := ⟨fun _ => .undef, fun _ => none, x⟩
/-- t0 toArray -/
abbrev s_tideref2_Same_l0 (t0 t1 t13 t14 : A) (x : Sto) : St := ⟨upd (upd (upd (upd (fun _ => .undef) 14 t14) 13 t13) 1 t1) 0 t0, fun _ => none, x⟩
/-- t0 toArray -/
abbrev s_tideref2_Same_x1 (t0 t1 t13 t14 : A) (x : Sto) : St := ⟨upd (upd (upd (upd (fun _ => .undef) 14 t14) 13 t13) 1 t1) 0 t0, fun _ => none, x⟩
/-- t0 toArray -/
abbrev s_tideref2_Same_x2 (t0 t1 t13 t14 : A) (x : Sto) : St := ⟨upd (upd (upd (upd (fun _ => .undef) 14 t14) 13 t13) 1 t1) 0 t0, fun _ => none, x⟩
/-- t0 toArray -/
abbrev s_tideref2_Same_l1 (t0 t1 t5 t13 t14 t48 t49 : A) (x : Sto) : St := ⟨upd (upd (upd (upd (upd (upd (upd (fun _ => .undef) 49 t49) 48 t48) 14 t14) 13 t13) 5 t5) 1 t1) 0 t0, fun _ => none, x⟩
/-- t0 toArray -/
abbrev s_tideref2_Same_x3 (t0 t1 t5 t13 t14 t48 t49 : A) (x : Sto) : St := ⟨upd (upd (upd (upd (upd (upd (upd (fun _ => .undef) 49 t49) 48 t48) 14 t14) 13 t13) 5 t5) 1 t1) 0 t0, fun _ => none, x⟩
def i_tideref2_Same_l1 : IC := .seq (.seq (.reg [⟨some 50, .bin .lss (.t 49) (.t 48), none⟩])
 (.seq (.cond (.t 50) .skip (.seq (.keep [0, 1, 13, 14] []) (.exit 2)))
 (.seq (.block 3 (.seq (.reg [⟨some 51, .mov (.t 49), none⟩,
  ⟨some 6, .mov (.t 51), none⟩])
 (.seq (.dreg [⟨some 52, .mov (.t 0), none⟩,
  ⟨some 53, .mov (.t 5), none⟩,
  ⟨some 54, .idxp (.t 52) (.t 53) 2, none⟩,
  ⟨some 55, .fieldp (.t 54) 0 none, none⟩,
  ⟨some 56, .load (.t 55) none, none⟩,
  ⟨some 57, .mov (.t 6), none⟩,
  ⟨some 58, .idxp (.t 56) (.t 57) 3, none⟩,
  ⟨some 59, .load (.t 58) (some 3), none⟩,
  ⟨some 60, .mov (.t 1), none⟩,
  ⟨some 61, .mov (.t 5), none⟩,
  ⟨some 62, .idxp (.t 60) (.t 61) 2, none⟩,
  ⟨some 63, .fieldp (.t 62) 0 none, none⟩,
  ⟨some 64, .load (.t 63) none, none⟩,
  ⟨some 65, .mov (.t 6), none⟩,
  ⟨some 66, .idxp (.t 64) (.t 65) 3, none⟩,
  ⟨some 67, .load (.t 66) (some 3), none⟩,
  ⟨some 68, .eqs true [0, 0, 2] (.t 59) (.t 67), none⟩])
 (.cond (.t 68) (.seq (.reg [⟨some 4, .mov (.c (.bool false)), none⟩])
 (.seq (.keep [4] []) .ret)) .skip))))
 (.reg [⟨some 69, .bin .add (.t 49) (.c (.int .i64 1)), none⟩,
  ⟨some 49, .mov (.t 69), none⟩])))) (.keep [0, 1, 5, 13, 14, 48, 49] [])
def i_tideref2_Same_a0 : IC := (.reg [⟨some 70, .bin .add (.t 14) (.c (.int .i64 1)), none⟩,
  ⟨some 14, .mov (.t 70), none⟩])
def i_tideref2_Same_l0 : IC := .seq (.seq (.reg [⟨some 15, .bin .lss (.t 14) (.t 13), none⟩])
 (.seq (.cond (.t 15) .skip (.seq (.keep [] []) (.exit 0)))
 (.seq (.block 1 (.seq (.reg [⟨some 16, .mov (.t 14), none⟩,
  ⟨some 5, .mov (.t 16), none⟩])
 (.seq (.seq (.dreg [⟨some 17, .mov (.t 0), none⟩,
  ⟨some 18, .mov (.t 5), none⟩,
  ⟨some 19, .idxp (.t 17) (.t 18) 2, none⟩,
  ⟨some 20, .fieldp (.t 19) 1 none, none⟩,
  ⟨some 21, .load (.t 20) none, none⟩,
  ⟨some 22, .mov (.t 1), none⟩,
  ⟨some 23, .mov (.t 5), none⟩,
  ⟨some 24, .idxp (.t 22) (.t 23) 2, none⟩,
  ⟨some 25, .fieldp (.t 24) 1 none, none⟩,
  ⟨some 26, .load (.t 25) none, none⟩,
  ⟨some 27, .bin .neq (.t 21) (.t 26), none⟩,
  ⟨some 28, .mov (.t 27), none⟩,
  ⟨some 29, .mov (.t 0), some (28, false)⟩,
  ⟨some 30, .mov (.t 5), some (28, false)⟩,
  ⟨some 31, .idxp (.t 29) (.t 30) 2, some (28, false)⟩,
  ⟨some 32, .fieldp (.t 31) 0 none, some (28, false)⟩,
  ⟨some 33, .load (.t 32) none, some (28, false)⟩,
  ⟨some 34, .len false (.t 33), some (28, false)⟩,
  ⟨some 35, .mov (.t 1), some (28, false)⟩,
  ⟨some 36, .mov (.t 5), some (28, false)⟩,
  ⟨some 37, .idxp (.t 35) (.t 36) 2, some (28, false)⟩,
  ⟨some 38, .fieldp (.t 37) 0 none, some (28, false)⟩,
  ⟨some 39, .load (.t 38) none, some (28, false)⟩,
  ⟨some 40, .len false (.t 39), some (28, false)⟩,
  ⟨some 41, .bin .neq (.t 34) (.t 40), some (28, false)⟩,
  ⟨some 42, .pick (.t 28) (.c (.bool true)) (.t 41), none⟩])
 (.cond (.t 42) (.seq (.reg [⟨some 4, .mov (.c (.bool false)), none⟩])
 (.seq (.keep [4] []) .ret)) .skip))
 (.seq (.reg [⟨some 43, .mov (.t 0), none⟩,
  ⟨some 44, .mov (.t 5), none⟩,
  ⟨some 45, .idxp (.t 43) (.t 44) 2, none⟩,
  ⟨some 46, .fieldp (.t 45) 0 none, none⟩,
  ⟨some 47, .load (.t 46) none, none⟩,
  ⟨some 48, .len false (.t 47), none⟩,
  ⟨some 49, .mov (.c (.int .i64 0)), none⟩])
 (.block 2 (.seq (.keep [0, 1, 5, 13, 14, 48, 49] []) (.loop i_tideref2_Same_l1)))))))
 i_tideref2_Same_a0))) (.keep [0, 1, 13, 14] [])
def i_tideref2_Same_a1 : IC := (.seq (.reg [⟨some 4, .mov (.c (.bool true)), none⟩])
 (.seq (.keep [4] []) .ret))
def i_tideref2_Same : IFn := ⟨2, [.tmp 4 false],
 (.seq (.reg [⟨some 4, .mov (.c (.bool false)), none⟩])
 (.seq (.seq (.reg [⟨some 7, .mov (.t 0), none⟩,
  ⟨some 8, .len false (.t 7), none⟩,
  ⟨some 9, .mov (.t 1), none⟩,
  ⟨some 10, .len false (.t 9), none⟩,
  ⟨some 11, .bin .neq (.t 8) (.t 10), none⟩])
 (.cond (.t 11) (.seq (.reg [⟨some 4, .mov (.c (.bool false)), none⟩])
 (.seq (.keep [4] []) .ret)) .skip))
 (.seq (.seq (.reg [⟨some 12, .mov (.t 0), none⟩,
  ⟨some 13, .len false (.t 12), none⟩,
  ⟨some 14, .mov (.c (.int .i64 0)), none⟩])
 (.block 0 (.seq (.keep [0, 1, 13, 14] []) (.loop i_tideref2_Same_l0))))
 i_tideref2_Same_a1)))⟩
/-! zsets_Positive -/
/--  -/
abbrev s_zsets_Positive_r (t2 t3 : A) (x : Sto) : St := ⟨upd (upd (fun _ => .undef) 3 t3) 2 t2, fun _ => none, x⟩
def i_zsets_Positive : IFn := ⟨1, [.tmp 2 false, .tmp 3 false],
 (.seq (.reg [⟨some 2, .mov (.c (.sl [])), none⟩,
  ⟨some 3, .mov (.c (.int .i64 0)), none⟩])
 (.seq (.reg [⟨some 4, .mov (.t 0), none⟩,
  ⟨some 5, .call (.c (.fn n_zsets_each [])) [(.t 4), (.c (.fn n_zsets_Positive_1 []))] (some []) true [], none⟩,
  ⟨some 6, .ext (.t 5) 0, none⟩,
  ⟨some 7, .ext (.t 5) 1, none⟩,
  ⟨some 2, .mov (.t 6), none⟩,
  ⟨some 3, .mov (.t 7), none⟩])
 (.seq (.keep [2, 3] []) .ret)))⟩
/-! tidelaw15_cut -/
/--  -/
abbrev s_tidelaw15_cut_r (t4 : A) (x : Sto) : St := ⟨upd (fun _ => .undef) 4 t4, fun _ => none, x⟩
/-- t5 l -/
abbrev s_tidelaw15_cut_x0 (t5 : A) (o5 : Ob) (x : Sto) : St := ⟨upd (fun _ => .undef) 5 t5, updS (fun _ => none) 5 (some o5), x⟩
/-- t1 n, t5 l -/
abbrev s_tidelaw15_cut_l0 (t1 t5 t10 t11 t12 : A) (o5 : Ob) (x : Sto) : St := ⟨upd (upd (upd (upd (upd (fun _ => .undef) 12 t12) 11 t11) 10 t10) 5 t5) 1 t1, updS (fun _ => none) 5 (some o5), x⟩
/-- t1 n, t5 l -/
abbrev s_tidelaw15_cut_x1 (t1 t5 t10 t11 t12 : A) (o5 : Ob) (x : Sto) : St := ⟨upd (upd (upd (upd (upd (fun _ => .undef) 12 t12) 11 t11) 10 t10) 5 t5) 1 t1, updS (fun _ => none) 5 (some o5), x⟩
def i_tidelaw15_cut_l0 : IC := .seq (.seq (.reg [⟨some 13, .bin .lss (.t 12) (.t 11), none⟩])
 (.seq (.cond (.t 13) .skip (.seq (.keep [5] [5]) (.exit 0)))
 (.seq (.block 1 (.seq (.seq (.reg [⟨some 14, .idxp (.t 10) (.t 12) 2, none⟩,
  ⟨some 15, .load (.t 14) (some 2), none⟩,
  ⟨some 7, .alloc [.sl [], .int .i64 0], none⟩,
  ⟨none, .store (.t 7) (.t 15) (some 2), none⟩]) (.frz 7 [1, 5, 7, 10, 11, 12] [5]))
 (.dreg [⟨some 16, .mov (.t 5), none⟩,
  ⟨some 17, .fieldp (.t 7) 0 none, none⟩,
  ⟨some 18, .load (.t 17) none, none⟩,
  ⟨some 19, .mov (.t 1), none⟩,
  ⟨some 20, .slice (.t 18) none (some (.t 19)) 3, none⟩,
  ⟨some 21, .fieldp (.t 7) 1 none, none⟩,
  ⟨some 22, .load (.t 21) none, none⟩,
  ⟨some 23, .build [.sl [], .int .i64 0] [(0, 1, (.t 20)), (1, 1, (.t 22))], none⟩,
  ⟨some 24, .lit ty_api_ZRow 2 1 [.sl [], .int .i64 0] [(0, (.t 23))] false, none⟩,
  ⟨some 25, .app (.t 16) (.t 24) ty_api_ZRow 2 32, none⟩,
  ⟨some 5, .mov (.t 25), none⟩])))
 (.reg [⟨some 26, .bin .add (.t 12) (.c (.int .i64 1)), none⟩,
  ⟨some 12, .mov (.t 26), none⟩])))) (.keep [1, 5, 10, 11, 12] [5])
def i_tidelaw15_cut_a0 : IC := (.seq (.reg [⟨some 28, .mov (.t 5), none⟩,
  ⟨some 29, .call (.c (.fn n_zsets_Of [])) [(.t 28)] (some []) true [], none⟩,
  ⟨some 27, .mov (.t 29), none⟩,
  ⟨some 30, .ext (.t 27) 0, none⟩,
  ⟨some 31, .ext (.t 27) 1, none⟩,
  ⟨some 8, .mov (.t 30), none⟩,
  ⟨some 9, .mov (.t 31), none⟩])
 (.seq (.reg [⟨some 32, .mov (.t 8), none⟩,
  ⟨some 4, .mov (.t 32), none⟩])
 (.seq (.keep [4] []) .ret)))
def i_tidelaw15_cut : IFn := ⟨2, [.tmp 4 false],
 (.seq (.reg [⟨some 4, .mov (.c (.sl [])), none⟩])
 (.seq (.reg [⟨some 5, .ntok ty_api_ZRow 2, none⟩])
 (.seq (.seq (.reg [⟨some 10, .mov (.t 0), none⟩,
  ⟨some 11, .len false (.t 10), none⟩,
  ⟨some 12, .mov (.c (.int .i64 0)), none⟩])
 (.block 0 (.seq (.keep [1, 5, 10, 11, 12] [5]) (.loop i_tidelaw15_cut_l0))))
 i_tidelaw15_cut_a0)))⟩
/-! ops_Group -/
/--  -/
abbrev s_ops_Group_r (t8 t9 : A) (x : Sto) : St := ⟨upd (upd (fun _ => .undef) 9 t9) 8 t8, fun _ => none, x⟩
def i_ops_Group : IFn := ⟨4, [.tmp 8 false, .tmp 9 false],
 (.seq (.reg [⟨some 8, .mov (.c (.sl [])), none⟩,
  ⟨some 9, .mov (.c (.int .i64 0)), none⟩])
 (.seq (.seq (.reg [⟨some 15, .mov (.t 1), none⟩,
  ⟨some 16, .len false (.t 15), none⟩,
  ⟨some 17, .mov (.t 2), none⟩,
  ⟨some 18, .len false (.t 17), none⟩,
  ⟨some 19, .bin .add (.t 16) (.t 18), none⟩,
  ⟨some 20, .bin .gtr (.t 19) (.c (.int .i64 8)), none⟩])
 (.cond (.t 20) (.seq (.reg [⟨some 8, .mov (.c (.sl [])), none⟩,
  ⟨some 9, .mov (.c (.int .i64 5)), none⟩])
 (.seq (.keep [8, 9] []) .ret)) .skip))
 (.seq (.seq (.reg [⟨some 22, .mov (.t 0), none⟩,
  ⟨some 23, .mov (.t 1), none⟩,
  ⟨some 24, .call (.c (.fn n_ops_Types [])) [(.t 22), (.t 23)] (some []) true [], none⟩,
  ⟨some 21, .mov (.t 24), none⟩,
  ⟨some 25, .ext (.t 21) 0, none⟩,
  ⟨some 26, .ext (.t 21) 1, none⟩,
  ⟨some 10, .mov (.t 25), none⟩,
  ⟨some 11, .mov (.t 26), none⟩])
 (.seq (.reg [⟨some 27, .mov (.t 11), none⟩,
  ⟨some 28, .bin .neq (.t 27) (.c (.int .i64 0)), none⟩])
 (.cond (.t 28) (.seq (.reg [⟨some 29, .mov (.t 11), none⟩,
  ⟨some 8, .mov (.c (.sl [])), none⟩,
  ⟨some 9, .mov (.t 29), none⟩])
 (.seq (.keep [8, 9] []) .ret)) .skip)))
 (.seq (.seq (.reg [⟨some 31, .mov (.t 0), none⟩,
  ⟨some 32, .mov (.t 2), none⟩,
  ⟨some 33, .call (.c (.fn n_ops_AggTypes [])) [(.t 31), (.t 32)] (some []) true [], none⟩,
  ⟨some 30, .mov (.t 33), none⟩,
  ⟨some 34, .ext (.t 30) 0, none⟩,
  ⟨some 35, .ext (.t 30) 1, none⟩,
  ⟨some 12, .mov (.t 34), none⟩,
  ⟨some 13, .mov (.t 35), none⟩])
 (.seq (.reg [⟨some 36, .mov (.t 13), none⟩,
  ⟨some 37, .bin .neq (.t 36) (.c (.int .i64 0)), none⟩])
 (.cond (.t 37) (.seq (.reg [⟨some 38, .mov (.t 13), none⟩,
  ⟨some 8, .mov (.c (.sl [])), none⟩,
  ⟨some 9, .mov (.t 38), none⟩])
 (.seq (.keep [8, 9] []) .ret)) .skip)))
 (.seq (.seq (.reg [⟨some 39, .mov (.t 0), none⟩,
  ⟨some 40, .mov (.t 3), none⟩,
  ⟨some 41, .call (.c (.fn n_ops_Input [])) [(.t 39), (.t 40)] (some []) true [], none⟩,
  ⟨some 14, .mov (.t 41), none⟩])
 (.seq (.reg [⟨some 42, .mov (.t 14), none⟩,
  ⟨some 43, .bin .neq (.t 42) (.c (.int .i64 0)), none⟩])
 (.cond (.t 43) (.seq (.reg [⟨some 44, .mov (.t 14), none⟩,
  ⟨some 8, .mov (.c (.sl [])), none⟩,
  ⟨some 9, .mov (.t 44), none⟩])
 (.seq (.keep [8, 9] []) .ret)) .skip)))
 (.seq (.reg [⟨some 45, .mov (.t 1), none⟩,
  ⟨some 46, .mov (.t 2), none⟩,
  ⟨some 47, .mov (.t 3), none⟩,
  ⟨some 48, .call (.c (.fn n_ops_Grouped [])) [(.t 45), (.t 46), (.t 47)] (some []) true [], none⟩,
  ⟨some 49, .call (.c (.fn n_zsets_Sum [])) [(.t 48)] (some []) true [], none⟩,
  ⟨some 50, .ext (.t 49) 0, none⟩,
  ⟨some 51, .ext (.t 49) 1, none⟩,
  ⟨some 8, .mov (.t 50), none⟩,
  ⟨some 9, .mov (.t 51), none⟩])
 (.seq (.keep [8, 9] []) .ret)))))))⟩
/-! tidelaw15_num -/
/--  -/
abbrev s_tidelaw15_num_r (t2 : A) (o2 : Ob) (x : Sto) : St := ⟨upd (fun _ => .undef) 2 t2, updS (fun _ => none) 2 (some o2), x⟩
def i_tidelaw15_num : IFn := ⟨1, [.cell 2 (some 3)],
 (.seq (.reg [⟨some 2, .alloc [.int .i64 0, .int .i64 0, .str ⟨#[]⟩], none⟩])
 (.seq (.reg [⟨some 3, .mov (.t 0), none⟩,
  ⟨some 4, .build [.int .i64 0, .int .i64 0, .str ⟨#[]⟩] [(0, 1, (.c (.int .i64 3))), (1, 1, (.t 3))], none⟩,
  ⟨none, .store (.t 2) (.t 4) (some 3), none⟩])
 (.seq (.keep [2] [2]) .ret)))⟩
/-! ops_Types -/
/--  -/
abbrev s_ops_Types_r (t4 t5 : A) (o6 : Ob) (x : Sto) : St := ⟨upd (upd (fun _ => .undef) 5 t5) 4 t4, updS (fun _ => none) 6 (some o6), x⟩
/-- t6 out -/
abbrev s_ops_Types_x0 (t6 : A) (o6 : Ob) (x : Sto) : St := ⟨upd (fun _ => .undef) 6 t6, updS (fun _ => none) 6 (some o6), x⟩
/-- t0 cols, t6 out -/
abbrev s_ops_Types_l0 (t0 t6 t14 t15 t16 : A) (o6 : Ob) (x : Sto) : St := ⟨upd (upd (upd (upd (upd (fun _ => .undef) 16 t16) 15 t15) 14 t14) 6 t6) 0 t0, updS (fun _ => none) 6 (some o6), x⟩
/-- t0 cols, t6 out -/
abbrev s_ops_Types_x1 (t0 t6 t14 t15 t16 : A) (o6 : Ob) (x : Sto) : St := ⟨upd (upd (upd (upd (upd (fun _ => .undef) 16 t16) 15 t15) 14 t14) 6 t6) 0 t0, updS (fun _ => none) 6 (some o6), x⟩
def i_ops_Types_l0 : IC := .seq (.seq (.reg [⟨some 17, .bin .lss (.t 16) (.t 15), none⟩])
 (.seq (.cond (.t 17) .skip (.seq (.keep [6] [6]) (.exit 0)))
 (.seq (.block 1 (.seq (.seq (.reg [⟨some 18, .idxp (.t 14) (.t 16) 6, none⟩,
  ⟨some 19, .load (.t 18) (some 6), none⟩,
  ⟨some 8, .alloc [.int .i64 0, .int .i64 0, .int .i64 0, .str ⟨#[]⟩, .int .i64 0, .sl []], none⟩,
  ⟨none, .store (.t 8) (.t 19) (some 6), none⟩]) (.frz 8 [0, 6, 8, 14, 15, 16] [6]))
 (.seq (.reg [⟨some 21, .mov (.t 0), none⟩,
  ⟨some 22, .load (.t 8) (some 6), none⟩,
  ⟨some 23, .call (.c (.fn n_exprs_Type [])) [(.t 21), (.t 22)] (some []) true [], none⟩,
  ⟨some 20, .mov (.t 23), none⟩,
  ⟨some 24, .ext (.t 20) 0, none⟩,
  ⟨some 25, .ext (.t 20) 1, none⟩,
  ⟨some 9, .mov (.t 24), none⟩,
  ⟨some 10, .mov (.t 25), none⟩])
 (.seq (.seq (.reg [⟨some 26, .mov (.t 10), none⟩,
  ⟨some 27, .bin .neq (.t 26) (.c (.int .i64 0)), none⟩])
 (.cond (.t 27) (.seq (.reg [⟨some 28, .mov (.t 10), none⟩,
  ⟨some 4, .mov (.c (.sl [])), none⟩,
  ⟨some 5, .mov (.t 28), none⟩])
 (.seq (.keep [4, 5] [6]) .ret)) .skip))
 (.reg [⟨some 29, .mov (.t 6), none⟩,
  ⟨some 30, .mov (.t 9), none⟩,
  ⟨some 31, .lit ty_int 1 1 [.int .i64 0] [(0, (.t 30))] false, none⟩,
  ⟨some 32, .app (.t 29) (.t 31) ty_int 1 8, none⟩,
  ⟨some 6, .mov (.t 32), none⟩])))))
 (.reg [⟨some 33, .bin .add (.t 16) (.c (.int .i64 1)), none⟩,
  ⟨some 16, .mov (.t 33), none⟩])))) (.keep [0, 6, 14, 15, 16] [6])
def i_ops_Types_a0 : IC := (.seq (.reg [⟨some 34, .mov (.t 6), none⟩,
  ⟨some 4, .mov (.t 34), none⟩,
  ⟨some 5, .mov (.c (.int .i64 0)), none⟩])
 (.seq (.keep [4, 5] [6]) .ret))
def i_ops_Types : IFn := ⟨2, [.tmp 4 false, .tmp 5 false],
 (.seq (.reg [⟨some 4, .mov (.c (.sl [])), none⟩,
  ⟨some 5, .mov (.c (.int .i64 0)), none⟩])
 (.seq (.seq (.reg [⟨some 11, .mov (.t 1), none⟩,
  ⟨some 12, .len false (.t 11), none⟩,
  ⟨some 13, .bin .gtr (.t 12) (.c (.int .i64 8)), none⟩])
 (.cond (.t 13) (.seq (.reg [⟨some 4, .mov (.c (.sl [])), none⟩,
  ⟨some 5, .mov (.c (.int .i64 5)), none⟩])
 (.seq (.keep [4, 5] [6]) .ret)) .skip))
 (.seq (.reg [⟨some 6, .ntok ty_int 1, none⟩])
 (.seq (.seq (.reg [⟨some 14, .mov (.t 1), none⟩,
  ⟨some 15, .len false (.t 14), none⟩,
  ⟨some 16, .mov (.c (.int .i64 0)), none⟩])
 (.block 0 (.seq (.keep [0, 6, 14, 15, 16] [6]) (.loop i_ops_Types_l0))))
 i_ops_Types_a0))))⟩
/-! window_Types -/
/--  -/
abbrev s_window_Types_r (t4 t5 : A) (o6 : Ob) (x : Sto) : St := ⟨upd (upd (fun _ => .undef) 5 t5) 4 t4, updS (fun _ => none) 6 (some o6), x⟩
/-- t6 out -/
abbrev s_window_Types_x0 (t6 : A) (o6 : Ob) (x : Sto) : St := ⟨upd (fun _ => .undef) 6 t6, updS (fun _ => none) 6 (some o6), x⟩
/-- t0 cols, t6 out -/
abbrev s_window_Types_l0 (t0 t6 t12 t13 t14 : A) (o6 : Ob) (x : Sto) : St := ⟨upd (upd (upd (upd (upd (fun _ => .undef) 14 t14) 13 t13) 12 t12) 6 t6) 0 t0, updS (fun _ => none) 6 (some o6), x⟩
/-- t0 cols, t6 out -/
abbrev s_window_Types_x1 (t0 t6 t12 t13 t14 : A) (o6 : Ob) (x : Sto) : St := ⟨upd (upd (upd (upd (upd (fun _ => .undef) 14 t14) 13 t13) 12 t12) 6 t6) 0 t0, updS (fun _ => none) 6 (some o6), x⟩
/-- t0 cols, t6 out, t9 t -/
abbrev s_window_Types_x2 (t0 t6 t9 t12 t13 t14 : A) (o6 : Ob) (x : Sto) : St := ⟨upd (upd (upd (upd (upd (upd (fun _ => .undef) 14 t14) 13 t13) 12 t12) 9 t9) 6 t6) 0 t0, updS (fun _ => none) 6 (some o6), x⟩
def i_window_Types_l0 : IC := .seq (.seq (.reg [⟨some 15, .bin .lss (.t 14) (.t 13), none⟩])
 (.seq (.cond (.t 15) .skip (.seq (.keep [6] [6]) (.exit 0)))
 (.seq (.block 1 (.seq (.seq (.reg [⟨some 16, .idxp (.t 12) (.t 14) 7, none⟩,
  ⟨some 17, .load (.t 16) (some 7), none⟩,
  ⟨some 8, .alloc [.int .i64 0, .int .i64 0, .int .i64 0, .int .i64 0, .str ⟨#[]⟩, .int .i64 0, .sl []], none⟩,
  ⟨none, .store (.t 8) (.t 17) (some 7), none⟩]) (.frz 8 [0, 6, 8, 12, 13, 14] [6]))
 (.seq (.reg [⟨some 9, .mov (.c (.int .i64 3)), none⟩])
 (.seq (.seq (.seq (.reg [⟨some 18, .fieldp (.t 8) 0 none, none⟩,
  ⟨some 19, .load (.t 18) none, none⟩])
 (.block 2 (.seq (.seq (.seq (.reg [⟨some 21, .bin .eql (.t 19) (.c (.int .i64 1)), none⟩,
  ⟨some 20, .mov (.t 21), none⟩])
 (.cond (.t 20) .skip (.seq (.reg [⟨some 22, .bin .eql (.t 19) (.c (.int .i64 2)), none⟩,
  ⟨some 20, .mov (.t 22), none⟩])
 (.cond (.t 20) .skip (.reg [⟨some 23, .bin .eql (.t 19) (.c (.int .i64 3)), none⟩,
  ⟨some 20, .mov (.t 23), none⟩]))))) (.keep [0, 6, 8, 9, 12, 13, 14, 19, 20] [6]))
 (.cond (.t 20) .skip (.seq (.seq (.seq (.reg [⟨some 25, .bin .eql (.t 19) (.c (.int .i64 4)), none⟩,
  ⟨some 24, .mov (.t 25), none⟩])
 (.cond (.t 24) .skip (.reg [⟨some 26, .bin .eql (.t 19) (.c (.int .i64 5)), none⟩,
  ⟨some 24, .mov (.t 26), none⟩]))) (.keep [0, 6, 8, 9, 12, 13, 14, 24] [6]))
 (.cond (.t 24) (.seq (.reg [⟨some 28, .mov (.t 0), none⟩,
  ⟨some 29, .fieldp (.t 8) 1 (some 6), none⟩,
  ⟨some 30, .load (.t 29) (some 6), none⟩,
  ⟨some 31, .call (.c (.fn n_exprs_Type [])) [(.t 28), (.t 30)] (some []) true [], none⟩,
  ⟨some 27, .mov (.t 31), none⟩,
  ⟨some 32, .ext (.t 27) 0, none⟩,
  ⟨some 33, .ext (.t 27) 1, none⟩,
  ⟨some 10, .mov (.t 32), none⟩,
  ⟨some 11, .mov (.t 33), none⟩])
 (.seq (.seq (.reg [⟨some 34, .mov (.t 11), none⟩,
  ⟨some 35, .bin .neq (.t 34) (.c (.int .i64 0)), none⟩])
 (.cond (.t 35) (.seq (.reg [⟨some 36, .mov (.t 11), none⟩,
  ⟨some 4, .mov (.c (.sl [])), none⟩,
  ⟨some 5, .mov (.t 36), none⟩])
 (.seq (.keep [4, 5] [6]) .ret)) .skip))
 (.seq (.seq (.reg [⟨some 37, .fieldp (.t 8) 0 none, none⟩,
  ⟨some 38, .load (.t 37) none, none⟩,
  ⟨some 39, .bin .eql (.t 38) (.c (.int .i64 4)), none⟩,
  ⟨some 40, .mov (.t 39), none⟩,
  ⟨some 41, .mov (.t 10), some (40, true)⟩,
  ⟨some 42, .bin .neq (.t 41) (.c (.int .i64 3)), some (40, true)⟩,
  ⟨some 43, .pick (.t 40) (.t 42) (.c (.bool false)), none⟩,
  ⟨some 44, .mov (.t 43), none⟩,
  ⟨some 45, .mov (.t 10), some (44, true)⟩,
  ⟨some 46, .bin .neq (.t 45) (.c (.int .i64 1)), some (44, true)⟩,
  ⟨some 47, .pick (.t 44) (.t 46) (.c (.bool false)), none⟩])
 (.cond (.t 47) (.seq (.reg [⟨some 4, .mov (.c (.sl [])), none⟩,
  ⟨some 5, .mov (.c (.int .i64 9)), none⟩])
 (.seq (.keep [4, 5] [6]) .ret)) .skip))
 (.seq (.reg [⟨some 48, .fieldp (.t 8) 0 none, none⟩,
  ⟨some 49, .load (.t 48) none, none⟩,
  ⟨some 50, .bin .eql (.t 49) (.c (.int .i64 5)), none⟩])
 (.cond (.t 50) (.reg [⟨some 51, .mov (.t 10), none⟩,
  ⟨some 9, .mov (.t 51), none⟩]) .skip))))) (.seq (.reg [⟨some 4, .mov (.c (.sl [])), none⟩,
  ⟨some 5, .mov (.c (.int .i64 1)), none⟩])
 (.seq (.keep [4, 5] [6]) .ret)))))))) (.keep [0, 6, 9, 12, 13, 14] [6]))
 (.reg [⟨some 52, .mov (.t 6), none⟩,
  ⟨some 53, .mov (.t 9), none⟩,
  ⟨some 54, .lit ty_int 1 1 [.int .i64 0] [(0, (.t 53))] false, none⟩,
  ⟨some 55, .app (.t 52) (.t 54) ty_int 1 8, none⟩,
  ⟨some 6, .mov (.t 55), none⟩])))))
 (.reg [⟨some 56, .bin .add (.t 14) (.c (.int .i64 1)), none⟩,
  ⟨some 14, .mov (.t 56), none⟩])))) (.keep [0, 6, 12, 13, 14] [6])
def i_window_Types_a0 : IC := (.seq (.reg [⟨some 57, .mov (.t 6), none⟩,
  ⟨some 4, .mov (.t 57), none⟩,
  ⟨some 5, .mov (.c (.int .i64 0)), none⟩])
 (.seq (.keep [4, 5] [6]) .ret))
def i_window_Types : IFn := ⟨2, [.tmp 4 false, .tmp 5 false],
 (.seq (.reg [⟨some 4, .mov (.c (.sl [])), none⟩,
  ⟨some 5, .mov (.c (.int .i64 0)), none⟩])
 (.seq (.reg [⟨some 6, .ntok ty_int 1, none⟩])
 (.seq (.seq (.reg [⟨some 12, .mov (.t 1), none⟩,
  ⟨some 13, .len false (.t 12), none⟩,
  ⟨some 14, .mov (.c (.int .i64 0)), none⟩])
 (.block 0 (.seq (.keep [0, 6, 12, 13, 14] [6]) (.loop i_window_Types_l0))))
 i_window_Types_a0)))⟩
/-! ops_Input -/
/--  -/
abbrev s_ops_Input_r (t4 : A) (x : Sto) : St := ⟨upd (fun _ => .undef) 4 t4, fun _ => none, x⟩
/--  -/
abbrev s_ops_Input_x0 (x : Sto) : St := ⟨fun _ => .undef, fun _ => none, x⟩
/-- t0 cols -/
abbrev s_ops_Input_l0 (t0 t17 t18 t19 : A) (x : Sto) : St := ⟨upd (upd (upd (upd (fun _ => .undef) 19 t19) 18 t18) 17 t17) 0 t0, fun _ => none, x⟩
/-- t0 cols -/
abbrev s_ops_Input_x1 (t0 t17 t18 t19 : A) (x : Sto) : St := ⟨upd (upd (upd (upd (fun _ => .undef) 19 t19) 18 t18) 17 t17) 0 t0, fun _ => none, x⟩
def i_ops_Input_l0 : IC := .seq (.seq (.reg [⟨some 20, .bin .lss (.t 19) (.t 18), none⟩])
 (.seq (.cond (.t 20) .skip (.seq (.keep [] []) (.exit 0)))
 (.seq (.block 1 (.seq (.seq (.reg [⟨some 21, .idxp (.t 17) (.t 19) 2, none⟩,
  ⟨some 22, .load (.t 21) (some 2), none⟩,
  ⟨some 7, .alloc [.sl [], .int .i64 0], none⟩,
  ⟨none, .store (.t 7) (.t 22) (some 2), none⟩]) (.frz 7 [0, 7, 17, 18, 19] []))
 (.seq (.reg [⟨some 23, .mov (.t 0), none⟩,
  ⟨some 24, .fieldp (.t 7) 0 none, none⟩,
  ⟨some 25, .load (.t 24) none, none⟩,
  ⟨some 26, .call (.c (.fn n_exprs_Fits [])) [(.t 23), (.t 25)] (some []) true [], none⟩,
  ⟨some 8, .mov (.t 26), none⟩])
 (.seq (.reg [⟨some 27, .mov (.t 8), none⟩,
  ⟨some 28, .bin .neq (.t 27) (.c (.int .i64 0)), none⟩])
 (.cond (.t 28) (.seq (.reg [⟨some 29, .mov (.t 8), none⟩,
  ⟨some 4, .mov (.t 29), none⟩])
 (.seq (.keep [4] []) .ret)) .skip)))))
 (.reg [⟨some 30, .bin .add (.t 19) (.c (.int .i64 1)), none⟩,
  ⟨some 19, .mov (.t 30), none⟩])))) (.keep [0, 17, 18, 19] [])
def i_ops_Input_a0 : IC := (.seq (.reg [⟨some 4, .mov (.c (.int .i64 0)), none⟩])
 (.seq (.keep [4] []) .ret))
def i_ops_Input : IFn := ⟨2, [.tmp 4 false],
 (.seq (.reg [⟨some 4, .mov (.c (.int .i64 0)), none⟩])
 (.seq (.seq (.reg [⟨some 9, .mov (.t 0), none⟩,
  ⟨some 10, .len false (.t 9), none⟩,
  ⟨some 11, .bin .gtr (.t 10) (.c (.int .i64 8)), none⟩])
 (.cond (.t 11) (.seq (.reg [⟨some 4, .mov (.c (.int .i64 5)), none⟩])
 (.seq (.keep [4] []) .ret)) .skip))
 (.seq (.seq (.reg [⟨some 12, .mov (.t 1), none⟩,
  ⟨some 13, .call (.c (.fn n_zsets_Wrong [])) [(.t 12)] (some []) true [], none⟩,
  ⟨some 5, .mov (.t 13), none⟩])
 (.seq (.reg [⟨some 14, .mov (.t 5), none⟩,
  ⟨some 15, .bin .neq (.t 14) (.c (.int .i64 0)), none⟩])
 (.cond (.t 15) (.seq (.reg [⟨some 16, .mov (.t 5), none⟩,
  ⟨some 4, .mov (.t 16), none⟩])
 (.seq (.keep [4] []) .ret)) .skip)))
 (.seq (.seq (.reg [⟨some 17, .mov (.t 1), none⟩,
  ⟨some 18, .len false (.t 17), none⟩,
  ⟨some 19, .mov (.c (.int .i64 0)), none⟩])
 (.block 0 (.seq (.keep [0, 17, 18, 19] []) (.loop i_ops_Input_l0))))
 i_ops_Input_a0))))⟩
/-! ops_Values -/
/--  -/
abbrev s_ops_Values_r (t4 : A) (o5 : Ob) (x : Sto) : St := ⟨upd (fun _ => .undef) 4 t4, updS (fun _ => none) 5 (some o5), x⟩
/-- t5 out -/
abbrev s_ops_Values_x0 (t5 : A) (o5 : Ob) (x : Sto) : St := ⟨upd (fun _ => .undef) 5 t5, updS (fun _ => none) 5 (some o5), x⟩
/-- t0 xs, t1 row, t5 out -/
abbrev s_ops_Values_l0 (t0 t1 t5 t8 t9 : A) (o5 : Ob) (x : Sto) : St := ⟨upd (upd (upd (upd (upd (fun _ => .undef) 9 t9) 8 t8) 5 t5) 1 t1) 0 t0, updS (fun _ => none) 5 (some o5), x⟩
/-- t0 xs, t1 row, t5 out -/
abbrev s_ops_Values_x1 (t0 t1 t5 t8 t9 : A) (o5 : Ob) (x : Sto) : St := ⟨upd (upd (upd (upd (upd (fun _ => .undef) 9 t9) 8 t8) 5 t5) 1 t1) 0 t0, updS (fun _ => none) 5 (some o5), x⟩
def i_ops_Values_l0 : IC := .seq (.seq (.reg [⟨some 10, .bin .lss (.t 9) (.t 8), none⟩])
 (.seq (.cond (.t 10) .skip (.seq (.keep [5] [5]) (.exit 0)))
 (.seq (.block 1 (.seq (.reg [⟨some 11, .mov (.t 9), none⟩,
  ⟨some 6, .mov (.t 11), none⟩])
 (.reg [⟨some 12, .mov (.t 5), none⟩,
  ⟨some 13, .mov (.t 0), none⟩,
  ⟨some 14, .mov (.t 6), none⟩,
  ⟨some 15, .idxp (.t 13) (.t 14) 6, none⟩,
  ⟨some 16, .mov (.t 1), none⟩,
  ⟨some 17, .call (.c (.fn n_exprs_Of [])) [(.t 15), (.t 16)] (some []) true [], none⟩,
  ⟨some 18, .lit ty_api_Val 3 1 [.int .i64 0, .int .i64 0, .str ⟨#[]⟩] [(0, (.t 17))] false, none⟩,
  ⟨some 19, .app (.t 12) (.t 18) ty_api_Val 3 32, none⟩,
  ⟨some 5, .mov (.t 19), none⟩])))
 (.reg [⟨some 20, .bin .add (.t 9) (.c (.int .i64 1)), none⟩,
  ⟨some 9, .mov (.t 20), none⟩])))) (.keep [0, 1, 5, 8, 9] [5])
def i_ops_Values_a0 : IC := (.seq (.reg [⟨some 21, .mov (.t 5), none⟩,
  ⟨some 4, .mov (.t 21), none⟩])
 (.seq (.keep [4] [5]) .ret))
def i_ops_Values : IFn := ⟨2, [.tmp 4 false],
 (.seq (.reg [⟨some 4, .mov (.c (.sl [])), none⟩])
 (.seq (.reg [⟨some 5, .ntok ty_api_Val 3, none⟩])
 (.seq (.seq (.reg [⟨some 7, .mov (.t 0), none⟩,
  ⟨some 8, .len false (.t 7), none⟩,
  ⟨some 9, .mov (.c (.int .i64 0)), none⟩])
 (.block 0 (.seq (.keep [0, 1, 5, 8, 9] [5]) (.loop i_ops_Values_l0))))
 i_ops_Values_a0)))⟩
/-! slices_SortStableFunc__P_window_line -/
/--  -/
abbrev s_slices_SortStableFunc__P_window_line_r (x : Sto) : St := ⟨fun _ => .undef, fun _ => none, x⟩
def i_slices_SortStableFunc__P_window_line : IFn := ⟨2, [],
 (.reg [⟨some 4, .mov (.t 0), none⟩,
  ⟨some 5, .mov (.t 0), none⟩,
  ⟨some 6, .len false (.t 5), none⟩,
  ⟨some 7, .mov (.t 1), none⟩,
  ⟨some 8, .call (.c (.fn n_slices_stableCmpFunc__P_window_line [])) [(.t 4), (.t 6), (.t 7)] none false [], none⟩])⟩
/-! window_Window_1 -/
/--  -/
abbrev s_window_Window_1_r (t4 : A) (x : Sto) : St := ⟨upd (fun _ => .undef) 4 t4, fun _ => none, x⟩
def i_window_Window_1 : IFn := ⟨2, [.tmp 4 false],
 (.seq (.reg [⟨some 4, .mov (.c (.int .i64 0)), none⟩])
 (.seq (.seq (.dreg [⟨some 6, .mov (.t 0), none⟩,
  ⟨some 7, .nilchk (.t 6), none⟩,
  ⟨some 8, .fieldp (.t 7) 0 none, none⟩,
  ⟨some 9, .load (.t 8) none, none⟩,
  ⟨some 10, .mov (.t 1), none⟩,
  ⟨some 11, .nilchk (.t 10), none⟩,
  ⟨some 12, .fieldp (.t 11) 0 none, none⟩,
  ⟨some 13, .load (.t 12) none, none⟩,
  ⟨some 14, .call (.c (.fn n_vals_Rows [])) [(.t 9), (.t 13)] (some []) true [], none⟩,
  ⟨some 5, .mov (.t 14), none⟩])
 (.seq (.reg [⟨some 15, .mov (.t 5), none⟩,
  ⟨some 16, .bin .neq (.t 15) (.c (.int .i64 0)), none⟩])
 (.cond (.t 16) (.seq (.reg [⟨some 17, .mov (.t 5), none⟩,
  ⟨some 4, .mov (.t 17), none⟩])
 (.seq (.keep [4] []) .ret)) .skip)))
 (.seq (.dreg [⟨some 18, .mov (.t 0), none⟩,
  ⟨some 19, .nilchk (.t 18), none⟩,
  ⟨some 20, .fieldp (.t 19) 1 none, none⟩,
  ⟨some 21, .load (.t 20) none, none⟩,
  ⟨some 22, .mov (.t 1), none⟩,
  ⟨some 23, .nilchk (.t 22), none⟩,
  ⟨some 24, .fieldp (.t 23) 1 none, none⟩,
  ⟨some 25, .load (.t 24) none, none⟩,
  ⟨some 26, .call (.c (.fn n_vals_Rows [])) [(.t 21), (.t 25)] (some []) true [], none⟩,
  ⟨some 4, .mov (.t 26), none⟩])
 (.seq (.keep [4] []) .ret))))⟩
/-! vals_Rows -/
/--  -/
abbrev s_vals_Rows_r (t4 : A) (x : Sto) : St := ⟨upd (fun _ => .undef) 4 t4, fun _ => none, x⟩
/-- t0 a, t1 b -/
abbrev s_vals_Rows_x0 (t0 t1 : A) (x : Sto) : St := ⟨upd (upd (fun _ => .undef) 1 t1) 0 t0, fun _ => none, x⟩
/-- t0 a, t1 b -/
abbrev s_vals_Rows_l0 (t0 t1 t8 t9 t10 : A) (x : Sto) : St := ⟨upd (upd (upd (upd (upd (fun _ => .undef) 10 t10) 9 t9) 8 t8) 1 t1) 0 t0, fun _ => none, x⟩
/-- t0 a, t1 b -/
abbrev s_vals_Rows_x1 (t0 t1 t8 t9 t10 : A) (x : Sto) : St := ⟨upd (upd (upd (upd (upd (fun _ => .undef) 10 t10) 9 t9) 8 t8) 1 t1) 0 t0, fun _ => none, x⟩
def i_vals_Rows_l0 : IC := .seq (.seq (.reg [⟨some 11, .bin .lss (.t 10) (.t 9), none⟩])
 (.seq (.cond (.t 11) .skip (.seq (.keep [0, 1] []) (.exit 0)))
 (.seq (.block 1 (.seq (.seq (.reg [⟨some 12, .mov (.t 10), none⟩,
  ⟨some 13, .idxp (.t 8) (.t 10) 3, none⟩,
  ⟨some 14, .load (.t 13) (some 3), none⟩,
  ⟨some 6, .alloc [.int .i64 0, .int .i64 0, .str ⟨#[]⟩], none⟩,
  ⟨some 5, .mov (.t 12), none⟩,
  ⟨none, .store (.t 6) (.t 14) (some 3), none⟩]) (.frz 6 [0, 1, 5, 6, 8, 9, 10] []))
 (.seq (.seq (.reg [⟨some 15, .mov (.t 5), none⟩,
  ⟨some 16, .mov (.t 1), none⟩,
  ⟨some 17, .len false (.t 16), none⟩,
  ⟨some 18, .bin .eql (.t 15) (.t 17), none⟩])
 (.cond (.t 18) (.seq (.reg [⟨some 4, .mov (.c (.int .i64 1)), none⟩])
 (.seq (.keep [4] []) .ret)) .skip))
 (.seq (.dreg [⟨some 19, .load (.t 6) (some 3), none⟩,
  ⟨some 20, .mov (.t 1), none⟩,
  ⟨some 21, .mov (.t 5), none⟩,
  ⟨some 22, .idxp (.t 20) (.t 21) 3, none⟩,
  ⟨some 23, .load (.t 22) (some 3), none⟩,
  ⟨some 24, .call (.c (.fn n_vals_Compare [])) [(.t 19), (.t 23)] (some []) true [], none⟩,
  ⟨some 7, .mov (.t 24), none⟩])
 (.seq (.reg [⟨some 25, .mov (.t 7), none⟩,
  ⟨some 26, .bin .neq (.t 25) (.c (.int .i64 0)), none⟩])
 (.cond (.t 26) (.seq (.reg [⟨some 27, .mov (.t 7), none⟩,
  ⟨some 4, .mov (.t 27), none⟩])
 (.seq (.keep [4] []) .ret)) .skip))))))
 (.reg [⟨some 28, .bin .add (.t 10) (.c (.int .i64 1)), none⟩,
  ⟨some 10, .mov (.t 28), none⟩])))) (.keep [0, 1, 8, 9, 10] [])
def i_vals_Rows_a0 : IC := (.seq (.reg [⟨some 29, .mov (.t 0), none⟩,
  ⟨some 30, .len false (.t 29), none⟩,
  ⟨some 31, .mov (.t 1), none⟩,
  ⟨some 32, .len false (.t 31), none⟩,
  ⟨some 33, .call (.c (.fn n_cmp_Compare__int [])) [(.t 30), (.t 32)] (some []) true [], none⟩,
  ⟨some 4, .mov (.t 33), none⟩])
 (.seq (.keep [4] []) .ret))
def i_vals_Rows : IFn := ⟨2, [.tmp 4 false],
 (.seq (.reg [⟨some 4, .mov (.c (.int .i64 0)), none⟩])
 (.seq (.seq (.reg [⟨some 8, .mov (.t 0), none⟩,
  ⟨some 9, .len false (.t 8), none⟩,
  ⟨some 10, .mov (.c (.int .i64 0)), none⟩])
 (.block 0 (.seq (.keep [0, 1, 8, 9, 10] []) (.loop i_vals_Rows_l0))))
 i_vals_Rows_a0))⟩
/-! window_teller_tell -/
/--  -/
abbrev s_window_teller_tell_r (t6 : A) (o59 : Ob) (x : Sto) : St := ⟨upd (fun _ => .undef) 6 t6, updS (fun _ => none) 59 (some o59), x⟩
/-- t0 toArray -/
abbrev s_window_teller_tell_x0 (t0 t2 t7 : A) (o59 : Ob) (x : Sto) : St := ⟨upd (upd (upd (fun _ => .undef) 7 t7) 2 t2) 0 t0, updS (fun _ => none) 59 (some o59), x⟩
/-- t0 toArray -/
abbrev s_window_teller_tell_l0 (t0 t2 t7 t60 t61 t62 : A) (o59 : Ob) (x : Sto) : St := ⟨upd (upd (upd (upd (upd (upd (fun _ => .undef) 62 t62) 61 t61) 60 t60) 7 t7) 2 t2) 0 t0, updS (fun _ => none) 59 (some o59), x⟩
/-- t0 toArray -/
abbrev s_window_teller_tell_x1 (t0 t2 t7 t60 t61 t62 : A) (o59 : Ob) (x : Sto) : St := ⟨upd (upd (upd (upd (upd (upd (fun _ => .undef) 62 t62) 61 t61) 60 t60) 7 t7) 2 t2) 0 t0, updS (fun _ => none) 59 (some o59), x⟩
/-- t0 toArray -/
abbrev s_window_teller_tell_x2 (t0 t2 t7 t60 t61 t62 : A) (o59 : Ob) (x : Sto) : St := ⟨upd (upd (upd (upd (upd (upd (fun _ => .undef) 62 t62) 61 t61) 60 t60) 7 t7) 2 t2) 0 t0, updS (fun _ => none) 59 (some o59), x⟩
def i_window_teller_tell_l0 : IC := .seq (.seq (.reg [⟨some 63, .bin .lss (.t 62) (.t 61), none⟩])
 (.seq (.cond (.t 63) .skip (.seq (.keep [0, 2, 7] [59]) (.exit 0)))
 (.seq (.seq (.block 1 (.seq (.seq (.reg [⟨some 64, .mov (.t 62), none⟩,
  ⟨some 65, .idxp (.t 60) (.t 62) 7, none⟩,
  ⟨some 66, .load (.t 65) (some 7), none⟩,
  ⟨some 9, .alloc [.int .i64 0, .int .i64 0, .int .i64 0, .int .i64 0, .str ⟨#[]⟩, .int .i64 0, .sl []], none⟩,
  ⟨some 8, .mov (.t 64), none⟩,
  ⟨none, .store (.t 9) (.t 66) (some 7), none⟩]) (.frz 9 [0, 2, 7, 8, 9, 60, 61, 62] [59]))
 (.seq (.reg [⟨some 67, .fieldp (.t 9) 0 none, none⟩,
  ⟨some 68, .load (.t 67) none, none⟩])
 (.block 2 (.seq (.reg [⟨some 70, .bin .eql (.t 68) (.c (.int .i64 1)), none⟩,
  ⟨some 69, .mov (.t 70), none⟩])
 (.cond (.t 69) (.reg [⟨some 71, .mov (.t 7), none⟩,
  ⟨some 72, .mov (.t 0), none⟩,
  ⟨some 73, .nilchk (.t 72), none⟩,
  ⟨some 74, .fieldp (.t 73) 0 none, none⟩,
  ⟨some 75, .load (.t 74) none, none⟩,
  ⟨some 76, .call (.c (.fn n_vals_Int [])) [(.t 75)] (some []) true [], none⟩,
  ⟨some 77, .lit ty_api_Val 3 1 [.int .i64 0, .int .i64 0, .str ⟨#[]⟩] [(0, (.t 76))] false, none⟩,
  ⟨some 78, .app (.t 71) (.t 77) ty_api_Val 3 32, none⟩,
  ⟨some 7, .mov (.t 78), none⟩]) (.seq (.reg [⟨some 80, .bin .eql (.t 68) (.c (.int .i64 2)), none⟩,
  ⟨some 79, .mov (.t 80), none⟩])
 (.cond (.t 79) (.reg [⟨some 81, .mov (.t 7), none⟩,
  ⟨some 82, .mov (.t 0), none⟩,
  ⟨some 83, .nilchk (.t 82), none⟩,
  ⟨some 84, .fieldp (.t 83) 1 none, none⟩,
  ⟨some 85, .load (.t 84) none, none⟩,
  ⟨some 86, .call (.c (.fn n_vals_Int [])) [(.t 85)] (some []) true [], none⟩,
  ⟨some 87, .lit ty_api_Val 3 1 [.int .i64 0, .int .i64 0, .str ⟨#[]⟩] [(0, (.t 86))] false, none⟩,
  ⟨some 88, .app (.t 81) (.t 87) ty_api_Val 3 32, none⟩,
  ⟨some 7, .mov (.t 88), none⟩]) (.seq (.reg [⟨some 90, .bin .eql (.t 68) (.c (.int .i64 3)), none⟩,
  ⟨some 89, .mov (.t 90), none⟩])
 (.cond (.t 89) (.reg [⟨some 91, .mov (.t 7), none⟩,
  ⟨some 92, .mov (.t 0), none⟩,
  ⟨some 93, .nilchk (.t 92), none⟩,
  ⟨some 94, .fieldp (.t 93) 2 none, none⟩,
  ⟨some 95, .load (.t 94) none, none⟩,
  ⟨some 96, .call (.c (.fn n_vals_Int [])) [(.t 95)] (some []) true [], none⟩,
  ⟨some 97, .lit ty_api_Val 3 1 [.int .i64 0, .int .i64 0, .str ⟨#[]⟩] [(0, (.t 96))] false, none⟩,
  ⟨some 98, .app (.t 91) (.t 97) ty_api_Val 3 32, none⟩,
  ⟨some 7, .mov (.t 98), none⟩]) (.seq (.reg [⟨some 100, .bin .eql (.t 68) (.c (.int .i64 5)), none⟩,
  ⟨some 99, .mov (.t 100), none⟩])
 (.cond (.t 99) (.seq (.reg [⟨some 101, .call (.c (.fn n_vals_Null [])) [] (some []) true [], none⟩,
  ⟨some 10, .alloc [.int .i64 0, .int .i64 0, .str ⟨#[]⟩], none⟩,
  ⟨none, .store (.t 10) (.t 101) (some 3), none⟩])
 (.seq (.seq (.seq (.reg [⟨some 102, .mov (.t 0), none⟩,
  ⟨some 103, .nilchk (.t 102), none⟩,
  ⟨some 104, .fieldp (.t 103) 5 none, none⟩,
  ⟨some 105, .load (.t 104) none, none⟩,
  ⟨some 106, .isnil true true (.t 105), none⟩])
 (.cond (.t 106) (.reg [⟨some 107, .fieldp (.t 9) 1 (some 6), none⟩,
  ⟨some 108, .mov (.t 0), none⟩,
  ⟨some 109, .nilchk (.t 108), none⟩,
  ⟨some 110, .fieldp (.t 109) 5 none, none⟩,
  ⟨some 111, .load (.t 110) none, none⟩,
  ⟨some 112, .nilchk (.t 111), none⟩,
  ⟨some 113, .fieldp (.t 112) 2 none, none⟩,
  ⟨some 114, .load (.t 113) none, none⟩,
  ⟨some 115, .call (.c (.fn n_exprs_Of [])) [(.t 107), (.t 114)] (some []) true [], none⟩,
  ⟨none, .store (.t 10) (.t 115) (some 3), none⟩]) .skip)) (.keep [0, 2, 7, 10, 60, 61, 62] [10, 59]))
 (.reg [⟨some 116, .mov (.t 7), none⟩,
  ⟨some 117, .load (.t 10) (some 3), none⟩,
  ⟨some 118, .lit ty_api_Val 3 1 [.int .i64 0, .int .i64 0, .str ⟨#[]⟩] [(0, (.t 117))] false, none⟩,
  ⟨some 119, .app (.t 116) (.t 118) ty_api_Val 3 32, none⟩,
  ⟨some 7, .mov (.t 119), none⟩]))) (.seq (.reg [⟨some 121, .bin .eql (.t 68) (.c (.int .i64 4)), none⟩,
  ⟨some 120, .mov (.t 121), none⟩])
 (.cond (.t 120) (.seq (.seq (.seq (.seq (.reg [⟨some 122, .fieldp (.t 9) 1 (some 6), none⟩,
  ⟨some 123, .mov (.t 2), none⟩,
  ⟨some 124, .nilchk (.t 123), none⟩,
  ⟨some 125, .fieldp (.t 124) 2 none, none⟩,
  ⟨some 126, .load (.t 125) none, none⟩,
  ⟨some 127, .call (.c (.fn n_exprs_Of [])) [(.t 122), (.t 126)] (some []) true [], none⟩,
  ⟨some 11, .alloc [.int .i64 0, .int .i64 0, .str ⟨#[]⟩], none⟩,
  ⟨none, .store (.t 11) (.t 127) (some 3), none⟩]) (.frz 11 [0, 2, 7, 8, 11, 60, 61, 62] [59]))
 (.seq (.reg [⟨some 128, .fieldp (.t 11) 0 none, none⟩,
  ⟨some 129, .load (.t 128) none, none⟩,
  ⟨some 130, .bin .eql (.t 129) (.c (.int .i64 3)), none⟩])
 (.cond (.t 130) (.seq (.dreg [⟨some 131, .mov (.t 0), none⟩,
  ⟨some 132, .nilchk (.t 131), none⟩,
  ⟨some 133, .fieldp (.t 132) 3 none, none⟩,
  ⟨some 134, .load (.t 133) none, none⟩,
  ⟨some 135, .mov (.t 8), none⟩,
  ⟨some 136, .idxp (.t 134) (.t 135) 1, none⟩,
  ⟨some 137, .load (.t 136) none, none⟩,
  ⟨some 138, .fieldp (.t 11) 1 none, none⟩,
  ⟨some 139, .load (.t 138) none, none⟩,
  ⟨some 140, .bin .add (.t 137) (.t 139), none⟩,
  ⟨some 141, .idxp (.t 134) (.t 135) 1, none⟩,
  ⟨none, .store (.t 141) (.t 140) none, none⟩])
 (.reg [⟨some 142, .mov (.t 0), none⟩,
  ⟨some 143, .nilchk (.t 142), none⟩,
  ⟨some 144, .fieldp (.t 143) 4 none, none⟩,
  ⟨some 145, .load (.t 144) none, none⟩,
  ⟨some 146, .mov (.t 8), none⟩,
  ⟨some 147, .idxp (.t 145) (.t 146) 1, none⟩,
  ⟨none, .store (.t 147) (.c (.bool true)) none, none⟩])) .skip))) (.keep [0, 2, 7, 8, 60, 61, 62] [59]))
 (.seq (.reg [⟨some 148, .call (.c (.fn n_vals_Null [])) [] (some []) true [], none⟩,
  ⟨some 12, .alloc [.int .i64 0, .int .i64 0, .str ⟨#[]⟩], none⟩,
  ⟨none, .store (.t 12) (.t 148) (some 3), none⟩])
 (.seq (.seq (.seq (.reg [⟨some 149, .mov (.t 0), none⟩,
  ⟨some 150, .nilchk (.t 149), none⟩,
  ⟨some 151, .fieldp (.t 150) 4 none, none⟩,
  ⟨some 152, .load (.t 151) none, none⟩,
  ⟨some 153, .mov (.t 8), none⟩,
  ⟨some 154, .idxp (.t 152) (.t 153) 1, none⟩,
  ⟨some 155, .load (.t 154) none, none⟩])
 (.cond (.t 155) (.reg [⟨some 156, .mov (.t 0), none⟩,
  ⟨some 157, .nilchk (.t 156), none⟩,
  ⟨some 158, .fieldp (.t 157) 3 none, none⟩,
  ⟨some 159, .load (.t 158) none, none⟩,
  ⟨some 160, .mov (.t 8), none⟩,
  ⟨some 161, .idxp (.t 159) (.t 160) 1, none⟩,
  ⟨some 162, .load (.t 161) none, none⟩,
  ⟨some 163, .call (.c (.fn n_vals_Int [])) [(.t 162)] (some []) true [], none⟩,
  ⟨none, .store (.t 12) (.t 163) (some 3), none⟩]) .skip)) (.keep [0, 2, 7, 12, 60, 61, 62] [12, 59]))
 (.reg [⟨some 164, .mov (.t 7), none⟩,
  ⟨some 165, .load (.t 12) (some 3), none⟩,
  ⟨some 166, .lit ty_api_Val 3 1 [.int .i64 0, .int .i64 0, .str ⟨#[]⟩] [(0, (.t 165))] false, none⟩,
  ⟨some 167, .app (.t 164) (.t 166) ty_api_Val 3 32, none⟩,
  ⟨some 7, .mov (.t 167), none⟩])))) .skip)))))))))))))) (.keep [0, 2, 7, 60, 61, 62] [59]))
 (.reg [⟨some 168, .bin .add (.t 62) (.c (.int .i64 1)), none⟩,
  ⟨some 62, .mov (.t 168), none⟩])))) (.keep [0, 2, 7, 60, 61, 62] [59])
def i_window_teller_tell_a0 : IC := (.seq (.reg [⟨some 169, .mov (.t 0), none⟩,
  ⟨some 170, .mov (.t 2), none⟩,
  ⟨some 171, .nilchk (.t 169), none⟩,
  ⟨some 172, .fieldp (.t 171) 5 none, none⟩,
  ⟨none, .store (.t 172) (.t 170) none, none⟩])
 (.seq (.reg [⟨some 173, .mov (.t 7), none⟩,
  ⟨some 6, .mov (.t 173), none⟩])
 (.seq (.keep [6] [59]) .ret)))
def i_window_teller_tell : IFn := ⟨3, [.tmp 6 false],
 (.seq (.reg [⟨some 6, .mov (.c (.sl [])), none⟩])
 (.seq (.reg [⟨some 13, .mov (.t 0), none⟩,
  ⟨some 14, .nilchk (.t 13), none⟩,
  ⟨some 15, .fieldp (.t 14) 0 none, none⟩,
  ⟨some 16, .load (.t 15) none, none⟩,
  ⟨some 17, .bin .add (.t 16) (.c (.int .i64 1)), none⟩,
  ⟨some 18, .nilchk (.t 13), none⟩,
  ⟨some 19, .fieldp (.t 18) 0 none, none⟩,
  ⟨none, .store (.t 19) (.t 17) none, none⟩])
 (.seq (.seq (.seq (.dreg [⟨some 20, .mov (.t 0), none⟩,
  ⟨some 21, .nilchk (.t 20), none⟩,
  ⟨some 22, .fieldp (.t 21) 5 none, none⟩,
  ⟨some 23, .load (.t 22) none, none⟩,
  ⟨some 24, .isnil true false (.t 23), none⟩,
  ⟨some 25, .mov (.t 24), none⟩,
  ⟨some 26, .mov (.t 0), some (25, false)⟩,
  ⟨some 27, .nilchk (.t 26), some (25, false)⟩,
  ⟨some 28, .fieldp (.t 27) 5 none, some (25, false)⟩,
  ⟨some 29, .load (.t 28) none, some (25, false)⟩,
  ⟨some 30, .nilchk (.t 29), some (25, false)⟩,
  ⟨some 31, .fieldp (.t 30) 1 none, some (25, false)⟩,
  ⟨some 32, .load (.t 31) none, some (25, false)⟩,
  ⟨some 33, .mov (.t 2), some (25, false)⟩,
  ⟨some 34, .nilchk (.t 33), some (25, false)⟩,
  ⟨some 35, .fieldp (.t 34) 1 none, some (25, false)⟩,
  ⟨some 36, .load (.t 35) none, some (25, false)⟩,
  ⟨some 37, .call (.c (.fn n_vals_Rows [])) [(.t 32), (.t 36)] (some []) true [], some (25, false)⟩,
  ⟨some 38, .bin .neq (.t 37) (.c (.int .i64 0)), some (25, false)⟩,
  ⟨some 39, .pick (.t 25) (.c (.bool true)) (.t 38), none⟩])
 (.cond (.t 39) (.dreg [⟨some 40, .mov (.t 0), none⟩,
  ⟨some 41, .mov (.t 0), none⟩,
  ⟨some 42, .mov (.t 0), none⟩,
  ⟨some 43, .nilchk (.t 42), none⟩,
  ⟨some 44, .fieldp (.t 43) 0 none, none⟩,
  ⟨some 45, .load (.t 44) none, none⟩,
  ⟨some 46, .mov (.t 0), none⟩,
  ⟨some 47, .nilchk (.t 46), none⟩,
  ⟨some 48, .fieldp (.t 47) 2 none, none⟩,
  ⟨some 49, .load (.t 48) none, none⟩,
  ⟨some 50, .bin .add (.t 49) (.c (.int .i64 1)), none⟩,
  ⟨some 51, .nilchk (.t 40), none⟩,
  ⟨some 52, .fieldp (.t 51) 1 none, none⟩,
  ⟨none, .store (.t 52) (.t 45) none, none⟩,
  ⟨some 53, .nilchk (.t 41), none⟩,
  ⟨some 54, .fieldp (.t 53) 2 none, none⟩,
  ⟨none, .store (.t 54) (.t 50) none, none⟩]) .skip)) (.keep [0, 1, 2] []))
 (.seq (.reg [⟨some 55, .mov (.t 2), none⟩,
  ⟨some 56, .nilchk (.t 55), none⟩,
  ⟨some 57, .fieldp (.t 56) 2 none, none⟩,
  ⟨some 58, .load (.t 57) none, none⟩,
  ⟨some 59, .call (.c (.fn n_slices_Clone__api_Val [])) [(.t 58)] (some []) true [.keep], none⟩,
  ⟨some 7, .mov (.t 59), none⟩])
 (.seq (.seq (.reg [⟨some 60, .mov (.t 1), none⟩,
  ⟨some 61, .len false (.t 60), none⟩,
  ⟨some 62, .mov (.c (.int .i64 0)), none⟩])
 (.block 0 (.seq (.keep [0, 2, 7, 60, 61, 62] [59]) (.loop i_window_teller_tell_l0))))
 i_window_teller_tell_a0)))))⟩
/-! zsets_Sum -/
/--  -/
abbrev s_zsets_Sum_r (t2 t3 : A) (x : Sto) : St := ⟨upd (upd (fun _ => .undef) 3 t3) 2 t2, fun _ => none, x⟩
def i_zsets_Sum : IFn := ⟨1, [.tmp 2 false, .tmp 3 false],
 (.seq (.reg [⟨some 2, .mov (.c (.sl [])), none⟩,
  ⟨some 3, .mov (.c (.int .i64 0)), none⟩])
 (.seq (.reg [⟨some 4, .mov (.t 0), none⟩,
  ⟨some 5, .call (.c (.fn n_zsets_Total [])) [(.t 4)] (some []) true [], none⟩,
  ⟨some 6, .call (.c (.fn n_zsets_Fit [])) [(.t 5)] (some []) true [], none⟩,
  ⟨some 7, .ext (.t 6) 0, none⟩,
  ⟨some 8, .ext (.t 6) 1, none⟩,
  ⟨some 2, .mov (.t 7), none⟩,
  ⟨some 3, .mov (.t 8), none⟩])
 (.seq (.keep [2, 3] []) .ret)))⟩
/-! cmp_Or__api_Errno -/
/--  -/
abbrev s_cmp_Or__api_Errno_r (t2 : A) (x : Sto) : St := ⟨upd (fun _ => .undef) 2 t2, fun _ => none, x⟩
/-- t3 zero -/
abbrev s_cmp_Or__api_Errno_x0 (t3 : A) (x : Sto) : St := ⟨upd (fun _ => .undef) 3 t3, fun _ => none, x⟩
/-- t3 zero -/
abbrev s_cmp_Or__api_Errno_l0 (t3 t6 t7 t8 : A) (x : Sto) : St := ⟨upd (upd (upd (upd (fun _ => .undef) 8 t8) 7 t7) 6 t6) 3 t3, fun _ => none, x⟩
/-- t3 zero -/
abbrev s_cmp_Or__api_Errno_x1 (t3 t6 t7 t8 : A) (x : Sto) : St := ⟨upd (upd (upd (upd (fun _ => .undef) 8 t8) 7 t7) 6 t6) 3 t3, fun _ => none, x⟩
def i_cmp_Or__api_Errno_l0 : IC := .seq (.seq (.reg [⟨some 9, .bin .lss (.t 8) (.t 7), none⟩])
 (.seq (.cond (.t 9) .skip (.seq (.keep [3] []) (.exit 0)))
 (.seq (.block 1 (.seq (.reg [⟨some 10, .idxp (.t 6) (.t 8) 1, none⟩,
  ⟨some 11, .load (.t 10) none, none⟩,
  ⟨some 5, .mov (.t 11), none⟩])
 (.seq (.reg [⟨some 12, .mov (.t 5), none⟩,
  ⟨some 13, .mov (.t 3), none⟩,
  ⟨some 14, .bin .neq (.t 12) (.t 13), none⟩])
 (.cond (.t 14) (.seq (.reg [⟨some 15, .mov (.t 5), none⟩,
  ⟨some 2, .mov (.t 15), none⟩])
 (.seq (.keep [2] []) .ret)) .skip))))
 (.reg [⟨some 16, .bin .add (.t 8) (.c (.int .i64 1)), none⟩,
  ⟨some 8, .mov (.t 16), none⟩])))) (.keep [3, 6, 7, 8] [])
def i_cmp_Or__api_Errno_a0 : IC := (.seq (.reg [⟨some 17, .mov (.t 3), none⟩,
  ⟨some 2, .mov (.t 17), none⟩])
 (.seq (.keep [2] []) .ret))
def i_cmp_Or__api_Errno : IFn := ⟨1, [.tmp 2 false],
 (.seq (.reg [⟨some 2, .mov (.c (.int .i64 0)), none⟩])
 (.seq (.reg [⟨some 3, .mov (.c (.int .i64 0)), none⟩])
 (.seq (.seq (.reg [⟨some 6, .mov (.t 0), none⟩,
  ⟨some 7, .len false (.t 6), none⟩,
  ⟨some 8, .mov (.c (.int .i64 0)), none⟩])
 (.block 0 (.seq (.keep [3, 6, 7, 8] []) (.loop i_cmp_Or__api_Errno_l0))))
 i_cmp_Or__api_Errno_a0)))⟩
/-! ops_truth -/
/--  -/
abbrev s_ops_truth_r (t4 : A) (x : Sto) : St := ⟨upd (fun _ => .undef) 4 t4, fun _ => none, x⟩
def i_ops_truth : IFn := ⟨2, [.tmp 4 false],
 (.seq (.reg [⟨some 3, .ibox (.t 1), none⟩,
  ⟨some 4, .mov (.c (.int .i64 0)), none⟩])
 (.seq (.reg [⟨some 8, .mov (.t 0), none⟩,
  ⟨some 9, .load (.t 3) (some 6), none⟩,
  ⟨some 10, .call (.c (.fn n_exprs_Type [])) [(.t 8), (.t 9)] (some []) true [], none⟩,
  ⟨some 7, .mov (.t 10), none⟩,
  ⟨some 11, .ext (.t 7) 0, none⟩,
  ⟨some 12, .ext (.t 7) 1, none⟩,
  ⟨some 5, .mov (.t 11), none⟩,
  ⟨some 6, .mov (.t 12), none⟩])
 (.seq (.seq (.seq (.reg [⟨some 13, .mov (.t 6), none⟩,
  ⟨some 14, .bin .eql (.t 13) (.c (.int .i64 0)), none⟩,
  ⟨some 15, .mov (.t 14), none⟩,
  ⟨some 16, .mov (.t 5), some (15, true)⟩,
  ⟨some 17, .bin .neq (.t 16) (.c (.int .i64 2)), some (15, true)⟩,
  ⟨some 18, .pick (.t 15) (.t 17) (.c (.bool false)), none⟩,
  ⟨some 19, .mov (.t 18), none⟩,
  ⟨some 20, .mov (.t 5), some (19, true)⟩,
  ⟨some 21, .bin .neq (.t 20) (.c (.int .i64 1)), some (19, true)⟩,
  ⟨some 22, .pick (.t 19) (.t 21) (.c (.bool false)), none⟩])
 (.cond (.t 22) (.reg [⟨some 6, .mov (.c (.int .i64 9)), none⟩]) .skip)) (.keep [6] []))
 (.seq (.reg [⟨some 23, .mov (.t 6), none⟩,
  ⟨some 4, .mov (.t 23), none⟩])
 (.seq (.keep [4] []) .ret)))))⟩
/-! vals_True -/
/--  -/
abbrev s_vals_True_r (t2 : A) (x : Sto) : St := ⟨upd (fun _ => .undef) 2 t2, fun _ => none, x⟩
def i_vals_True : IFn := ⟨1, [.tmp 2 false],
 (.seq (.reg [⟨some 1, .ibox (.t 0), none⟩,
  ⟨some 2, .mov (.c (.bool false)), none⟩])
 (.seq (.reg [⟨some 3, .load (.t 1) (some 3), none⟩,
  ⟨some 4, .call (.c (.fn n_vals_rank [])) [(.t 3)] (some []) true [], none⟩,
  ⟨some 5, .bin .eql (.t 4) (.c (.int .i64 2)), none⟩,
  ⟨some 2, .mov (.t 5), none⟩])
 (.seq (.keep [2] []) .ret)))⟩
/-! exprs_Of -/
/--  -/
abbrev s_exprs_Of_r (t4 : A) (o4 : Ob) (x : Sto) : St := ⟨upd (fun _ => .undef) 4 t4, updS (fun _ => none) 4 (some o4), x⟩
/--  -/
abbrev s_exprs_Of_x0 (t2 t4 t5 : A) (o4 : Ob) (x : Sto) : St := ⟨upd (upd (upd (fun _ => .undef) 5 t5) 4 t4) 2 t2, updS (fun _ => none) 4 (some o4), x⟩
def i_exprs_Of : IFn := ⟨2, [.cell 4 (some 3)],
 (.seq (.reg [⟨some 2, .ibox (.t 0), none⟩,
  ⟨some 3, .ibox (.t 1), none⟩,
  ⟨some 4, .alloc [.int .i64 0, .int .i64 0, .str ⟨#[]⟩], none⟩])
 (.seq (.reg [⟨some 7, .mkfn n_exprs_Of_1 [(.t 2), (.t 3)], none⟩,
  ⟨some 5, .mov (.t 7), none⟩])
 (.seq (.seq (.reg [⟨some 8, .load (.t 2) none, none⟩,
  ⟨some 9, .nilchk (.t 8), none⟩,
  ⟨some 10, .fieldp (.t 9) 0 none, none⟩,
  ⟨some 11, .load (.t 10) none, none⟩])
 (.block 0 (.seq (.reg [⟨some 13, .bin .eql (.t 11) (.c (.int .i64 1)), none⟩,
  ⟨some 12, .mov (.t 13), none⟩])
 (.cond (.t 12) (.seq (.reg [⟨some 14, .load (.t 2) none, none⟩,
  ⟨some 15, .nilchk (.t 14), none⟩,
  ⟨some 16, .fieldp (.t 15) 1 (some 3), none⟩,
  ⟨some 17, .load (.t 16) (some 3), none⟩,
  ⟨some 18, .call (.c (.fn n_vals_Bare [])) [(.t 17)] (some []) true [], none⟩,
  ⟨none, .store (.t 4) (.t 18) (some 3), none⟩])
 (.seq (.keep [4] [4]) .ret)) (.seq (.reg [⟨some 20, .bin .eql (.t 11) (.c (.int .i64 2)), none⟩,
  ⟨some 19, .mov (.t 20), none⟩])
 (.cond (.t 19) (.seq (.seq (.dreg [⟨some 21, .load (.t 2) none, none⟩,
  ⟨some 22, .nilchk (.t 21), none⟩,
  ⟨some 23, .fieldp (.t 22) 4 none, none⟩,
  ⟨some 24, .load (.t 23) none, none⟩,
  ⟨some 25, .load (.t 3) none, none⟩,
  ⟨some 26, .len false (.t 25), none⟩,
  ⟨some 27, .bin .geq (.t 24) (.t 26), none⟩])
 (.cond (.t 27) (.seq (.reg [⟨some 28, .call (.c (.fn n_vals_Null [])) [] (some []) true [], none⟩,
  ⟨none, .store (.t 4) (.t 28) (some 3), none⟩])
 (.seq (.keep [4] [4]) .ret)) .skip))
 (.seq (.dreg [⟨some 29, .load (.t 3) none, none⟩,
  ⟨some 30, .load (.t 2) none, none⟩,
  ⟨some 31, .nilchk (.t 30), none⟩,
  ⟨some 32, .fieldp (.t 31) 4 none, none⟩,
  ⟨some 33, .load (.t 32) none, none⟩,
  ⟨some 34, .idxp (.t 29) (.t 33) 3, none⟩,
  ⟨some 35, .load (.t 34) (some 3), none⟩,
  ⟨some 36, .call (.c (.fn n_vals_Bare [])) [(.t 35)] (some []) true [], none⟩,
  ⟨none, .store (.t 4) (.t 36) (some 3), none⟩])
 (.seq (.keep [4] [4]) .ret))) (.seq (.reg [⟨some 38, .bin .eql (.t 11) (.c (.int .i64 3)), none⟩,
  ⟨some 37, .mov (.t 38), none⟩])
 (.cond (.t 37) (.seq (.reg [⟨some 39, .mov (.t 5), none⟩,
  ⟨some 40, .call (.t 39) [(.c (.int .i64 0))] none true [], none⟩,
  ⟨some 41, .call (.c (.fn n_vals_Not [])) [(.t 40)] (some []) true [], none⟩,
  ⟨none, .store (.t 4) (.t 41) (some 3), none⟩])
 (.seq (.keep [4] [4]) .ret)) (.seq (.reg [⟨some 43, .bin .eql (.t 11) (.c (.int .i64 4)), none⟩,
  ⟨some 42, .mov (.t 43), none⟩])
 (.cond (.t 42) (.seq (.reg [⟨some 44, .mov (.t 5), none⟩,
  ⟨some 45, .call (.t 44) [(.c (.int .i64 0))] none true [], none⟩,
  ⟨some 46, .mov (.t 5), none⟩,
  ⟨some 47, .call (.t 46) [(.c (.int .i64 1))] none true [], none⟩,
  ⟨some 48, .call (.c (.fn n_vals_And [])) [(.t 45), (.t 47)] (some []) true [], none⟩,
  ⟨none, .store (.t 4) (.t 48) (some 3), none⟩])
 (.seq (.keep [4] [4]) .ret)) (.seq (.reg [⟨some 50, .bin .eql (.t 11) (.c (.int .i64 5)), none⟩,
  ⟨some 49, .mov (.t 50), none⟩])
 (.cond (.t 49) (.seq (.reg [⟨some 51, .mov (.t 5), none⟩,
  ⟨some 52, .call (.t 51) [(.c (.int .i64 0))] none true [], none⟩,
  ⟨some 53, .mov (.t 5), none⟩,
  ⟨some 54, .call (.t 53) [(.c (.int .i64 1))] none true [], none⟩,
  ⟨some 55, .call (.c (.fn n_vals_Or [])) [(.t 52), (.t 54)] (some []) true [], none⟩,
  ⟨none, .store (.t 4) (.t 55) (some 3), none⟩])
 (.seq (.keep [4] [4]) .ret)) (.seq (.seq (.seq (.reg [⟨some 57, .bin .eql (.t 11) (.c (.int .i64 12)), none⟩,
  ⟨some 56, .mov (.t 57), none⟩])
 (.cond (.t 56) .skip (.seq (.reg [⟨some 58, .bin .eql (.t 11) (.c (.int .i64 13)), none⟩,
  ⟨some 56, .mov (.t 58), none⟩])
 (.cond (.t 56) .skip (.reg [⟨some 59, .bin .eql (.t 11) (.c (.int .i64 14)), none⟩,
  ⟨some 56, .mov (.t 59), none⟩]))))) (.keep [2, 4, 5, 11, 56] [4]))
 (.cond (.t 56) (.seq (.dreg [⟨some 60, .lit ty_int32 1 3 [.int .i32 0] [(0, (.c (.int .i32 43))), (1, (.c (.int .i32 45))), (2, (.c (.int .i32 42)))] false, none⟩,
  ⟨some 61, .load (.t 2) none, none⟩,
  ⟨some 62, .nilchk (.t 61), none⟩,
  ⟨some 63, .fieldp (.t 62) 0 none, none⟩,
  ⟨some 64, .load (.t 63) none, none⟩,
  ⟨some 65, .bin .sub (.t 64) (.c (.int .i64 12)), none⟩,
  ⟨some 66, .idxp (.t 60) (.t 65) 1, none⟩,
  ⟨some 67, .load (.t 66) none, none⟩,
  ⟨some 68, .mov (.t 5), none⟩,
  ⟨some 69, .call (.t 68) [(.c (.int .i64 0))] none true [], none⟩,
  ⟨some 70, .mov (.t 5), none⟩,
  ⟨some 71, .call (.t 70) [(.c (.int .i64 1))] none true [], none⟩,
  ⟨some 72, .call (.c (.fn n_vals_Reckon [])) [(.t 67), (.t 69), (.t 71)] (some []) true [], none⟩,
  ⟨none, .store (.t 4) (.t 72) (some 3), none⟩])
 (.seq (.keep [4] [4]) .ret)) (.seq (.reg [⟨some 74, .bin .eql (.t 11) (.c (.int .i64 15)), none⟩,
  ⟨some 73, .mov (.t 74), none⟩])
 (.cond (.t 73) (.seq (.reg [⟨some 75, .mov (.t 5), none⟩,
  ⟨some 76, .call (.t 75) [(.c (.int .i64 0))] none true [], none⟩,
  ⟨some 77, .mov (.t 5), none⟩,
  ⟨some 78, .call (.t 77) [(.c (.int .i64 1))] none true [], none⟩,
  ⟨some 79, .call (.c (.fn n_vals_Join [])) [(.t 76), (.t 78)] (some []) true [], none⟩,
  ⟨none, .store (.t 4) (.t 79) (some 3), none⟩])
 (.seq (.keep [4] [4]) .ret)) (.seq (.reg [⟨some 81, .bin .eql (.t 11) (.c (.int .i64 16)), none⟩,
  ⟨some 80, .mov (.t 81), none⟩])
 (.cond (.t 80) (.seq (.reg [⟨some 82, .mov (.t 5), none⟩,
  ⟨some 83, .call (.t 82) [(.c (.int .i64 0))] none true [], none⟩,
  ⟨some 84, .field (.t 83) 0 none, none⟩,
  ⟨some 85, .bin .eql (.t 84) (.c (.int .i64 1)), none⟩,
  ⟨some 86, .call (.c (.fn n_vals_Bool [])) [(.t 85)] (some []) true [], none⟩,
  ⟨none, .store (.t 4) (.t 86) (some 3), none⟩])
 (.seq (.keep [4] [4]) .ret)) (.seq (.reg [⟨some 88, .bin .eql (.t 11) (.c (.int .i64 17)), none⟩,
  ⟨some 87, .mov (.t 88), none⟩])
 (.cond (.t 87) (.seq (.seq (.reg [⟨some 89, .mov (.t 5), none⟩,
  ⟨some 90, .call (.t 89) [(.c (.int .i64 0))] none true [], none⟩,
  ⟨some 91, .call (.c (.fn n_vals_True [])) [(.t 90)] (some []) true [], none⟩])
 (.cond (.t 91) (.seq (.reg [⟨some 92, .mov (.t 5), none⟩,
  ⟨some 93, .call (.t 92) [(.c (.int .i64 1))] none true [], none⟩,
  ⟨none, .store (.t 4) (.t 93) (some 3), none⟩])
 (.seq (.keep [4] [4]) .ret)) .skip))
 (.seq (.reg [⟨some 94, .mov (.t 5), none⟩,
  ⟨some 95, .call (.t 94) [(.c (.int .i64 2))] none true [], none⟩,
  ⟨none, .store (.t 4) (.t 95) (some 3), none⟩])
 (.seq (.keep [4] [4]) .ret))) (.seq (.reg [⟨some 97, .bin .eql (.t 11) (.c (.int .i64 18)), none⟩,
  ⟨some 96, .mov (.t 97), none⟩])
 (.cond (.t 96) (.seq (.seq (.seq (.reg [⟨some 98, .mov (.t 5), none⟩,
  ⟨some 99, .call (.t 98) [(.c (.int .i64 0))] none true [], none⟩,
  ⟨some 6, .alloc [.int .i64 0, .int .i64 0, .str ⟨#[]⟩], none⟩,
  ⟨none, .store (.t 6) (.t 99) (some 3), none⟩]) (.frz 6 [4, 5, 6] [4]))
 (.seq (.reg [⟨some 100, .fieldp (.t 6) 0 none, none⟩,
  ⟨some 101, .load (.t 100) none, none⟩,
  ⟨some 102, .bin .neq (.t 101) (.c (.int .i64 1)), none⟩])
 (.cond (.t 102) (.seq (.reg [⟨some 103, .load (.t 6) (some 3), none⟩,
  ⟨none, .store (.t 4) (.t 103) (some 3), none⟩])
 (.seq (.keep [4] [4]) .ret)) .skip)))
 (.seq (.reg [⟨some 104, .mov (.t 5), none⟩,
  ⟨some 105, .call (.t 104) [(.c (.int .i64 1))] none true [], none⟩,
  ⟨none, .store (.t 4) (.t 105) (some 3), none⟩])
 (.seq (.keep [4] [4]) .ret))) .skip))))))))))))))))))))))
 (.seq (.dreg [⟨some 106, .load (.t 2) none, none⟩,
  ⟨some 107, .nilchk (.t 106), none⟩,
  ⟨some 108, .fieldp (.t 107) 0 none, none⟩,
  ⟨some 109, .load (.t 108) none, none⟩,
  ⟨some 110, .mov (.t 5), none⟩,
  ⟨some 111, .call (.t 110) [(.c (.int .i64 0))] none true [], none⟩,
  ⟨some 112, .mov (.t 5), none⟩,
  ⟨some 113, .call (.t 112) [(.c (.int .i64 1))] none true [], none⟩,
  ⟨some 114, .call (.c (.fn n_exprs_compared [])) [(.t 109), (.t 111), (.t 113)] (some []) true [], none⟩,
  ⟨none, .store (.t 4) (.t 114) (some 3), none⟩])
 (.seq (.keep [4] [4]) .ret)))))⟩
/-! tideref1_Null -/
/--  -/
abbrev s_tideref1_Null_r (t0 : A) (o0 : Ob) (x : Sto) : St := ⟨upd (fun _ => .undef) 0 t0, updS (fun _ => none) 0 (some o0), x⟩
def i_tideref1_Null : IFn := ⟨0, [.cell 0 (some 3)],
 (.seq (.reg [⟨some 0, .alloc [.int .i64 0, .int .i64 0, .str ⟨#[]⟩], none⟩])
 (.seq (.reg [⟨some 1, .build [.int .i64 0, .int .i64 0, .str ⟨#[]⟩] [(0, 1, (.c (.int .i64 1)))], none⟩,
  ⟨none, .store (.t 0) (.t 1) (some 3), none⟩])
 (.seq (.keep [0] [0]) .ret)))⟩
/-! tideref1_Truth -/
/--  -/
abbrev s_tideref1_Truth_r (t2 : A) (o2 : Ob) (x : Sto) : St := ⟨upd (fun _ => .undef) 2 t2, updS (fun _ => none) 2 (some o2), x⟩
def i_tideref1_Truth : IFn := ⟨1, [.cell 2 (some 3)],
 (.seq (.reg [⟨some 2, .alloc [.int .i64 0, .int .i64 0, .str ⟨#[]⟩], none⟩])
 (.seq (.seq (.reg [⟨some 3, .mov (.t 0), none⟩])
 (.cond (.t 3) (.seq (.reg [⟨some 4, .build [.int .i64 0, .int .i64 0, .str ⟨#[]⟩] [(0, 1, (.c (.int .i64 2))), (1, 1, (.c (.int .i64 1)))], none⟩,
  ⟨none, .store (.t 2) (.t 4) (some 3), none⟩])
 (.seq (.keep [2] [2]) .ret)) .skip))
 (.seq (.reg [⟨some 5, .build [.int .i64 0, .int .i64 0, .str ⟨#[]⟩] [(0, 1, (.c (.int .i64 2)))], none⟩,
  ⟨none, .store (.t 2) (.t 5) (some 3), none⟩])
 (.seq (.keep [2] [2]) .ret))))⟩
/-! tideref1_Order -/
/--  -/
abbrev s_tideref1_Order_r (t4 : A) (x : Sto) : St := ⟨upd (fun _ => .undef) 4 t4, fun _ => none, x⟩
/--  -/
abbrev s_tideref1_Order_x0 (x : Sto) : St := ⟨fun _ => .undef, fun _ => none, x⟩
def i_tideref1_Order : IFn := ⟨2, [.tmp 4 false],
 (.seq (.reg [⟨some 2, .ibox (.t 0), none⟩,
  ⟨some 3, .ibox (.t 1), none⟩,
  ⟨some 4, .mov (.c (.int .i64 0)), none⟩])
 (.seq (.block 0 (.seq (.reg [⟨some 6, .fieldp (.t 2) 0 none, none⟩,
  ⟨some 7, .load (.t 6) none, none⟩,
  ⟨some 8, .fieldp (.t 3) 0 none, none⟩,
  ⟨some 9, .load (.t 8) none, none⟩,
  ⟨some 10, .bin .lss (.t 7) (.t 9), none⟩,
  ⟨some 5, .mov (.t 10), none⟩])
 (.cond (.t 5) (.seq (.reg [⟨some 4, .mov (.c (.int .i64 (-1))), none⟩])
 (.seq (.keep [4] []) .ret)) (.seq (.reg [⟨some 12, .fieldp (.t 2) 0 none, none⟩,
  ⟨some 13, .load (.t 12) none, none⟩,
  ⟨some 14, .fieldp (.t 3) 0 none, none⟩,
  ⟨some 15, .load (.t 14) none, none⟩,
  ⟨some 16, .bin .gtr (.t 13) (.t 15), none⟩,
  ⟨some 11, .mov (.t 16), none⟩])
 (.cond (.t 11) (.seq (.reg [⟨some 4, .mov (.c (.int .i64 1)), none⟩])
 (.seq (.keep [4] []) .ret)) (.seq (.reg [⟨some 18, .fieldp (.t 2) 0 none, none⟩,
  ⟨some 19, .load (.t 18) none, none⟩,
  ⟨some 20, .bin .eql (.t 19) (.c (.int .i64 1)), none⟩,
  ⟨some 17, .mov (.t 20), none⟩])
 (.cond (.t 17) (.seq (.reg [⟨some 4, .mov (.c (.int .i64 0)), none⟩])
 (.seq (.keep [4] []) .ret)) (.seq (.seq (.seq (.reg [⟨some 22, .fieldp (.t 2) 0 none, none⟩,
  ⟨some 23, .load (.t 22) none, none⟩,
  ⟨some 24, .bin .eql (.t 23) (.c (.int .i64 4)), none⟩,
  ⟨some 25, .mov (.t 24), none⟩,
  ⟨some 26, .fieldp (.t 2) 2 none, some (25, true)⟩,
  ⟨some 27, .load (.t 26) none, some (25, true)⟩,
  ⟨some 28, .fieldp (.t 3) 2 none, some (25, true)⟩,
  ⟨some 29, .load (.t 28) none, some (25, true)⟩,
  ⟨some 30, .bin .lss (.t 27) (.t 29), some (25, true)⟩,
  ⟨some 31, .pick (.t 25) (.t 30) (.c (.bool false)), none⟩,
  ⟨some 21, .mov (.t 31), none⟩])
 (.cond (.t 21) .skip (.reg [⟨some 32, .fieldp (.t 2) 0 none, none⟩,
  ⟨some 33, .load (.t 32) none, none⟩,
  ⟨some 34, .bin .neq (.t 33) (.c (.int .i64 4)), none⟩,
  ⟨some 35, .mov (.t 34), none⟩,
  ⟨some 36, .fieldp (.t 2) 1 none, some (35, true)⟩,
  ⟨some 37, .load (.t 36) none, some (35, true)⟩,
  ⟨some 38, .fieldp (.t 3) 1 none, some (35, true)⟩,
  ⟨some 39, .load (.t 38) none, some (35, true)⟩,
  ⟨some 40, .bin .lss (.t 37) (.t 39), some (35, true)⟩,
  ⟨some 41, .pick (.t 35) (.t 40) (.c (.bool false)), none⟩,
  ⟨some 21, .mov (.t 41), none⟩]))) (.keep [2, 3, 21] []))
 (.cond (.t 21) (.seq (.reg [⟨some 4, .mov (.c (.int .i64 (-1))), none⟩])
 (.seq (.keep [4] []) .ret)) (.seq (.seq (.seq (.reg [⟨some 43, .fieldp (.t 2) 0 none, none⟩,
  ⟨some 44, .load (.t 43) none, none⟩,
  ⟨some 45, .bin .eql (.t 44) (.c (.int .i64 4)), none⟩,
  ⟨some 46, .mov (.t 45), none⟩,
  ⟨some 47, .fieldp (.t 2) 2 none, some (46, true)⟩,
  ⟨some 48, .load (.t 47) none, some (46, true)⟩,
  ⟨some 49, .fieldp (.t 3) 2 none, some (46, true)⟩,
  ⟨some 50, .load (.t 49) none, some (46, true)⟩,
  ⟨some 51, .bin .gtr (.t 48) (.t 50), some (46, true)⟩,
  ⟨some 52, .pick (.t 46) (.t 51) (.c (.bool false)), none⟩,
  ⟨some 42, .mov (.t 52), none⟩])
 (.cond (.t 42) .skip (.reg [⟨some 53, .fieldp (.t 2) 0 none, none⟩,
  ⟨some 54, .load (.t 53) none, none⟩,
  ⟨some 55, .bin .neq (.t 54) (.c (.int .i64 4)), none⟩,
  ⟨some 56, .mov (.t 55), none⟩,
  ⟨some 57, .fieldp (.t 2) 1 none, some (56, true)⟩,
  ⟨some 58, .load (.t 57) none, some (56, true)⟩,
  ⟨some 59, .fieldp (.t 3) 1 none, some (56, true)⟩,
  ⟨some 60, .load (.t 59) none, some (56, true)⟩,
  ⟨some 61, .bin .gtr (.t 58) (.t 60), some (56, true)⟩,
  ⟨some 62, .pick (.t 56) (.t 61) (.c (.bool false)), none⟩,
  ⟨some 42, .mov (.t 62), none⟩]))) (.keep [42] []))
 (.cond (.t 42) (.seq (.reg [⟨some 4, .mov (.c (.int .i64 1)), none⟩])
 (.seq (.keep [4] []) .ret)) .skip)))))))))))
 (.seq (.reg [⟨some 4, .mov (.c (.int .i64 0)), none⟩])
 (.seq (.keep [4] []) .ret))))⟩
/-! zsets_each -/
/--  -/
abbrev s_zsets_each_r (t4 t5 : A) (o7 : Ob) (x : Sto) : St := ⟨upd (upd (fun _ => .undef) 5 t5) 4 t4, updS (fun _ => none) 7 (some o7), x⟩
/-- t7 out -/
abbrev s_zsets_each_x0 (t7 : A) (o7 : Ob) (x : Sto) : St := ⟨upd (fun _ => .undef) 7 t7, updS (fun _ => none) 7 (some o7), x⟩
/-- t1 f, t7 out -/
abbrev s_zsets_each_l0 (t1 t7 t17 t18 t19 : A) (o7 : Ob) (x : Sto) : St := ⟨upd (upd (upd (upd (upd (fun _ => .undef) 19 t19) 18 t18) 17 t17) 7 t7) 1 t1, updS (fun _ => none) 7 (some o7), x⟩
/-- t1 f, t7 out -/
abbrev s_zsets_each_x1 (t1 t7 t17 t18 t19 : A) (o7 : Ob) (x : Sto) : St := ⟨upd (upd (upd (upd (upd (fun _ => .undef) 19 t19) 18 t18) 17 t17) 7 t7) 1 t1, updS (fun _ => none) 7 (some o7), x⟩
def i_zsets_each_l0 : IC := .seq (.seq (.reg [⟨some 20, .bin .lss (.t 19) (.t 18), none⟩])
 (.seq (.cond (.t 20) .skip (.seq (.keep [7] [7]) (.exit 0)))
 (.seq (.seq (.block 1 (.seq (.seq (.reg [⟨some 21, .idxp (.t 17) (.t 19) 2, none⟩,
  ⟨some 22, .load (.t 21) (some 2), none⟩,
  ⟨some 9, .alloc [.sl [], .int .i64 0], none⟩,
  ⟨none, .store (.t 9) (.t 22) (some 2), none⟩]) (.frz 9 [1, 7, 9, 17, 18, 19] [7]))
 (.seq (.reg [⟨some 23, .mov (.t 1), none⟩,
  ⟨some 24, .fieldp (.t 9) 1 none, none⟩,
  ⟨some 25, .load (.t 24) none, none⟩,
  ⟨some 26, .call (.t 23) [(.t 25)] none true [], none⟩,
  ⟨some 10, .mov (.t 26), none⟩])
 (.seq (.reg [⟨some 27, .mov (.t 10), none⟩,
  ⟨some 28, .bin .neq (.t 27) (.c (.int .i64 0)), none⟩])
 (.cond (.t 28) (.reg [⟨some 29, .mov (.t 7), none⟩,
  ⟨some 30, .fieldp (.t 9) 0 none, none⟩,
  ⟨some 31, .load (.t 30) none, none⟩,
  ⟨some 32, .call (.c (.fn n_zsets_bare [])) [(.t 31)] (some []) true [], none⟩,
  ⟨some 33, .mov (.t 10), none⟩,
  ⟨some 34, .build [.sl [], .int .i64 0] [(0, 1, (.t 32)), (1, 1, (.t 33))], none⟩,
  ⟨some 35, .lit ty_api_ZRow 2 1 [.sl [], .int .i64 0] [(0, (.t 34))] false, none⟩,
  ⟨some 36, .app (.t 29) (.t 35) ty_api_ZRow 2 32, none⟩,
  ⟨some 7, .mov (.t 36), none⟩]) .skip))))) (.keep [1, 7, 17, 18, 19] [7]))
 (.reg [⟨some 37, .bin .add (.t 19) (.c (.int .i64 1)), none⟩,
  ⟨some 19, .mov (.t 37), none⟩])))) (.keep [1, 7, 17, 18, 19] [7])
def i_zsets_each_a0 : IC := (.seq (.reg [⟨some 38, .mov (.t 7), none⟩,
  ⟨some 4, .mov (.t 38), none⟩,
  ⟨some 5, .mov (.c (.int .i64 0)), none⟩])
 (.seq (.keep [4, 5] [7]) .ret))
def i_zsets_each : IFn := ⟨2, [.tmp 4 false, .tmp 5 false],
 (.seq (.reg [⟨some 4, .mov (.c (.sl [])), none⟩,
  ⟨some 5, .mov (.c (.int .i64 0)), none⟩])
 (.seq (.seq (.reg [⟨some 11, .mov (.t 0), none⟩,
  ⟨some 12, .lit ty_L_api_ZRow 1 1 [.sl []] [(0, (.t 11))] false, none⟩,
  ⟨some 13, .call (.c (.fn n_zsets_right [])) [(.t 12)] (some []) true [], none⟩,
  ⟨some 6, .mov (.t 13), none⟩])
 (.seq (.reg [⟨some 14, .mov (.t 6), none⟩,
  ⟨some 15, .bin .neq (.t 14) (.c (.int .i64 0)), none⟩])
 (.cond (.t 15) (.seq (.reg [⟨some 16, .mov (.t 6), none⟩,
  ⟨some 4, .mov (.c (.sl [])), none⟩,
  ⟨some 5, .mov (.t 16), none⟩])
 (.seq (.keep [4, 5] [7]) .ret)) .skip)))
 (.seq (.reg [⟨some 7, .ntok ty_api_ZRow 2, none⟩])
 (.seq (.seq (.reg [⟨some 17, .mov (.t 0), none⟩,
  ⟨some 18, .len false (.t 17), none⟩,
  ⟨some 19, .mov (.c (.int .i64 0)), none⟩])
 (.block 0 (.seq (.keep [1, 7, 17, 18, 19] [7]) (.loop i_zsets_each_l0))))
 i_zsets_each_a0))))⟩
/-! zsets_Positive_1 -/
/--  -/
abbrev s_zsets_Positive_1_r (t2 : A) (x : Sto) : St := ⟨upd (fun _ => .undef) 2 t2, fun _ => none, x⟩
def i_zsets_Positive_1 : IFn := ⟨1, [.tmp 2 false],
 (.seq (.reg [⟨some 2, .mov (.c (.int .i64 0)), none⟩])
 (.seq (.reg [⟨some 3, .mov (.t 0), none⟩,
  ⟨some 4, .minmax true (.t 3) (.c (.int .i64 0)), none⟩,
  ⟨some 2, .mov (.t 4), none⟩])
 (.seq (.keep [2] []) .ret)))⟩
/-! zsets_Of -/
/--  -/
abbrev s_zsets_Of_r (t2 t3 : A) (x : Sto) : St := ⟨upd (upd (fun _ => .undef) 3 t3) 2 t2, fun _ => none, x⟩
/-- t0 l -/
abbrev s_zsets_Of_x0 (t0 : A) (x : Sto) : St := ⟨upd (fun _ => .undef) 0 t0, fun _ => none, x⟩
/-- t0 l -/
abbrev s_zsets_Of_l0 (t0 t10 t11 t12 : A) (x : Sto) : St := ⟨upd (upd (upd (upd (fun _ => .undef) 12 t12) 11 t11) 10 t10) 0 t0, fun _ => none, x⟩
/-- t0 l -/
abbrev s_zsets_Of_x1 (t0 t10 t11 t12 : A) (x : Sto) : St := ⟨upd (upd (upd (upd (fun _ => .undef) 12 t12) 11 t11) 10 t10) 0 t0, fun _ => none, x⟩
def i_zsets_Of_l0 : IC := .seq (.seq (.reg [⟨some 13, .bin .lss (.t 12) (.t 11), none⟩])
 (.seq (.cond (.t 13) .skip (.seq (.keep [0] []) (.exit 0)))
 (.seq (.block 1 (.seq (.seq (.reg [⟨some 14, .idxp (.t 10) (.t 12) 2, none⟩,
  ⟨some 15, .load (.t 14) (some 2), none⟩,
  ⟨some 5, .alloc [.sl [], .int .i64 0], none⟩,
  ⟨none, .store (.t 5) (.t 15) (some 2), none⟩]) (.frz 5 [0, 5, 10, 11, 12] []))
 (.seq (.seq (.reg [⟨some 16, .fieldp (.t 5) 0 none, none⟩,
  ⟨some 17, .load (.t 16) none, none⟩,
  ⟨some 18, .call (.c (.fn n_zsets_row [])) [(.t 17)] (some []) true [], none⟩,
  ⟨some 6, .mov (.t 18), none⟩])
 (.seq (.reg [⟨some 19, .mov (.t 6), none⟩,
  ⟨some 20, .bin .neq (.t 19) (.c (.int .i64 0)), none⟩])
 (.cond (.t 20) (.seq (.reg [⟨some 21, .mov (.t 6), none⟩,
  ⟨some 2, .mov (.c (.sl [])), none⟩,
  ⟨some 3, .mov (.t 21), none⟩])
 (.seq (.keep [2, 3] []) .ret)) .skip)))
 (.seq (.reg [⟨some 22, .fieldp (.t 5) 1 none, none⟩,
  ⟨some 23, .load (.t 22) none, none⟩,
  ⟨some 24, .call (.c (.fn n_zsets_weight [])) [(.t 23)] (some []) true [], none⟩,
  ⟨some 25, .not (.t 24), none⟩])
 (.cond (.t 25) (.seq (.reg [⟨some 2, .mov (.c (.sl [])), none⟩,
  ⟨some 3, .mov (.c (.int .i64 3)), none⟩])
 (.seq (.keep [2, 3] []) .ret)) .skip)))))
 (.reg [⟨some 26, .bin .add (.t 12) (.c (.int .i64 1)), none⟩,
  ⟨some 12, .mov (.t 26), none⟩])))) (.keep [0, 10, 11, 12] [])
def i_zsets_Of_a0 : IC := (.seq (.reg [⟨some 27, .mov (.t 0), none⟩,
  ⟨some 28, .call (.c (.fn n_zsets_Sum [])) [(.t 27)] (some []) true [], none⟩,
  ⟨some 29, .ext (.t 28) 0, none⟩,
  ⟨some 30, .ext (.t 28) 1, none⟩,
  ⟨some 2, .mov (.t 29), none⟩,
  ⟨some 3, .mov (.t 30), none⟩])
 (.seq (.keep [2, 3] []) .ret))
def i_zsets_Of : IFn := ⟨1, [.tmp 2 false, .tmp 3 false],
 (.seq (.reg [⟨some 2, .mov (.c (.sl [])), none⟩,
  ⟨some 3, .mov (.c (.int .i64 0)), none⟩])
 (.seq (.seq (.reg [⟨some 7, .mov (.t 0), none⟩,
  ⟨some 8, .len false (.t 7), none⟩,
  ⟨some 9, .bin .gtr (.t 8) (.c (.int .i64 1600)), none⟩])
 (.cond (.t 9) (.seq (.reg [⟨some 2, .mov (.c (.sl [])), none⟩,
  ⟨some 3, .mov (.c (.int .i64 5)), none⟩])
 (.seq (.keep [2, 3] []) .ret)) .skip))
 (.seq (.seq (.reg [⟨some 10, .mov (.t 0), none⟩,
  ⟨some 11, .len false (.t 10), none⟩,
  ⟨some 12, .mov (.c (.int .i64 0)), none⟩])
 (.block 0 (.seq (.keep [0, 10, 11, 12] []) (.loop i_zsets_Of_l0))))
 i_zsets_Of_a0)))⟩
/-! ops_AggTypes -/
/--  -/
abbrev s_ops_AggTypes_r (t4 t5 : A) (o6 : Ob) (x : Sto) : St := ⟨upd (upd (fun _ => .undef) 5 t5) 4 t4, updS (fun _ => none) 6 (some o6), x⟩
/-- t6 out -/
abbrev s_ops_AggTypes_x0 (t6 : A) (o6 : Ob) (x : Sto) : St := ⟨upd (fun _ => .undef) 6 t6, updS (fun _ => none) 6 (some o6), x⟩
/-- t0 cols, t6 out -/
abbrev s_ops_AggTypes_l0 (t0 t6 t12 t13 t14 : A) (o6 : Ob) (x : Sto) : St := ⟨upd (upd (upd (upd (upd (fun _ => .undef) 14 t14) 13 t13) 12 t12) 6 t6) 0 t0, updS (fun _ => none) 6 (some o6), x⟩
/-- t0 cols, t6 out -/
abbrev s_ops_AggTypes_x1 (t0 t6 t12 t13 t14 : A) (o6 : Ob) (x : Sto) : St := ⟨upd (upd (upd (upd (upd (fun _ => .undef) 14 t14) 13 t13) 12 t12) 6 t6) 0 t0, updS (fun _ => none) 6 (some o6), x⟩
def i_ops_AggTypes_l0 : IC := .seq (.seq (.reg [⟨some 15, .bin .lss (.t 14) (.t 13), none⟩])
 (.seq (.cond (.t 15) .skip (.seq (.keep [6] [6]) (.exit 0)))
 (.seq (.block 1 (.seq (.seq (.reg [⟨some 16, .idxp (.t 12) (.t 14) 7, none⟩,
  ⟨some 17, .load (.t 16) (some 7), none⟩,
  ⟨some 8, .alloc [.int .i64 0, .int .i64 0, .int .i64 0, .int .i64 0, .str ⟨#[]⟩, .int .i64 0, .sl []], none⟩,
  ⟨none, .store (.t 8) (.t 17) (some 7), none⟩]) (.frz 8 [0, 6, 8, 12, 13, 14] [6]))
 (.seq (.seq (.reg [⟨some 18, .fieldp (.t 8) 0 none, none⟩,
  ⟨some 19, .load (.t 18) none, none⟩,
  ⟨some 20, .bin .lss (.t 19) (.c (.int .i64 1)), none⟩,
  ⟨some 21, .mov (.t 20), none⟩,
  ⟨some 22, .fieldp (.t 8) 0 none, some (21, false)⟩,
  ⟨some 23, .load (.t 22) none, some (21, false)⟩,
  ⟨some 24, .bin .gtr (.t 23) (.c (.int .i64 5)), some (21, false)⟩,
  ⟨some 25, .pick (.t 21) (.c (.bool true)) (.t 24), none⟩])
 (.cond (.t 25) (.seq (.reg [⟨some 4, .mov (.c (.sl [])), none⟩,
  ⟨some 5, .mov (.c (.int .i64 1)), none⟩])
 (.seq (.keep [4, 5] [6]) .ret)) .skip))
 (.seq (.reg [⟨some 9, .mov (.c (.int .i64 3)), none⟩])
 (.seq (.seq (.seq (.reg [⟨some 26, .fieldp (.t 8) 0 none, none⟩,
  ⟨some 27, .load (.t 26) none, none⟩,
  ⟨some 28, .bin .neq (.t 27) (.c (.int .i64 1)), none⟩])
 (.cond (.t 28) (.seq (.reg [⟨some 30, .mov (.t 0), none⟩,
  ⟨some 31, .fieldp (.t 8) 1 (some 6), none⟩,
  ⟨some 32, .load (.t 31) (some 6), none⟩,
  ⟨some 33, .call (.c (.fn n_exprs_Type [])) [(.t 30), (.t 32)] (some []) true [], none⟩,
  ⟨some 29, .mov (.t 33), none⟩,
  ⟨some 34, .ext (.t 29) 0, none⟩,
  ⟨some 35, .ext (.t 29) 1, none⟩,
  ⟨some 10, .mov (.t 34), none⟩,
  ⟨some 11, .mov (.t 35), none⟩])
 (.seq (.seq (.reg [⟨some 36, .mov (.t 11), none⟩,
  ⟨some 37, .bin .neq (.t 36) (.c (.int .i64 0)), none⟩])
 (.cond (.t 37) (.seq (.reg [⟨some 38, .mov (.t 11), none⟩,
  ⟨some 4, .mov (.c (.sl [])), none⟩,
  ⟨some 5, .mov (.t 38), none⟩])
 (.seq (.keep [4, 5] [6]) .ret)) .skip))
 (.seq (.seq (.reg [⟨some 39, .fieldp (.t 8) 0 none, none⟩,
  ⟨some 40, .load (.t 39) none, none⟩,
  ⟨some 41, .bin .eql (.t 40) (.c (.int .i64 3)), none⟩,
  ⟨some 42, .mov (.t 41), none⟩,
  ⟨some 43, .mov (.t 10), some (42, true)⟩,
  ⟨some 44, .bin .neq (.t 43) (.c (.int .i64 3)), some (42, true)⟩,
  ⟨some 45, .pick (.t 42) (.t 44) (.c (.bool false)), none⟩,
  ⟨some 46, .mov (.t 45), none⟩,
  ⟨some 47, .mov (.t 10), some (46, true)⟩,
  ⟨some 48, .bin .neq (.t 47) (.c (.int .i64 1)), some (46, true)⟩,
  ⟨some 49, .pick (.t 46) (.t 48) (.c (.bool false)), none⟩])
 (.cond (.t 49) (.seq (.reg [⟨some 4, .mov (.c (.sl [])), none⟩,
  ⟨some 5, .mov (.c (.int .i64 9)), none⟩])
 (.seq (.keep [4, 5] [6]) .ret)) .skip))
 (.seq (.reg [⟨some 50, .fieldp (.t 8) 0 none, none⟩,
  ⟨some 51, .load (.t 50) none, none⟩,
  ⟨some 52, .bin .geq (.t 51) (.c (.int .i64 4)), none⟩])
 (.cond (.t 52) (.reg [⟨some 53, .mov (.t 10), none⟩,
  ⟨some 9, .mov (.t 53), none⟩]) .skip))))) .skip)) (.keep [0, 6, 9, 12, 13, 14] [6]))
 (.reg [⟨some 54, .mov (.t 6), none⟩,
  ⟨some 55, .mov (.t 9), none⟩,
  ⟨some 56, .lit ty_int 1 1 [.int .i64 0] [(0, (.t 55))] false, none⟩,
  ⟨some 57, .app (.t 54) (.t 56) ty_int 1 8, none⟩,
  ⟨some 6, .mov (.t 57), none⟩]))))))
 (.reg [⟨some 58, .bin .add (.t 14) (.c (.int .i64 1)), none⟩,
  ⟨some 14, .mov (.t 58), none⟩])))) (.keep [0, 6, 12, 13, 14] [6])
def i_ops_AggTypes_a0 : IC := (.seq (.reg [⟨some 59, .mov (.t 6), none⟩,
  ⟨some 4, .mov (.t 59), none⟩,
  ⟨some 5, .mov (.c (.int .i64 0)), none⟩])
 (.seq (.keep [4, 5] [6]) .ret))
def i_ops_AggTypes : IFn := ⟨2, [.tmp 4 false, .tmp 5 false],
 (.seq (.reg [⟨some 4, .mov (.c (.sl [])), none⟩,
  ⟨some 5, .mov (.c (.int .i64 0)), none⟩])
 (.seq (.reg [⟨some 6, .ntok ty_int 1, none⟩])
 (.seq (.seq (.reg [⟨some 12, .mov (.t 1), none⟩,
  ⟨some 13, .len false (.t 12), none⟩,
  ⟨some 14, .mov (.c (.int .i64 0)), none⟩])
 (.block 0 (.seq (.keep [0, 6, 12, 13, 14] [6]) (.loop i_ops_AggTypes_l0))))
 i_ops_AggTypes_a0)))⟩
/-! ops_Grouped -/
/--  -/
abbrev s_ops_Grouped_r (t6 : A) (o14 : Ob) (x : Sto) : St := ⟨upd (fun _ => .undef) 6 t6, updS (fun _ => none) 14 (some o14), x⟩
/-- t0 toArray -/
abbrev s_ops_Grouped_x0 (t0 t1 t7 : A) (o7 : Ob) (x : Sto) : St := ⟨upd (upd (upd (fun _ => .undef) 7 t7) 1 t1) 0 t0, updS (fun _ => none) 7 (some o7), x⟩
/-- t0 toArray -/
abbrev s_ops_Grouped_l0 (t0 t1 t7 t19 t20 t21 : A) (o7 : Ob) (x : Sto) : St := ⟨upd (upd (upd (upd (upd (upd (fun _ => .undef) 21 t21) 20 t20) 19 t19) 7 t7) 1 t1) 0 t0, updS (fun _ => none) 7 (some o7), x⟩
/-- t0 toArray -/
abbrev s_ops_Grouped_x1 (t0 t1 t7 t19 t20 t21 : A) (o7 : Ob) (x : Sto) : St := ⟨upd (upd (upd (upd (upd (upd (fun _ => .undef) 21 t21) 20 t20) 19 t19) 7 t7) 1 t1) 0 t0, updS (fun _ => none) 7 (some o7), x⟩
/-- t0 toArray -/
abbrev s_ops_Grouped_x2 (t0 t1 t10 : A) (o10 : Ob) (x : Sto) : St := ⟨upd (upd (upd (fun _ => .undef) 10 t10) 1 t1) 0 t0, updS (fun _ => none) 10 (some o10), x⟩
/-- t0 toArray -/
abbrev s_ops_Grouped_l1 (t0 t1 t10 t41 t42 t43 : A) (o7 o10 : Ob) (x : Sto) : St := ⟨upd (upd (upd (upd (upd (upd (fun _ => .undef) 43 t43) 42 t42) 41 t41) 10 t10) 1 t1) 0 t0, updS (updS (fun _ => none) 10 (some o10)) 7 (some o7), x⟩
/-- t0 toArray -/
abbrev s_ops_Grouped_x3 (t0 t1 t10 t41 t42 t43 : A) (o7 o10 : Ob) (x : Sto) : St := ⟨upd (upd (upd (upd (upd (upd (fun _ => .undef) 43 t43) 42 t42) 41 t41) 10 t10) 1 t1) 0 t0, updS (updS (fun _ => none) 10 (some o10)) 7 (some o7), x⟩
/--  -/
abbrev s_ops_Grouped_x4 (t14 : A) (o14 : Ob) (x : Sto) : St := ⟨upd (fun _ => .undef) 14 t14, updS (fun _ => none) 14 (some o14), x⟩
/--  -/
abbrev s_ops_Grouped_l2 (t1 t14 t90 t91 t92 : A) (o10 o14 : Ob) (x : Sto) : St := ⟨upd (upd (upd (upd (upd (fun _ => .undef) 92 t92) 91 t91) 90 t90) 14 t14) 1 t1, updS (updS (fun _ => none) 14 (some o14)) 10 (some o10), x⟩
/--  -/
abbrev s_ops_Grouped_x5 (t1 t14 t90 t91 t92 : A) (o10 o14 : Ob) (x : Sto) : St := ⟨upd (upd (upd (upd (upd (fun _ => .undef) 92 t92) 91 t91) 90 t90) 14 t14) 1 t1, updS (updS (fun _ => none) 14 (some o14)) 10 (some o10), x⟩
/--  -/
abbrev s_ops_Grouped_x6 (t1 t14 t17 t90 t91 t92 : A) (o10 o14 : Ob) (x : Sto) : St := ⟨upd (upd (upd (upd (upd (upd (fun _ => .undef) 92 t92) 91 t91) 90 t90) 17 t17) 14 t14) 1 t1, updS (updS (fun _ => none) 14 (some o14)) 10 (some o10), x⟩
/--  -/
abbrev s_ops_Grouped_l3 (t1 t14 t16 t17 t90 t91 t92 t100 t101 : A) (o10 o14 : Ob) (x : Sto) : St := ⟨upd (upd (upd (upd (upd (upd (upd (upd (upd (fun _ => .undef) 101 t101) 100 t100) 92 t92) 91 t91) 90 t90) 17 t17) 16 t16) 14 t14) 1 t1, updS (updS (fun _ => none) 14 (some o14)) 10 (some o10), x⟩
/--  -/
abbrev s_ops_Grouped_x7 (t1 t14 t16 t17 t90 t91 t92 t100 t101 : A) (o10 o14 : Ob) (x : Sto) : St := ⟨upd (upd (upd (upd (upd (upd (upd (upd (upd (fun _ => .undef) 101 t101) 100 t100) 92 t92) 91 t91) 90 t90) 17 t17) 16 t16) 14 t14) 1 t1, updS (updS (fun _ => none) 14 (some o14)) 10 (some o10), x⟩
def i_ops_Grouped_l0 : IC := .seq (.seq (.reg [⟨some 22, .bin .lss (.t 21) (.t 20), none⟩])
 (.seq (.cond (.t 22) .skip (.seq (.keep [0, 1, 7] [7]) (.exit 0)))
 (.seq (.seq (.block 1 (.seq (.seq (.reg [⟨some 23, .idxp (.t 19) (.t 21) 2, none⟩,
  ⟨some 24, .load (.t 23) (some 2), none⟩,
  ⟨some 9, .alloc [.sl [], .int .i64 0], none⟩,
  ⟨none, .store (.t 9) (.t 24) (some 2), none⟩]) (.frz 9 [0, 1, 7, 9, 19, 20, 21] [7]))
 (.seq (.reg [⟨some 25, .fieldp (.t 9) 1 none, none⟩,
  ⟨some 26, .load (.t 25) none, none⟩,
  ⟨some 27, .bin .gtr (.t 26) (.c (.int .i64 0)), none⟩])
 (.cond (.t 27) (.dreg [⟨some 28, .mov (.t 7), none⟩,
  ⟨some 29, .mov (.t 0), none⟩,
  ⟨some 30, .fieldp (.t 9) 0 none, none⟩,
  ⟨some 31, .load (.t 30) none, none⟩,
  ⟨some 32, .call (.c (.fn n_ops_Values [])) [(.t 29), (.t 31)] (some []) true [], none⟩,
  ⟨some 33, .load (.t 9) (some 2), none⟩,
  ⟨some 34, .lit ty_api_ZRow 2 1 [.sl [], .int .i64 0] [(0, (.t 33))] false, none⟩,
  ⟨some 35, .build [.sl [], .sl []] [(0, 1, (.t 32)), (1, 1, (.t 34))], none⟩,
  ⟨some 36, .lit ty_ops_group 2 1 [.sl [], .sl []] [(0, (.t 35))] false, none⟩,
  ⟨some 37, .app (.t 28) (.t 36) ty_ops_group 2 48, none⟩,
  ⟨some 7, .mov (.t 37), none⟩]) .skip)))) (.keep [0, 1, 7, 19, 20, 21] [7]))
 (.reg [⟨some 38, .bin .add (.t 21) (.c (.int .i64 1)), none⟩,
  ⟨some 21, .mov (.t 38), none⟩])))) (.keep [0, 1, 7, 19, 20, 21] [7])
def i_ops_Grouped_l1 : IC := .seq (.seq (.reg [⟨some 44, .bin .lss (.t 43) (.t 42), none⟩])
 (.seq (.cond (.t 44) .skip (.seq (.keep [0, 1, 10] [10]) (.exit 2)))
 (.seq (.seq (.block 3 (.seq (.seq (.reg [⟨some 45, .idxp (.t 41) (.t 43) 2, none⟩,
  ⟨some 46, .load (.t 45) (some 2), none⟩,
  ⟨some 12, .alloc [.sl [], .sl []], none⟩,
  ⟨none, .store (.t 12) (.t 46) (some 2), none⟩]) (.frz 12 [0, 1, 10, 12, 41, 42, 43] [7, 10]))
 (.seq (.reg [⟨some 47, .mov (.t 10), none⟩,
  ⟨some 48, .len false (.t 47), none⟩,
  ⟨some 49, .bin .sub (.t 48) (.c (.int .i64 1)), none⟩,
  ⟨some 13, .mov (.t 49), none⟩])
 (.seq (.dreg [⟨some 50, .mov (.t 13), none⟩,
  ⟨some 51, .bin .geq (.t 50) (.c (.int .i64 0)), none⟩,
  ⟨some 52, .mov (.t 51), none⟩,
  ⟨some 53, .mov (.t 10), some (52, true)⟩,
  ⟨some 54, .mov (.t 13), some (52, true)⟩,
  ⟨some 55, .idxp (.t 53) (.t 54) 2, some (52, true)⟩,
  ⟨some 56, .fieldp (.t 55) 0 none, some (52, true)⟩,
  ⟨some 57, .load (.t 56) none, some (52, true)⟩,
  ⟨some 58, .fieldp (.t 12) 0 none, some (52, true)⟩,
  ⟨some 59, .load (.t 58) none, some (52, true)⟩,
  ⟨some 60, .call (.c (.fn n_vals_Rows [])) [(.t 57), (.t 59)] (some []) true [], some (52, true)⟩,
  ⟨some 61, .bin .eql (.t 60) (.c (.int .i64 0)), some (52, true)⟩,
  ⟨some 62, .pick (.t 52) (.t 61) (.c (.bool false)), none⟩])
 (.cond (.t 62) (.dreg [⟨some 63, .mov (.t 10), none⟩,
  ⟨some 64, .mov (.t 13), none⟩,
  ⟨some 65, .mov (.t 10), none⟩,
  ⟨some 66, .mov (.t 13), none⟩,
  ⟨some 67, .idxp (.t 65) (.t 66) 2, none⟩,
  ⟨some 68, .fieldp (.t 67) 1 none, none⟩,
  ⟨some 69, .load (.t 68) none, none⟩,
  ⟨some 70, .fieldp (.t 12) 1 none, none⟩,
  ⟨some 71, .load (.t 70) none, none⟩,
  ⟨some 72, .app (.t 69) (.t 71) ty_api_ZRow 2 32, none⟩,
  ⟨some 73, .idxp (.t 63) (.t 64) 2, none⟩,
  ⟨some 74, .fieldp (.t 73) 1 none, none⟩,
  ⟨none, .store (.t 74) (.t 72) none, none⟩]) (.reg [⟨some 75, .mov (.t 10), none⟩,
  ⟨some 76, .load (.t 12) (some 2), none⟩,
  ⟨some 77, .lit ty_ops_group 2 1 [.sl [], .sl []] [(0, (.t 76))] false, none⟩,
  ⟨some 78, .app (.t 75) (.t 77) ty_ops_group 2 48, none⟩,
  ⟨some 10, .mov (.t 78), none⟩])))))) (.keep [0, 1, 10, 41, 42, 43] [7, 10]))
 (.reg [⟨some 79, .bin .add (.t 43) (.c (.int .i64 1)), none⟩,
  ⟨some 43, .mov (.t 79), none⟩])))) (.keep [0, 1, 10, 41, 42, 43] [7, 10])
def i_ops_Grouped_l3 : IC := .seq (.seq (.reg [⟨some 102, .bin .lss (.t 101) (.t 100), none⟩])
 (.seq (.cond (.t 102) .skip (.seq (.keep [1, 14, 17, 90, 91, 92] [10, 14]) (.exit 6)))
 (.seq (.block 7 (.seq (.reg [⟨some 103, .mov (.t 101), none⟩,
  ⟨some 18, .mov (.t 103), none⟩])
 (.dreg [⟨some 104, .mov (.t 17), none⟩,
  ⟨some 105, .mov (.t 1), none⟩,
  ⟨some 106, .mov (.t 18), none⟩,
  ⟨some 107, .idxp (.t 105) (.t 106) 7, none⟩,
  ⟨some 108, .fieldp (.t 16) 1 none, none⟩,
  ⟨some 109, .load (.t 108) none, none⟩,
  ⟨some 110, .call (.c (.fn n_ops_aggregate [])) [(.t 107), (.t 109)] (some []) true [], none⟩,
  ⟨some 111, .lit ty_api_Val 3 1 [.int .i64 0, .int .i64 0, .str ⟨#[]⟩] [(0, (.t 110))] false, none⟩,
  ⟨some 112, .app (.t 104) (.t 111) ty_api_Val 3 32, none⟩,
  ⟨some 17, .mov (.t 112), none⟩])))
 (.reg [⟨some 113, .bin .add (.t 101) (.c (.int .i64 1)), none⟩,
  ⟨some 101, .mov (.t 113), none⟩])))) (.keep [1, 14, 16, 17, 90, 91, 92, 100, 101] [10, 14])
def i_ops_Grouped_a0 : IC := (.reg [⟨some 114, .mov (.t 14), none⟩,
  ⟨some 115, .mov (.t 17), none⟩,
  ⟨some 116, .build [.sl [], .int .i64 0] [(0, 1, (.t 115)), (1, 1, (.c (.int .i64 1)))], none⟩,
  ⟨some 117, .lit ty_api_ZRow 2 1 [.sl [], .int .i64 0] [(0, (.t 116))] false, none⟩,
  ⟨some 118, .app (.t 114) (.t 117) ty_api_ZRow 2 32, none⟩,
  ⟨some 14, .mov (.t 118), none⟩])
def i_ops_Grouped_l2 : IC := .seq (.seq (.reg [⟨some 93, .bin .lss (.t 92) (.t 91), none⟩])
 (.seq (.cond (.t 93) .skip (.seq (.keep [14] [14]) (.exit 4)))
 (.seq (.block 5 (.seq (.seq (.reg [⟨some 94, .idxp (.t 90) (.t 92) 2, none⟩,
  ⟨some 95, .load (.t 94) (some 2), none⟩,
  ⟨some 16, .alloc [.sl [], .sl []], none⟩,
  ⟨none, .store (.t 16) (.t 95) (some 2), none⟩]) (.frz 16 [1, 14, 16, 90, 91, 92] [10, 14]))
 (.seq (.reg [⟨some 96, .fieldp (.t 16) 0 none, none⟩,
  ⟨some 97, .load (.t 96) none, none⟩,
  ⟨some 98, .call (.c (.fn n_slices_Clone__api_Val [])) [(.t 97)] (some []) true [], none⟩,
  ⟨some 17, .mov (.t 98), none⟩])
 (.seq (.seq (.reg [⟨some 99, .mov (.t 1), none⟩,
  ⟨some 100, .len false (.t 99), none⟩,
  ⟨some 101, .mov (.c (.int .i64 0)), none⟩])
 (.block 6 (.seq (.keep [1, 14, 16, 17, 90, 91, 92, 100, 101] [10, 14]) (.loop i_ops_Grouped_l3))))
 i_ops_Grouped_a0))))
 (.reg [⟨some 119, .bin .add (.t 92) (.c (.int .i64 1)), none⟩,
  ⟨some 92, .mov (.t 119), none⟩])))) (.keep [1, 14, 90, 91, 92] [10, 14])
def i_ops_Grouped_a1 : IC := (.seq (.reg [⟨some 120, .mov (.t 14), none⟩,
  ⟨some 6, .mov (.t 120), none⟩])
 (.seq (.keep [6] [14]) .ret))
def i_ops_Grouped_a2 : IC := (.seq (.seq (.seq (.reg [⟨some 80, .mov (.t 0), none⟩,
  ⟨some 81, .len false (.t 80), none⟩,
  ⟨some 82, .bin .eql (.t 81) (.c (.int .i64 0)), none⟩,
  ⟨some 83, .mov (.t 82), none⟩,
  ⟨some 84, .mov (.t 10), some (83, true)⟩,
  ⟨some 85, .len false (.t 84), some (83, true)⟩,
  ⟨some 86, .bin .eql (.t 85) (.c (.int .i64 0)), some (83, true)⟩,
  ⟨some 87, .pick (.t 83) (.t 86) (.c (.bool false)), none⟩])
 (.cond (.t 87) (.reg [⟨some 88, .build [.sl [], .sl []] [], none⟩,
  ⟨some 89, .lit ty_ops_group 2 1 [.sl [], .sl []] [(0, (.t 88))] false, none⟩,
  ⟨some 10, .mov (.t 89), none⟩]) .skip)) (.keep [1, 10] [10]))
 (.seq (.reg [⟨some 14, .ntok ty_api_ZRow 2, none⟩])
 (.seq (.seq (.reg [⟨some 90, .mov (.t 10), none⟩,
  ⟨some 91, .len false (.t 90), none⟩,
  ⟨some 92, .mov (.c (.int .i64 0)), none⟩])
 (.block 4 (.seq (.keep [1, 14, 90, 91, 92] [10, 14]) (.loop i_ops_Grouped_l2))))
 i_ops_Grouped_a1)))
def i_ops_Grouped_a3 : IC := (.seq (.reg [⟨some 39, .mov (.t 7), none⟩,
  ⟨some 40, .call (.c (.fn n_slices_SortStableFunc__ops_group [])) [(.t 39), (.c (.fn n_ops_Grouped_1 []))] (some [.L 7]) false [], none⟩])
 (.seq (.reg [⟨some 10, .ntok ty_ops_group 2, none⟩])
 (.seq (.seq (.reg [⟨some 41, .mov (.t 7), none⟩,
  ⟨some 42, .len false (.t 41), none⟩,
  ⟨some 43, .mov (.c (.int .i64 0)), none⟩])
 (.block 2 (.seq (.keep [0, 1, 10, 41, 42, 43] [7, 10]) (.loop i_ops_Grouped_l1))))
 i_ops_Grouped_a2)))
def i_ops_Grouped : IFn := ⟨3, [.tmp 6 false],
 (.seq (.reg [⟨some 6, .mov (.c (.sl [])), none⟩])
 (.seq (.reg [⟨some 7, .ntok ty_ops_group 2, none⟩])
 (.seq (.seq (.reg [⟨some 19, .mov (.t 2), none⟩,
  ⟨some 20, .len false (.t 19), none⟩,
  ⟨some 21, .mov (.c (.int .i64 0)), none⟩])
 (.block 0 (.seq (.keep [0, 1, 7, 19, 20, 21] [7]) (.loop i_ops_Grouped_l0))))
 i_ops_Grouped_a3)))⟩
/-! exprs_Type -/
/--  -/
abbrev s_exprs_Type_r (t4 t5 : A) (x : Sto) : St := ⟨upd (upd (fun _ => .undef) 5 t5) 4 t4, fun _ => none, x⟩
/-- t0 cols, t3 x -/
abbrev s_exprs_Type_x0 (t0 t3 : A) (x : Sto) : St := ⟨upd (upd (fun _ => .undef) 3 t3) 0 t0, fun _ => none, x⟩
/-- t0 cols, t3 x -/
abbrev s_exprs_Type_l0 (t0 t3 t13 t14 t15 : A) (x : Sto) : St := ⟨upd (upd (upd (upd (upd (fun _ => .undef) 15 t15) 14 t14) 13 t13) 3 t3) 0 t0, fun _ => none, x⟩
/-- t0 cols, t3 x -/
abbrev s_exprs_Type_x1 (t0 t3 t13 t14 t15 : A) (x : Sto) : St := ⟨upd (upd (upd (upd (upd (fun _ => .undef) 15 t15) 14 t14) 13 t13) 3 t3) 0 t0, fun _ => none, x⟩
def i_exprs_Type_l0 : IC := .seq (.seq (.reg [⟨some 16, .bin .lss (.t 15) (.t 14), none⟩])
 (.seq (.cond (.t 16) .skip (.seq (.keep [0, 3] []) (.exit 0)))
 (.seq (.block 1 (.seq (.reg [⟨some 17, .idxp (.t 13) (.t 15) 1, none⟩,
  ⟨some 18, .load (.t 17) none, none⟩,
  ⟨some 7, .mov (.t 18), none⟩])
 (.seq (.reg [⟨some 19, .mov (.t 7), none⟩,
  ⟨some 20, .bin .lss (.t 19) (.c (.int .i64 1)), none⟩,
  ⟨some 21, .mov (.t 20), none⟩,
  ⟨some 22, .mov (.t 7), some (21, false)⟩,
  ⟨some 23, .bin .gtr (.t 22) (.c (.int .i64 4)), some (21, false)⟩,
  ⟨some 24, .pick (.t 21) (.c (.bool true)) (.t 23), none⟩])
 (.cond (.t 24) (.seq (.reg [⟨some 4, .mov (.c (.int .i64 0)), none⟩,
  ⟨some 5, .mov (.c (.int .i64 1)), none⟩])
 (.seq (.keep [4, 5] []) .ret)) .skip))))
 (.reg [⟨some 25, .bin .add (.t 15) (.c (.int .i64 1)), none⟩,
  ⟨some 15, .mov (.t 25), none⟩])))) (.keep [0, 3, 13, 14, 15] [])
def i_exprs_Type_a0 : IC := (.seq (.reg [⟨some 27, .mov (.t 0), none⟩,
  ⟨some 28, .build [.sl [], .int .i64 0] [(0, 1, (.t 27))], none⟩,
  ⟨some 29, .box (.t 28), none⟩,
  ⟨some 30, .call (.c (.fn n_exprs_looker_typ [])) [(.t 29), (.t 3), (.c (.int .i64 1))] (some [.L 29]) false [], none⟩,
  ⟨some 26, .mov (.t 30), none⟩,
  ⟨some 31, .ext (.t 26) 0, none⟩,
  ⟨some 32, .ext (.t 26) 1, none⟩,
  ⟨some 8, .mov (.t 31), none⟩,
  ⟨some 9, .mov (.t 32), none⟩])
 (.seq (.seq (.reg [⟨some 33, .mov (.t 9), none⟩,
  ⟨some 34, .bin .neq (.t 33) (.c (.int .i64 0)), none⟩])
 (.cond (.t 34) (.seq (.reg [⟨some 35, .mov (.t 9), none⟩,
  ⟨some 4, .mov (.c (.int .i64 0)), none⟩,
  ⟨some 5, .mov (.t 35), none⟩])
 (.seq (.keep [4, 5] []) .ret)) .skip))
 (.seq (.reg [⟨some 36, .mov (.t 8), none⟩,
  ⟨some 4, .mov (.t 36), none⟩,
  ⟨some 5, .mov (.c (.int .i64 0)), none⟩])
 (.seq (.keep [4, 5] []) .ret))))
def i_exprs_Type : IFn := ⟨2, [.tmp 4 false, .tmp 5 false],
 (.seq (.reg [⟨some 3, .ibox (.t 1), none⟩,
  ⟨some 4, .mov (.c (.int .i64 0)), none⟩,
  ⟨some 5, .mov (.c (.int .i64 0)), none⟩])
 (.seq (.seq (.reg [⟨some 10, .mov (.t 0), none⟩,
  ⟨some 11, .len false (.t 10), none⟩,
  ⟨some 12, .bin .gtr (.t 11) (.c (.int .i64 16)), none⟩])
 (.cond (.t 12) (.seq (.reg [⟨some 4, .mov (.c (.int .i64 0)), none⟩,
  ⟨some 5, .mov (.c (.int .i64 5)), none⟩])
 (.seq (.keep [4, 5] []) .ret)) .skip))
 (.seq (.seq (.reg [⟨some 13, .mov (.t 0), none⟩,
  ⟨some 14, .len false (.t 13), none⟩,
  ⟨some 15, .mov (.c (.int .i64 0)), none⟩])
 (.block 0 (.seq (.keep [0, 3, 13, 14, 15] []) (.loop i_exprs_Type_l0))))
 i_exprs_Type_a0)))⟩
/-! zsets_Wrong -/
/--  -/
abbrev s_zsets_Wrong_r (t2 : A) (x : Sto) : St := ⟨upd (fun _ => .undef) 2 t2, fun _ => none, x⟩
/--  -/
abbrev s_zsets_Wrong_x0 (x : Sto) : St := ⟨fun _ => .undef, fun _ => none, x⟩
/-- t0 z -/
abbrev s_zsets_Wrong_l0 (t0 t9 t10 t11 : A) (x : Sto) : St := ⟨upd (upd (upd (upd (fun _ => .undef) 11 t11) 10 t10) 9 t9) 0 t0, fun _ => none, x⟩
/-- t0 z -/
abbrev s_zsets_Wrong_x1 (t0 t9 t10 t11 : A) (x : Sto) : St := ⟨upd (upd (upd (upd (fun _ => .undef) 11 t11) 10 t10) 9 t9) 0 t0, fun _ => none, x⟩
/-- t0 z -/
abbrev s_zsets_Wrong_x2 (t0 t9 t10 t11 : A) (x : Sto) : St := ⟨upd (upd (upd (upd (fun _ => .undef) 11 t11) 10 t10) 9 t9) 0 t0, fun _ => none, x⟩
def i_zsets_Wrong_l0 : IC := .seq (.seq (.reg [⟨some 12, .bin .lss (.t 11) (.t 10), none⟩])
 (.seq (.cond (.t 12) .skip (.seq (.keep [] []) (.exit 0)))
 (.seq (.block 1 (.seq (.seq (.reg [⟨some 13, .mov (.t 11), none⟩,
  ⟨some 14, .idxp (.t 9) (.t 11) 2, none⟩,
  ⟨some 15, .load (.t 14) (some 2), none⟩,
  ⟨some 4, .alloc [.sl [], .int .i64 0], none⟩,
  ⟨some 3, .mov (.t 13), none⟩,
  ⟨none, .store (.t 4) (.t 15) (some 2), none⟩]) (.frz 4 [0, 3, 4, 9, 10, 11] []))
 (.seq (.seq (.reg [⟨some 16, .fieldp (.t 4) 0 none, none⟩,
  ⟨some 17, .load (.t 16) none, none⟩,
  ⟨some 18, .call (.c (.fn n_zsets_row [])) [(.t 17)] (some []) true [], none⟩,
  ⟨some 5, .mov (.t 18), none⟩])
 (.seq (.reg [⟨some 19, .mov (.t 5), none⟩,
  ⟨some 20, .bin .neq (.t 19) (.c (.int .i64 0)), none⟩])
 (.cond (.t 20) (.seq (.reg [⟨some 21, .mov (.t 5), none⟩,
  ⟨some 2, .mov (.t 21), none⟩])
 (.seq (.keep [2] []) .ret)) .skip)))
 (.block 2 (.seq (.reg [⟨some 23, .fieldp (.t 4) 1 none, none⟩,
  ⟨some 24, .load (.t 23) none, none⟩,
  ⟨some 25, .bin .eql (.t 24) (.c (.int .i64 0)), none⟩,
  ⟨some 26, .mov (.t 25), none⟩,
  ⟨some 27, .fieldp (.t 4) 1 none, some (26, false)⟩,
  ⟨some 28, .load (.t 27) none, some (26, false)⟩,
  ⟨some 29, .call (.c (.fn n_zsets_weight [])) [(.t 28)] (some []) true [], some (26, false)⟩,
  ⟨some 30, .not (.t 29), some (26, false)⟩,
  ⟨some 31, .pick (.t 26) (.c (.bool true)) (.t 30), none⟩,
  ⟨some 22, .mov (.t 31), none⟩])
 (.cond (.t 22) (.seq (.reg [⟨some 2, .mov (.c (.int .i64 3)), none⟩])
 (.seq (.keep [2] []) .ret)) (.seq (.dreg [⟨some 33, .mov (.t 3), none⟩,
  ⟨some 34, .bin .gtr (.t 33) (.c (.int .i64 0)), none⟩,
  ⟨some 35, .mov (.t 34), none⟩,
  ⟨some 36, .mov (.t 0), some (35, true)⟩,
  ⟨some 37, .mov (.t 3), some (35, true)⟩,
  ⟨some 38, .bin .sub (.t 37) (.c (.int .i64 1)), some (35, true)⟩,
  ⟨some 39, .idxp (.t 36) (.t 38) 2, some (35, true)⟩,
  ⟨some 40, .fieldp (.t 39) 0 none, some (35, true)⟩,
  ⟨some 41, .load (.t 40) none, some (35, true)⟩,
  ⟨some 42, .fieldp (.t 4) 0 none, some (35, true)⟩,
  ⟨some 43, .load (.t 42) none, some (35, true)⟩,
  ⟨some 44, .call (.c (.fn n_vals_Rows [])) [(.t 41), (.t 43)] (some []) true [], some (35, true)⟩,
  ⟨some 45, .bin .geq (.t 44) (.c (.int .i64 0)), some (35, true)⟩,
  ⟨some 46, .pick (.t 35) (.t 45) (.c (.bool false)), none⟩,
  ⟨some 32, .mov (.t 46), none⟩])
 (.cond (.t 32) (.seq (.reg [⟨some 2, .mov (.c (.int .i64 2)), none⟩])
 (.seq (.keep [2] []) .ret)) .skip))))))))
 (.reg [⟨some 47, .bin .add (.t 11) (.c (.int .i64 1)), none⟩,
  ⟨some 11, .mov (.t 47), none⟩])))) (.keep [0, 9, 10, 11] [])
def i_zsets_Wrong_a0 : IC := (.seq (.reg [⟨some 2, .mov (.c (.int .i64 0)), none⟩])
 (.seq (.keep [2] []) .ret))
def i_zsets_Wrong : IFn := ⟨1, [.tmp 2 false],
 (.seq (.reg [⟨some 2, .mov (.c (.int .i64 0)), none⟩])
 (.seq (.seq (.reg [⟨some 6, .mov (.t 0), none⟩,
  ⟨some 7, .len false (.t 6), none⟩,
  ⟨some 8, .bin .gtr (.t 7) (.c (.int .i64 400)), none⟩])
 (.cond (.t 8) (.seq (.reg [⟨some 2, .mov (.c (.int .i64 5)), none⟩])
 (.seq (.keep [2] []) .ret)) .skip))
 (.seq (.seq (.reg [⟨some 9, .mov (.t 0), none⟩,
  ⟨some 10, .len false (.t 9), none⟩,
  ⟨some 11, .mov (.c (.int .i64 0)), none⟩])
 (.block 0 (.seq (.keep [0, 9, 10, 11] []) (.loop i_zsets_Wrong_l0))))
 i_zsets_Wrong_a0)))⟩
/-! exprs_Fits -/
/--  -/
abbrev s_exprs_Fits_r (t4 : A) (x : Sto) : St := ⟨upd (fun _ => .undef) 4 t4, fun _ => none, x⟩
/--  -/
abbrev s_exprs_Fits_x0 (x : Sto) : St := ⟨fun _ => .undef, fun _ => none, x⟩
/-- t0 cols -/
abbrev s_exprs_Fits_l0 (t0 t13 t14 t15 : A) (x : Sto) : St := ⟨upd (upd (upd (upd (fun _ => .undef) 15 t15) 14 t14) 13 t13) 0 t0, fun _ => none, x⟩
/-- t0 cols -/
abbrev s_exprs_Fits_x1 (t0 t13 t14 t15 : A) (x : Sto) : St := ⟨upd (upd (upd (upd (fun _ => .undef) 15 t15) 14 t14) 13 t13) 0 t0, fun _ => none, x⟩
def i_exprs_Fits_l0 : IC := .seq (.seq (.reg [⟨some 16, .bin .lss (.t 15) (.t 14), none⟩])
 (.seq (.cond (.t 16) .skip (.seq (.keep [] []) (.exit 0)))
 (.seq (.block 1 (.seq (.seq (.reg [⟨some 17, .mov (.t 15), none⟩,
  ⟨some 18, .idxp (.t 13) (.t 15) 3, none⟩,
  ⟨some 19, .load (.t 18) (some 3), none⟩,
  ⟨some 6, .alloc [.int .i64 0, .int .i64 0, .str ⟨#[]⟩], none⟩,
  ⟨some 5, .mov (.t 17), none⟩,
  ⟨none, .store (.t 6) (.t 19) (some 3), none⟩]) (.frz 6 [0, 5, 6, 13, 14, 15] []))
 (.seq (.seq (.reg [⟨some 20, .load (.t 6) (some 3), none⟩,
  ⟨some 21, .call (.c (.fn n_vals_Wrong [])) [(.t 20)] (some []) true [], none⟩,
  ⟨some 7, .mov (.t 21), none⟩])
 (.seq (.reg [⟨some 22, .mov (.t 7), none⟩,
  ⟨some 23, .bin .neq (.t 22) (.c (.int .i64 0)), none⟩])
 (.cond (.t 23) (.seq (.reg [⟨some 24, .mov (.t 7), none⟩,
  ⟨some 4, .mov (.t 24), none⟩])
 (.seq (.keep [4] []) .ret)) .skip)))
 (.seq (.dreg [⟨some 25, .fieldp (.t 6) 0 none, none⟩,
  ⟨some 26, .load (.t 25) none, none⟩,
  ⟨some 27, .bin .neq (.t 26) (.c (.int .i64 1)), none⟩,
  ⟨some 28, .mov (.t 27), none⟩,
  ⟨some 29, .fieldp (.t 6) 0 none, some (28, true)⟩,
  ⟨some 30, .load (.t 29) none, some (28, true)⟩,
  ⟨some 31, .mov (.t 0), some (28, true)⟩,
  ⟨some 32, .mov (.t 5), some (28, true)⟩,
  ⟨some 33, .idxp (.t 31) (.t 32) 1, some (28, true)⟩,
  ⟨some 34, .load (.t 33) none, some (28, true)⟩,
  ⟨some 35, .bin .neq (.t 30) (.t 34), some (28, true)⟩,
  ⟨some 36, .pick (.t 28) (.t 35) (.c (.bool false)), none⟩])
 (.cond (.t 36) (.seq (.reg [⟨some 4, .mov (.c (.int .i64 9)), none⟩])
 (.seq (.keep [4] []) .ret)) .skip)))))
 (.reg [⟨some 37, .bin .add (.t 15) (.c (.int .i64 1)), none⟩,
  ⟨some 15, .mov (.t 37), none⟩])))) (.keep [0, 13, 14, 15] [])
def i_exprs_Fits_a0 : IC := (.seq (.reg [⟨some 4, .mov (.c (.int .i64 0)), none⟩])
 (.seq (.keep [4] []) .ret))
def i_exprs_Fits : IFn := ⟨2, [.tmp 4 false],
 (.seq (.reg [⟨some 4, .mov (.c (.int .i64 0)), none⟩])
 (.seq (.seq (.reg [⟨some 8, .mov (.t 1), none⟩,
  ⟨some 9, .len false (.t 8), none⟩,
  ⟨some 10, .mov (.t 0), none⟩,
  ⟨some 11, .len false (.t 10), none⟩,
  ⟨some 12, .bin .neq (.t 9) (.t 11), none⟩])
 (.cond (.t 12) (.seq (.reg [⟨some 4, .mov (.c (.int .i64 8)), none⟩])
 (.seq (.keep [4] []) .ret)) .skip))
 (.seq (.seq (.reg [⟨some 13, .mov (.t 1), none⟩,
  ⟨some 14, .len false (.t 13), none⟩,
  ⟨some 15, .mov (.c (.int .i64 0)), none⟩])
 (.block 0 (.seq (.keep [0, 13, 14, 15] []) (.loop i_exprs_Fits_l0))))
 i_exprs_Fits_a0)))⟩
end Go.Tide
