/- Part 6 of the proof's ground: The code of the functions that the statements reach, with its types resolved. -/
import Derived.Test.YtfalonfjpihgeaaTide5

/- The code of the functions that the statements reach, with its types resolved. -/
set_option linter.unusedVariables false
namespace Go.Tide
/-! slices_stableCmpFunc__P_window_line -/
/--  -/
abbrev s_slices_stableCmpFunc__P_window_line_r (x : Sto) : St := ⟨fun _ => .undef, fun _ => none, x⟩
/-- t0 data, t1 n, t2 cmp, t6 blockSize, t7 a -/
abbrev s_slices_stableCmpFunc__P_window_line_x0 (t0 t1 t2 t6 t7 : A) (x : Sto) : St := ⟨upd (upd (upd (upd (upd (fun _ => .undef) 7 t7) 6 t6) 2 t2) 1 t1) 0 t0, fun _ => none, x⟩
/-- t0 data, t1 n, t2 cmp, t6 blockSize, t7 a, t8 b -/
abbrev s_slices_stableCmpFunc__P_window_line_l0 (t0 t1 t2 t6 t7 t8 : A) (x : Sto) : St := ⟨upd (upd (upd (upd (upd (upd (fun _ => .undef) 8 t8) 7 t7) 6 t6) 2 t2) 1 t1) 0 t0, fun _ => none, x⟩
/-- t0 data, t1 n, t2 cmp, t6 blockSize, t7 a, t8 b -/
abbrev s_slices_stableCmpFunc__P_window_line_x1 (t0 t1 t2 t6 t7 t8 : A) (x : Sto) : St := ⟨upd (upd (upd (upd (upd (upd (fun _ => .undef) 8 t8) 7 t7) 6 t6) 2 t2) 1 t1) 0 t0, fun _ => none, x⟩
/--  -/
abbrev s_slices_stableCmpFunc__P_window_line_x2 (x : Sto) : St := ⟨fun _ => .undef, fun _ => none, x⟩
/-- t0 data, t1 n, t2 cmp, t6 blockSize -/
abbrev s_slices_stableCmpFunc__P_window_line_l1 (t0 t1 t2 t6 : A) (x : Sto) : St := ⟨upd (upd (upd (upd (fun _ => .undef) 6 t6) 2 t2) 1 t1) 0 t0, fun _ => none, x⟩
/-- t0 data, t1 n, t2 cmp, t6 blockSize -/
abbrev s_slices_stableCmpFunc__P_window_line_x3 (t0 t1 t2 t6 : A) (x : Sto) : St := ⟨upd (upd (upd (upd (fun _ => .undef) 6 t6) 2 t2) 1 t1) 0 t0, fun _ => none, x⟩
/-- t0 data, t1 n, t2 cmp, t6 blockSize, t7 a -/
abbrev s_slices_stableCmpFunc__P_window_line_x4 (t0 t1 t2 t6 t7 : A) (x : Sto) : St := ⟨upd (upd (upd (upd (upd (fun _ => .undef) 7 t7) 6 t6) 2 t2) 1 t1) 0 t0, fun _ => none, x⟩
/-- t0 data, t1 n, t2 cmp, t6 blockSize, t7 a, t8 b -/
abbrev s_slices_stableCmpFunc__P_window_line_l2 (t0 t1 t2 t6 t7 t8 : A) (x : Sto) : St := ⟨upd (upd (upd (upd (upd (upd (fun _ => .undef) 8 t8) 7 t7) 6 t6) 2 t2) 1 t1) 0 t0, fun _ => none, x⟩
/-- t0 data, t1 n, t2 cmp, t6 blockSize, t7 a, t8 b -/
abbrev s_slices_stableCmpFunc__P_window_line_x5 (t0 t1 t2 t6 t7 t8 : A) (x : Sto) : St := ⟨upd (upd (upd (upd (upd (upd (fun _ => .undef) 8 t8) 7 t7) 6 t6) 2 t2) 1 t1) 0 t0, fun _ => none, x⟩
def i_slices_stableCmpFunc__P_window_line_l0 : IC := .seq (.seq (.seq (.reg [⟨some 11, .mov (.t 8), none⟩,
  ⟨some 12, .mov (.t 1), none⟩,
  ⟨some 13, .bin .leq (.t 11) (.t 12), none⟩])
 (.cond (.t 13) .skip (.seq (.keep [0, 1, 2, 6, 7] []) (.exit 0))))
 (.block 1 (.seq (.reg [⟨some 14, .mov (.t 0), none⟩,
  ⟨some 15, .mov (.t 7), none⟩,
  ⟨some 16, .mov (.t 8), none⟩,
  ⟨some 17, .mov (.t 2), none⟩,
  ⟨some 18, .call (.c (.fn n_slices_insertionSortCmpFunc__P_window_line [])) [(.t 14), (.t 15), (.t 16), (.t 17)] none false [], none⟩])
 (.seq (.reg [⟨some 19, .mov (.t 8), none⟩,
  ⟨some 7, .mov (.t 19), none⟩])
 (.reg [⟨some 20, .mov (.t 8), none⟩,
  ⟨some 21, .mov (.t 6), none⟩,
  ⟨some 22, .bin .add (.t 20) (.t 21), none⟩,
  ⟨some 8, .mov (.t 22), none⟩]))))) (.keep [0, 1, 2, 6, 7, 8] [])
def i_slices_stableCmpFunc__P_window_line_l2 : IC := .seq (.seq (.seq (.reg [⟨some 33, .mov (.t 8), none⟩,
  ⟨some 34, .mov (.t 1), none⟩,
  ⟨some 35, .bin .leq (.t 33) (.t 34), none⟩])
 (.cond (.t 35) .skip (.seq (.keep [0, 1, 2, 6, 7] []) (.exit 4))))
 (.block 5 (.seq (.reg [⟨some 36, .mov (.t 0), none⟩,
  ⟨some 37, .mov (.t 7), none⟩,
  ⟨some 38, .mov (.t 7), none⟩,
  ⟨some 39, .mov (.t 6), none⟩,
  ⟨some 40, .bin .add (.t 38) (.t 39), none⟩,
  ⟨some 41, .mov (.t 8), none⟩,
  ⟨some 42, .mov (.t 2), none⟩,
  ⟨some 43, .call (.c (.fn n_slices_symMergeCmpFunc__P_window_line [])) [(.t 36), (.t 37), (.t 40), (.t 41), (.t 42)] none false [], none⟩])
 (.seq (.reg [⟨some 44, .mov (.t 8), none⟩,
  ⟨some 7, .mov (.t 44), none⟩])
 (.reg [⟨some 45, .mov (.t 8), none⟩,
  ⟨some 46, .mov (.t 6), none⟩,
  ⟨some 47, .bin .mul (.c (.int .i64 2)) (.t 46), none⟩,
  ⟨some 48, .bin .add (.t 45) (.t 47), none⟩,
  ⟨some 8, .mov (.t 48), none⟩]))))) (.keep [0, 1, 2, 6, 7, 8] [])
def i_slices_stableCmpFunc__P_window_line_a0 : IC := (.seq (.seq (.seq (.reg [⟨some 49, .mov (.t 7), none⟩,
  ⟨some 50, .mov (.t 6), none⟩,
  ⟨some 51, .bin .add (.t 49) (.t 50), none⟩,
  ⟨some 9, .mov (.t 51), none⟩])
 (.seq (.reg [⟨some 52, .mov (.t 9), none⟩,
  ⟨some 53, .mov (.t 1), none⟩,
  ⟨some 54, .bin .lss (.t 52) (.t 53), none⟩])
 (.cond (.t 54) (.reg [⟨some 55, .mov (.t 0), none⟩,
  ⟨some 56, .mov (.t 7), none⟩,
  ⟨some 57, .mov (.t 9), none⟩,
  ⟨some 58, .mov (.t 1), none⟩,
  ⟨some 59, .mov (.t 2), none⟩,
  ⟨some 60, .call (.c (.fn n_slices_symMergeCmpFunc__P_window_line [])) [(.t 55), (.t 56), (.t 57), (.t 58), (.t 59)] none false [], none⟩]) .skip))) (.keep [0, 1, 2, 6] []))
 (.reg [⟨some 61, .mov (.t 6), none⟩,
  ⟨some 62, .bin .mul (.t 61) (.c (.int .i64 2)), none⟩,
  ⟨some 6, .mov (.t 62), none⟩]))
def i_slices_stableCmpFunc__P_window_line_l1 : IC := .seq (.seq (.seq (.reg [⟨some 28, .mov (.t 6), none⟩,
  ⟨some 29, .mov (.t 1), none⟩,
  ⟨some 30, .bin .lss (.t 28) (.t 29), none⟩])
 (.cond (.t 30) .skip (.seq (.keep [] []) (.exit 2))))
 (.block 3 (.seq (.reg [⟨some 31, .mov (.t 6), none⟩,
  ⟨some 32, .bin .mul (.c (.int .i64 2)) (.t 31), none⟩,
  ⟨some 7, .mov (.c (.int .i64 0)), none⟩,
  ⟨some 8, .mov (.t 32), none⟩])
 (.seq (.block 4 (.seq (.keep [0, 1, 2, 6, 7, 8] []) (.loop i_slices_stableCmpFunc__P_window_line_l2)))
 i_slices_stableCmpFunc__P_window_line_a0)))) (.keep [0, 1, 2, 6] [])
def i_slices_stableCmpFunc__P_window_line_a1 : IC := (.seq (.reg [⟨some 23, .mov (.t 0), none⟩,
  ⟨some 24, .mov (.t 7), none⟩,
  ⟨some 25, .mov (.t 1), none⟩,
  ⟨some 26, .mov (.t 2), none⟩,
  ⟨some 27, .call (.c (.fn n_slices_insertionSortCmpFunc__P_window_line [])) [(.t 23), (.t 24), (.t 25), (.t 26)] none false [], none⟩])
 (.block 2 (.seq (.keep [0, 1, 2, 6] []) (.loop i_slices_stableCmpFunc__P_window_line_l1))))
def i_slices_stableCmpFunc__P_window_line : IFn := ⟨3, [],
 (.seq (.reg [⟨some 6, .mov (.c (.int .i64 20)), none⟩])
 (.seq (.reg [⟨some 10, .mov (.t 6), none⟩,
  ⟨some 7, .mov (.c (.int .i64 0)), none⟩,
  ⟨some 8, .mov (.t 10), none⟩])
 (.seq (.block 0 (.seq (.keep [0, 1, 2, 6, 7, 8] []) (.loop i_slices_stableCmpFunc__P_window_line_l0)))
 i_slices_stableCmpFunc__P_window_line_a1)))⟩
/-! vals_Compare -/
/--  -/
abbrev s_vals_Compare_r (t4 : A) (x : Sto) : St := ⟨upd (fun _ => .undef) 4 t4, fun _ => none, x⟩
def i_vals_Compare : IFn := ⟨2, [.tmp 4 false],
 (.seq (.reg [⟨some 2, .box (.t 0), none⟩,
  ⟨some 3, .box (.t 1), none⟩,
  ⟨some 4, .mov (.c (.int .i64 0)), none⟩])
 (.seq (.dreg [⟨some 5, .load (.t 2) (some 3), none⟩,
  ⟨some 6, .call (.c (.fn n_vals_Bare [])) [(.t 5)] (some []) true [], none⟩,
  ⟨some 7, .load (.t 3) (some 3), none⟩,
  ⟨some 8, .call (.c (.fn n_vals_Bare [])) [(.t 7)] (some []) true [], none⟩,
  ⟨none, .store (.t 2) (.t 6) (some 3), none⟩,
  ⟨none, .store (.t 3) (.t 8) (some 3), none⟩])
 (.seq (.dreg [⟨some 9, .fieldp (.t 2) 0 none, none⟩,
  ⟨some 10, .load (.t 9) none, none⟩,
  ⟨some 11, .fieldp (.t 3) 0 none, none⟩,
  ⟨some 12, .load (.t 11) none, none⟩,
  ⟨some 13, .call (.c (.fn n_cmp_Compare__int [])) [(.t 10), (.t 12)] (some []) true [], none⟩,
  ⟨some 14, .fieldp (.t 2) 1 none, none⟩,
  ⟨some 15, .load (.t 14) none, none⟩,
  ⟨some 16, .fieldp (.t 3) 1 none, none⟩,
  ⟨some 17, .load (.t 16) none, none⟩,
  ⟨some 18, .call (.c (.fn n_cmp_Compare__int64 [])) [(.t 15), (.t 17)] (some []) true [], none⟩,
  ⟨some 19, .fieldp (.t 2) 2 none, none⟩,
  ⟨some 20, .load (.t 19) none, none⟩,
  ⟨some 21, .fieldp (.t 3) 2 none, none⟩,
  ⟨some 22, .load (.t 21) none, none⟩,
  ⟨some 23, .call (.c (.fn n_strings_Compare [])) [(.t 20), (.t 22)] (some []) true [], none⟩,
  ⟨some 24, .lit ty_int 1 3 [.int .i64 0] [(0, (.t 13)), (1, (.t 18)), (2, (.t 23))] false, none⟩,
  ⟨some 25, .call (.c (.fn n_cmp_Or__int [])) [(.t 24)] (some []) true [], none⟩,
  ⟨some 4, .mov (.t 25), none⟩])
 (.seq (.keep [4] []) .ret))))⟩
/-! cmp_Compare__int -/
/--  -/
abbrev s_cmp_Compare__int_r (t4 : A) (x : Sto) : St := ⟨upd (fun _ => .undef) 4 t4, fun _ => none, x⟩
def i_cmp_Compare__int : IFn := ⟨2, [.tmp 4 false],
 (.seq (.reg [⟨some 4, .mov (.c (.int .i64 0)), none⟩])
 (.seq (.reg [⟨some 7, .mov (.t 0), none⟩,
  ⟨some 8, .call (.c (.fn n_cmp_isNaN__int [])) [(.t 7)] (some []) true [], none⟩,
  ⟨some 5, .mov (.t 8), none⟩])
 (.seq (.reg [⟨some 9, .mov (.t 1), none⟩,
  ⟨some 10, .call (.c (.fn n_cmp_isNaN__int [])) [(.t 9)] (some []) true [], none⟩,
  ⟨some 6, .mov (.t 10), none⟩])
 (.seq (.seq (.reg [⟨some 11, .mov (.t 5), none⟩])
 (.cond (.t 11) (.seq (.seq (.reg [⟨some 12, .mov (.t 6), none⟩])
 (.cond (.t 12) (.seq (.reg [⟨some 4, .mov (.c (.int .i64 0)), none⟩])
 (.seq (.keep [4] []) .ret)) .skip))
 (.seq (.reg [⟨some 4, .mov (.c (.int .i64 (-1))), none⟩])
 (.seq (.keep [4] []) .ret))) .skip))
 (.seq (.seq (.reg [⟨some 13, .mov (.t 6), none⟩])
 (.cond (.t 13) (.seq (.reg [⟨some 4, .mov (.c (.int .i64 1)), none⟩])
 (.seq (.keep [4] []) .ret)) .skip))
 (.seq (.seq (.reg [⟨some 14, .mov (.t 0), none⟩,
  ⟨some 15, .mov (.t 1), none⟩,
  ⟨some 16, .bin .lss (.t 14) (.t 15), none⟩])
 (.cond (.t 16) (.seq (.reg [⟨some 4, .mov (.c (.int .i64 (-1))), none⟩])
 (.seq (.keep [4] []) .ret)) .skip))
 (.seq (.seq (.reg [⟨some 17, .mov (.t 0), none⟩,
  ⟨some 18, .mov (.t 1), none⟩,
  ⟨some 19, .bin .gtr (.t 17) (.t 18), none⟩])
 (.cond (.t 19) (.seq (.reg [⟨some 4, .mov (.c (.int .i64 1)), none⟩])
 (.seq (.keep [4] []) .ret)) .skip))
 (.seq (.reg [⟨some 4, .mov (.c (.int .i64 0)), none⟩])
 (.seq (.keep [4] []) .ret)))))))))⟩
/-! slices_Clone__api_Val -/
/--  -/
abbrev s_slices_Clone__api_Val_r (t2 : A) (o2 o5 : Ob) (x : Sto) : St := ⟨upd (fun _ => .undef) 2 t2, updS (updS (fun _ => none) 5 (some o5)) 2 (some o2), x⟩
def i_slices_Clone__api_Val : IFn := ⟨1, [.tmp 2 true],
 (.seq (.reg [⟨some 2, .ntok ty_api_Val 3, none⟩])
 (.seq (.seq (.reg [⟨some 3, .mov (.t 0), none⟩,
  ⟨some 4, .isnil false false (.t 3), none⟩])
 (.cond (.t 4) (.seq (.seq (.keep [] []) (.reg [⟨some 2, .ntok ty_api_Val 3, none⟩]))
 (.seq (.keep [2] [2, 5]) .ret)) .skip))
 (.seq (.reg [⟨some 5, .ntok ty_api_Val 3, none⟩,
  ⟨some 6, .mov (.t 0), none⟩,
  ⟨some 7, .app (.t 5) (.t 6) ty_api_Val 3 32, none⟩,
  ⟨some 2, .mov (.t 7), none⟩])
 (.seq (.keep [2] [2, 5]) .ret))))⟩
/-! vals_Int -/
/--  -/
abbrev s_vals_Int_r (t2 : A) (o2 : Ob) (x : Sto) : St := ⟨upd (fun _ => .undef) 2 t2, updS (fun _ => none) 2 (some o2), x⟩
def i_vals_Int : IFn := ⟨1, [.cell 2 (some 3)],
 (.seq (.reg [⟨some 2, .alloc [.int .i64 0, .int .i64 0, .str ⟨#[]⟩], none⟩])
 (.seq (.seq (.reg [⟨some 3, .mov (.t 0), none⟩,
  ⟨some 4, .bin .gtr (.t 3) (.c (.int .i64 1000000000000000)), none⟩,
  ⟨some 5, .mov (.t 4), none⟩,
  ⟨some 6, .mov (.t 0), some (5, false)⟩,
  ⟨some 7, .bin .lss (.t 6) (.c (.int .i64 (-1000000000000000))), some (5, false)⟩,
  ⟨some 8, .pick (.t 5) (.c (.bool true)) (.t 7), none⟩])
 (.cond (.t 8) (.seq (.reg [⟨some 9, .call (.c (.fn n_vals_Null [])) [] (some []) true [], none⟩,
  ⟨none, .store (.t 2) (.t 9) (some 3), none⟩])
 (.seq (.keep [2] [2]) .ret)) .skip))
 (.seq (.reg [⟨some 10, .mov (.t 0), none⟩,
  ⟨some 11, .build [.int .i64 0, .int .i64 0, .str ⟨#[]⟩] [(0, 1, (.c (.int .i64 3))), (1, 1, (.t 10))], none⟩,
  ⟨none, .store (.t 2) (.t 11) (some 3), none⟩])
 (.seq (.keep [2] [2]) .ret))))⟩
/-! vals_Null -/
/--  -/
abbrev s_vals_Null_r (t0 : A) (o0 : Ob) (x : Sto) : St := ⟨upd (fun _ => .undef) 0 t0, updS (fun _ => none) 0 (some o0), x⟩
def i_vals_Null : IFn := ⟨0, [.cell 0 (some 3)],
 (.seq (.reg [⟨some 0, .alloc [.int .i64 0, .int .i64 0, .str ⟨#[]⟩], none⟩])
 (.seq (.reg [⟨some 1, .build [.int .i64 0, .int .i64 0, .str ⟨#[]⟩] [(0, 1, (.c (.int .i64 1)))], none⟩,
  ⟨none, .store (.t 0) (.t 1) (some 3), none⟩])
 (.seq (.keep [0] [0]) .ret)))⟩
/-! zsets_Fit -/
/--  -/
abbrev s_zsets_Fit_r (t2 t3 : A) (x : Sto) : St := ⟨upd (upd (fun _ => .undef) 3 t3) 2 t2, fun _ => none, x⟩
def i_zsets_Fit : IFn := ⟨1, [.tmp 2 false, .tmp 3 false],
 (.seq (.reg [⟨some 2, .mov (.c (.sl [])), none⟩,
  ⟨some 3, .mov (.c (.int .i64 0)), none⟩])
 (.seq (.seq (.reg [⟨some 4, .mov (.t 0), none⟩,
  ⟨some 5, .call (.c (.fn n_slices_ContainsFunc__api_ZRow [])) [(.t 4), (.c (.fn n_zsets_Fit_1 []))] (some []) true [], none⟩])
 (.cond (.t 5) (.seq (.reg [⟨some 2, .mov (.c (.sl [])), none⟩,
  ⟨some 3, .mov (.c (.int .i64 3)), none⟩])
 (.seq (.keep [2, 3] []) .ret)) .skip))
 (.seq (.seq (.reg [⟨some 6, .mov (.t 0), none⟩,
  ⟨some 7, .len false (.t 6), none⟩,
  ⟨some 8, .bin .gtr (.t 7) (.c (.int .i64 400)), none⟩])
 (.cond (.t 8) (.seq (.reg [⟨some 2, .mov (.c (.sl [])), none⟩,
  ⟨some 3, .mov (.c (.int .i64 5)), none⟩])
 (.seq (.keep [2, 3] []) .ret)) .skip))
 (.seq (.reg [⟨some 9, .mov (.t 0), none⟩,
  ⟨some 2, .mov (.t 9), none⟩,
  ⟨some 3, .mov (.c (.int .i64 0)), none⟩])
 (.seq (.keep [2, 3] []) .ret)))))⟩
/-! zsets_Total -/
/--  -/
abbrev s_zsets_Total_r (t2 : A) (o6 : Ob) (x : Sto) : St := ⟨upd (fun _ => .undef) 2 t2, updS (fun _ => none) 6 (some o6), x⟩
/--  -/
abbrev s_zsets_Total_x0 (t3 : A) (o11 : Ob) (x : Sto) : St := ⟨upd (fun _ => .undef) 3 t3, updS (fun _ => none) 11 (some o11), x⟩
/--  -/
abbrev s_zsets_Total_l0 (t3 t12 t13 t14 : A) (o11 : Ob) (x : Sto) : St := ⟨upd (upd (upd (upd (fun _ => .undef) 14 t14) 13 t13) 12 t12) 3 t3, updS (fun _ => none) 11 (some o11), x⟩
/--  -/
abbrev s_zsets_Total_x1 (t3 t12 t13 t14 : A) (o11 : Ob) (x : Sto) : St := ⟨upd (upd (upd (upd (fun _ => .undef) 14 t14) 13 t13) 12 t12) 3 t3, updS (fun _ => none) 11 (some o11), x⟩
/--  -/
abbrev s_zsets_Total_x2 (t6 : A) (o6 : Ob) (x : Sto) : St := ⟨upd (fun _ => .undef) 6 t6, updS (fun _ => none) 6 (some o6), x⟩
/--  -/
abbrev s_zsets_Total_l1 (t3 t6 t7 : A) (o6 o11 : Ob) (x : Sto) : St := ⟨upd (upd (upd (fun _ => .undef) 7 t7) 6 t6) 3 t3, updS (updS (fun _ => none) 11 (some o11)) 6 (some o6), x⟩
/--  -/
abbrev s_zsets_Total_x3 (t3 t6 t7 : A) (o6 o11 : Ob) (x : Sto) : St := ⟨upd (upd (upd (fun _ => .undef) 7 t7) 6 t6) 3 t3, updS (updS (fun _ => none) 11 (some o11)) 6 (some o6), x⟩
/--  -/
abbrev s_zsets_Total_x4 (t3 t6 t7 t8 : A) (o6 o8 o11 : Ob) (x : Sto) : St := ⟨upd (upd (upd (upd (fun _ => .undef) 8 t8) 7 t7) 6 t6) 3 t3, updS (updS (updS (fun _ => none) 11 (some o11)) 8 (some o8)) 6 (some o6), x⟩
/--  -/
abbrev s_zsets_Total_l2 (t3 t6 t7 t8 : A) (o6 o8 o11 : Ob) (x : Sto) : St := ⟨upd (upd (upd (upd (fun _ => .undef) 8 t8) 7 t7) 6 t6) 3 t3, updS (updS (updS (fun _ => none) 11 (some o11)) 8 (some o8)) 6 (some o6), x⟩
/--  -/
abbrev s_zsets_Total_x5 (t3 t6 t7 t8 : A) (o6 o8 o11 : Ob) (x : Sto) : St := ⟨upd (upd (upd (upd (fun _ => .undef) 8 t8) 7 t7) 6 t6) 3 t3, updS (updS (updS (fun _ => none) 11 (some o11)) 8 (some o8)) 6 (some o6), x⟩
def i_zsets_Total_l0 : IC := .seq (.seq (.reg [⟨some 15, .bin .lss (.t 14) (.t 13), none⟩])
 (.seq (.cond (.t 15) .skip (.seq (.keep [3] [11]) (.exit 0)))
 (.seq (.block 1 (.seq (.seq (.reg [⟨some 16, .mov (.t 14), none⟩,
  ⟨some 17, .idxp (.t 12) (.t 14) 2, none⟩,
  ⟨some 18, .load (.t 17) (some 2), none⟩,
  ⟨some 5, .alloc [.sl [], .int .i64 0], none⟩,
  ⟨some 4, .mov (.t 16), none⟩,
  ⟨none, .store (.t 5) (.t 18) (some 2), none⟩]) (.frz 5 [3, 4, 5, 12, 13, 14] [11]))
 (.dreg [⟨some 19, .mov (.t 3), none⟩,
  ⟨some 20, .mov (.t 4), none⟩,
  ⟨some 21, .fieldp (.t 5) 0 none, none⟩,
  ⟨some 22, .load (.t 21) none, none⟩,
  ⟨some 23, .call (.c (.fn n_zsets_bare [])) [(.t 22)] (some []) true [], none⟩,
  ⟨some 24, .fieldp (.t 5) 1 none, none⟩,
  ⟨some 25, .load (.t 24) none, none⟩,
  ⟨some 26, .build [.sl [], .int .i64 0] [(0, 1, (.t 23)), (1, 1, (.t 25))], none⟩,
  ⟨some 27, .idxp (.t 19) (.t 20) 2, none⟩,
  ⟨none, .store (.t 27) (.t 26) (some 2), none⟩])))
 (.reg [⟨some 28, .bin .add (.t 14) (.c (.int .i64 1)), none⟩,
  ⟨some 14, .mov (.t 28), none⟩])))) (.keep [3, 12, 13, 14] [11])
def i_zsets_Total_l2 : IC := .seq (.seq (.seq (.dreg [⟨some 41, .mov (.t 7), none⟩,
  ⟨some 42, .mov (.t 3), none⟩,
  ⟨some 43, .len false (.t 42), none⟩,
  ⟨some 44, .bin .lss (.t 41) (.t 43), none⟩,
  ⟨some 45, .mov (.t 44), none⟩,
  ⟨some 46, .mov (.t 3), some (45, true)⟩,
  ⟨some 47, .mov (.t 7), some (45, true)⟩,
  ⟨some 48, .idxp (.t 46) (.t 47) 2, some (45, true)⟩,
  ⟨some 49, .fieldp (.t 48) 0 none, some (45, true)⟩,
  ⟨some 50, .load (.t 49) none, some (45, true)⟩,
  ⟨some 51, .fieldp (.t 8) 0 none, some (45, true)⟩,
  ⟨some 52, .load (.t 51) none, some (45, true)⟩,
  ⟨some 53, .call (.c (.fn n_vals_Rows [])) [(.t 50), (.t 52)] (some []) true [], some (45, true)⟩,
  ⟨some 54, .bin .eql (.t 53) (.c (.int .i64 0)), some (45, true)⟩,
  ⟨some 55, .pick (.t 45) (.t 54) (.c (.bool false)), none⟩])
 (.cond (.t 55) .skip (.seq (.keep [3, 6, 7, 8] [6, 8, 11]) (.exit 4))))
 (.seq (.block 5 (.dreg [⟨some 58, .fieldp (.t 8) 1 none, none⟩,
  ⟨some 59, .load (.t 58) none, none⟩,
  ⟨some 60, .mov (.t 3), none⟩,
  ⟨some 61, .mov (.t 7), none⟩,
  ⟨some 62, .idxp (.t 60) (.t 61) 2, none⟩,
  ⟨some 63, .fieldp (.t 62) 1 none, none⟩,
  ⟨some 64, .load (.t 63) none, none⟩,
  ⟨some 65, .bin .add (.t 59) (.t 64), none⟩,
  ⟨some 66, .fieldp (.t 8) 1 none, none⟩,
  ⟨none, .store (.t 66) (.t 65) none, none⟩]))
 (.reg [⟨some 56, .mov (.t 7), none⟩,
  ⟨some 57, .bin .add (.t 56) (.c (.int .i64 1)), none⟩,
  ⟨some 7, .mov (.t 57), none⟩]))) (.keep [3, 6, 7, 8] [6, 8, 11])
def i_zsets_Total_a0 : IC := (.seq (.reg [⟨some 67, .fieldp (.t 8) 1 none, none⟩,
  ⟨some 68, .load (.t 67) none, none⟩,
  ⟨some 69, .bin .neq (.t 68) (.c (.int .i64 0)), none⟩])
 (.cond (.t 69) (.reg [⟨some 70, .mov (.t 6), none⟩,
  ⟨some 71, .load (.t 8) (some 2), none⟩,
  ⟨some 72, .lit ty_api_ZRow 2 1 [.sl [], .int .i64 0] [(0, (.t 71))] false, none⟩,
  ⟨some 73, .app (.t 70) (.t 72) ty_api_ZRow 2 32, none⟩,
  ⟨some 6, .mov (.t 73), none⟩]) .skip))
def i_zsets_Total_l1 : IC := .seq (.seq (.seq (.reg [⟨some 31, .mov (.t 7), none⟩,
  ⟨some 32, .mov (.t 3), none⟩,
  ⟨some 33, .len false (.t 32), none⟩,
  ⟨some 34, .bin .lss (.t 31) (.t 33), none⟩])
 (.cond (.t 34) .skip (.seq (.keep [6] [6]) (.exit 2))))
 (.block 3 (.seq (.reg [⟨some 35, .mov (.t 3), none⟩,
  ⟨some 36, .mov (.t 7), none⟩,
  ⟨some 37, .idxp (.t 35) (.t 36) 2, none⟩,
  ⟨some 38, .load (.t 37) (some 2), none⟩,
  ⟨some 8, .alloc [.sl [], .int .i64 0], none⟩,
  ⟨none, .store (.t 8) (.t 38) (some 2), none⟩])
 (.seq (.seq (.reg [⟨some 39, .mov (.t 7), none⟩,
  ⟨some 40, .bin .add (.t 39) (.c (.int .i64 1)), none⟩,
  ⟨some 7, .mov (.t 40), none⟩])
 (.block 4 (.seq (.keep [3, 6, 7, 8] [6, 8, 11]) (.loop i_zsets_Total_l2))))
 i_zsets_Total_a0)))) (.keep [3, 6, 7] [6, 11])
def i_zsets_Total_a1 : IC := (.seq (.reg [⟨some 74, .mov (.t 6), none⟩,
  ⟨some 2, .mov (.t 74), none⟩])
 (.seq (.keep [2] [6]) .ret))
def i_zsets_Total_a2 : IC := (.seq (.reg [⟨some 29, .mov (.t 3), none⟩,
  ⟨some 30, .call (.c (.fn n_slices_SortStableFunc__api_ZRow [])) [(.t 29), (.c (.fn n_zsets_Total_1 []))] (some [.L 11]) false [], none⟩])
 (.seq (.reg [⟨some 6, .ntok ty_api_ZRow 2, none⟩])
 (.seq (.seq (.reg [⟨some 7, .mov (.c (.int .i64 0)), none⟩])
 (.block 2 (.seq (.keep [3, 6, 7] [6, 11]) (.loop i_zsets_Total_l1))))
 i_zsets_Total_a1)))
def i_zsets_Total : IFn := ⟨1, [.tmp 2 false],
 (.seq (.reg [⟨some 2, .mov (.c (.sl [])), none⟩])
 (.seq (.reg [⟨some 9, .mov (.t 0), none⟩,
  ⟨some 10, .len false (.t 9), none⟩,
  ⟨some 11, .mkrow ty_api_ZRow 2 32 [.sl [], .int .i64 0] (.t 10), none⟩,
  ⟨some 3, .mov (.t 11), none⟩])
 (.seq (.seq (.reg [⟨some 12, .mov (.t 0), none⟩,
  ⟨some 13, .len false (.t 12), none⟩,
  ⟨some 14, .mov (.c (.int .i64 0)), none⟩])
 (.block 0 (.seq (.keep [3, 12, 13, 14] [11]) (.loop i_zsets_Total_l0))))
 i_zsets_Total_a2)))⟩
/-! vals_rank -/
/--  -/
abbrev s_vals_rank_r (t2 : A) (x : Sto) : St := ⟨upd (fun _ => .undef) 2 t2, fun _ => none, x⟩
def i_vals_rank : IFn := ⟨1, [.tmp 2 false],
 (.seq (.reg [⟨some 1, .ibox (.t 0), none⟩,
  ⟨some 2, .mov (.c (.int .i64 0)), none⟩])
 (.seq (.seq (.reg [⟨some 3, .fieldp (.t 1) 0 none, none⟩,
  ⟨some 4, .load (.t 3) none, none⟩,
  ⟨some 5, .bin .neq (.t 4) (.c (.int .i64 2)), none⟩])
 (.cond (.t 5) (.seq (.reg [⟨some 2, .mov (.c (.int .i64 1)), none⟩])
 (.seq (.keep [2] []) .ret)) .skip))
 (.seq (.reg [⟨some 6, .fieldp (.t 1) 1 none, none⟩,
  ⟨some 7, .load (.t 6) none, none⟩,
  ⟨some 8, .bin .mul (.c (.int .i64 2)) (.t 7), none⟩,
  ⟨some 2, .mov (.t 8), none⟩])
 (.seq (.keep [2] []) .ret))))⟩
/-! exprs_Of_1 -/
/--  -/
abbrev s_exprs_Of_1_r (t4 : A) (o4 : Ob) (x : Sto) : St := ⟨upd (fun _ => .undef) 4 t4, updS (fun _ => none) 4 (some o4), x⟩
def i_exprs_Of_1 : IFn := ⟨3, [.cell 4 (some 3)],
 (.seq (.reg [⟨some 4, .alloc [.int .i64 0, .int .i64 0, .str ⟨#[]⟩], none⟩])
 (.seq (.dreg [⟨some 5, .load (.t 1) none, none⟩,
  ⟨some 6, .nilchk (.t 5), none⟩,
  ⟨some 7, .fieldp (.t 6) 5 none, none⟩,
  ⟨some 8, .load (.t 7) none, none⟩,
  ⟨some 9, .mov (.t 0), none⟩,
  ⟨some 10, .idxp (.t 8) (.t 9) 6, none⟩,
  ⟨some 11, .load (.t 2) none, none⟩,
  ⟨some 12, .call (.c (.fn n_exprs_Of [])) [(.t 10), (.t 11)] (some []) true [], none⟩,
  ⟨none, .store (.t 4) (.t 12) (some 3), none⟩])
 (.seq (.keep [4] [4]) .ret)))⟩
/-! vals_Bare -/
/--  -/
abbrev s_vals_Bare_r (t2 : A) (o2 : Ob) (x : Sto) : St := ⟨upd (fun _ => .undef) 2 t2, updS (fun _ => none) 2 (some o2), x⟩
/-- t1 v -/
abbrev s_vals_Bare_x0 (t1 t2 : A) (o2 : Ob) (x : Sto) : St := ⟨upd (upd (fun _ => .undef) 2 t2) 1 t1, updS (fun _ => none) 2 (some o2), x⟩
def i_vals_Bare : IFn := ⟨1, [.cell 2 (some 3)],
 (.seq (.reg [⟨some 1, .ibox (.t 0), none⟩,
  ⟨some 2, .alloc [.int .i64 0, .int .i64 0, .str ⟨#[]⟩], none⟩])
 (.seq (.seq (.reg [⟨some 3, .fieldp (.t 1) 0 none, none⟩,
  ⟨some 4, .load (.t 3) none, none⟩])
 (.block 0 (.seq (.reg [⟨some 6, .bin .eql (.t 4) (.c (.int .i64 1)), none⟩,
  ⟨some 5, .mov (.t 6), none⟩])
 (.cond (.t 5) (.seq (.reg [⟨some 7, .call (.c (.fn n_vals_Null [])) [] (some []) true [], none⟩,
  ⟨none, .store (.t 2) (.t 7) (some 3), none⟩])
 (.seq (.keep [2] [2]) .ret)) (.seq (.reg [⟨some 9, .bin .eql (.t 4) (.c (.int .i64 4)), none⟩,
  ⟨some 8, .mov (.t 9), none⟩])
 (.cond (.t 8) (.seq (.reg [⟨some 10, .fieldp (.t 1) 2 none, none⟩,
  ⟨some 11, .load (.t 10) none, none⟩,
  ⟨some 12, .build [.int .i64 0, .int .i64 0, .str ⟨#[]⟩] [(0, 1, (.c (.int .i64 4))), (2, 1, (.t 11))], none⟩,
  ⟨none, .store (.t 2) (.t 12) (some 3), none⟩])
 (.seq (.keep [2] [2]) .ret)) .skip))))))
 (.seq (.reg [⟨some 13, .fieldp (.t 1) 0 none, none⟩,
  ⟨some 14, .load (.t 13) none, none⟩,
  ⟨some 15, .fieldp (.t 1) 1 none, none⟩,
  ⟨some 16, .load (.t 15) none, none⟩,
  ⟨some 17, .build [.int .i64 0, .int .i64 0, .str ⟨#[]⟩] [(0, 1, (.t 14)), (1, 1, (.t 16))], none⟩,
  ⟨none, .store (.t 2) (.t 17) (some 3), none⟩])
 (.seq (.keep [2] [2]) .ret))))⟩
/-! vals_Not -/
/--  -/
abbrev s_vals_Not_r (t2 : A) (o2 : Ob) (x : Sto) : St := ⟨upd (fun _ => .undef) 2 t2, updS (fun _ => none) 2 (some o2), x⟩
def i_vals_Not : IFn := ⟨1, [.cell 2 (some 3)],
 (.seq (.reg [⟨some 1, .ibox (.t 0), none⟩,
  ⟨some 2, .alloc [.int .i64 0, .int .i64 0, .str ⟨#[]⟩], none⟩])
 (.seq (.reg [⟨some 3, .load (.t 1) (some 3), none⟩,
  ⟨some 4, .call (.c (.fn n_vals_rank [])) [(.t 3)] (some []) true [], none⟩,
  ⟨some 5, .bin .sub (.c (.int .i64 2)) (.t 4), none⟩,
  ⟨some 6, .call (.c (.fn n_vals_ranked [])) [(.t 5)] (some []) true [], none⟩,
  ⟨none, .store (.t 2) (.t 6) (some 3), none⟩])
 (.seq (.keep [2] [2]) .ret)))⟩
/-! vals_And -/
/--  -/
abbrev s_vals_And_r (t4 : A) (o4 : Ob) (x : Sto) : St := ⟨upd (fun _ => .undef) 4 t4, updS (fun _ => none) 4 (some o4), x⟩
def i_vals_And : IFn := ⟨2, [.cell 4 (some 3)],
 (.seq (.reg [⟨some 2, .ibox (.t 0), none⟩,
  ⟨some 3, .ibox (.t 1), none⟩,
  ⟨some 4, .alloc [.int .i64 0, .int .i64 0, .str ⟨#[]⟩], none⟩])
 (.seq (.dreg [⟨some 5, .load (.t 2) (some 3), none⟩,
  ⟨some 6, .call (.c (.fn n_vals_rank [])) [(.t 5)] (some []) true [], none⟩,
  ⟨some 7, .load (.t 3) (some 3), none⟩,
  ⟨some 8, .call (.c (.fn n_vals_rank [])) [(.t 7)] (some []) true [], none⟩,
  ⟨some 9, .minmax false (.t 6) (.t 8), none⟩,
  ⟨some 10, .call (.c (.fn n_vals_ranked [])) [(.t 9)] (some []) true [], none⟩,
  ⟨none, .store (.t 4) (.t 10) (some 3), none⟩])
 (.seq (.keep [4] [4]) .ret)))⟩
/-! vals_Or -/
/--  -/
abbrev s_vals_Or_r (t4 : A) (o4 : Ob) (x : Sto) : St := ⟨upd (fun _ => .undef) 4 t4, updS (fun _ => none) 4 (some o4), x⟩
def i_vals_Or : IFn := ⟨2, [.cell 4 (some 3)],
 (.seq (.reg [⟨some 2, .ibox (.t 0), none⟩,
  ⟨some 3, .ibox (.t 1), none⟩,
  ⟨some 4, .alloc [.int .i64 0, .int .i64 0, .str ⟨#[]⟩], none⟩])
 (.seq (.dreg [⟨some 5, .load (.t 2) (some 3), none⟩,
  ⟨some 6, .call (.c (.fn n_vals_rank [])) [(.t 5)] (some []) true [], none⟩,
  ⟨some 7, .load (.t 3) (some 3), none⟩,
  ⟨some 8, .call (.c (.fn n_vals_rank [])) [(.t 7)] (some []) true [], none⟩,
  ⟨some 9, .minmax true (.t 6) (.t 8), none⟩,
  ⟨some 10, .call (.c (.fn n_vals_ranked [])) [(.t 9)] (some []) true [], none⟩,
  ⟨none, .store (.t 4) (.t 10) (some 3), none⟩])
 (.seq (.keep [4] [4]) .ret)))⟩
/-! vals_Reckon -/
/--  -/
abbrev s_vals_Reckon_r (t6 : A) (o6 : Ob) (x : Sto) : St := ⟨upd (fun _ => .undef) 6 t6, updS (fun _ => none) 6 (some o6), x⟩
/--  -/
abbrev s_vals_Reckon_x0 (t6 : A) (o6 : Ob) (x : Sto) : St := ⟨upd (fun _ => .undef) 6 t6, updS (fun _ => none) 6 (some o6), x⟩
def i_vals_Reckon : IFn := ⟨3, [.cell 6 (some 3)],
 (.seq (.reg [⟨some 4, .ibox (.t 1), none⟩,
  ⟨some 5, .ibox (.t 2), none⟩,
  ⟨some 6, .alloc [.int .i64 0, .int .i64 0, .str ⟨#[]⟩], none⟩])
 (.seq (.seq (.reg [⟨some 10, .fieldp (.t 4) 0 none, none⟩,
  ⟨some 11, .load (.t 10) none, none⟩,
  ⟨some 12, .bin .neq (.t 11) (.c (.int .i64 3)), none⟩,
  ⟨some 13, .mov (.t 12), none⟩,
  ⟨some 14, .fieldp (.t 5) 0 none, some (13, false)⟩,
  ⟨some 15, .load (.t 14) none, some (13, false)⟩,
  ⟨some 16, .bin .neq (.t 15) (.c (.int .i64 3)), some (13, false)⟩,
  ⟨some 17, .pick (.t 13) (.c (.bool true)) (.t 16), none⟩])
 (.cond (.t 17) (.seq (.reg [⟨some 18, .call (.c (.fn n_vals_Null [])) [] (some []) true [], none⟩,
  ⟨none, .store (.t 6) (.t 18) (some 3), none⟩])
 (.seq (.keep [6] [6]) .ret)) .skip))
 (.seq (.dreg [⟨some 19, .fieldp (.t 4) 1 none, none⟩,
  ⟨some 20, .load (.t 19) none, none⟩,
  ⟨some 21, .fieldp (.t 5) 1 none, none⟩,
  ⟨some 22, .load (.t 21) none, none⟩,
  ⟨some 7, .mov (.t 20), none⟩,
  ⟨some 8, .mov (.t 22), none⟩])
 (.seq (.seq (.reg [⟨some 23, .mov (.t 0), none⟩])
 (.block 0 (.seq (.reg [⟨some 25, .bin .eql (.t 23) (.c (.int .i32 43)), none⟩,
  ⟨some 24, .mov (.t 25), none⟩])
 (.cond (.t 24) (.seq (.reg [⟨some 26, .mov (.t 7), none⟩,
  ⟨some 27, .mov (.t 8), none⟩,
  ⟨some 28, .bin .add (.t 26) (.t 27), none⟩,
  ⟨some 29, .call (.c (.fn n_vals_Int [])) [(.t 28)] (some []) true [], none⟩,
  ⟨none, .store (.t 6) (.t 29) (some 3), none⟩])
 (.seq (.keep [6] [6]) .ret)) (.seq (.reg [⟨some 31, .bin .eql (.t 23) (.c (.int .i32 45)), none⟩,
  ⟨some 30, .mov (.t 31), none⟩])
 (.cond (.t 30) (.seq (.reg [⟨some 32, .mov (.t 7), none⟩,
  ⟨some 33, .mov (.t 8), none⟩,
  ⟨some 34, .bin .sub (.t 32) (.t 33), none⟩,
  ⟨some 35, .call (.c (.fn n_vals_Int [])) [(.t 34)] (some []) true [], none⟩,
  ⟨none, .store (.t 6) (.t 35) (some 3), none⟩])
 (.seq (.keep [6] [6]) .ret)) (.seq (.reg [⟨some 37, .bin .eql (.t 23) (.c (.int .i32 42)), none⟩,
  ⟨some 36, .mov (.t 37), none⟩])
 (.cond (.t 36) (.seq (.reg [⟨some 38, .mov (.t 7), none⟩,
  ⟨some 39, .mov (.t 8), none⟩,
  ⟨some 40, .bin .mul (.t 38) (.t 39), none⟩,
  ⟨some 9, .mov (.t 40), none⟩])
 (.seq (.reg [⟨some 41, .mov (.t 7), none⟩,
  ⟨some 42, .bin .eql (.t 41) (.c (.int .i64 0)), none⟩,
  ⟨some 43, .mov (.t 42), none⟩,
  ⟨some 44, .mov (.t 9), some (43, false)⟩,
  ⟨some 45, .mov (.t 7), some (43, false)⟩,
  ⟨some 46, .bin .quo (.t 44) (.t 45), some (43, false)⟩,
  ⟨some 47, .mov (.t 8), some (43, false)⟩,
  ⟨some 48, .bin .eql (.t 46) (.t 47), some (43, false)⟩,
  ⟨some 49, .mov (.t 48), some (43, false)⟩,
  ⟨some 50, .mov (.t 9), some (49, true)⟩,
  ⟨some 51, .bin .leq (.t 50) (.c (.int .i64 1000000000000000)), some (49, true)⟩,
  ⟨some 52, .pick (.t 49) (.t 51) (.c (.bool false)), some (43, false)⟩,
  ⟨some 53, .mov (.t 52), some (43, false)⟩,
  ⟨some 54, .mov (.t 9), some (53, true)⟩,
  ⟨some 55, .bin .geq (.t 54) (.c (.int .i64 (-1000000000000000))), some (53, true)⟩,
  ⟨some 56, .pick (.t 53) (.t 55) (.c (.bool false)), some (43, false)⟩,
  ⟨some 57, .pick (.t 43) (.c (.bool true)) (.t 56), none⟩])
 (.cond (.t 57) (.seq (.reg [⟨some 58, .mov (.t 9), none⟩,
  ⟨some 59, .call (.c (.fn n_vals_Int [])) [(.t 58)] (some []) true [], none⟩,
  ⟨none, .store (.t 6) (.t 59) (some 3), none⟩])
 (.seq (.keep [6] [6]) .ret)) .skip))) .skip))))))))
 (.seq (.reg [⟨some 60, .call (.c (.fn n_vals_Null [])) [] (some []) true [], none⟩,
  ⟨none, .store (.t 6) (.t 60) (some 3), none⟩])
 (.seq (.keep [6] [6]) .ret))))))⟩
/-! vals_Join -/
/--  -/
abbrev s_vals_Join_r (t4 : A) (o4 : Ob) (x : Sto) : St := ⟨upd (fun _ => .undef) 4 t4, updS (fun _ => none) 4 (some o4), x⟩
def i_vals_Join : IFn := ⟨2, [.cell 4 (some 3)],
 (.seq (.reg [⟨some 2, .ibox (.t 0), none⟩,
  ⟨some 3, .ibox (.t 1), none⟩,
  ⟨some 4, .alloc [.int .i64 0, .int .i64 0, .str ⟨#[]⟩], none⟩])
 (.seq (.seq (.reg [⟨some 5, .fieldp (.t 2) 0 none, none⟩,
  ⟨some 6, .load (.t 5) none, none⟩,
  ⟨some 7, .bin .neq (.t 6) (.c (.int .i64 4)), none⟩,
  ⟨some 8, .mov (.t 7), none⟩,
  ⟨some 9, .fieldp (.t 3) 0 none, some (8, false)⟩,
  ⟨some 10, .load (.t 9) none, some (8, false)⟩,
  ⟨some 11, .bin .neq (.t 10) (.c (.int .i64 4)), some (8, false)⟩,
  ⟨some 12, .pick (.t 8) (.c (.bool true)) (.t 11), none⟩,
  ⟨some 13, .mov (.t 12), none⟩,
  ⟨some 14, .fieldp (.t 2) 2 none, some (13, false)⟩,
  ⟨some 15, .load (.t 14) none, some (13, false)⟩,
  ⟨some 16, .len true (.t 15), some (13, false)⟩,
  ⟨some 17, .fieldp (.t 3) 2 none, some (13, false)⟩,
  ⟨some 18, .load (.t 17) none, some (13, false)⟩,
  ⟨some 19, .len true (.t 18), some (13, false)⟩,
  ⟨some 20, .bin .add (.t 16) (.t 19), some (13, false)⟩,
  ⟨some 21, .bin .gtr (.t 20) (.c (.int .i64 60)), some (13, false)⟩,
  ⟨some 22, .pick (.t 13) (.c (.bool true)) (.t 21), none⟩])
 (.cond (.t 22) (.seq (.reg [⟨some 23, .call (.c (.fn n_vals_Null [])) [] (some []) true [], none⟩,
  ⟨none, .store (.t 4) (.t 23) (some 3), none⟩])
 (.seq (.keep [4] [4]) .ret)) .skip))
 (.seq (.reg [⟨some 24, .fieldp (.t 2) 2 none, none⟩,
  ⟨some 25, .load (.t 24) none, none⟩,
  ⟨some 26, .fieldp (.t 3) 2 none, none⟩,
  ⟨some 27, .load (.t 26) none, none⟩,
  ⟨some 28, .bin .add (.t 25) (.t 27), none⟩,
  ⟨some 29, .build [.int .i64 0, .int .i64 0, .str ⟨#[]⟩] [(0, 1, (.c (.int .i64 4))), (2, 1, (.t 28))], none⟩,
  ⟨none, .store (.t 4) (.t 29) (some 3), none⟩])
 (.seq (.keep [4] [4]) .ret))))⟩
/-! vals_Bool -/
/--  -/
abbrev s_vals_Bool_r (t2 : A) (o2 : Ob) (x : Sto) : St := ⟨upd (fun _ => .undef) 2 t2, updS (fun _ => none) 2 (some o2), x⟩
def i_vals_Bool : IFn := ⟨1, [.cell 2 (some 3)],
 (.seq (.reg [⟨some 2, .alloc [.int .i64 0, .int .i64 0, .str ⟨#[]⟩], none⟩])
 (.seq (.reg [⟨some 4, .build [.int .i64 0, .int .i64 0, .str ⟨#[]⟩] [(0, 1, (.c (.int .i64 2)))], none⟩,
  ⟨some 3, .alloc [.int .i64 0, .int .i64 0, .str ⟨#[]⟩], none⟩,
  ⟨none, .store (.t 3) (.t 4) (some 3), none⟩])
 (.seq (.seq (.seq (.reg [⟨some 5, .mov (.t 0), none⟩])
 (.cond (.t 5) (.reg [⟨some 6, .fieldp (.t 3) 1 none, none⟩,
  ⟨none, .store (.t 6) (.c (.int .i64 1)) none, none⟩]) .skip)) (.keep [2, 3] [2, 3]))
 (.seq (.reg [⟨some 7, .load (.t 3) (some 3), none⟩,
  ⟨none, .store (.t 2) (.t 7) (some 3), none⟩])
 (.seq (.keep [2] [2]) .ret)))))⟩
/-! exprs_compared -/
/--  -/
abbrev s_exprs_compared_r (t6 : A) (o6 : Ob) (x : Sto) : St := ⟨upd (fun _ => .undef) 6 t6, updS (fun _ => none) 6 (some o6), x⟩
/-- t4 a, t5 b -/
abbrev s_exprs_compared_x0 (t4 t5 t6 : A) (o6 : Ob) (x : Sto) : St := ⟨upd (upd (upd (fun _ => .undef) 6 t6) 5 t5) 4 t4, updS (fun _ => none) 6 (some o6), x⟩
def i_exprs_compared : IFn := ⟨3, [.cell 6 (some 3)],
 (.seq (.reg [⟨some 4, .ibox (.t 1), none⟩,
  ⟨some 5, .ibox (.t 2), none⟩,
  ⟨some 6, .alloc [.int .i64 0, .int .i64 0, .str ⟨#[]⟩], none⟩])
 (.seq (.seq (.reg [⟨some 7, .mov (.t 0), none⟩])
 (.block 0 (.seq (.reg [⟨some 9, .bin .eql (.t 7) (.c (.int .i64 6)), none⟩,
  ⟨some 8, .mov (.t 9), none⟩])
 (.cond (.t 8) (.seq (.reg [⟨some 10, .load (.t 4) (some 3), none⟩,
  ⟨some 11, .load (.t 5) (some 3), none⟩,
  ⟨some 12, .call (.c (.fn n_vals_Equal [])) [(.t 10), (.t 11)] (some []) true [], none⟩,
  ⟨none, .store (.t 6) (.t 12) (some 3), none⟩])
 (.seq (.keep [6] [6]) .ret)) (.seq (.reg [⟨some 14, .bin .eql (.t 7) (.c (.int .i64 7)), none⟩,
  ⟨some 13, .mov (.t 14), none⟩])
 (.cond (.t 13) (.seq (.reg [⟨some 15, .load (.t 4) (some 3), none⟩,
  ⟨some 16, .load (.t 5) (some 3), none⟩,
  ⟨some 17, .call (.c (.fn n_vals_Equal [])) [(.t 15), (.t 16)] (some []) true [], none⟩,
  ⟨some 18, .call (.c (.fn n_vals_Not [])) [(.t 17)] (some []) true [], none⟩,
  ⟨none, .store (.t 6) (.t 18) (some 3), none⟩])
 (.seq (.keep [6] [6]) .ret)) (.seq (.reg [⟨some 20, .bin .eql (.t 7) (.c (.int .i64 8)), none⟩,
  ⟨some 19, .mov (.t 20), none⟩])
 (.cond (.t 19) (.seq (.reg [⟨some 21, .load (.t 4) (some 3), none⟩,
  ⟨some 22, .load (.t 5) (some 3), none⟩,
  ⟨some 23, .call (.c (.fn n_vals_Less [])) [(.t 21), (.t 22)] (some []) true [], none⟩,
  ⟨none, .store (.t 6) (.t 23) (some 3), none⟩])
 (.seq (.keep [6] [6]) .ret)) (.seq (.reg [⟨some 25, .bin .eql (.t 7) (.c (.int .i64 9)), none⟩,
  ⟨some 24, .mov (.t 25), none⟩])
 (.cond (.t 24) (.seq (.reg [⟨some 26, .load (.t 5) (some 3), none⟩,
  ⟨some 27, .load (.t 4) (some 3), none⟩,
  ⟨some 28, .call (.c (.fn n_vals_Less [])) [(.t 26), (.t 27)] (some []) true [], none⟩,
  ⟨some 29, .call (.c (.fn n_vals_Not [])) [(.t 28)] (some []) true [], none⟩,
  ⟨none, .store (.t 6) (.t 29) (some 3), none⟩])
 (.seq (.keep [6] [6]) .ret)) (.seq (.reg [⟨some 31, .bin .eql (.t 7) (.c (.int .i64 10)), none⟩,
  ⟨some 30, .mov (.t 31), none⟩])
 (.cond (.t 30) (.seq (.reg [⟨some 32, .load (.t 5) (some 3), none⟩,
  ⟨some 33, .load (.t 4) (some 3), none⟩,
  ⟨some 34, .call (.c (.fn n_vals_Less [])) [(.t 32), (.t 33)] (some []) true [], none⟩,
  ⟨none, .store (.t 6) (.t 34) (some 3), none⟩])
 (.seq (.keep [6] [6]) .ret)) .skip))))))))))))
 (.seq (.reg [⟨some 35, .load (.t 4) (some 3), none⟩,
  ⟨some 36, .load (.t 5) (some 3), none⟩,
  ⟨some 37, .call (.c (.fn n_vals_Less [])) [(.t 35), (.t 36)] (some []) true [], none⟩,
  ⟨some 38, .call (.c (.fn n_vals_Not [])) [(.t 37)] (some []) true [], none⟩,
  ⟨none, .store (.t 6) (.t 38) (some 3), none⟩])
 (.seq (.keep [6] [6]) .ret))))⟩
/-! zsets_right -/
/--  -/
abbrev s_zsets_right_r (t2 : A) (x : Sto) : St := ⟨upd (fun _ => .undef) 2 t2, fun _ => none, x⟩
/--  -/
abbrev s_zsets_right_x0 (x : Sto) : St := ⟨fun _ => .undef, fun _ => none, x⟩
/--  -/
abbrev s_zsets_right_l0 (t6 t7 t8 : A) (x : Sto) : St := ⟨upd (upd (upd (fun _ => .undef) 8 t8) 7 t7) 6 t6, fun _ => none, x⟩
/--  -/
abbrev s_zsets_right_x1 (t6 t7 t8 : A) (x : Sto) : St := ⟨upd (upd (upd (fun _ => .undef) 8 t8) 7 t7) 6 t6, fun _ => none, x⟩
def i_zsets_right_l0 : IC := .seq (.seq (.reg [⟨some 9, .bin .lss (.t 8) (.t 7), none⟩])
 (.seq (.cond (.t 9) .skip (.seq (.keep [] []) (.exit 0)))
 (.seq (.block 1 (.seq (.reg [⟨some 10, .idxp (.t 6) (.t 8) 1, none⟩,
  ⟨some 11, .load (.t 10) none, none⟩,
  ⟨some 4, .mov (.t 11), none⟩])
 (.seq (.reg [⟨some 12, .mov (.t 4), none⟩,
  ⟨some 13, .call (.c (.fn n_zsets_Wrong [])) [(.t 12)] (some []) true [], none⟩,
  ⟨some 5, .mov (.t 13), none⟩])
 (.seq (.reg [⟨some 14, .mov (.t 5), none⟩,
  ⟨some 15, .bin .neq (.t 14) (.c (.int .i64 0)), none⟩])
 (.cond (.t 15) (.seq (.reg [⟨some 16, .mov (.t 5), none⟩,
  ⟨some 2, .mov (.t 16), none⟩])
 (.seq (.keep [2] []) .ret)) .skip)))))
 (.reg [⟨some 17, .bin .add (.t 8) (.c (.int .i64 1)), none⟩,
  ⟨some 8, .mov (.t 17), none⟩])))) (.keep [6, 7, 8] [])
def i_zsets_right_a0 : IC := (.seq (.reg [⟨some 2, .mov (.c (.int .i64 0)), none⟩])
 (.seq (.keep [2] []) .ret))
def i_zsets_right : IFn := ⟨1, [.tmp 2 false],
 (.seq (.reg [⟨some 2, .mov (.c (.int .i64 0)), none⟩])
 (.seq (.seq (.reg [⟨some 6, .mov (.t 0), none⟩,
  ⟨some 7, .len false (.t 6), none⟩,
  ⟨some 8, .mov (.c (.int .i64 0)), none⟩])
 (.block 0 (.seq (.keep [6, 7, 8] []) (.loop i_zsets_right_l0))))
 i_zsets_right_a0))⟩
/-! zsets_bare -/
/--  -/
abbrev s_zsets_bare_r (t2 : A) (o8 : Ob) (x : Sto) : St := ⟨upd (fun _ => .undef) 2 t2, updS (fun _ => none) 8 (some o8), x⟩
/-- t3 out -/
abbrev s_zsets_bare_x0 (t3 : A) (o8 : Ob) (x : Sto) : St := ⟨upd (fun _ => .undef) 3 t3, updS (fun _ => none) 8 (some o8), x⟩
/-- t3 out -/
abbrev s_zsets_bare_l0 (t3 t9 t10 t11 : A) (o8 : Ob) (x : Sto) : St := ⟨upd (upd (upd (upd (fun _ => .undef) 11 t11) 10 t10) 9 t9) 3 t3, updS (fun _ => none) 8 (some o8), x⟩
/-- t3 out -/
abbrev s_zsets_bare_x1 (t3 t9 t10 t11 : A) (o8 : Ob) (x : Sto) : St := ⟨upd (upd (upd (upd (fun _ => .undef) 11 t11) 10 t10) 9 t9) 3 t3, updS (fun _ => none) 8 (some o8), x⟩
def i_zsets_bare_l0 : IC := .seq (.seq (.reg [⟨some 12, .bin .lss (.t 11) (.t 10), none⟩])
 (.seq (.cond (.t 12) .skip (.seq (.keep [3] [8]) (.exit 0)))
 (.seq (.block 1 (.seq (.seq (.reg [⟨some 13, .mov (.t 11), none⟩,
  ⟨some 14, .idxp (.t 9) (.t 11) 3, none⟩,
  ⟨some 15, .load (.t 14) (some 3), none⟩,
  ⟨some 5, .alloc [.int .i64 0, .int .i64 0, .str ⟨#[]⟩], none⟩,
  ⟨some 4, .mov (.t 13), none⟩,
  ⟨none, .store (.t 5) (.t 15) (some 3), none⟩]) (.frz 5 [3, 4, 5, 9, 10, 11] [8]))
 (.reg [⟨some 16, .mov (.t 3), none⟩,
  ⟨some 17, .mov (.t 4), none⟩,
  ⟨some 18, .load (.t 5) (some 3), none⟩,
  ⟨some 19, .call (.c (.fn n_vals_Bare [])) [(.t 18)] (some []) true [], none⟩,
  ⟨some 20, .idxp (.t 16) (.t 17) 3, none⟩,
  ⟨none, .store (.t 20) (.t 19) (some 3), none⟩])))
 (.reg [⟨some 21, .bin .add (.t 11) (.c (.int .i64 1)), none⟩,
  ⟨some 11, .mov (.t 21), none⟩])))) (.keep [3, 9, 10, 11] [8])
def i_zsets_bare_a0 : IC := (.seq (.reg [⟨some 22, .mov (.t 3), none⟩,
  ⟨some 2, .mov (.t 22), none⟩])
 (.seq (.keep [2] [8]) .ret))
def i_zsets_bare : IFn := ⟨1, [.tmp 2 false],
 (.seq (.reg [⟨some 2, .mov (.c (.sl [])), none⟩])
 (.seq (.reg [⟨some 6, .mov (.t 0), none⟩,
  ⟨some 7, .len false (.t 6), none⟩,
  ⟨some 8, .mkrow ty_api_Val 3 32 [.int .i64 0, .int .i64 0, .str ⟨#[]⟩] (.t 7), none⟩,
  ⟨some 3, .mov (.t 8), none⟩])
 (.seq (.seq (.reg [⟨some 9, .mov (.t 0), none⟩,
  ⟨some 10, .len false (.t 9), none⟩,
  ⟨some 11, .mov (.c (.int .i64 0)), none⟩])
 (.block 0 (.seq (.keep [3, 9, 10, 11] [8]) (.loop i_zsets_bare_l0))))
 i_zsets_bare_a0)))⟩
/-! zsets_row -/
/--  -/
abbrev s_zsets_row_r (t2 : A) (x : Sto) : St := ⟨upd (fun _ => .undef) 2 t2, fun _ => none, x⟩
/--  -/
abbrev s_zsets_row_x0 (x : Sto) : St := ⟨fun _ => .undef, fun _ => none, x⟩
/--  -/
abbrev s_zsets_row_l0 (t9 t10 t11 : A) (x : Sto) : St := ⟨upd (upd (upd (fun _ => .undef) 11 t11) 10 t10) 9 t9, fun _ => none, x⟩
/--  -/
abbrev s_zsets_row_x1 (t9 t10 t11 : A) (x : Sto) : St := ⟨upd (upd (upd (fun _ => .undef) 11 t11) 10 t10) 9 t9, fun _ => none, x⟩
def i_zsets_row_l0 : IC := .seq (.seq (.reg [⟨some 12, .bin .lss (.t 11) (.t 10), none⟩])
 (.seq (.cond (.t 12) .skip (.seq (.keep [] []) (.exit 0)))
 (.seq (.block 1 (.seq (.seq (.reg [⟨some 13, .idxp (.t 9) (.t 11) 3, none⟩,
  ⟨some 14, .load (.t 13) (some 3), none⟩,
  ⟨some 4, .alloc [.int .i64 0, .int .i64 0, .str ⟨#[]⟩], none⟩,
  ⟨none, .store (.t 4) (.t 14) (some 3), none⟩]) (.frz 4 [4, 9, 10, 11] []))
 (.seq (.reg [⟨some 15, .load (.t 4) (some 3), none⟩,
  ⟨some 16, .call (.c (.fn n_vals_Wrong [])) [(.t 15)] (some []) true [], none⟩,
  ⟨some 5, .mov (.t 16), none⟩])
 (.seq (.reg [⟨some 17, .mov (.t 5), none⟩,
  ⟨some 18, .bin .neq (.t 17) (.c (.int .i64 0)), none⟩])
 (.cond (.t 18) (.seq (.reg [⟨some 19, .mov (.t 5), none⟩,
  ⟨some 2, .mov (.t 19), none⟩])
 (.seq (.keep [2] []) .ret)) .skip)))))
 (.reg [⟨some 20, .bin .add (.t 11) (.c (.int .i64 1)), none⟩,
  ⟨some 11, .mov (.t 20), none⟩])))) (.keep [9, 10, 11] [])
def i_zsets_row_a0 : IC := (.seq (.reg [⟨some 2, .mov (.c (.int .i64 0)), none⟩])
 (.seq (.keep [2] []) .ret))
def i_zsets_row : IFn := ⟨1, [.tmp 2 false],
 (.seq (.reg [⟨some 2, .mov (.c (.int .i64 0)), none⟩])
 (.seq (.seq (.reg [⟨some 6, .mov (.t 0), none⟩,
  ⟨some 7, .len false (.t 6), none⟩,
  ⟨some 8, .bin .gtr (.t 7) (.c (.int .i64 8)), none⟩])
 (.cond (.t 8) (.seq (.reg [⟨some 2, .mov (.c (.int .i64 5)), none⟩])
 (.seq (.keep [2] []) .ret)) .skip))
 (.seq (.seq (.reg [⟨some 9, .mov (.t 0), none⟩,
  ⟨some 10, .len false (.t 9), none⟩,
  ⟨some 11, .mov (.c (.int .i64 0)), none⟩])
 (.block 0 (.seq (.keep [9, 10, 11] []) (.loop i_zsets_row_l0))))
 i_zsets_row_a0)))⟩
/-! zsets_weight -/
/--  -/
abbrev s_zsets_weight_r (t2 : A) (x : Sto) : St := ⟨upd (fun _ => .undef) 2 t2, fun _ => none, x⟩
def i_zsets_weight : IFn := ⟨1, [.tmp 2 false],
 (.seq (.reg [⟨some 2, .mov (.c (.bool false)), none⟩])
 (.seq (.reg [⟨some 3, .mov (.t 0), none⟩,
  ⟨some 4, .bin .leq (.t 3) (.c (.int .i64 1000000)), none⟩,
  ⟨some 5, .mov (.t 4), none⟩,
  ⟨some 6, .mov (.t 0), some (5, true)⟩,
  ⟨some 7, .bin .geq (.t 6) (.c (.int .i64 (-1000000))), some (5, true)⟩,
  ⟨some 8, .pick (.t 5) (.t 7) (.c (.bool false)), none⟩,
  ⟨some 2, .mov (.t 8), none⟩])
 (.seq (.keep [2] []) .ret)))⟩
/-! slices_SortStableFunc__ops_group -/
/--  -/
abbrev s_slices_SortStableFunc__ops_group_r (x : Sto) : St := ⟨fun _ => .undef, fun _ => none, x⟩
def i_slices_SortStableFunc__ops_group : IFn := ⟨2, [],
 (.reg [⟨some 4, .mov (.t 0), none⟩,
  ⟨some 5, .mov (.t 0), none⟩,
  ⟨some 6, .len false (.t 5), none⟩,
  ⟨some 7, .mov (.t 1), none⟩,
  ⟨some 8, .call (.c (.fn n_slices_stableCmpFunc__ops_group [])) [(.t 4), (.t 6), (.t 7)] none false [], none⟩])⟩
/-! ops_Grouped_1 -/
/--  -/
abbrev s_ops_Grouped_1_r (t4 : A) (x : Sto) : St := ⟨upd (fun _ => .undef) 4 t4, fun _ => none, x⟩
def i_ops_Grouped_1 : IFn := ⟨2, [.tmp 4 false],
 (.seq (.reg [⟨some 2, .ibox (.t 0), none⟩,
  ⟨some 3, .ibox (.t 1), none⟩,
  ⟨some 4, .mov (.c (.int .i64 0)), none⟩])
 (.seq (.reg [⟨some 5, .fieldp (.t 2) 0 none, none⟩,
  ⟨some 6, .load (.t 5) none, none⟩,
  ⟨some 7, .fieldp (.t 3) 0 none, none⟩,
  ⟨some 8, .load (.t 7) none, none⟩,
  ⟨some 9, .call (.c (.fn n_vals_Rows [])) [(.t 6), (.t 8)] (some []) true [], none⟩,
  ⟨some 4, .mov (.t 9), none⟩])
 (.seq (.keep [4] []) .ret)))⟩
/-! ops_aggregate -/
/--  -/
abbrev s_ops_aggregate_r (t4 : A) (o4 : Ob) (x : Sto) : St := ⟨upd (fun _ => .undef) 4 t4, updS (fun _ => none) 4 (some o4), x⟩
/-- t0 toArray -/
abbrev s_ops_aggregate_x0 (t0 t4 t5 t6 t7 t8 t9 : A) (o4 o6 o7 o8 : Ob) (x : Sto) : St := ⟨upd (upd (upd (upd (upd (upd (upd (fun _ => .undef) 9 t9) 8 t8) 7 t7) 6 t6) 5 t5) 4 t4) 0 t0, updS (updS (updS (updS (fun _ => none) 8 (some o8)) 7 (some o7)) 6 (some o6)) 4 (some o4), x⟩
/-- t0 toArray -/
abbrev s_ops_aggregate_l0 (t0 t4 t5 t6 t7 t8 t9 t13 t14 t15 : A) (o4 o6 o7 o8 : Ob) (x : Sto) : St := ⟨upd (upd (upd (upd (upd (upd (upd (upd (upd (upd (fun _ => .undef) 15 t15) 14 t14) 13 t13) 9 t9) 8 t8) 7 t7) 6 t6) 5 t5) 4 t4) 0 t0, updS (updS (updS (updS (fun _ => none) 8 (some o8)) 7 (some o7)) 6 (some o6)) 4 (some o4), x⟩
/-- t0 toArray -/
abbrev s_ops_aggregate_x1 (t0 t4 t5 t6 t7 t8 t9 t13 t14 t15 : A) (o4 o6 o7 o8 : Ob) (x : Sto) : St := ⟨upd (upd (upd (upd (upd (upd (upd (upd (upd (upd (fun _ => .undef) 15 t15) 14 t14) 13 t13) 9 t9) 8 t8) 7 t7) 6 t6) 5 t5) 4 t4) 0 t0, updS (updS (updS (updS (fun _ => none) 8 (some o8)) 7 (some o7)) 6 (some o6)) 4 (some o4), x⟩
/--  -/
abbrev s_ops_aggregate_x2 (t4 t8 : A) (o4 o8 : Ob) (x : Sto) : St := ⟨upd (upd (fun _ => .undef) 8 t8) 4 t4, updS (updS (fun _ => none) 8 (some o8)) 4 (some o4), x⟩
def i_ops_aggregate_l0 : IC := .seq (.seq (.reg [⟨some 16, .bin .lss (.t 15) (.t 14), none⟩])
 (.seq (.cond (.t 16) .skip (.seq (.keep [0, 4, 5, 6, 7, 8, 9] [4, 6, 7, 8]) (.exit 0)))
 (.seq (.seq (.block 1 (.seq (.seq (.reg [⟨some 17, .idxp (.t 13) (.t 15) 2, none⟩,
  ⟨some 18, .load (.t 17) (some 2), none⟩,
  ⟨some 11, .alloc [.sl [], .int .i64 0], none⟩,
  ⟨none, .store (.t 11) (.t 18) (some 2), none⟩]) (.frz 11 [0, 4, 5, 6, 7, 8, 9, 11, 13, 14, 15] [4, 6, 7, 8]))
 (.seq (.seq (.reg [⟨some 19, .mov (.t 0), none⟩,
  ⟨some 20, .nilchk (.t 19), none⟩,
  ⟨some 21, .fieldp (.t 20) 0 none, none⟩,
  ⟨some 22, .load (.t 21) none, none⟩,
  ⟨some 23, .bin .eql (.t 22) (.c (.int .i64 1)), none⟩])
 (.cond (.t 23) (.seq (.reg [⟨some 24, .mov (.t 5), none⟩,
  ⟨some 25, .fieldp (.t 11) 1 none, none⟩,
  ⟨some 26, .load (.t 25) none, none⟩,
  ⟨some 27, .bin .add (.t 24) (.t 26), none⟩,
  ⟨some 5, .mov (.t 27), none⟩])
 (.seq (.keep [0, 4, 5, 6, 7, 8, 9, 13, 14, 15] [4, 6, 7, 8]) (.exit 1))) .skip))
 (.seq (.seq (.dreg [⟨some 28, .mov (.t 0), none⟩,
  ⟨some 29, .nilchk (.t 28), none⟩,
  ⟨some 30, .fieldp (.t 29) 1 (some 6), none⟩,
  ⟨some 31, .fieldp (.t 11) 0 none, none⟩,
  ⟨some 32, .load (.t 31) none, none⟩,
  ⟨some 33, .call (.c (.fn n_exprs_Of [])) [(.t 30), (.t 32)] (some []) true [], none⟩,
  ⟨some 12, .alloc [.int .i64 0, .int .i64 0, .str ⟨#[]⟩], none⟩,
  ⟨none, .store (.t 12) (.t 33) (some 3), none⟩]) (.frz 12 [0, 4, 5, 6, 7, 8, 9, 11, 12, 13, 14, 15] [4, 6, 7, 8]))
 (.seq (.seq (.reg [⟨some 34, .fieldp (.t 12) 0 none, none⟩,
  ⟨some 35, .load (.t 34) none, none⟩,
  ⟨some 36, .bin .eql (.t 35) (.c (.int .i64 1)), none⟩])
 (.cond (.t 36) (.seq (.keep [0, 4, 5, 6, 7, 8, 9, 13, 14, 15] [4, 6, 7, 8]) (.exit 1)) .skip))
 (.seq (.reg [⟨some 37, .mov (.t 5), none⟩,
  ⟨some 38, .fieldp (.t 11) 1 none, none⟩,
  ⟨some 39, .load (.t 38) none, none⟩,
  ⟨some 40, .bin .add (.t 37) (.t 39), none⟩,
  ⟨some 5, .mov (.t 40), none⟩])
 (.seq (.reg [⟨some 41, .fieldp (.t 12) 1 none, none⟩,
  ⟨some 42, .load (.t 41) none, none⟩,
  ⟨some 43, .fieldp (.t 11) 1 none, none⟩,
  ⟨some 44, .load (.t 43) none, none⟩,
  ⟨some 45, .call (.c (.fn n_ops_total_add [])) [(.t 6), (.t 42), (.t 44)] (some [.L 6]) false [], none⟩])
 (.seq (.seq (.seq (.reg [⟨some 46, .mov (.t 9), none⟩,
  ⟨some 47, .not (.t 46), none⟩,
  ⟨some 48, .mov (.t 47), none⟩,
  ⟨some 49, .load (.t 12) (some 3), some (48, false)⟩,
  ⟨some 50, .load (.t 7) (some 3), some (48, false)⟩,
  ⟨some 51, .call (.c (.fn n_vals_Compare [])) [(.t 49), (.t 50)] (some []) true [], some (48, false)⟩,
  ⟨some 52, .bin .lss (.t 51) (.c (.int .i64 0)), some (48, false)⟩,
  ⟨some 53, .pick (.t 48) (.c (.bool true)) (.t 52), none⟩])
 (.cond (.t 53) (.reg [⟨some 54, .load (.t 12) (some 3), none⟩,
  ⟨none, .store (.t 7) (.t 54) (some 3), none⟩]) .skip)) (.keep [0, 4, 5, 6, 7, 8, 9, 12, 13, 14, 15] [4, 6, 7, 8]))
 (.seq (.seq (.seq (.reg [⟨some 55, .mov (.t 9), none⟩,
  ⟨some 56, .not (.t 55), none⟩,
  ⟨some 57, .mov (.t 56), none⟩,
  ⟨some 58, .load (.t 12) (some 3), some (57, false)⟩,
  ⟨some 59, .load (.t 8) (some 3), some (57, false)⟩,
  ⟨some 60, .call (.c (.fn n_vals_Compare [])) [(.t 58), (.t 59)] (some []) true [], some (57, false)⟩,
  ⟨some 61, .bin .gtr (.t 60) (.c (.int .i64 0)), some (57, false)⟩,
  ⟨some 62, .pick (.t 57) (.c (.bool true)) (.t 61), none⟩])
 (.cond (.t 62) (.reg [⟨some 63, .load (.t 12) (some 3), none⟩,
  ⟨none, .store (.t 8) (.t 63) (some 3), none⟩]) .skip)) (.keep [0, 4, 5, 6, 7, 8, 13, 14, 15] [4, 6, 7, 8]))
 (.reg [⟨some 9, .mov (.c (.bool true)), none⟩])))))))))) (.keep [0, 4, 5, 6, 7, 8, 9, 13, 14, 15] [4, 6, 7, 8]))
 (.reg [⟨some 64, .bin .add (.t 15) (.c (.int .i64 1)), none⟩,
  ⟨some 15, .mov (.t 64), none⟩])))) (.keep [0, 4, 5, 6, 7, 8, 9, 13, 14, 15] [4, 6, 7, 8])
def i_ops_aggregate_a0 : IC := (.seq (.block 2 (.seq (.reg [⟨some 66, .mov (.t 0), none⟩,
  ⟨some 67, .nilchk (.t 66), none⟩,
  ⟨some 68, .fieldp (.t 67) 0 none, none⟩,
  ⟨some 69, .load (.t 68) none, none⟩,
  ⟨some 70, .bin .leq (.t 69) (.c (.int .i64 2)), none⟩,
  ⟨some 65, .mov (.t 70), none⟩])
 (.cond (.t 65) (.seq (.reg [⟨some 71, .mov (.t 5), none⟩,
  ⟨some 72, .call (.c (.fn n_vals_Int [])) [(.t 71)] (some []) true [], none⟩,
  ⟨none, .store (.t 4) (.t 72) (some 3), none⟩])
 (.seq (.keep [4] [4]) .ret)) (.seq (.reg [⟨some 74, .mov (.t 9), none⟩,
  ⟨some 75, .not (.t 74), none⟩,
  ⟨some 73, .mov (.t 75), none⟩])
 (.cond (.t 73) (.seq (.reg [⟨some 76, .call (.c (.fn n_vals_Null [])) [] (some []) true [], none⟩,
  ⟨none, .store (.t 4) (.t 76) (some 3), none⟩])
 (.seq (.keep [4] [4]) .ret)) (.seq (.reg [⟨some 78, .mov (.t 0), none⟩,
  ⟨some 79, .nilchk (.t 78), none⟩,
  ⟨some 80, .fieldp (.t 79) 0 none, none⟩,
  ⟨some 81, .load (.t 80) none, none⟩,
  ⟨some 82, .bin .eql (.t 81) (.c (.int .i64 3)), none⟩,
  ⟨some 77, .mov (.t 82), none⟩])
 (.cond (.t 77) (.seq (.reg [⟨some 83, .call (.c (.fn n_ops_total_val [])) [(.t 6)] (some [.L 6]) false [], none⟩,
  ⟨none, .store (.t 4) (.t 83) (some 3), none⟩])
 (.seq (.keep [4] [4]) .ret)) (.seq (.reg [⟨some 85, .mov (.t 0), none⟩,
  ⟨some 86, .nilchk (.t 85), none⟩,
  ⟨some 87, .fieldp (.t 86) 0 none, none⟩,
  ⟨some 88, .load (.t 87) none, none⟩,
  ⟨some 89, .bin .eql (.t 88) (.c (.int .i64 4)), none⟩,
  ⟨some 84, .mov (.t 89), none⟩])
 (.cond (.t 84) (.seq (.reg [⟨some 90, .load (.t 7) (some 3), none⟩,
  ⟨none, .store (.t 4) (.t 90) (some 3), none⟩])
 (.seq (.keep [4] [4]) .ret)) .skip)))))))))
 (.seq (.reg [⟨some 91, .load (.t 8) (some 3), none⟩,
  ⟨none, .store (.t 4) (.t 91) (some 3), none⟩])
 (.seq (.keep [4] [4]) .ret)))
def i_ops_aggregate : IFn := ⟨2, [.cell 4 (some 3)],
 (.seq (.reg [⟨some 4, .alloc [.int .i64 0, .int .i64 0, .str ⟨#[]⟩], none⟩])
 (.seq (.reg [⟨some 5, .mov (.c (.int .i64 0)), none⟩])
 (.seq (.reg [⟨some 6, .alloc [.int .i64 0, .int .i64 0], none⟩])
 (.seq (.reg [⟨some 7, .alloc [.int .i64 0, .int .i64 0, .str ⟨#[]⟩], none⟩,
  ⟨some 8, .alloc [.int .i64 0, .int .i64 0, .str ⟨#[]⟩], none⟩])
 (.seq (.reg [⟨some 9, .mov (.c (.bool false)), none⟩])
 (.seq (.seq (.reg [⟨some 13, .mov (.t 1), none⟩,
  ⟨some 14, .len false (.t 13), none⟩,
  ⟨some 15, .mov (.c (.int .i64 0)), none⟩])
 (.block 0 (.seq (.keep [0, 4, 5, 6, 7, 8, 9, 13, 14, 15] [4, 6, 7, 8]) (.loop i_ops_aggregate_l0))))
 i_ops_aggregate_a0))))))⟩
/-! exprs_looker_typ -/
/--  -/
abbrev s_exprs_looker_typ_r (t6 t7 : A) (x : Sto) : St := ⟨upd (upd (fun _ => .undef) 7 t7) 6 t6, fun _ => none, x⟩
/-- t0 toArray -/
abbrev s_exprs_looker_typ_x0 (t0 t1 t2 : A) (x : Sto) : St := ⟨upd (upd (upd (fun _ => .undef) 2 t2) 1 t1) 0 t0, fun _ => none, x⟩
/-- t0 toArray -/
abbrev s_exprs_looker_typ_x1 (t0 t1 t9 : A) (o9 : Ob) (x : Sto) : St := ⟨upd (upd (upd (fun _ => .undef) 9 t9) 1 t1) 0 t0, updS (fun _ => none) 9 (some o9), x⟩
/-- t0 toArray -/
abbrev s_exprs_looker_typ_l0 (t0 t1 t2 t9 t49 t50 : A) (o9 : Ob) (x : Sto) : St := ⟨upd (upd (upd (upd (upd (upd (fun _ => .undef) 50 t50) 49 t49) 9 t9) 2 t2) 1 t1) 0 t0, updS (fun _ => none) 9 (some o9), x⟩
/-- t0 toArray -/
abbrev s_exprs_looker_typ_x2 (t0 t1 t2 t9 t49 t50 : A) (o9 : Ob) (x : Sto) : St := ⟨upd (upd (upd (upd (upd (upd (fun _ => .undef) 50 t50) 49 t49) 9 t9) 2 t2) 1 t1) 0 t0, updS (fun _ => none) 9 (some o9), x⟩
/--  -/
abbrev s_exprs_looker_typ_x3 (t1 t9 : A) (o9 : Ob) (x : Sto) : St := ⟨upd (upd (fun _ => .undef) 9 t9) 1 t1, updS (fun _ => none) 9 (some o9), x⟩
def i_exprs_looker_typ_l0 : IC := .seq (.seq (.reg [⟨some 51, .bin .lss (.t 50) (.t 49), none⟩])
 (.seq (.cond (.t 51) .skip (.seq (.keep [0, 1, 9] [9]) (.exit 1)))
 (.seq (.block 2 (.seq (.reg [⟨some 52, .mov (.t 50), none⟩,
  ⟨some 10, .mov (.t 52), none⟩])
 (.seq (.reg [⟨some 54, .mov (.t 0), none⟩,
  ⟨some 55, .mov (.t 1), none⟩,
  ⟨some 56, .nilchk (.t 55), none⟩,
  ⟨some 57, .fieldp (.t 56) 5 none, none⟩,
  ⟨some 58, .load (.t 57) none, none⟩,
  ⟨some 59, .mov (.t 10), none⟩,
  ⟨some 60, .idxp (.t 58) (.t 59) 6, none⟩,
  ⟨some 61, .mov (.t 2), none⟩,
  ⟨some 62, .bin .add (.t 61) (.c (.int .i64 1)), none⟩,
  ⟨some 63, .call (.c (.fn n_exprs_looker_typ [])) [(.t 54), (.t 60), (.t 62)] none false [], none⟩,
  ⟨some 53, .mov (.t 63), none⟩,
  ⟨some 64, .ext (.t 53) 0, none⟩,
  ⟨some 65, .ext (.t 53) 1, none⟩,
  ⟨some 11, .mov (.t 64), none⟩,
  ⟨some 12, .mov (.t 65), none⟩])
 (.seq (.seq (.reg [⟨some 66, .mov (.t 12), none⟩,
  ⟨some 67, .bin .neq (.t 66) (.c (.int .i64 0)), none⟩])
 (.cond (.t 67) (.seq (.reg [⟨some 68, .mov (.t 12), none⟩,
  ⟨some 6, .mov (.c (.int .i64 0)), none⟩,
  ⟨some 7, .mov (.t 68), none⟩])
 (.seq (.keep [6, 7] []) .ret)) .skip))
 (.reg [⟨some 69, .mov (.t 9), none⟩,
  ⟨some 70, .mov (.t 11), none⟩,
  ⟨some 71, .lit ty_int 1 1 [.int .i64 0] [(0, (.t 70))] false, none⟩,
  ⟨some 72, .app (.t 69) (.t 71) ty_int 1 8, none⟩,
  ⟨some 9, .mov (.t 72), none⟩])))))
 (.reg [⟨some 73, .bin .add (.t 50) (.c (.int .i64 1)), none⟩,
  ⟨some 50, .mov (.t 73), none⟩])))) (.keep [0, 1, 2, 9, 49, 50] [9])
def i_exprs_looker_typ_a0 : IC := (.seq (.block 3 (.seq (.reg [⟨some 75, .mov (.t 1), none⟩,
  ⟨some 76, .nilchk (.t 75), none⟩,
  ⟨some 77, .fieldp (.t 76) 0 none, none⟩,
  ⟨some 78, .load (.t 77) none, none⟩,
  ⟨some 79, .bin .eql (.t 78) (.c (.int .i64 1)), none⟩,
  ⟨some 74, .mov (.t 79), none⟩])
 (.cond (.t 74) (.seq (.dreg [⟨some 80, .mov (.t 1), none⟩,
  ⟨some 81, .nilchk (.t 80), none⟩,
  ⟨some 82, .fieldp (.t 81) 1 (some 3), none⟩,
  ⟨some 83, .fieldp (.t 82) 0 none, none⟩,
  ⟨some 84, .load (.t 83) none, none⟩,
  ⟨some 85, .mov (.t 1), none⟩,
  ⟨some 86, .nilchk (.t 85), none⟩,
  ⟨some 87, .fieldp (.t 86) 1 (some 3), none⟩,
  ⟨some 88, .load (.t 87) (some 3), none⟩,
  ⟨some 89, .call (.c (.fn n_vals_Wrong [])) [(.t 88)] (some []) true [], none⟩,
  ⟨some 6, .mov (.t 84), none⟩,
  ⟨some 7, .mov (.t 89), none⟩])
 (.seq (.keep [6, 7] []) .ret)) (.seq (.reg [⟨some 91, .mov (.t 1), none⟩,
  ⟨some 92, .nilchk (.t 91), none⟩,
  ⟨some 93, .fieldp (.t 92) 0 none, none⟩,
  ⟨some 94, .load (.t 93) none, none⟩,
  ⟨some 95, .bin .eql (.t 94) (.c (.int .i64 2)), none⟩,
  ⟨some 90, .mov (.t 95), none⟩])
 (.cond (.t 90) (.seq (.seq (.dreg [⟨some 96, .mov (.t 1), none⟩,
  ⟨some 97, .nilchk (.t 96), none⟩,
  ⟨some 98, .fieldp (.t 97) 4 none, none⟩,
  ⟨some 99, .load (.t 98) none, none⟩,
  ⟨some 100, .bin .lss (.t 99) (.c (.int .i64 0)), none⟩,
  ⟨some 101, .mov (.t 100), none⟩,
  ⟨some 102, .mov (.t 1), some (101, false)⟩,
  ⟨some 103, .nilchk (.t 102), some (101, false)⟩,
  ⟨some 104, .fieldp (.t 103) 4 none, some (101, false)⟩,
  ⟨some 105, .load (.t 104) none, some (101, false)⟩,
  ⟨some 106, .mov (.t 0), some (101, false)⟩,
  ⟨some 107, .nilchk (.t 106), some (101, false)⟩,
  ⟨some 108, .fieldp (.t 107) 0 none, some (101, false)⟩,
  ⟨some 109, .load (.t 108) none, some (101, false)⟩,
  ⟨some 110, .len false (.t 109), some (101, false)⟩,
  ⟨some 111, .bin .geq (.t 105) (.t 110), some (101, false)⟩,
  ⟨some 112, .pick (.t 101) (.c (.bool true)) (.t 111), none⟩])
 (.cond (.t 112) (.seq (.reg [⟨some 6, .mov (.c (.int .i64 0)), none⟩,
  ⟨some 7, .mov (.c (.int .i64 7)), none⟩])
 (.seq (.keep [6, 7] []) .ret)) .skip))
 (.seq (.dreg [⟨some 113, .mov (.t 0), none⟩,
  ⟨some 114, .nilchk (.t 113), none⟩,
  ⟨some 115, .fieldp (.t 114) 0 none, none⟩,
  ⟨some 116, .load (.t 115) none, none⟩,
  ⟨some 117, .mov (.t 1), none⟩,
  ⟨some 118, .nilchk (.t 117), none⟩,
  ⟨some 119, .fieldp (.t 118) 4 none, none⟩,
  ⟨some 120, .load (.t 119) none, none⟩,
  ⟨some 121, .idxp (.t 116) (.t 120) 1, none⟩,
  ⟨some 122, .load (.t 121) none, none⟩,
  ⟨some 6, .mov (.t 122), none⟩,
  ⟨some 7, .mov (.c (.int .i64 0)), none⟩])
 (.seq (.keep [6, 7] []) .ret))) (.seq (.reg [⟨some 124, .mov (.t 1), none⟩,
  ⟨some 125, .nilchk (.t 124), none⟩,
  ⟨some 126, .fieldp (.t 125) 0 none, none⟩,
  ⟨some 127, .load (.t 126) none, none⟩,
  ⟨some 128, .bin .eql (.t 127) (.c (.int .i64 16)), none⟩,
  ⟨some 123, .mov (.t 128), none⟩])
 (.cond (.t 123) (.seq (.reg [⟨some 6, .mov (.c (.int .i64 2)), none⟩,
  ⟨some 7, .mov (.c (.int .i64 0)), none⟩])
 (.seq (.keep [6, 7] []) .ret)) .skip)))))))
 (.seq (.reg [⟨some 129, .mov (.t 1), none⟩,
  ⟨some 130, .nilchk (.t 129), none⟩,
  ⟨some 131, .fieldp (.t 130) 0 none, none⟩,
  ⟨some 132, .load (.t 131) none, none⟩,
  ⟨some 133, .mov (.t 9), none⟩,
  ⟨some 134, .call (.c (.fn n_exprs_kind [])) [(.t 132), (.t 133)] (some []) true [], none⟩,
  ⟨some 135, .ext (.t 134) 0, none⟩,
  ⟨some 136, .ext (.t 134) 1, none⟩,
  ⟨some 6, .mov (.t 135), none⟩,
  ⟨some 7, .mov (.t 136), none⟩])
 (.seq (.keep [6, 7] []) .ret)))
def i_exprs_looker_typ : IFn := ⟨3, [.tmp 6 false, .tmp 7 false],
 (.seq (.reg [⟨some 6, .mov (.c (.int .i64 0)), none⟩,
  ⟨some 7, .mov (.c (.int .i64 0)), none⟩])
 (.seq (.seq (.reg [⟨some 13, .mov (.t 0), none⟩,
  ⟨some 14, .nilchk (.t 13), none⟩,
  ⟨some 15, .fieldp (.t 14) 1 none, none⟩,
  ⟨some 16, .load (.t 15) none, none⟩,
  ⟨some 17, .bin .add (.t 16) (.c (.int .i64 1)), none⟩,
  ⟨some 18, .nilchk (.t 13), none⟩,
  ⟨some 19, .fieldp (.t 18) 1 none, none⟩,
  ⟨none, .store (.t 19) (.t 17) none, none⟩])
 (.seq (.reg [⟨some 20, .mov (.t 0), none⟩,
  ⟨some 21, .nilchk (.t 20), none⟩,
  ⟨some 22, .fieldp (.t 21) 1 none, none⟩,
  ⟨some 23, .load (.t 22) none, none⟩,
  ⟨some 24, .bin .gtr (.t 23) (.c (.int .i64 200)), none⟩,
  ⟨some 25, .mov (.t 24), none⟩,
  ⟨some 26, .mov (.t 2), some (25, false)⟩,
  ⟨some 27, .bin .gtr (.t 26) (.c (.int .i64 20)), some (25, false)⟩,
  ⟨some 28, .pick (.t 25) (.c (.bool true)) (.t 27), none⟩])
 (.cond (.t 28) (.seq (.reg [⟨some 6, .mov (.c (.int .i64 0)), none⟩,
  ⟨some 7, .mov (.c (.int .i64 4)), none⟩])
 (.seq (.keep [6, 7] []) .ret)) .skip)))
 (.seq (.reg [⟨some 29, .mov (.t 1), none⟩,
  ⟨some 30, .nilchk (.t 29), none⟩,
  ⟨some 31, .fieldp (.t 30) 0 none, none⟩,
  ⟨some 32, .load (.t 31) none, none⟩,
  ⟨some 33, .call (.c (.fn n_exprs_kids [])) [(.t 32)] (some []) true [], none⟩,
  ⟨some 8, .mov (.t 33), none⟩])
 (.seq (.block 0 (.seq (.reg [⟨some 35, .mov (.t 8), none⟩,
  ⟨some 36, .bin .lss (.t 35) (.c (.int .i64 0)), none⟩,
  ⟨some 34, .mov (.t 36), none⟩])
 (.cond (.t 34) (.seq (.reg [⟨some 6, .mov (.c (.int .i64 0)), none⟩,
  ⟨some 7, .mov (.c (.int .i64 1)), none⟩])
 (.seq (.keep [6, 7] []) .ret)) (.seq (.reg [⟨some 38, .mov (.t 1), none⟩,
  ⟨some 39, .nilchk (.t 38), none⟩,
  ⟨some 40, .fieldp (.t 39) 5 none, none⟩,
  ⟨some 41, .load (.t 40) none, none⟩,
  ⟨some 42, .len false (.t 41), none⟩,
  ⟨some 43, .mov (.t 8), none⟩,
  ⟨some 44, .bin .neq (.t 42) (.t 43), none⟩,
  ⟨some 37, .mov (.t 44), none⟩])
 (.cond (.t 37) (.seq (.reg [⟨some 6, .mov (.c (.int .i64 0)), none⟩,
  ⟨some 7, .mov (.c (.int .i64 5)), none⟩])
 (.seq (.keep [6, 7] []) .ret)) .skip)))))
 (.seq (.reg [⟨some 9, .ntok ty_int 1, none⟩])
 (.seq (.seq (.reg [⟨some 45, .mov (.t 1), none⟩,
  ⟨some 46, .nilchk (.t 45), none⟩,
  ⟨some 47, .fieldp (.t 46) 5 none, none⟩,
  ⟨some 48, .load (.t 47) none, none⟩,
  ⟨some 49, .len false (.t 48), none⟩,
  ⟨some 50, .mov (.c (.int .i64 0)), none⟩])
 (.block 1 (.seq (.keep [0, 1, 2, 9, 49, 50] [9]) (.loop i_exprs_looker_typ_l0))))
 i_exprs_looker_typ_a0))))))⟩
/-! vals_Wrong -/
/--  -/
abbrev s_vals_Wrong_r (t2 : A) (x : Sto) : St := ⟨upd (fun _ => .undef) 2 t2, fun _ => none, x⟩
/--  -/
abbrev s_vals_Wrong_x0 (x : Sto) : St := ⟨fun _ => .undef, fun _ => none, x⟩
def i_vals_Wrong : IFn := ⟨1, [.tmp 2 false],
 (.seq (.reg [⟨some 1, .ibox (.t 0), none⟩,
  ⟨some 2, .mov (.c (.int .i64 0)), none⟩])
 (.seq (.seq (.seq (.reg [⟨some 3, .fieldp (.t 1) 0 none, none⟩,
  ⟨some 4, .load (.t 3) none, none⟩])
 (.block 0 (.seq (.reg [⟨some 6, .bin .eql (.t 4) (.c (.int .i64 1)), none⟩,
  ⟨some 5, .mov (.t 6), none⟩])
 (.cond (.t 5) .skip (.seq (.reg [⟨some 8, .bin .eql (.t 4) (.c (.int .i64 2)), none⟩,
  ⟨some 7, .mov (.t 8), none⟩])
 (.cond (.t 7) (.seq (.reg [⟨some 9, .fieldp (.t 1) 1 none, none⟩,
  ⟨some 10, .load (.t 9) none, none⟩,
  ⟨some 11, .bin .neq (.t 10) (.c (.int .i64 0)), none⟩,
  ⟨some 12, .mov (.t 11), none⟩,
  ⟨some 13, .fieldp (.t 1) 1 none, some (12, true)⟩,
  ⟨some 14, .load (.t 13) none, some (12, true)⟩,
  ⟨some 15, .bin .neq (.t 14) (.c (.int .i64 1)), some (12, true)⟩,
  ⟨some 16, .pick (.t 12) (.t 15) (.c (.bool false)), none⟩])
 (.cond (.t 16) (.seq (.reg [⟨some 2, .mov (.c (.int .i64 3)), none⟩])
 (.seq (.keep [2] []) .ret)) .skip)) (.seq (.reg [⟨some 18, .bin .eql (.t 4) (.c (.int .i64 3)), none⟩,
  ⟨some 17, .mov (.t 18), none⟩])
 (.cond (.t 17) (.seq (.reg [⟨some 19, .fieldp (.t 1) 1 none, none⟩,
  ⟨some 20, .load (.t 19) none, none⟩,
  ⟨some 21, .bin .gtr (.t 20) (.c (.int .i64 1000000000000000)), none⟩,
  ⟨some 22, .mov (.t 21), none⟩,
  ⟨some 23, .fieldp (.t 1) 1 none, some (22, false)⟩,
  ⟨some 24, .load (.t 23) none, some (22, false)⟩,
  ⟨some 25, .bin .lss (.t 24) (.c (.int .i64 (-1000000000000000))), some (22, false)⟩,
  ⟨some 26, .pick (.t 22) (.c (.bool true)) (.t 25), none⟩])
 (.cond (.t 26) (.seq (.reg [⟨some 2, .mov (.c (.int .i64 3)), none⟩])
 (.seq (.keep [2] []) .ret)) .skip)) (.seq (.reg [⟨some 28, .bin .eql (.t 4) (.c (.int .i64 4)), none⟩,
  ⟨some 27, .mov (.t 28), none⟩])
 (.cond (.t 27) (.seq (.reg [⟨some 29, .fieldp (.t 1) 2 none, none⟩,
  ⟨some 30, .load (.t 29) none, none⟩,
  ⟨some 31, .len true (.t 30), none⟩,
  ⟨some 32, .bin .gtr (.t 31) (.c (.int .i64 60)), none⟩])
 (.cond (.t 32) (.seq (.reg [⟨some 2, .mov (.c (.int .i64 4)), none⟩])
 (.seq (.keep [2] []) .ret)) .skip)) (.seq (.reg [⟨some 2, .mov (.c (.int .i64 1)), none⟩])
 (.seq (.keep [2] []) .ret)))))))))))) (.keep [] []))
 (.seq (.reg [⟨some 2, .mov (.c (.int .i64 0)), none⟩])
 (.seq (.keep [2] []) .ret))))⟩
/-! slices_insertionSortCmpFunc__P_window_line -/
/--  -/
abbrev s_slices_insertionSortCmpFunc__P_window_line_r (x : Sto) : St := ⟨fun _ => .undef, fun _ => none, x⟩
/--  -/
abbrev s_slices_insertionSortCmpFunc__P_window_line_x0 (x : Sto) : St := ⟨fun _ => .undef, fun _ => none, x⟩
/-- t0 data, t1 a, t2 b, t3 cmp, t8 i -/
abbrev s_slices_insertionSortCmpFunc__P_window_line_l0 (t0 t1 t2 t3 t8 : A) (x : Sto) : St := ⟨upd (upd (upd (upd (upd (fun _ => .undef) 8 t8) 3 t3) 2 t2) 1 t1) 0 t0, fun _ => none, x⟩
/-- t0 data, t1 a, t2 b, t3 cmp, t8 i -/
abbrev s_slices_insertionSortCmpFunc__P_window_line_x1 (t0 t1 t2 t3 t8 : A) (x : Sto) : St := ⟨upd (upd (upd (upd (upd (fun _ => .undef) 8 t8) 3 t3) 2 t2) 1 t1) 0 t0, fun _ => none, x⟩
/-- t0 data, t1 a, t2 b, t3 cmp, t8 i -/
abbrev s_slices_insertionSortCmpFunc__P_window_line_x2 (t0 t1 t2 t3 t8 : A) (x : Sto) : St := ⟨upd (upd (upd (upd (upd (fun _ => .undef) 8 t8) 3 t3) 2 t2) 1 t1) 0 t0, fun _ => none, x⟩
/-- t0 data, t1 a, t2 b, t3 cmp, t8 i, t9 j -/
abbrev s_slices_insertionSortCmpFunc__P_window_line_l1 (t0 t1 t2 t3 t8 t9 : A) (x : Sto) : St := ⟨upd (upd (upd (upd (upd (upd (fun _ => .undef) 9 t9) 8 t8) 3 t3) 2 t2) 1 t1) 0 t0, fun _ => none, x⟩
/-- t0 data, t1 a, t2 b, t3 cmp, t8 i, t9 j -/
abbrev s_slices_insertionSortCmpFunc__P_window_line_x3 (t0 t1 t2 t3 t8 t9 : A) (x : Sto) : St := ⟨upd (upd (upd (upd (upd (upd (fun _ => .undef) 9 t9) 8 t8) 3 t3) 2 t2) 1 t1) 0 t0, fun _ => none, x⟩
def i_slices_insertionSortCmpFunc__P_window_line_l1 : IC := .seq (.seq (.seq (.dreg [⟨some 18, .mov (.t 9), none⟩,
  ⟨some 19, .mov (.t 1), none⟩,
  ⟨some 20, .bin .gtr (.t 18) (.t 19), none⟩,
  ⟨some 21, .mov (.t 20), none⟩,
  ⟨some 22, .mov (.t 3), some (21, true)⟩,
  ⟨some 23, .mov (.t 0), some (21, true)⟩,
  ⟨some 24, .mov (.t 9), some (21, true)⟩,
  ⟨some 25, .idxp (.t 23) (.t 24) 1, some (21, true)⟩,
  ⟨some 26, .load (.t 25) none, some (21, true)⟩,
  ⟨some 27, .mov (.t 0), some (21, true)⟩,
  ⟨some 28, .mov (.t 9), some (21, true)⟩,
  ⟨some 29, .bin .sub (.t 28) (.c (.int .i64 1)), some (21, true)⟩,
  ⟨some 30, .idxp (.t 27) (.t 29) 1, some (21, true)⟩,
  ⟨some 31, .load (.t 30) none, some (21, true)⟩,
  ⟨some 32, .call (.t 22) [(.t 26), (.t 31)] none true [], some (21, true)⟩,
  ⟨some 33, .bin .lss (.t 32) (.c (.int .i64 0)), some (21, true)⟩,
  ⟨some 34, .pick (.t 21) (.t 33) (.c (.bool false)), none⟩])
 (.cond (.t 34) .skip (.seq (.keep [0, 1, 2, 3, 8] []) (.exit 2))))
 (.seq (.block 3 (.dreg [⟨some 37, .mov (.t 0), none⟩,
  ⟨some 38, .mov (.t 9), none⟩,
  ⟨some 39, .mov (.t 0), none⟩,
  ⟨some 40, .mov (.t 9), none⟩,
  ⟨some 41, .bin .sub (.t 40) (.c (.int .i64 1)), none⟩,
  ⟨some 42, .mov (.t 0), none⟩,
  ⟨some 43, .mov (.t 9), none⟩,
  ⟨some 44, .bin .sub (.t 43) (.c (.int .i64 1)), none⟩,
  ⟨some 45, .idxp (.t 42) (.t 44) 1, none⟩,
  ⟨some 46, .load (.t 45) none, none⟩,
  ⟨some 47, .mov (.t 0), none⟩,
  ⟨some 48, .mov (.t 9), none⟩,
  ⟨some 49, .idxp (.t 47) (.t 48) 1, none⟩,
  ⟨some 50, .load (.t 49) none, none⟩,
  ⟨some 51, .idxp (.t 37) (.t 38) 1, none⟩,
  ⟨none, .store (.t 51) (.t 46) none, none⟩,
  ⟨some 52, .idxp (.t 39) (.t 41) 1, none⟩,
  ⟨none, .store (.t 52) (.t 50) none, none⟩]))
 (.reg [⟨some 35, .mov (.t 9), none⟩,
  ⟨some 36, .bin .sub (.t 35) (.c (.int .i64 1)), none⟩,
  ⟨some 9, .mov (.t 36), none⟩]))) (.keep [0, 1, 2, 3, 8, 9] [])
def i_slices_insertionSortCmpFunc__P_window_line_a0 : IC := (.reg [⟨some 15, .mov (.t 8), none⟩,
  ⟨some 16, .bin .add (.t 15) (.c (.int .i64 1)), none⟩,
  ⟨some 8, .mov (.t 16), none⟩])
def i_slices_insertionSortCmpFunc__P_window_line_l0 : IC := .seq (.seq (.seq (.reg [⟨some 12, .mov (.t 8), none⟩,
  ⟨some 13, .mov (.t 2), none⟩,
  ⟨some 14, .bin .lss (.t 12) (.t 13), none⟩])
 (.cond (.t 14) .skip (.seq (.keep [] []) (.exit 0))))
 (.seq (.block 1 (.seq (.reg [⟨some 17, .mov (.t 8), none⟩,
  ⟨some 9, .mov (.t 17), none⟩])
 (.block 2 (.seq (.keep [0, 1, 2, 3, 8, 9] []) (.loop i_slices_insertionSortCmpFunc__P_window_line_l1)))))
 i_slices_insertionSortCmpFunc__P_window_line_a0)) (.keep [0, 1, 2, 3, 8] [])
def i_slices_insertionSortCmpFunc__P_window_line : IFn := ⟨4, [],
 (.seq (.reg [⟨some 10, .mov (.t 1), none⟩,
  ⟨some 11, .bin .add (.t 10) (.c (.int .i64 1)), none⟩,
  ⟨some 8, .mov (.t 11), none⟩])
 (.block 0 (.seq (.keep [0, 1, 2, 3, 8] []) (.loop i_slices_insertionSortCmpFunc__P_window_line_l0))))⟩
/-! slices_symMergeCmpFunc__P_window_line -/
/--  -/
abbrev s_slices_symMergeCmpFunc__P_window_line_r (x : Sto) : St := ⟨fun _ => .undef, fun _ => none, x⟩
/-- t0 toArray -/
abbrev s_slices_symMergeCmpFunc__P_window_line_x0 (t0 t1 t10 : A) (x : Sto) : St := ⟨upd (upd (upd (fun _ => .undef) 10 t10) 1 t1) 0 t0, fun _ => none, x⟩
/-- t0 toArray -/
abbrev s_slices_symMergeCmpFunc__P_window_line_l0 (t0 t1 t4 t10 t11 : A) (x : Sto) : St := ⟨upd (upd (upd (upd (upd (fun _ => .undef) 11 t11) 10 t10) 4 t4) 1 t1) 0 t0, fun _ => none, x⟩
/-- t0 toArray -/
abbrev s_slices_symMergeCmpFunc__P_window_line_x1 (t0 t1 t4 t10 t11 : A) (x : Sto) : St := ⟨upd (upd (upd (upd (upd (fun _ => .undef) 11 t11) 10 t10) 4 t4) 1 t1) 0 t0, fun _ => none, x⟩
/--  -/
abbrev s_slices_symMergeCmpFunc__P_window_line_x2 (x : Sto) : St := ⟨fun _ => .undef, fun _ => none, x⟩
/-- t0 toArray -/
abbrev s_slices_symMergeCmpFunc__P_window_line_l1 (t0 t10 t13 : A) (x : Sto) : St := ⟨upd (upd (upd (fun _ => .undef) 13 t13) 10 t10) 0 t0, fun _ => none, x⟩
/-- t0 toArray -/
abbrev s_slices_symMergeCmpFunc__P_window_line_x3 (t0 t10 t13 : A) (x : Sto) : St := ⟨upd (upd (upd (fun _ => .undef) 13 t13) 10 t10) 0 t0, fun _ => none, x⟩
/-- t0 toArray -/
abbrev s_slices_symMergeCmpFunc__P_window_line_x4 (t0 t2 t14 : A) (x : Sto) : St := ⟨upd (upd (upd (fun _ => .undef) 14 t14) 2 t2) 0 t0, fun _ => none, x⟩
/-- t0 toArray -/
abbrev s_slices_symMergeCmpFunc__P_window_line_l2 (t0 t2 t4 t14 t15 : A) (x : Sto) : St := ⟨upd (upd (upd (upd (upd (fun _ => .undef) 15 t15) 14 t14) 4 t4) 2 t2) 0 t0, fun _ => none, x⟩
/-- t0 toArray -/
abbrev s_slices_symMergeCmpFunc__P_window_line_x5 (t0 t2 t4 t14 t15 : A) (x : Sto) : St := ⟨upd (upd (upd (upd (upd (fun _ => .undef) 15 t15) 14 t14) 4 t4) 2 t2) 0 t0, fun _ => none, x⟩
/--  -/
abbrev s_slices_symMergeCmpFunc__P_window_line_x6 (x : Sto) : St := ⟨fun _ => .undef, fun _ => none, x⟩
/-- t0 toArray -/
abbrev s_slices_symMergeCmpFunc__P_window_line_l3 (t0 t14 t17 : A) (x : Sto) : St := ⟨upd (upd (upd (fun _ => .undef) 17 t17) 14 t14) 0 t0, fun _ => none, x⟩
/-- t0 toArray -/
abbrev s_slices_symMergeCmpFunc__P_window_line_x7 (t0 t14 t17 : A) (x : Sto) : St := ⟨upd (upd (upd (fun _ => .undef) 17 t17) 14 t14) 0 t0, fun _ => none, x⟩
/-- t0 toArray -/
abbrev s_slices_symMergeCmpFunc__P_window_line_x8 (t0 t1 t2 t3 t4 t18 t19 t20 : A) (x : Sto) : St := ⟨upd (upd (upd (upd (upd (upd (upd (upd (fun _ => .undef) 20 t20) 19 t19) 18 t18) 4 t4) 3 t3) 2 t2) 1 t1) 0 t0, fun _ => none, x⟩
/-- t0 toArray -/
abbrev s_slices_symMergeCmpFunc__P_window_line_l4 (t0 t1 t2 t3 t4 t18 t19 t20 t21 t22 : A) (x : Sto) : St := ⟨upd (upd (upd (upd (upd (upd (upd (upd (upd (upd (fun _ => .undef) 22 t22) 21 t21) 20 t20) 19 t19) 18 t18) 4 t4) 3 t3) 2 t2) 1 t1) 0 t0, fun _ => none, x⟩
/-- t0 toArray -/
abbrev s_slices_symMergeCmpFunc__P_window_line_x9 (t0 t1 t2 t3 t4 t18 t19 t20 t21 t22 : A) (x : Sto) : St := ⟨upd (upd (upd (upd (upd (upd (upd (upd (upd (upd (fun _ => .undef) 22 t22) 21 t21) 20 t20) 19 t19) 18 t18) 4 t4) 3 t3) 2 t2) 1 t1) 0 t0, fun _ => none, x⟩
def i_slices_symMergeCmpFunc__P_window_line_l0 : IC := .seq (.seq (.seq (.reg [⟨some 31, .mov (.t 10), none⟩,
  ⟨some 32, .mov (.t 11), none⟩,
  ⟨some 33, .bin .lss (.t 31) (.t 32), none⟩])
 (.cond (.t 33) .skip (.seq (.keep [0, 1, 10] []) (.exit 0))))
 (.block 1 (.seq (.reg [⟨some 34, .mov (.t 10), none⟩,
  ⟨some 35, .mov (.t 11), none⟩,
  ⟨some 36, .bin .add (.t 34) (.t 35), none⟩,
  ⟨some 37, .conv .u64 (.t 36), none⟩,
  ⟨some 38, .bin .shr (.t 37) (.c (.int .u64 1)), none⟩,
  ⟨some 39, .conv .i64 (.t 38), none⟩,
  ⟨some 12, .mov (.t 39), none⟩])
 (.seq (.dreg [⟨some 40, .mov (.t 4), none⟩,
  ⟨some 41, .mov (.t 0), none⟩,
  ⟨some 42, .mov (.t 12), none⟩,
  ⟨some 43, .idxp (.t 41) (.t 42) 1, none⟩,
  ⟨some 44, .load (.t 43) none, none⟩,
  ⟨some 45, .mov (.t 0), none⟩,
  ⟨some 46, .mov (.t 1), none⟩,
  ⟨some 47, .idxp (.t 45) (.t 46) 1, none⟩,
  ⟨some 48, .load (.t 47) none, none⟩,
  ⟨some 49, .call (.t 40) [(.t 44), (.t 48)] none true [], none⟩,
  ⟨some 50, .bin .lss (.t 49) (.c (.int .i64 0)), none⟩])
 (.cond (.t 50) (.reg [⟨some 51, .mov (.t 12), none⟩,
  ⟨some 52, .bin .add (.t 51) (.c (.int .i64 1)), none⟩,
  ⟨some 10, .mov (.t 52), none⟩]) (.reg [⟨some 53, .mov (.t 12), none⟩,
  ⟨some 11, .mov (.t 53), none⟩])))))) (.keep [0, 1, 4, 10, 11] [])
def i_slices_symMergeCmpFunc__P_window_line_l1 : IC := .seq (.seq (.seq (.reg [⟨some 55, .mov (.t 13), none⟩,
  ⟨some 56, .mov (.t 10), none⟩,
  ⟨some 57, .bin .sub (.t 56) (.c (.int .i64 1)), none⟩,
  ⟨some 58, .bin .lss (.t 55) (.t 57), none⟩])
 (.cond (.t 58) .skip (.seq (.keep [] []) (.exit 2))))
 (.seq (.block 3 (.dreg [⟨some 61, .mov (.t 0), none⟩,
  ⟨some 62, .mov (.t 13), none⟩,
  ⟨some 63, .mov (.t 0), none⟩,
  ⟨some 64, .mov (.t 13), none⟩,
  ⟨some 65, .bin .add (.t 64) (.c (.int .i64 1)), none⟩,
  ⟨some 66, .mov (.t 0), none⟩,
  ⟨some 67, .mov (.t 13), none⟩,
  ⟨some 68, .bin .add (.t 67) (.c (.int .i64 1)), none⟩,
  ⟨some 69, .idxp (.t 66) (.t 68) 1, none⟩,
  ⟨some 70, .load (.t 69) none, none⟩,
  ⟨some 71, .mov (.t 0), none⟩,
  ⟨some 72, .mov (.t 13), none⟩,
  ⟨some 73, .idxp (.t 71) (.t 72) 1, none⟩,
  ⟨some 74, .load (.t 73) none, none⟩,
  ⟨some 75, .idxp (.t 61) (.t 62) 1, none⟩,
  ⟨none, .store (.t 75) (.t 70) none, none⟩,
  ⟨some 76, .idxp (.t 63) (.t 65) 1, none⟩,
  ⟨none, .store (.t 76) (.t 74) none, none⟩]))
 (.reg [⟨some 59, .mov (.t 13), none⟩,
  ⟨some 60, .bin .add (.t 59) (.c (.int .i64 1)), none⟩,
  ⟨some 13, .mov (.t 60), none⟩]))) (.keep [0, 10, 13] [])
def i_slices_symMergeCmpFunc__P_window_line_a0 : IC := (.seq (.keep [] []) .ret)
def i_slices_symMergeCmpFunc__P_window_line_a1 : IC := (.seq (.seq (.reg [⟨some 54, .mov (.t 1), none⟩,
  ⟨some 13, .mov (.t 54), none⟩])
 (.block 2 (.seq (.keep [0, 10, 13] []) (.loop i_slices_symMergeCmpFunc__P_window_line_l1))))
 i_slices_symMergeCmpFunc__P_window_line_a0)
def i_slices_symMergeCmpFunc__P_window_line_l2 : IC := .seq (.seq (.seq (.reg [⟨some 83, .mov (.t 14), none⟩,
  ⟨some 84, .mov (.t 15), none⟩,
  ⟨some 85, .bin .lss (.t 83) (.t 84), none⟩])
 (.cond (.t 85) .skip (.seq (.keep [0, 2, 14] []) (.exit 4))))
 (.block 5 (.seq (.reg [⟨some 86, .mov (.t 14), none⟩,
  ⟨some 87, .mov (.t 15), none⟩,
  ⟨some 88, .bin .add (.t 86) (.t 87), none⟩,
  ⟨some 89, .conv .u64 (.t 88), none⟩,
  ⟨some 90, .bin .shr (.t 89) (.c (.int .u64 1)), none⟩,
  ⟨some 91, .conv .i64 (.t 90), none⟩,
  ⟨some 16, .mov (.t 91), none⟩])
 (.seq (.dreg [⟨some 92, .mov (.t 4), none⟩,
  ⟨some 93, .mov (.t 0), none⟩,
  ⟨some 94, .mov (.t 2), none⟩,
  ⟨some 95, .idxp (.t 93) (.t 94) 1, none⟩,
  ⟨some 96, .load (.t 95) none, none⟩,
  ⟨some 97, .mov (.t 0), none⟩,
  ⟨some 98, .mov (.t 16), none⟩,
  ⟨some 99, .idxp (.t 97) (.t 98) 1, none⟩,
  ⟨some 100, .load (.t 99) none, none⟩,
  ⟨some 101, .call (.t 92) [(.t 96), (.t 100)] none true [], none⟩,
  ⟨some 102, .bin .lss (.t 101) (.c (.int .i64 0)), none⟩,
  ⟨some 103, .not (.t 102), none⟩])
 (.cond (.t 103) (.reg [⟨some 104, .mov (.t 16), none⟩,
  ⟨some 105, .bin .add (.t 104) (.c (.int .i64 1)), none⟩,
  ⟨some 14, .mov (.t 105), none⟩]) (.reg [⟨some 106, .mov (.t 16), none⟩,
  ⟨some 15, .mov (.t 106), none⟩])))))) (.keep [0, 2, 4, 14, 15] [])
def i_slices_symMergeCmpFunc__P_window_line_l3 : IC := .seq (.seq (.seq (.reg [⟨some 108, .mov (.t 17), none⟩,
  ⟨some 109, .mov (.t 14), none⟩,
  ⟨some 110, .bin .gtr (.t 108) (.t 109), none⟩])
 (.cond (.t 110) .skip (.seq (.keep [] []) (.exit 6))))
 (.seq (.block 7 (.dreg [⟨some 113, .mov (.t 0), none⟩,
  ⟨some 114, .mov (.t 17), none⟩,
  ⟨some 115, .mov (.t 0), none⟩,
  ⟨some 116, .mov (.t 17), none⟩,
  ⟨some 117, .bin .sub (.t 116) (.c (.int .i64 1)), none⟩,
  ⟨some 118, .mov (.t 0), none⟩,
  ⟨some 119, .mov (.t 17), none⟩,
  ⟨some 120, .bin .sub (.t 119) (.c (.int .i64 1)), none⟩,
  ⟨some 121, .idxp (.t 118) (.t 120) 1, none⟩,
  ⟨some 122, .load (.t 121) none, none⟩,
  ⟨some 123, .mov (.t 0), none⟩,
  ⟨some 124, .mov (.t 17), none⟩,
  ⟨some 125, .idxp (.t 123) (.t 124) 1, none⟩,
  ⟨some 126, .load (.t 125) none, none⟩,
  ⟨some 127, .idxp (.t 113) (.t 114) 1, none⟩,
  ⟨none, .store (.t 127) (.t 122) none, none⟩,
  ⟨some 128, .idxp (.t 115) (.t 117) 1, none⟩,
  ⟨none, .store (.t 128) (.t 126) none, none⟩]))
 (.reg [⟨some 111, .mov (.t 17), none⟩,
  ⟨some 112, .bin .sub (.t 111) (.c (.int .i64 1)), none⟩,
  ⟨some 17, .mov (.t 112), none⟩]))) (.keep [0, 14, 17] [])
def i_slices_symMergeCmpFunc__P_window_line_a2 : IC := (.seq (.keep [] []) .ret)
def i_slices_symMergeCmpFunc__P_window_line_a3 : IC := (.seq (.seq (.reg [⟨some 107, .mov (.t 2), none⟩,
  ⟨some 17, .mov (.t 107), none⟩])
 (.block 6 (.seq (.keep [0, 14, 17] []) (.loop i_slices_symMergeCmpFunc__P_window_line_l3))))
 i_slices_symMergeCmpFunc__P_window_line_a2)
def i_slices_symMergeCmpFunc__P_window_line_l4 : IC := .seq (.seq (.seq (.reg [⟨some 149, .mov (.t 20), none⟩,
  ⟨some 150, .mov (.t 21), none⟩,
  ⟨some 151, .bin .lss (.t 149) (.t 150), none⟩])
 (.cond (.t 151) .skip (.seq (.keep [0, 1, 2, 3, 4, 18, 19, 20] []) (.exit 8))))
 (.block 9 (.seq (.reg [⟨some 152, .mov (.t 20), none⟩,
  ⟨some 153, .mov (.t 21), none⟩,
  ⟨some 154, .bin .add (.t 152) (.t 153), none⟩,
  ⟨some 155, .conv .u64 (.t 154), none⟩,
  ⟨some 156, .bin .shr (.t 155) (.c (.int .u64 1)), none⟩,
  ⟨some 157, .conv .i64 (.t 156), none⟩,
  ⟨some 23, .mov (.t 157), none⟩])
 (.seq (.dreg [⟨some 158, .mov (.t 4), none⟩,
  ⟨some 159, .mov (.t 0), none⟩,
  ⟨some 160, .mov (.t 22), none⟩,
  ⟨some 161, .mov (.t 23), none⟩,
  ⟨some 162, .bin .sub (.t 160) (.t 161), none⟩,
  ⟨some 163, .idxp (.t 159) (.t 162) 1, none⟩,
  ⟨some 164, .load (.t 163) none, none⟩,
  ⟨some 165, .mov (.t 0), none⟩,
  ⟨some 166, .mov (.t 23), none⟩,
  ⟨some 167, .idxp (.t 165) (.t 166) 1, none⟩,
  ⟨some 168, .load (.t 167) none, none⟩,
  ⟨some 169, .call (.t 158) [(.t 164), (.t 168)] none true [], none⟩,
  ⟨some 170, .bin .lss (.t 169) (.c (.int .i64 0)), none⟩,
  ⟨some 171, .not (.t 170), none⟩])
 (.cond (.t 171) (.reg [⟨some 172, .mov (.t 23), none⟩,
  ⟨some 173, .bin .add (.t 172) (.c (.int .i64 1)), none⟩,
  ⟨some 20, .mov (.t 173), none⟩]) (.reg [⟨some 174, .mov (.t 23), none⟩,
  ⟨some 21, .mov (.t 174), none⟩])))))) (.keep [0, 1, 2, 3, 4, 18, 19, 20, 21, 22] [])
def i_slices_symMergeCmpFunc__P_window_line_a4 : IC := (.seq (.reg [⟨some 175, .mov (.t 19), none⟩,
  ⟨some 176, .mov (.t 20), none⟩,
  ⟨some 177, .bin .sub (.t 175) (.t 176), none⟩,
  ⟨some 24, .mov (.t 177), none⟩])
 (.seq (.seq (.seq (.reg [⟨some 178, .mov (.t 20), none⟩,
  ⟨some 179, .mov (.t 2), none⟩,
  ⟨some 180, .bin .lss (.t 178) (.t 179), none⟩,
  ⟨some 181, .mov (.t 180), none⟩,
  ⟨some 182, .mov (.t 2), some (181, true)⟩,
  ⟨some 183, .mov (.t 24), some (181, true)⟩,
  ⟨some 184, .bin .lss (.t 182) (.t 183), some (181, true)⟩,
  ⟨some 185, .pick (.t 181) (.t 184) (.c (.bool false)), none⟩])
 (.cond (.t 185) (.reg [⟨some 186, .mov (.t 0), none⟩,
  ⟨some 187, .mov (.t 20), none⟩,
  ⟨some 188, .mov (.t 2), none⟩,
  ⟨some 189, .mov (.t 24), none⟩,
  ⟨some 190, .mov (.t 4), none⟩,
  ⟨some 191, .call (.c (.fn n_slices_rotateCmpFunc__P_window_line [])) [(.t 186), (.t 187), (.t 188), (.t 189), (.t 190)] none false [], none⟩]) .skip)) (.keep [0, 1, 3, 4, 18, 20, 24] []))
 (.seq (.seq (.seq (.reg [⟨some 192, .mov (.t 1), none⟩,
  ⟨some 193, .mov (.t 20), none⟩,
  ⟨some 194, .bin .lss (.t 192) (.t 193), none⟩,
  ⟨some 195, .mov (.t 194), none⟩,
  ⟨some 196, .mov (.t 20), some (195, true)⟩,
  ⟨some 197, .mov (.t 18), some (195, true)⟩,
  ⟨some 198, .bin .lss (.t 196) (.t 197), some (195, true)⟩,
  ⟨some 199, .pick (.t 195) (.t 198) (.c (.bool false)), none⟩])
 (.cond (.t 199) (.reg [⟨some 200, .mov (.t 0), none⟩,
  ⟨some 201, .mov (.t 1), none⟩,
  ⟨some 202, .mov (.t 20), none⟩,
  ⟨some 203, .mov (.t 18), none⟩,
  ⟨some 204, .mov (.t 4), none⟩,
  ⟨some 205, .call (.c (.fn n_slices_symMergeCmpFunc__P_window_line [])) [(.t 200), (.t 201), (.t 202), (.t 203), (.t 204)] none false [], none⟩]) .skip)) (.keep [0, 3, 4, 18, 24] []))
 (.seq (.reg [⟨some 206, .mov (.t 18), none⟩,
  ⟨some 207, .mov (.t 24), none⟩,
  ⟨some 208, .bin .lss (.t 206) (.t 207), none⟩,
  ⟨some 209, .mov (.t 208), none⟩,
  ⟨some 210, .mov (.t 24), some (209, true)⟩,
  ⟨some 211, .mov (.t 3), some (209, true)⟩,
  ⟨some 212, .bin .lss (.t 210) (.t 211), some (209, true)⟩,
  ⟨some 213, .pick (.t 209) (.t 212) (.c (.bool false)), none⟩])
 (.cond (.t 213) (.reg [⟨some 214, .mov (.t 0), none⟩,
  ⟨some 215, .mov (.t 18), none⟩,
  ⟨some 216, .mov (.t 24), none⟩,
  ⟨some 217, .mov (.t 3), none⟩,
  ⟨some 218, .mov (.t 4), none⟩,
  ⟨some 219, .call (.c (.fn n_slices_symMergeCmpFunc__P_window_line [])) [(.t 214), (.t 215), (.t 216), (.t 217), (.t 218)] none false [], none⟩]) .skip)))))
def i_slices_symMergeCmpFunc__P_window_line : IFn := ⟨5, [],
 (.seq (.seq (.reg [⟨some 25, .mov (.t 2), none⟩,
  ⟨some 26, .mov (.t 1), none⟩,
  ⟨some 27, .bin .sub (.t 25) (.t 26), none⟩,
  ⟨some 28, .bin .eql (.t 27) (.c (.int .i64 1)), none⟩])
 (.cond (.t 28) (.seq (.reg [⟨some 29, .mov (.t 2), none⟩,
  ⟨some 10, .mov (.t 29), none⟩])
 (.seq (.reg [⟨some 30, .mov (.t 3), none⟩,
  ⟨some 11, .mov (.t 30), none⟩])
 (.seq (.block 0 (.seq (.keep [0, 1, 4, 10, 11] []) (.loop i_slices_symMergeCmpFunc__P_window_line_l0)))
 i_slices_symMergeCmpFunc__P_window_line_a1))) .skip))
 (.seq (.seq (.reg [⟨some 77, .mov (.t 3), none⟩,
  ⟨some 78, .mov (.t 2), none⟩,
  ⟨some 79, .bin .sub (.t 77) (.t 78), none⟩,
  ⟨some 80, .bin .eql (.t 79) (.c (.int .i64 1)), none⟩])
 (.cond (.t 80) (.seq (.reg [⟨some 81, .mov (.t 1), none⟩,
  ⟨some 14, .mov (.t 81), none⟩])
 (.seq (.reg [⟨some 82, .mov (.t 2), none⟩,
  ⟨some 15, .mov (.t 82), none⟩])
 (.seq (.block 4 (.seq (.keep [0, 2, 4, 14, 15] []) (.loop i_slices_symMergeCmpFunc__P_window_line_l2)))
 i_slices_symMergeCmpFunc__P_window_line_a3))) .skip))
 (.seq (.reg [⟨some 129, .mov (.t 1), none⟩,
  ⟨some 130, .mov (.t 3), none⟩,
  ⟨some 131, .bin .add (.t 129) (.t 130), none⟩,
  ⟨some 132, .conv .u64 (.t 131), none⟩,
  ⟨some 133, .bin .shr (.t 132) (.c (.int .u64 1)), none⟩,
  ⟨some 134, .conv .i64 (.t 133), none⟩,
  ⟨some 18, .mov (.t 134), none⟩])
 (.seq (.reg [⟨some 135, .mov (.t 18), none⟩,
  ⟨some 136, .mov (.t 2), none⟩,
  ⟨some 137, .bin .add (.t 135) (.t 136), none⟩,
  ⟨some 19, .mov (.t 137), none⟩])
 (.seq (.reg [⟨some 20, .mov (.c (.int .i64 0)), none⟩,
  ⟨some 21, .mov (.c (.int .i64 0)), none⟩])
 (.seq (.seq (.seq (.reg [⟨some 138, .mov (.t 2), none⟩,
  ⟨some 139, .mov (.t 18), none⟩,
  ⟨some 140, .bin .gtr (.t 138) (.t 139), none⟩])
 (.cond (.t 140) (.seq (.reg [⟨some 141, .mov (.t 19), none⟩,
  ⟨some 142, .mov (.t 3), none⟩,
  ⟨some 143, .bin .sub (.t 141) (.t 142), none⟩,
  ⟨some 20, .mov (.t 143), none⟩])
 (.reg [⟨some 144, .mov (.t 18), none⟩,
  ⟨some 21, .mov (.t 144), none⟩])) (.seq (.reg [⟨some 145, .mov (.t 1), none⟩,
  ⟨some 20, .mov (.t 145), none⟩])
 (.reg [⟨some 146, .mov (.t 2), none⟩,
  ⟨some 21, .mov (.t 146), none⟩])))) (.keep [0, 1, 2, 3, 4, 18, 19, 20, 21] []))
 (.seq (.reg [⟨some 147, .mov (.t 19), none⟩,
  ⟨some 148, .bin .sub (.t 147) (.c (.int .i64 1)), none⟩,
  ⟨some 22, .mov (.t 148), none⟩])
 (.seq (.block 8 (.seq (.keep [0, 1, 2, 3, 4, 18, 19, 20, 21, 22] []) (.loop i_slices_symMergeCmpFunc__P_window_line_l4)))
 i_slices_symMergeCmpFunc__P_window_line_a4))))))))⟩
/-! cmp_Or__int -/
/--  -/
abbrev s_cmp_Or__int_r (t2 : A) (x : Sto) : St := ⟨upd (fun _ => .undef) 2 t2, fun _ => none, x⟩
/-- t3 zero -/
abbrev s_cmp_Or__int_x0 (t3 : A) (x : Sto) : St := ⟨upd (fun _ => .undef) 3 t3, fun _ => none, x⟩
/-- t3 zero -/
abbrev s_cmp_Or__int_l0 (t3 t6 t7 t8 : A) (x : Sto) : St := ⟨upd (upd (upd (upd (fun _ => .undef) 8 t8) 7 t7) 6 t6) 3 t3, fun _ => none, x⟩
/-- t3 zero -/
abbrev s_cmp_Or__int_x1 (t3 t6 t7 t8 : A) (x : Sto) : St := ⟨upd (upd (upd (upd (fun _ => .undef) 8 t8) 7 t7) 6 t6) 3 t3, fun _ => none, x⟩
def i_cmp_Or__int_l0 : IC := .seq (.seq (.reg [⟨some 9, .bin .lss (.t 8) (.t 7), none⟩])
 (.seq (.cond (.t 9) .skip (.seq (.keep [3] []) (.exit 0)))
 (.seq (.block 1 (.seq (.reg [⟨some 10, .idxp (.t 6) (.t 8) 1, none⟩,
  ⟨some 11, .load (.t 10) none, none⟩,
  ⟨some 5, .mov (.t 11), none⟩])
 (.seq (.reg [⟨some 12, .mov (.t 5), none⟩,
  ⟨some 13, .mov (.t 3), none⟩,
  ⟨some 14, .bin .neq (.t 12) (.t 13), none⟩])
 (.cond (.t 14) (.seq (.reg [⟨some 15, .mov (.t 5), none⟩,
  ⟨some 2, .mov (.t 15), none⟩])
 (.seq (.keep [2] []) .ret)) .skip))))
 (.reg [⟨some 16, .bin .add (.t 8) (.c (.int .i64 1)), none⟩,
  ⟨some 8, .mov (.t 16), none⟩])))) (.keep [3, 6, 7, 8] [])
def i_cmp_Or__int_a0 : IC := (.seq (.reg [⟨some 17, .mov (.t 3), none⟩,
  ⟨some 2, .mov (.t 17), none⟩])
 (.seq (.keep [2] []) .ret))
def i_cmp_Or__int : IFn := ⟨1, [.tmp 2 false],
 (.seq (.reg [⟨some 2, .mov (.c (.int .i64 0)), none⟩])
 (.seq (.reg [⟨some 3, .mov (.c (.int .i64 0)), none⟩])
 (.seq (.seq (.reg [⟨some 6, .mov (.t 0), none⟩,
  ⟨some 7, .len false (.t 6), none⟩,
  ⟨some 8, .mov (.c (.int .i64 0)), none⟩])
 (.block 0 (.seq (.keep [3, 6, 7, 8] []) (.loop i_cmp_Or__int_l0))))
 i_cmp_Or__int_a0)))⟩
/-! cmp_Compare__int64 -/
/--  -/
abbrev s_cmp_Compare__int64_r (t4 : A) (x : Sto) : St := ⟨upd (fun _ => .undef) 4 t4, fun _ => none, x⟩
def i_cmp_Compare__int64 : IFn := ⟨2, [.tmp 4 false],
 (.seq (.reg [⟨some 4, .mov (.c (.int .i64 0)), none⟩])
 (.seq (.reg [⟨some 7, .mov (.t 0), none⟩,
  ⟨some 8, .call (.c (.fn n_cmp_isNaN__int64 [])) [(.t 7)] (some []) true [], none⟩,
  ⟨some 5, .mov (.t 8), none⟩])
 (.seq (.reg [⟨some 9, .mov (.t 1), none⟩,
  ⟨some 10, .call (.c (.fn n_cmp_isNaN__int64 [])) [(.t 9)] (some []) true [], none⟩,
  ⟨some 6, .mov (.t 10), none⟩])
 (.seq (.seq (.reg [⟨some 11, .mov (.t 5), none⟩])
 (.cond (.t 11) (.seq (.seq (.reg [⟨some 12, .mov (.t 6), none⟩])
 (.cond (.t 12) (.seq (.reg [⟨some 4, .mov (.c (.int .i64 0)), none⟩])
 (.seq (.keep [4] []) .ret)) .skip))
 (.seq (.reg [⟨some 4, .mov (.c (.int .i64 (-1))), none⟩])
 (.seq (.keep [4] []) .ret))) .skip))
 (.seq (.seq (.reg [⟨some 13, .mov (.t 6), none⟩])
 (.cond (.t 13) (.seq (.reg [⟨some 4, .mov (.c (.int .i64 1)), none⟩])
 (.seq (.keep [4] []) .ret)) .skip))
 (.seq (.seq (.reg [⟨some 14, .mov (.t 0), none⟩,
  ⟨some 15, .mov (.t 1), none⟩,
  ⟨some 16, .bin .lss (.t 14) (.t 15), none⟩])
 (.cond (.t 16) (.seq (.reg [⟨some 4, .mov (.c (.int .i64 (-1))), none⟩])
 (.seq (.keep [4] []) .ret)) .skip))
 (.seq (.seq (.reg [⟨some 17, .mov (.t 0), none⟩,
  ⟨some 18, .mov (.t 1), none⟩,
  ⟨some 19, .bin .gtr (.t 17) (.t 18), none⟩])
 (.cond (.t 19) (.seq (.reg [⟨some 4, .mov (.c (.int .i64 1)), none⟩])
 (.seq (.keep [4] []) .ret)) .skip))
 (.seq (.reg [⟨some 4, .mov (.c (.int .i64 0)), none⟩])
 (.seq (.keep [4] []) .ret)))))))))⟩
/-! strings_Compare -/
/--  -/
abbrev s_strings_Compare_r (t4 : A) (x : Sto) : St := ⟨upd (fun _ => .undef) 4 t4, fun _ => none, x⟩
def i_strings_Compare : IFn := ⟨2, [.tmp 4 false],
 (.seq (.reg [⟨some 4, .mov (.c (.int .i64 0)), none⟩])
 (.seq (.reg [⟨some 5, .mov (.t 0), none⟩,
  ⟨some 6, .mov (.t 1), none⟩,
  ⟨some 7, .call (.c (.fn n_bytealg_CompareString [])) [(.t 5), (.t 6)] (some []) true [], none⟩,
  ⟨some 4, .mov (.t 7), none⟩])
 (.seq (.keep [4] []) .ret)))⟩
/-! cmp_isNaN__int -/
/--  -/
abbrev s_cmp_isNaN__int_r (t2 : A) (x : Sto) : St := ⟨upd (fun _ => .undef) 2 t2, fun _ => none, x⟩
def i_cmp_isNaN__int : IFn := ⟨1, [.tmp 2 false],
 (.seq (.reg [⟨some 2, .mov (.c (.bool false)), none⟩])
 (.seq (.reg [⟨some 3, .mov (.t 0), none⟩,
  ⟨some 4, .mov (.t 0), none⟩,
  ⟨some 5, .bin .neq (.t 3) (.t 4), none⟩,
  ⟨some 2, .mov (.t 5), none⟩])
 (.seq (.keep [2] []) .ret)))⟩
/-! slices_ContainsFunc__api_ZRow -/
/--  -/
abbrev s_slices_ContainsFunc__api_ZRow_r (t4 : A) (x : Sto) : St := ⟨upd (fun _ => .undef) 4 t4, fun _ => none, x⟩
def i_slices_ContainsFunc__api_ZRow : IFn := ⟨2, [.tmp 4 false],
 (.seq (.reg [⟨some 4, .mov (.c (.bool false)), none⟩])
 (.seq (.reg [⟨some 5, .mov (.t 0), none⟩,
  ⟨some 6, .mov (.t 1), none⟩,
  ⟨some 7, .call (.c (.fn n_slices_IndexFunc__api_ZRow [])) [(.t 5), (.t 6)] (some []) true [], none⟩,
  ⟨some 8, .bin .geq (.t 7) (.c (.int .i64 0)), none⟩,
  ⟨some 4, .mov (.t 8), none⟩])
 (.seq (.keep [4] []) .ret)))⟩
/-! zsets_Fit_1 -/
/--  -/
abbrev s_zsets_Fit_1_r (t2 : A) (x : Sto) : St := ⟨upd (fun _ => .undef) 2 t2, fun _ => none, x⟩
def i_zsets_Fit_1 : IFn := ⟨1, [.tmp 2 false],
 (.seq (.reg [⟨some 1, .ibox (.t 0), none⟩,
  ⟨some 2, .mov (.c (.bool false)), none⟩])
 (.seq (.reg [⟨some 3, .fieldp (.t 1) 1 none, none⟩,
  ⟨some 4, .load (.t 3) none, none⟩,
  ⟨some 5, .call (.c (.fn n_zsets_weight [])) [(.t 4)] (some []) true [], none⟩,
  ⟨some 6, .not (.t 5), none⟩,
  ⟨some 2, .mov (.t 6), none⟩])
 (.seq (.keep [2] []) .ret)))⟩
/-! slices_SortStableFunc__api_ZRow -/
/--  -/
abbrev s_slices_SortStableFunc__api_ZRow_r (x : Sto) : St := ⟨fun _ => .undef, fun _ => none, x⟩
def i_slices_SortStableFunc__api_ZRow : IFn := ⟨2, [],
 (.reg [⟨some 4, .mov (.t 0), none⟩,
  ⟨some 5, .mov (.t 0), none⟩,
  ⟨some 6, .len false (.t 5), none⟩,
  ⟨some 7, .mov (.t 1), none⟩,
  ⟨some 8, .call (.c (.fn n_slices_stableCmpFunc__api_ZRow [])) [(.t 4), (.t 6), (.t 7)] none false [], none⟩])⟩
/-! zsets_Total_1 -/
/--  -/
abbrev s_zsets_Total_1_r (t4 : A) (x : Sto) : St := ⟨upd (fun _ => .undef) 4 t4, fun _ => none, x⟩
def i_zsets_Total_1 : IFn := ⟨2, [.tmp 4 false],
 (.seq (.reg [⟨some 2, .ibox (.t 0), none⟩,
  ⟨some 3, .ibox (.t 1), none⟩,
  ⟨some 4, .mov (.c (.int .i64 0)), none⟩])
 (.seq (.reg [⟨some 5, .fieldp (.t 2) 0 none, none⟩,
  ⟨some 6, .load (.t 5) none, none⟩,
  ⟨some 7, .fieldp (.t 3) 0 none, none⟩,
  ⟨some 8, .load (.t 7) none, none⟩,
  ⟨some 9, .call (.c (.fn n_vals_Rows [])) [(.t 6), (.t 8)] (some []) true [], none⟩,
  ⟨some 4, .mov (.t 9), none⟩])
 (.seq (.keep [4] []) .ret)))⟩
/-! vals_ranked -/
/--  -/
abbrev s_vals_ranked_r (t2 : A) (o2 : Ob) (x : Sto) : St := ⟨upd (fun _ => .undef) 2 t2, updS (fun _ => none) 2 (some o2), x⟩
def i_vals_ranked : IFn := ⟨1, [.cell 2 (some 3)],
 (.seq (.reg [⟨some 2, .alloc [.int .i64 0, .int .i64 0, .str ⟨#[]⟩], none⟩])
 (.seq (.seq (.reg [⟨some 3, .mov (.t 0), none⟩,
  ⟨some 4, .bin .eql (.t 3) (.c (.int .i64 1)), none⟩])
 (.cond (.t 4) (.seq (.reg [⟨some 5, .call (.c (.fn n_vals_Null [])) [] (some []) true [], none⟩,
  ⟨none, .store (.t 2) (.t 5) (some 3), none⟩])
 (.seq (.keep [2] [2]) .ret)) .skip))
 (.seq (.reg [⟨some 6, .mov (.t 0), none⟩,
  ⟨some 7, .bin .eql (.t 6) (.c (.int .i64 2)), none⟩,
  ⟨some 8, .call (.c (.fn n_vals_Bool [])) [(.t 7)] (some []) true [], none⟩,
  ⟨none, .store (.t 2) (.t 8) (some 3), none⟩])
 (.seq (.keep [2] [2]) .ret))))⟩
/-! vals_Equal -/
/--  -/
abbrev s_vals_Equal_r (t4 : A) (o4 : Ob) (x : Sto) : St := ⟨upd (fun _ => .undef) 4 t4, updS (fun _ => none) 4 (some o4), x⟩
def i_vals_Equal : IFn := ⟨2, [.cell 4 (some 3)],
 (.seq (.reg [⟨some 2, .ibox (.t 0), none⟩,
  ⟨some 3, .ibox (.t 1), none⟩,
  ⟨some 4, .alloc [.int .i64 0, .int .i64 0, .str ⟨#[]⟩], none⟩])
 (.seq (.seq (.reg [⟨some 5, .load (.t 2) (some 3), none⟩,
  ⟨some 6, .load (.t 3) (some 3), none⟩,
  ⟨some 7, .call (.c (.fn n_vals_alike [])) [(.t 5), (.t 6)] (some []) true [], none⟩,
  ⟨some 8, .not (.t 7), none⟩])
 (.cond (.t 8) (.seq (.reg [⟨some 9, .call (.c (.fn n_vals_Null [])) [] (some []) true [], none⟩,
  ⟨none, .store (.t 4) (.t 9) (some 3), none⟩])
 (.seq (.keep [4] [4]) .ret)) .skip))
 (.seq (.reg [⟨some 10, .load (.t 2) (some 3), none⟩,
  ⟨some 11, .load (.t 3) (some 3), none⟩,
  ⟨some 12, .call (.c (.fn n_vals_Compare [])) [(.t 10), (.t 11)] (some []) true [], none⟩,
  ⟨some 13, .bin .eql (.t 12) (.c (.int .i64 0)), none⟩,
  ⟨some 14, .call (.c (.fn n_vals_Bool [])) [(.t 13)] (some []) true [], none⟩,
  ⟨none, .store (.t 4) (.t 14) (some 3), none⟩])
 (.seq (.keep [4] [4]) .ret))))⟩
/-! vals_Less -/
/--  -/
abbrev s_vals_Less_r (t4 : A) (o4 : Ob) (x : Sto) : St := ⟨upd (fun _ => .undef) 4 t4, updS (fun _ => none) 4 (some o4), x⟩
def i_vals_Less : IFn := ⟨2, [.cell 4 (some 3)],
 (.seq (.reg [⟨some 2, .ibox (.t 0), none⟩,
  ⟨some 3, .ibox (.t 1), none⟩,
  ⟨some 4, .alloc [.int .i64 0, .int .i64 0, .str ⟨#[]⟩], none⟩])
 (.seq (.seq (.reg [⟨some 5, .load (.t 2) (some 3), none⟩,
  ⟨some 6, .load (.t 3) (some 3), none⟩,
  ⟨some 7, .call (.c (.fn n_vals_alike [])) [(.t 5), (.t 6)] (some []) true [], none⟩,
  ⟨some 8, .not (.t 7), none⟩])
 (.cond (.t 8) (.seq (.reg [⟨some 9, .call (.c (.fn n_vals_Null [])) [] (some []) true [], none⟩,
  ⟨none, .store (.t 4) (.t 9) (some 3), none⟩])
 (.seq (.keep [4] [4]) .ret)) .skip))
 (.seq (.reg [⟨some 10, .load (.t 2) (some 3), none⟩,
  ⟨some 11, .load (.t 3) (some 3), none⟩,
  ⟨some 12, .call (.c (.fn n_vals_Compare [])) [(.t 10), (.t 11)] (some []) true [], none⟩,
  ⟨some 13, .bin .lss (.t 12) (.c (.int .i64 0)), none⟩,
  ⟨some 14, .call (.c (.fn n_vals_Bool [])) [(.t 13)] (some []) true [], none⟩,
  ⟨none, .store (.t 4) (.t 14) (some 3), none⟩])
 (.seq (.keep [4] [4]) .ret))))⟩
/-! slices_stableCmpFunc__ops_group -/
/--  -/
abbrev s_slices_stableCmpFunc__ops_group_r (x : Sto) : St := ⟨fun _ => .undef, fun _ => none, x⟩
/-- t0 data, t1 n, t2 cmp, t6 blockSize, t7 a -/
abbrev s_slices_stableCmpFunc__ops_group_x0 (t0 t1 t2 t6 t7 : A) (x : Sto) : St := ⟨upd (upd (upd (upd (upd (fun _ => .undef) 7 t7) 6 t6) 2 t2) 1 t1) 0 t0, fun _ => none, x⟩
/-- t0 data, t1 n, t2 cmp, t6 blockSize, t7 a, t8 b -/
abbrev s_slices_stableCmpFunc__ops_group_l0 (t0 t1 t2 t6 t7 t8 : A) (x : Sto) : St := ⟨upd (upd (upd (upd (upd (upd (fun _ => .undef) 8 t8) 7 t7) 6 t6) 2 t2) 1 t1) 0 t0, fun _ => none, x⟩
/-- t0 data, t1 n, t2 cmp, t6 blockSize, t7 a, t8 b -/
abbrev s_slices_stableCmpFunc__ops_group_x1 (t0 t1 t2 t6 t7 t8 : A) (x : Sto) : St := ⟨upd (upd (upd (upd (upd (upd (fun _ => .undef) 8 t8) 7 t7) 6 t6) 2 t2) 1 t1) 0 t0, fun _ => none, x⟩
/--  -/
abbrev s_slices_stableCmpFunc__ops_group_x2 (x : Sto) : St := ⟨fun _ => .undef, fun _ => none, x⟩
/-- t0 data, t1 n, t2 cmp, t6 blockSize -/
abbrev s_slices_stableCmpFunc__ops_group_l1 (t0 t1 t2 t6 : A) (x : Sto) : St := ⟨upd (upd (upd (upd (fun _ => .undef) 6 t6) 2 t2) 1 t1) 0 t0, fun _ => none, x⟩
/-- t0 data, t1 n, t2 cmp, t6 blockSize -/
abbrev s_slices_stableCmpFunc__ops_group_x3 (t0 t1 t2 t6 : A) (x : Sto) : St := ⟨upd (upd (upd (upd (fun _ => .undef) 6 t6) 2 t2) 1 t1) 0 t0, fun _ => none, x⟩
/-- t0 data, t1 n, t2 cmp, t6 blockSize, t7 a -/
abbrev s_slices_stableCmpFunc__ops_group_x4 (t0 t1 t2 t6 t7 : A) (x : Sto) : St := ⟨upd (upd (upd (upd (upd (fun _ => .undef) 7 t7) 6 t6) 2 t2) 1 t1) 0 t0, fun _ => none, x⟩
/-- t0 data, t1 n, t2 cmp, t6 blockSize, t7 a, t8 b -/
abbrev s_slices_stableCmpFunc__ops_group_l2 (t0 t1 t2 t6 t7 t8 : A) (x : Sto) : St := ⟨upd (upd (upd (upd (upd (upd (fun _ => .undef) 8 t8) 7 t7) 6 t6) 2 t2) 1 t1) 0 t0, fun _ => none, x⟩
/-- t0 data, t1 n, t2 cmp, t6 blockSize, t7 a, t8 b -/
abbrev s_slices_stableCmpFunc__ops_group_x5 (t0 t1 t2 t6 t7 t8 : A) (x : Sto) : St := ⟨upd (upd (upd (upd (upd (upd (fun _ => .undef) 8 t8) 7 t7) 6 t6) 2 t2) 1 t1) 0 t0, fun _ => none, x⟩
def i_slices_stableCmpFunc__ops_group_l0 : IC := .seq (.seq (.seq (.reg [⟨some 11, .mov (.t 8), none⟩,
  ⟨some 12, .mov (.t 1), none⟩,
  ⟨some 13, .bin .leq (.t 11) (.t 12), none⟩])
 (.cond (.t 13) .skip (.seq (.keep [0, 1, 2, 6, 7] []) (.exit 0))))
 (.block 1 (.seq (.reg [⟨some 14, .mov (.t 0), none⟩,
  ⟨some 15, .mov (.t 7), none⟩,
  ⟨some 16, .mov (.t 8), none⟩,
  ⟨some 17, .mov (.t 2), none⟩,
  ⟨some 18, .call (.c (.fn n_slices_insertionSortCmpFunc__ops_group [])) [(.t 14), (.t 15), (.t 16), (.t 17)] none false [], none⟩])
 (.seq (.reg [⟨some 19, .mov (.t 8), none⟩,
  ⟨some 7, .mov (.t 19), none⟩])
 (.reg [⟨some 20, .mov (.t 8), none⟩,
  ⟨some 21, .mov (.t 6), none⟩,
  ⟨some 22, .bin .add (.t 20) (.t 21), none⟩,
  ⟨some 8, .mov (.t 22), none⟩]))))) (.keep [0, 1, 2, 6, 7, 8] [])
def i_slices_stableCmpFunc__ops_group_l2 : IC := .seq (.seq (.seq (.reg [⟨some 33, .mov (.t 8), none⟩,
  ⟨some 34, .mov (.t 1), none⟩,
  ⟨some 35, .bin .leq (.t 33) (.t 34), none⟩])
 (.cond (.t 35) .skip (.seq (.keep [0, 1, 2, 6, 7] []) (.exit 4))))
 (.block 5 (.seq (.reg [⟨some 36, .mov (.t 0), none⟩,
  ⟨some 37, .mov (.t 7), none⟩,
  ⟨some 38, .mov (.t 7), none⟩,
  ⟨some 39, .mov (.t 6), none⟩,
  ⟨some 40, .bin .add (.t 38) (.t 39), none⟩,
  ⟨some 41, .mov (.t 8), none⟩,
  ⟨some 42, .mov (.t 2), none⟩,
  ⟨some 43, .call (.c (.fn n_slices_symMergeCmpFunc__ops_group [])) [(.t 36), (.t 37), (.t 40), (.t 41), (.t 42)] none false [], none⟩])
 (.seq (.reg [⟨some 44, .mov (.t 8), none⟩,
  ⟨some 7, .mov (.t 44), none⟩])
 (.reg [⟨some 45, .mov (.t 8), none⟩,
  ⟨some 46, .mov (.t 6), none⟩,
  ⟨some 47, .bin .mul (.c (.int .i64 2)) (.t 46), none⟩,
  ⟨some 48, .bin .add (.t 45) (.t 47), none⟩,
  ⟨some 8, .mov (.t 48), none⟩]))))) (.keep [0, 1, 2, 6, 7, 8] [])
def i_slices_stableCmpFunc__ops_group_a0 : IC := (.seq (.seq (.seq (.reg [⟨some 49, .mov (.t 7), none⟩,
  ⟨some 50, .mov (.t 6), none⟩,
  ⟨some 51, .bin .add (.t 49) (.t 50), none⟩,
  ⟨some 9, .mov (.t 51), none⟩])
 (.seq (.reg [⟨some 52, .mov (.t 9), none⟩,
  ⟨some 53, .mov (.t 1), none⟩,
  ⟨some 54, .bin .lss (.t 52) (.t 53), none⟩])
 (.cond (.t 54) (.reg [⟨some 55, .mov (.t 0), none⟩,
  ⟨some 56, .mov (.t 7), none⟩,
  ⟨some 57, .mov (.t 9), none⟩,
  ⟨some 58, .mov (.t 1), none⟩,
  ⟨some 59, .mov (.t 2), none⟩,
  ⟨some 60, .call (.c (.fn n_slices_symMergeCmpFunc__ops_group [])) [(.t 55), (.t 56), (.t 57), (.t 58), (.t 59)] none false [], none⟩]) .skip))) (.keep [0, 1, 2, 6] []))
 (.reg [⟨some 61, .mov (.t 6), none⟩,
  ⟨some 62, .bin .mul (.t 61) (.c (.int .i64 2)), none⟩,
  ⟨some 6, .mov (.t 62), none⟩]))
def i_slices_stableCmpFunc__ops_group_l1 : IC := .seq (.seq (.seq (.reg [⟨some 28, .mov (.t 6), none⟩,
  ⟨some 29, .mov (.t 1), none⟩,
  ⟨some 30, .bin .lss (.t 28) (.t 29), none⟩])
 (.cond (.t 30) .skip (.seq (.keep [] []) (.exit 2))))
 (.block 3 (.seq (.reg [⟨some 31, .mov (.t 6), none⟩,
  ⟨some 32, .bin .mul (.c (.int .i64 2)) (.t 31), none⟩,
  ⟨some 7, .mov (.c (.int .i64 0)), none⟩,
  ⟨some 8, .mov (.t 32), none⟩])
 (.seq (.block 4 (.seq (.keep [0, 1, 2, 6, 7, 8] []) (.loop i_slices_stableCmpFunc__ops_group_l2)))
 i_slices_stableCmpFunc__ops_group_a0)))) (.keep [0, 1, 2, 6] [])
def i_slices_stableCmpFunc__ops_group_a1 : IC := (.seq (.reg [⟨some 23, .mov (.t 0), none⟩,
  ⟨some 24, .mov (.t 7), none⟩,
  ⟨some 25, .mov (.t 1), none⟩,
  ⟨some 26, .mov (.t 2), none⟩,
  ⟨some 27, .call (.c (.fn n_slices_insertionSortCmpFunc__ops_group [])) [(.t 23), (.t 24), (.t 25), (.t 26)] none false [], none⟩])
 (.block 2 (.seq (.keep [0, 1, 2, 6] []) (.loop i_slices_stableCmpFunc__ops_group_l1))))
def i_slices_stableCmpFunc__ops_group : IFn := ⟨3, [],
 (.seq (.reg [⟨some 6, .mov (.c (.int .i64 20)), none⟩])
 (.seq (.reg [⟨some 10, .mov (.t 6), none⟩,
  ⟨some 7, .mov (.c (.int .i64 0)), none⟩,
  ⟨some 8, .mov (.t 10), none⟩])
 (.seq (.block 0 (.seq (.keep [0, 1, 2, 6, 7, 8] []) (.loop i_slices_stableCmpFunc__ops_group_l0)))
 i_slices_stableCmpFunc__ops_group_a1)))⟩
/-! ops_total_add -/
/--  -/
abbrev s_ops_total_add_r (x : Sto) : St := ⟨fun _ => .undef, fun _ => none, x⟩
def i_ops_total_add : IFn := ⟨3, [],
 (.seq (.reg [⟨some 6, .mov (.t 0), none⟩,
  ⟨some 7, .nilchk (.t 6), none⟩,
  ⟨some 8, .fieldp (.t 7) 0 none, none⟩,
  ⟨some 9, .load (.t 8) none, none⟩,
  ⟨some 10, .mov (.t 2), none⟩,
  ⟨some 11, .mov (.t 1), none⟩,
  ⟨some 12, .bin .quo (.t 11) (.c (.int .i64 100000000)), none⟩,
  ⟨some 13, .bin .mul (.t 10) (.t 12), none⟩,
  ⟨some 14, .bin .add (.t 9) (.t 13), none⟩,
  ⟨some 15, .nilchk (.t 6), none⟩,
  ⟨some 16, .fieldp (.t 15) 0 none, none⟩,
  ⟨none, .store (.t 16) (.t 14) none, none⟩])
 (.reg [⟨some 17, .mov (.t 0), none⟩,
  ⟨some 18, .nilchk (.t 17), none⟩,
  ⟨some 19, .fieldp (.t 18) 1 none, none⟩,
  ⟨some 20, .load (.t 19) none, none⟩,
  ⟨some 21, .mov (.t 2), none⟩,
  ⟨some 22, .mov (.t 1), none⟩,
  ⟨some 23, .bin .rem (.t 22) (.c (.int .i64 100000000)), none⟩,
  ⟨some 24, .bin .mul (.t 21) (.t 23), none⟩,
  ⟨some 25, .bin .add (.t 20) (.t 24), none⟩,
  ⟨some 26, .nilchk (.t 17), none⟩,
  ⟨some 27, .fieldp (.t 26) 1 none, none⟩,
  ⟨none, .store (.t 27) (.t 25) none, none⟩]))⟩
/-! ops_total_val -/
/--  -/
abbrev s_ops_total_val_r (t2 : A) (o2 : Ob) (x : Sto) : St := ⟨upd (fun _ => .undef) 2 t2, updS (fun _ => none) 2 (some o2), x⟩
def i_ops_total_val : IFn := ⟨1, [.cell 2 (some 3)],
 (.seq (.reg [⟨some 2, .alloc [.int .i64 0, .int .i64 0, .str ⟨#[]⟩], none⟩])
 (.seq (.dreg [⟨some 5, .mov (.t 0), none⟩,
  ⟨some 6, .nilchk (.t 5), none⟩,
  ⟨some 7, .fieldp (.t 6) 0 none, none⟩,
  ⟨some 8, .load (.t 7) none, none⟩,
  ⟨some 9, .mov (.t 0), none⟩,
  ⟨some 10, .nilchk (.t 9), none⟩,
  ⟨some 11, .fieldp (.t 10) 1 none, none⟩,
  ⟨some 12, .load (.t 11) none, none⟩,
  ⟨some 13, .bin .quo (.t 12) (.c (.int .i64 100000000)), none⟩,
  ⟨some 14, .bin .add (.t 8) (.t 13), none⟩,
  ⟨some 15, .mov (.t 0), none⟩,
  ⟨some 16, .nilchk (.t 15), none⟩,
  ⟨some 17, .fieldp (.t 16) 1 none, none⟩,
  ⟨some 18, .load (.t 17) none, none⟩,
  ⟨some 19, .bin .rem (.t 18) (.c (.int .i64 100000000)), none⟩,
  ⟨some 3, .mov (.t 14), none⟩,
  ⟨some 4, .mov (.t 19), none⟩])
 (.seq (.seq (.reg [⟨some 20, .mov (.t 3), none⟩,
  ⟨some 21, .bin .gtr (.t 20) (.c (.int .i64 200000000)), none⟩,
  ⟨some 22, .mov (.t 21), none⟩,
  ⟨some 23, .mov (.t 3), some (22, false)⟩,
  ⟨some 24, .bin .lss (.t 23) (.c (.int .i64 (-200000000))), some (22, false)⟩,
  ⟨some 25, .pick (.t 22) (.c (.bool true)) (.t 24), none⟩])
 (.cond (.t 25) (.seq (.reg [⟨some 26, .call (.c (.fn n_vals_Null [])) [] (some []) true [], none⟩,
  ⟨none, .store (.t 2) (.t 26) (some 3), none⟩])
 (.seq (.keep [2] [2]) .ret)) .skip))
 (.seq (.reg [⟨some 27, .mov (.t 3), none⟩,
  ⟨some 28, .bin .mul (.t 27) (.c (.int .i64 100000000)), none⟩,
  ⟨some 29, .mov (.t 4), none⟩,
  ⟨some 30, .bin .add (.t 28) (.t 29), none⟩,
  ⟨some 31, .call (.c (.fn n_vals_Int [])) [(.t 30)] (some []) true [], none⟩,
  ⟨none, .store (.t 2) (.t 31) (some 3), none⟩])
 (.seq (.keep [2] [2]) .ret)))))⟩
/-! exprs_kids -/
/--  -/
abbrev s_exprs_kids_r (t2 : A) (x : Sto) : St := ⟨upd (fun _ => .undef) 2 t2, fun _ => none, x⟩
/--  -/
abbrev s_exprs_kids_x0 (x : Sto) : St := ⟨fun _ => .undef, fun _ => none, x⟩
def i_exprs_kids : IFn := ⟨1, [.tmp 2 false],
 (.seq (.reg [⟨some 2, .mov (.c (.int .i64 0)), none⟩])
 (.seq (.block 0 (.seq (.reg [⟨some 4, .mov (.t 0), none⟩,
  ⟨some 5, .bin .eql (.t 4) (.c (.int .i64 1)), none⟩,
  ⟨some 6, .mov (.t 5), none⟩,
  ⟨some 7, .mov (.t 0), some (6, false)⟩,
  ⟨some 8, .bin .eql (.t 7) (.c (.int .i64 2)), some (6, false)⟩,
  ⟨some 9, .pick (.t 6) (.c (.bool true)) (.t 8), none⟩,
  ⟨some 3, .mov (.t 9), none⟩])
 (.cond (.t 3) (.seq (.reg [⟨some 2, .mov (.c (.int .i64 0)), none⟩])
 (.seq (.keep [2] []) .ret)) (.seq (.reg [⟨some 11, .mov (.t 0), none⟩,
  ⟨some 12, .bin .eql (.t 11) (.c (.int .i64 3)), none⟩,
  ⟨some 13, .mov (.t 12), none⟩,
  ⟨some 14, .mov (.t 0), some (13, false)⟩,
  ⟨some 15, .bin .eql (.t 14) (.c (.int .i64 16)), some (13, false)⟩,
  ⟨some 16, .pick (.t 13) (.c (.bool true)) (.t 15), none⟩,
  ⟨some 10, .mov (.t 16), none⟩])
 (.cond (.t 10) (.seq (.reg [⟨some 2, .mov (.c (.int .i64 1)), none⟩])
 (.seq (.keep [2] []) .ret)) (.seq (.reg [⟨some 18, .mov (.t 0), none⟩,
  ⟨some 19, .bin .geq (.t 18) (.c (.int .i64 4)), none⟩,
  ⟨some 20, .mov (.t 19), none⟩,
  ⟨some 21, .mov (.t 0), some (20, true)⟩,
  ⟨some 22, .bin .leq (.t 21) (.c (.int .i64 15)), some (20, true)⟩,
  ⟨some 23, .pick (.t 20) (.t 22) (.c (.bool false)), none⟩,
  ⟨some 24, .mov (.t 23), none⟩,
  ⟨some 25, .mov (.t 0), some (24, false)⟩,
  ⟨some 26, .bin .eql (.t 25) (.c (.int .i64 18)), some (24, false)⟩,
  ⟨some 27, .pick (.t 24) (.c (.bool true)) (.t 26), none⟩,
  ⟨some 17, .mov (.t 27), none⟩])
 (.cond (.t 17) (.seq (.reg [⟨some 2, .mov (.c (.int .i64 2)), none⟩])
 (.seq (.keep [2] []) .ret)) (.seq (.reg [⟨some 29, .mov (.t 0), none⟩,
  ⟨some 30, .bin .eql (.t 29) (.c (.int .i64 17)), none⟩,
  ⟨some 28, .mov (.t 30), none⟩])
 (.cond (.t 28) (.seq (.reg [⟨some 2, .mov (.c (.int .i64 3)), none⟩])
 (.seq (.keep [2] []) .ret)) .skip)))))))))
 (.seq (.reg [⟨some 2, .mov (.c (.int .i64 (-1))), none⟩])
 (.seq (.keep [2] []) .ret))))⟩
/-! exprs_kind -/
/--  -/
abbrev s_exprs_kind_r (t4 t5 : A) (x : Sto) : St := ⟨upd (upd (fun _ => .undef) 5 t5) 4 t4, fun _ => none, x⟩
/--  -/
abbrev s_exprs_kind_x0 (t6 t7 : A) (x : Sto) : St := ⟨upd (upd (fun _ => .undef) 7 t7) 6 t6, fun _ => none, x⟩
def i_exprs_kind : IFn := ⟨2, [.tmp 4 false, .tmp 5 false],
 (.seq (.reg [⟨some 4, .mov (.c (.int .i64 0)), none⟩,
  ⟨some 5, .mov (.c (.int .i64 0)), none⟩])
 (.seq (.reg [⟨some 6, .mov (.c (.bool false)), none⟩,
  ⟨some 7, .mov (.c (.int .i64 2)), none⟩])
 (.seq (.seq (.block 0 (.seq (.reg [⟨some 19, .mov (.t 0), none⟩,
  ⟨some 20, .bin .leq (.t 19) (.c (.int .i64 5)), none⟩,
  ⟨some 18, .mov (.t 20), none⟩])
 (.cond (.t 18) (.reg [⟨some 21, .mov (.t 1), none⟩,
  ⟨some 22, .call (.c (.fn n_exprs_all [])) [(.t 21), (.c (.int .i64 2))] (some []) true [], none⟩,
  ⟨some 6, .mov (.t 22), none⟩]) (.seq (.reg [⟨some 24, .mov (.t 0), none⟩,
  ⟨some 25, .bin .leq (.t 24) (.c (.int .i64 11)), none⟩,
  ⟨some 23, .mov (.t 25), none⟩])
 (.cond (.t 23) (.dreg [⟨some 27, .mov (.t 1), none⟩,
  ⟨some 28, .idxp (.t 27) (.c (.int .i64 0)) 1, none⟩,
  ⟨some 29, .load (.t 28) none, none⟩,
  ⟨some 30, .mov (.t 1), none⟩,
  ⟨some 31, .idxp (.t 30) (.c (.int .i64 1)) 1, none⟩,
  ⟨some 32, .load (.t 31) none, none⟩,
  ⟨some 33, .call (.c (.fn n_exprs_one [])) [(.t 29), (.t 32)] (some []) true [], none⟩,
  ⟨some 26, .mov (.t 33), none⟩,
  ⟨some 34, .ext (.t 26) 0, none⟩,
  ⟨some 35, .ext (.t 26) 1, none⟩,
  ⟨some 6, .mov (.t 35), none⟩]) (.seq (.reg [⟨some 37, .mov (.t 0), none⟩,
  ⟨some 38, .bin .leq (.t 37) (.c (.int .i64 14)), none⟩,
  ⟨some 36, .mov (.t 38), none⟩])
 (.cond (.t 36) (.reg [⟨some 39, .mov (.t 1), none⟩,
  ⟨some 40, .call (.c (.fn n_exprs_all [])) [(.t 39), (.c (.int .i64 3))] (some []) true [], none⟩,
  ⟨some 6, .mov (.t 40), none⟩,
  ⟨some 7, .mov (.c (.int .i64 3)), none⟩]) (.seq (.reg [⟨some 42, .mov (.t 0), none⟩,
  ⟨some 43, .bin .eql (.t 42) (.c (.int .i64 15)), none⟩,
  ⟨some 41, .mov (.t 43), none⟩])
 (.cond (.t 41) (.reg [⟨some 44, .mov (.t 1), none⟩,
  ⟨some 45, .call (.c (.fn n_exprs_all [])) [(.t 44), (.c (.int .i64 4))] (some []) true [], none⟩,
  ⟨some 6, .mov (.t 45), none⟩,
  ⟨some 7, .mov (.c (.int .i64 4)), none⟩]) (.seq (.reg [⟨some 47, .mov (.t 0), none⟩,
  ⟨some 48, .bin .eql (.t 47) (.c (.int .i64 17)), none⟩,
  ⟨some 46, .mov (.t 48), none⟩])
 (.cond (.t 46) (.seq (.dreg [⟨some 50, .mov (.t 1), none⟩,
  ⟨some 51, .idxp (.t 50) (.c (.int .i64 1)) 1, none⟩,
  ⟨some 52, .load (.t 51) none, none⟩,
  ⟨some 53, .mov (.t 1), none⟩,
  ⟨some 54, .idxp (.t 53) (.c (.int .i64 2)) 1, none⟩,
  ⟨some 55, .load (.t 54) none, none⟩,
  ⟨some 56, .call (.c (.fn n_exprs_one [])) [(.t 52), (.t 55)] (some []) true [], none⟩,
  ⟨some 49, .mov (.t 56), none⟩,
  ⟨some 57, .ext (.t 49) 0, none⟩,
  ⟨some 58, .ext (.t 49) 1, none⟩,
  ⟨some 7, .mov (.t 57), none⟩,
  ⟨some 6, .mov (.t 58), none⟩])
 (.reg [⟨some 59, .mov (.t 6), none⟩,
  ⟨some 60, .mov (.t 59), none⟩,
  ⟨some 61, .mov (.t 1), some (60, true)⟩,
  ⟨some 62, .slice (.t 61) none (some (.c (.int .i64 1))) 1, some (60, true)⟩,
  ⟨some 63, .call (.c (.fn n_exprs_all [])) [(.t 62), (.c (.int .i64 2))] (some []) true [], some (60, true)⟩,
  ⟨some 64, .pick (.t 60) (.t 63) (.c (.bool false)), none⟩,
  ⟨some 6, .mov (.t 64), none⟩])) (.dreg [⟨some 9, .mov (.t 1), none⟩,
  ⟨some 10, .idxp (.t 9) (.c (.int .i64 0)) 1, none⟩,
  ⟨some 11, .load (.t 10) none, none⟩,
  ⟨some 12, .mov (.t 1), none⟩,
  ⟨some 13, .idxp (.t 12) (.c (.int .i64 1)) 1, none⟩,
  ⟨some 14, .load (.t 13) none, none⟩,
  ⟨some 15, .call (.c (.fn n_exprs_one [])) [(.t 11), (.t 14)] (some []) true [], none⟩,
  ⟨some 8, .mov (.t 15), none⟩,
  ⟨some 16, .ext (.t 8) 0, none⟩,
  ⟨some 17, .ext (.t 8) 1, none⟩,
  ⟨some 7, .mov (.t 16), none⟩,
  ⟨some 6, .mov (.t 17), none⟩])))))))))))) (.keep [6, 7] []))
 (.seq (.seq (.reg [⟨some 65, .mov (.t 6), none⟩,
  ⟨some 66, .not (.t 65), none⟩])
 (.cond (.t 66) (.seq (.reg [⟨some 4, .mov (.c (.int .i64 0)), none⟩,
  ⟨some 5, .mov (.c (.int .i64 9)), none⟩])
 (.seq (.keep [4, 5] []) .ret)) .skip))
 (.seq (.reg [⟨some 67, .mov (.t 7), none⟩,
  ⟨some 4, .mov (.t 67), none⟩,
  ⟨some 5, .mov (.c (.int .i64 0)), none⟩])
 (.seq (.keep [4, 5] []) .ret))))))⟩
/-! slices_rotateCmpFunc__P_window_line -/
/--  -/
abbrev s_slices_rotateCmpFunc__P_window_line_r (x : Sto) : St := ⟨fun _ => .undef, fun _ => none, x⟩
/-- t0 data, t2 m, t4 cmp, t10 i -/
abbrev s_slices_rotateCmpFunc__P_window_line_x0 (t0 t2 t4 t10 : A) (x : Sto) : St := ⟨upd (upd (upd (upd (fun _ => .undef) 10 t10) 4 t4) 2 t2) 0 t0, fun _ => none, x⟩
/-- t0 data, t2 m, t4 cmp, t10 i, t11 j -/
abbrev s_slices_rotateCmpFunc__P_window_line_l0 (t0 t2 t4 t10 t11 : A) (x : Sto) : St := ⟨upd (upd (upd (upd (upd (fun _ => .undef) 11 t11) 10 t10) 4 t4) 2 t2) 0 t0, fun _ => none, x⟩
/-- t0 data, t2 m, t4 cmp, t10 i, t11 j -/
abbrev s_slices_rotateCmpFunc__P_window_line_x1 (t0 t2 t4 t10 t11 : A) (x : Sto) : St := ⟨upd (upd (upd (upd (upd (fun _ => .undef) 11 t11) 10 t10) 4 t4) 2 t2) 0 t0, fun _ => none, x⟩
def i_slices_rotateCmpFunc__P_window_line_l0 : IC := .seq (.seq (.seq (.reg [⟨some 18, .mov (.t 10), none⟩,
  ⟨some 19, .mov (.t 11), none⟩,
  ⟨some 20, .bin .neq (.t 18) (.t 19), none⟩])
 (.cond (.t 20) .skip (.seq (.keep [0, 2, 4, 10] []) (.exit 0))))
 (.block 1 (.seq (.reg [⟨some 21, .mov (.t 10), none⟩,
  ⟨some 22, .mov (.t 11), none⟩,
  ⟨some 23, .bin .gtr (.t 21) (.t 22), none⟩])
 (.cond (.t 23) (.seq (.reg [⟨some 24, .mov (.t 0), none⟩,
  ⟨some 25, .mov (.t 2), none⟩,
  ⟨some 26, .mov (.t 10), none⟩,
  ⟨some 27, .bin .sub (.t 25) (.t 26), none⟩,
  ⟨some 28, .mov (.t 2), none⟩,
  ⟨some 29, .mov (.t 11), none⟩,
  ⟨some 30, .mov (.t 4), none⟩,
  ⟨some 31, .call (.c (.fn n_slices_swapRangeCmpFunc__P_window_line [])) [(.t 24), (.t 27), (.t 28), (.t 29), (.t 30)] none false [], none⟩])
 (.reg [⟨some 32, .mov (.t 10), none⟩,
  ⟨some 33, .mov (.t 11), none⟩,
  ⟨some 34, .bin .sub (.t 32) (.t 33), none⟩,
  ⟨some 10, .mov (.t 34), none⟩])) (.seq (.reg [⟨some 35, .mov (.t 0), none⟩,
  ⟨some 36, .mov (.t 2), none⟩,
  ⟨some 37, .mov (.t 10), none⟩,
  ⟨some 38, .bin .sub (.t 36) (.t 37), none⟩,
  ⟨some 39, .mov (.t 2), none⟩,
  ⟨some 40, .mov (.t 11), none⟩,
  ⟨some 41, .bin .add (.t 39) (.t 40), none⟩,
  ⟨some 42, .mov (.t 10), none⟩,
  ⟨some 43, .bin .sub (.t 41) (.t 42), none⟩,
  ⟨some 44, .mov (.t 10), none⟩,
  ⟨some 45, .mov (.t 4), none⟩,
  ⟨some 46, .call (.c (.fn n_slices_swapRangeCmpFunc__P_window_line [])) [(.t 35), (.t 38), (.t 43), (.t 44), (.t 45)] none false [], none⟩])
 (.reg [⟨some 47, .mov (.t 11), none⟩,
  ⟨some 48, .mov (.t 10), none⟩,
  ⟨some 49, .bin .sub (.t 47) (.t 48), none⟩,
  ⟨some 11, .mov (.t 49), none⟩])))))) (.keep [0, 2, 4, 10, 11] [])
def i_slices_rotateCmpFunc__P_window_line_a0 : IC := (.reg [⟨some 50, .mov (.t 0), none⟩,
  ⟨some 51, .mov (.t 2), none⟩,
  ⟨some 52, .mov (.t 10), none⟩,
  ⟨some 53, .bin .sub (.t 51) (.t 52), none⟩,
  ⟨some 54, .mov (.t 2), none⟩,
  ⟨some 55, .mov (.t 10), none⟩,
  ⟨some 56, .mov (.t 4), none⟩,
  ⟨some 57, .call (.c (.fn n_slices_swapRangeCmpFunc__P_window_line [])) [(.t 50), (.t 53), (.t 54), (.t 55), (.t 56)] none false [], none⟩])
def i_slices_rotateCmpFunc__P_window_line : IFn := ⟨5, [],
 (.seq (.reg [⟨some 12, .mov (.t 2), none⟩,
  ⟨some 13, .mov (.t 1), none⟩,
  ⟨some 14, .bin .sub (.t 12) (.t 13), none⟩,
  ⟨some 10, .mov (.t 14), none⟩])
 (.seq (.reg [⟨some 15, .mov (.t 3), none⟩,
  ⟨some 16, .mov (.t 2), none⟩,
  ⟨some 17, .bin .sub (.t 15) (.t 16), none⟩,
  ⟨some 11, .mov (.t 17), none⟩])
 (.seq (.block 0 (.seq (.keep [0, 2, 4, 10, 11] []) (.loop i_slices_rotateCmpFunc__P_window_line_l0)))
 i_slices_rotateCmpFunc__P_window_line_a0)))⟩
/-! cmp_isNaN__int64 -/
/--  -/
abbrev s_cmp_isNaN__int64_r (t2 : A) (x : Sto) : St := ⟨upd (fun _ => .undef) 2 t2, fun _ => none, x⟩
def i_cmp_isNaN__int64 : IFn := ⟨1, [.tmp 2 false],
 (.seq (.reg [⟨some 2, .mov (.c (.bool false)), none⟩])
 (.seq (.reg [⟨some 3, .mov (.t 0), none⟩,
  ⟨some 4, .mov (.t 0), none⟩,
  ⟨some 5, .bin .neq (.t 3) (.t 4), none⟩,
  ⟨some 2, .mov (.t 5), none⟩])
 (.seq (.keep [2] []) .ret)))⟩
/-! bytealg_CompareString -/
/--  -/
abbrev s_bytealg_CompareString_r (t4 : A) (x : Sto) : St := ⟨upd (fun _ => .undef) 4 t4, fun _ => none, x⟩
def i_bytealg_CompareString : IFn := ⟨2, [.tmp 4 false],
 (.seq (.reg [⟨some 4, .mov (.c (.int .i64 0)), none⟩])
 (.seq (.reg [⟨some 5, .mov (.t 0), none⟩,
  ⟨some 6, .mov (.t 1), none⟩,
  ⟨some 7, .call (.c (.fn n_bytealg_abigen_runtime_cmpstring [])) [(.t 5), (.t 6)] (some []) true [], none⟩,
  ⟨some 4, .mov (.t 7), none⟩])
 (.seq (.keep [4] []) .ret)))⟩
/-! slices_IndexFunc__api_ZRow -/
/--  -/
abbrev s_slices_IndexFunc__api_ZRow_r (t4 : A) (x : Sto) : St := ⟨upd (fun _ => .undef) 4 t4, fun _ => none, x⟩
/--  -/
abbrev s_slices_IndexFunc__api_ZRow_x0 (x : Sto) : St := ⟨fun _ => .undef, fun _ => none, x⟩
/-- t0 s, t1 f -/
abbrev s_slices_IndexFunc__api_ZRow_l0 (t0 t1 t7 t8 : A) (x : Sto) : St := ⟨upd (upd (upd (upd (fun _ => .undef) 8 t8) 7 t7) 1 t1) 0 t0, fun _ => none, x⟩
/-- t0 s, t1 f -/
abbrev s_slices_IndexFunc__api_ZRow_x1 (t0 t1 t7 t8 : A) (x : Sto) : St := ⟨upd (upd (upd (upd (fun _ => .undef) 8 t8) 7 t7) 1 t1) 0 t0, fun _ => none, x⟩
def i_slices_IndexFunc__api_ZRow_l0 : IC := .seq (.seq (.reg [⟨some 9, .bin .lss (.t 8) (.t 7), none⟩])
 (.seq (.cond (.t 9) .skip (.seq (.keep [] []) (.exit 0)))
 (.seq (.block 1 (.seq (.reg [⟨some 10, .mov (.t 8), none⟩,
  ⟨some 5, .mov (.t 10), none⟩])
 (.seq (.reg [⟨some 11, .mov (.t 1), none⟩,
  ⟨some 12, .mov (.t 0), none⟩,
  ⟨some 13, .mov (.t 5), none⟩,
  ⟨some 14, .idxp (.t 12) (.t 13) 2, none⟩,
  ⟨some 15, .load (.t 14) (some 2), none⟩,
  ⟨some 16, .call (.t 11) [(.t 15)] none true [], none⟩])
 (.cond (.t 16) (.seq (.reg [⟨some 17, .mov (.t 5), none⟩,
  ⟨some 4, .mov (.t 17), none⟩])
 (.seq (.keep [4] []) .ret)) .skip))))
 (.reg [⟨some 18, .bin .add (.t 8) (.c (.int .i64 1)), none⟩,
  ⟨some 8, .mov (.t 18), none⟩])))) (.keep [0, 1, 7, 8] [])
def i_slices_IndexFunc__api_ZRow_a0 : IC := (.seq (.reg [⟨some 4, .mov (.c (.int .i64 (-1))), none⟩])
 (.seq (.keep [4] []) .ret))
def i_slices_IndexFunc__api_ZRow : IFn := ⟨2, [.tmp 4 false],
 (.seq (.reg [⟨some 4, .mov (.c (.int .i64 0)), none⟩])
 (.seq (.seq (.reg [⟨some 6, .mov (.t 0), none⟩,
  ⟨some 7, .len false (.t 6), none⟩,
  ⟨some 8, .mov (.c (.int .i64 0)), none⟩])
 (.block 0 (.seq (.keep [0, 1, 7, 8] []) (.loop i_slices_IndexFunc__api_ZRow_l0))))
 i_slices_IndexFunc__api_ZRow_a0))⟩
/-! slices_stableCmpFunc__api_ZRow -/
/--  -/
abbrev s_slices_stableCmpFunc__api_ZRow_r (x : Sto) : St := ⟨fun _ => .undef, fun _ => none, x⟩
/-- t0 data, t1 n, t2 cmp, t6 blockSize, t7 a -/
abbrev s_slices_stableCmpFunc__api_ZRow_x0 (t0 t1 t2 t6 t7 : A) (x : Sto) : St := ⟨upd (upd (upd (upd (upd (fun _ => .undef) 7 t7) 6 t6) 2 t2) 1 t1) 0 t0, fun _ => none, x⟩
/-- t0 data, t1 n, t2 cmp, t6 blockSize, t7 a, t8 b -/
abbrev s_slices_stableCmpFunc__api_ZRow_l0 (t0 t1 t2 t6 t7 t8 : A) (x : Sto) : St := ⟨upd (upd (upd (upd (upd (upd (fun _ => .undef) 8 t8) 7 t7) 6 t6) 2 t2) 1 t1) 0 t0, fun _ => none, x⟩
/-- t0 data, t1 n, t2 cmp, t6 blockSize, t7 a, t8 b -/
abbrev s_slices_stableCmpFunc__api_ZRow_x1 (t0 t1 t2 t6 t7 t8 : A) (x : Sto) : St := ⟨upd (upd (upd (upd (upd (upd (fun _ => .undef) 8 t8) 7 t7) 6 t6) 2 t2) 1 t1) 0 t0, fun _ => none, x⟩
/--  -/
abbrev s_slices_stableCmpFunc__api_ZRow_x2 (x : Sto) : St := ⟨fun _ => .undef, fun _ => none, x⟩
/-- t0 data, t1 n, t2 cmp, t6 blockSize -/
abbrev s_slices_stableCmpFunc__api_ZRow_l1 (t0 t1 t2 t6 : A) (x : Sto) : St := ⟨upd (upd (upd (upd (fun _ => .undef) 6 t6) 2 t2) 1 t1) 0 t0, fun _ => none, x⟩
/-- t0 data, t1 n, t2 cmp, t6 blockSize -/
abbrev s_slices_stableCmpFunc__api_ZRow_x3 (t0 t1 t2 t6 : A) (x : Sto) : St := ⟨upd (upd (upd (upd (fun _ => .undef) 6 t6) 2 t2) 1 t1) 0 t0, fun _ => none, x⟩
/-- t0 data, t1 n, t2 cmp, t6 blockSize, t7 a -/
abbrev s_slices_stableCmpFunc__api_ZRow_x4 (t0 t1 t2 t6 t7 : A) (x : Sto) : St := ⟨upd (upd (upd (upd (upd (fun _ => .undef) 7 t7) 6 t6) 2 t2) 1 t1) 0 t0, fun _ => none, x⟩
/-- t0 data, t1 n, t2 cmp, t6 blockSize, t7 a, t8 b -/
abbrev s_slices_stableCmpFunc__api_ZRow_l2 (t0 t1 t2 t6 t7 t8 : A) (x : Sto) : St := ⟨upd (upd (upd (upd (upd (upd (fun _ => .undef) 8 t8) 7 t7) 6 t6) 2 t2) 1 t1) 0 t0, fun _ => none, x⟩
/-- t0 data, t1 n, t2 cmp, t6 blockSize, t7 a, t8 b -/
abbrev s_slices_stableCmpFunc__api_ZRow_x5 (t0 t1 t2 t6 t7 t8 : A) (x : Sto) : St := ⟨upd (upd (upd (upd (upd (upd (fun _ => .undef) 8 t8) 7 t7) 6 t6) 2 t2) 1 t1) 0 t0, fun _ => none, x⟩
def i_slices_stableCmpFunc__api_ZRow_l0 : IC := .seq (.seq (.seq (.reg [⟨some 11, .mov (.t 8), none⟩,
  ⟨some 12, .mov (.t 1), none⟩,
  ⟨some 13, .bin .leq (.t 11) (.t 12), none⟩])
 (.cond (.t 13) .skip (.seq (.keep [0, 1, 2, 6, 7] []) (.exit 0))))
 (.block 1 (.seq (.reg [⟨some 14, .mov (.t 0), none⟩,
  ⟨some 15, .mov (.t 7), none⟩,
  ⟨some 16, .mov (.t 8), none⟩,
  ⟨some 17, .mov (.t 2), none⟩,
  ⟨some 18, .call (.c (.fn n_slices_insertionSortCmpFunc__api_ZRow [])) [(.t 14), (.t 15), (.t 16), (.t 17)] none false [], none⟩])
 (.seq (.reg [⟨some 19, .mov (.t 8), none⟩,
  ⟨some 7, .mov (.t 19), none⟩])
 (.reg [⟨some 20, .mov (.t 8), none⟩,
  ⟨some 21, .mov (.t 6), none⟩,
  ⟨some 22, .bin .add (.t 20) (.t 21), none⟩,
  ⟨some 8, .mov (.t 22), none⟩]))))) (.keep [0, 1, 2, 6, 7, 8] [])
def i_slices_stableCmpFunc__api_ZRow_l2 : IC := .seq (.seq (.seq (.reg [⟨some 33, .mov (.t 8), none⟩,
  ⟨some 34, .mov (.t 1), none⟩,
  ⟨some 35, .bin .leq (.t 33) (.t 34), none⟩])
 (.cond (.t 35) .skip (.seq (.keep [0, 1, 2, 6, 7] []) (.exit 4))))
 (.block 5 (.seq (.reg [⟨some 36, .mov (.t 0), none⟩,
  ⟨some 37, .mov (.t 7), none⟩,
  ⟨some 38, .mov (.t 7), none⟩,
  ⟨some 39, .mov (.t 6), none⟩,
  ⟨some 40, .bin .add (.t 38) (.t 39), none⟩,
  ⟨some 41, .mov (.t 8), none⟩,
  ⟨some 42, .mov (.t 2), none⟩,
  ⟨some 43, .call (.c (.fn n_slices_symMergeCmpFunc__api_ZRow [])) [(.t 36), (.t 37), (.t 40), (.t 41), (.t 42)] none false [], none⟩])
 (.seq (.reg [⟨some 44, .mov (.t 8), none⟩,
  ⟨some 7, .mov (.t 44), none⟩])
 (.reg [⟨some 45, .mov (.t 8), none⟩,
  ⟨some 46, .mov (.t 6), none⟩,
  ⟨some 47, .bin .mul (.c (.int .i64 2)) (.t 46), none⟩,
  ⟨some 48, .bin .add (.t 45) (.t 47), none⟩,
  ⟨some 8, .mov (.t 48), none⟩]))))) (.keep [0, 1, 2, 6, 7, 8] [])
def i_slices_stableCmpFunc__api_ZRow_a0 : IC := (.seq (.seq (.seq (.reg [⟨some 49, .mov (.t 7), none⟩,
  ⟨some 50, .mov (.t 6), none⟩,
  ⟨some 51, .bin .add (.t 49) (.t 50), none⟩,
  ⟨some 9, .mov (.t 51), none⟩])
 (.seq (.reg [⟨some 52, .mov (.t 9), none⟩,
  ⟨some 53, .mov (.t 1), none⟩,
  ⟨some 54, .bin .lss (.t 52) (.t 53), none⟩])
 (.cond (.t 54) (.reg [⟨some 55, .mov (.t 0), none⟩,
  ⟨some 56, .mov (.t 7), none⟩,
  ⟨some 57, .mov (.t 9), none⟩,
  ⟨some 58, .mov (.t 1), none⟩,
  ⟨some 59, .mov (.t 2), none⟩,
  ⟨some 60, .call (.c (.fn n_slices_symMergeCmpFunc__api_ZRow [])) [(.t 55), (.t 56), (.t 57), (.t 58), (.t 59)] none false [], none⟩]) .skip))) (.keep [0, 1, 2, 6] []))
 (.reg [⟨some 61, .mov (.t 6), none⟩,
  ⟨some 62, .bin .mul (.t 61) (.c (.int .i64 2)), none⟩,
  ⟨some 6, .mov (.t 62), none⟩]))
def i_slices_stableCmpFunc__api_ZRow_l1 : IC := .seq (.seq (.seq (.reg [⟨some 28, .mov (.t 6), none⟩,
  ⟨some 29, .mov (.t 1), none⟩,
  ⟨some 30, .bin .lss (.t 28) (.t 29), none⟩])
 (.cond (.t 30) .skip (.seq (.keep [] []) (.exit 2))))
 (.block 3 (.seq (.reg [⟨some 31, .mov (.t 6), none⟩,
  ⟨some 32, .bin .mul (.c (.int .i64 2)) (.t 31), none⟩,
  ⟨some 7, .mov (.c (.int .i64 0)), none⟩,
  ⟨some 8, .mov (.t 32), none⟩])
 (.seq (.block 4 (.seq (.keep [0, 1, 2, 6, 7, 8] []) (.loop i_slices_stableCmpFunc__api_ZRow_l2)))
 i_slices_stableCmpFunc__api_ZRow_a0)))) (.keep [0, 1, 2, 6] [])
def i_slices_stableCmpFunc__api_ZRow_a1 : IC := (.seq (.reg [⟨some 23, .mov (.t 0), none⟩,
  ⟨some 24, .mov (.t 7), none⟩,
  ⟨some 25, .mov (.t 1), none⟩,
  ⟨some 26, .mov (.t 2), none⟩,
  ⟨some 27, .call (.c (.fn n_slices_insertionSortCmpFunc__api_ZRow [])) [(.t 23), (.t 24), (.t 25), (.t 26)] none false [], none⟩])
 (.block 2 (.seq (.keep [0, 1, 2, 6] []) (.loop i_slices_stableCmpFunc__api_ZRow_l1))))
def i_slices_stableCmpFunc__api_ZRow : IFn := ⟨3, [],
 (.seq (.reg [⟨some 6, .mov (.c (.int .i64 20)), none⟩])
 (.seq (.reg [⟨some 10, .mov (.t 6), none⟩,
  ⟨some 7, .mov (.c (.int .i64 0)), none⟩,
  ⟨some 8, .mov (.t 10), none⟩])
 (.seq (.block 0 (.seq (.keep [0, 1, 2, 6, 7, 8] []) (.loop i_slices_stableCmpFunc__api_ZRow_l0)))
 i_slices_stableCmpFunc__api_ZRow_a1)))⟩
/-! vals_alike -/
/--  -/
abbrev s_vals_alike_r (t4 : A) (x : Sto) : St := ⟨upd (fun _ => .undef) 4 t4, fun _ => none, x⟩
def i_vals_alike : IFn := ⟨2, [.tmp 4 false],
 (.seq (.reg [⟨some 2, .ibox (.t 0), none⟩,
  ⟨some 3, .ibox (.t 1), none⟩,
  ⟨some 4, .mov (.c (.bool false)), none⟩])
 (.seq (.reg [⟨some 5, .fieldp (.t 2) 0 none, none⟩,
  ⟨some 6, .load (.t 5) none, none⟩,
  ⟨some 7, .fieldp (.t 3) 0 none, none⟩,
  ⟨some 8, .load (.t 7) none, none⟩,
  ⟨some 9, .bin .eql (.t 6) (.t 8), none⟩,
  ⟨some 10, .mov (.t 9), none⟩,
  ⟨some 11, .fieldp (.t 2) 0 none, some (10, true)⟩,
  ⟨some 12, .load (.t 11) none, some (10, true)⟩,
  ⟨some 13, .bin .neq (.t 12) (.c (.int .i64 1)), some (10, true)⟩,
  ⟨some 14, .pick (.t 10) (.t 13) (.c (.bool false)), none⟩,
  ⟨some 4, .mov (.t 14), none⟩])
 (.seq (.keep [4] []) .ret)))⟩
/-! slices_insertionSortCmpFunc__ops_group -/
/--  -/
abbrev s_slices_insertionSortCmpFunc__ops_group_r (x : Sto) : St := ⟨fun _ => .undef, fun _ => none, x⟩
/--  -/
abbrev s_slices_insertionSortCmpFunc__ops_group_x0 (x : Sto) : St := ⟨fun _ => .undef, fun _ => none, x⟩
/-- t0 data, t1 a, t2 b, t3 cmp, t8 i -/
abbrev s_slices_insertionSortCmpFunc__ops_group_l0 (t0 t1 t2 t3 t8 : A) (x : Sto) : St := ⟨upd (upd (upd (upd (upd (fun _ => .undef) 8 t8) 3 t3) 2 t2) 1 t1) 0 t0, fun _ => none, x⟩
/-- t0 data, t1 a, t2 b, t3 cmp, t8 i -/
abbrev s_slices_insertionSortCmpFunc__ops_group_x1 (t0 t1 t2 t3 t8 : A) (x : Sto) : St := ⟨upd (upd (upd (upd (upd (fun _ => .undef) 8 t8) 3 t3) 2 t2) 1 t1) 0 t0, fun _ => none, x⟩
/-- t0 data, t1 a, t2 b, t3 cmp, t8 i -/
abbrev s_slices_insertionSortCmpFunc__ops_group_x2 (t0 t1 t2 t3 t8 : A) (x : Sto) : St := ⟨upd (upd (upd (upd (upd (fun _ => .undef) 8 t8) 3 t3) 2 t2) 1 t1) 0 t0, fun _ => none, x⟩
/-- t0 data, t1 a, t2 b, t3 cmp, t8 i, t9 j -/
abbrev s_slices_insertionSortCmpFunc__ops_group_l1 (t0 t1 t2 t3 t8 t9 : A) (x : Sto) : St := ⟨upd (upd (upd (upd (upd (upd (fun _ => .undef) 9 t9) 8 t8) 3 t3) 2 t2) 1 t1) 0 t0, fun _ => none, x⟩
/-- t0 data, t1 a, t2 b, t3 cmp, t8 i, t9 j -/
abbrev s_slices_insertionSortCmpFunc__ops_group_x3 (t0 t1 t2 t3 t8 t9 : A) (x : Sto) : St := ⟨upd (upd (upd (upd (upd (upd (fun _ => .undef) 9 t9) 8 t8) 3 t3) 2 t2) 1 t1) 0 t0, fun _ => none, x⟩
def i_slices_insertionSortCmpFunc__ops_group_l1 : IC := .seq (.seq (.seq (.dreg [⟨some 18, .mov (.t 9), none⟩,
  ⟨some 19, .mov (.t 1), none⟩,
  ⟨some 20, .bin .gtr (.t 18) (.t 19), none⟩,
  ⟨some 21, .mov (.t 20), none⟩,
  ⟨some 22, .mov (.t 3), some (21, true)⟩,
  ⟨some 23, .mov (.t 0), some (21, true)⟩,
  ⟨some 24, .mov (.t 9), some (21, true)⟩,
  ⟨some 25, .idxp (.t 23) (.t 24) 2, some (21, true)⟩,
  ⟨some 26, .load (.t 25) (some 2), some (21, true)⟩,
  ⟨some 27, .mov (.t 0), some (21, true)⟩,
  ⟨some 28, .mov (.t 9), some (21, true)⟩,
  ⟨some 29, .bin .sub (.t 28) (.c (.int .i64 1)), some (21, true)⟩,
  ⟨some 30, .idxp (.t 27) (.t 29) 2, some (21, true)⟩,
  ⟨some 31, .load (.t 30) (some 2), some (21, true)⟩,
  ⟨some 32, .call (.t 22) [(.t 26), (.t 31)] none true [], some (21, true)⟩,
  ⟨some 33, .bin .lss (.t 32) (.c (.int .i64 0)), some (21, true)⟩,
  ⟨some 34, .pick (.t 21) (.t 33) (.c (.bool false)), none⟩])
 (.cond (.t 34) .skip (.seq (.keep [0, 1, 2, 3, 8] []) (.exit 2))))
 (.seq (.block 3 (.dreg [⟨some 37, .mov (.t 0), none⟩,
  ⟨some 38, .mov (.t 9), none⟩,
  ⟨some 39, .mov (.t 0), none⟩,
  ⟨some 40, .mov (.t 9), none⟩,
  ⟨some 41, .bin .sub (.t 40) (.c (.int .i64 1)), none⟩,
  ⟨some 42, .mov (.t 0), none⟩,
  ⟨some 43, .mov (.t 9), none⟩,
  ⟨some 44, .bin .sub (.t 43) (.c (.int .i64 1)), none⟩,
  ⟨some 45, .idxp (.t 42) (.t 44) 2, none⟩,
  ⟨some 46, .load (.t 45) (some 2), none⟩,
  ⟨some 47, .mov (.t 0), none⟩,
  ⟨some 48, .mov (.t 9), none⟩,
  ⟨some 49, .idxp (.t 47) (.t 48) 2, none⟩,
  ⟨some 50, .load (.t 49) (some 2), none⟩,
  ⟨some 51, .idxp (.t 37) (.t 38) 2, none⟩,
  ⟨none, .store (.t 51) (.t 46) (some 2), none⟩,
  ⟨some 52, .idxp (.t 39) (.t 41) 2, none⟩,
  ⟨none, .store (.t 52) (.t 50) (some 2), none⟩]))
 (.reg [⟨some 35, .mov (.t 9), none⟩,
  ⟨some 36, .bin .sub (.t 35) (.c (.int .i64 1)), none⟩,
  ⟨some 9, .mov (.t 36), none⟩]))) (.keep [0, 1, 2, 3, 8, 9] [])
def i_slices_insertionSortCmpFunc__ops_group_a0 : IC := (.reg [⟨some 15, .mov (.t 8), none⟩,
  ⟨some 16, .bin .add (.t 15) (.c (.int .i64 1)), none⟩,
  ⟨some 8, .mov (.t 16), none⟩])
def i_slices_insertionSortCmpFunc__ops_group_l0 : IC := .seq (.seq (.seq (.reg [⟨some 12, .mov (.t 8), none⟩,
  ⟨some 13, .mov (.t 2), none⟩,
  ⟨some 14, .bin .lss (.t 12) (.t 13), none⟩])
 (.cond (.t 14) .skip (.seq (.keep [] []) (.exit 0))))
 (.seq (.block 1 (.seq (.reg [⟨some 17, .mov (.t 8), none⟩,
  ⟨some 9, .mov (.t 17), none⟩])
 (.block 2 (.seq (.keep [0, 1, 2, 3, 8, 9] []) (.loop i_slices_insertionSortCmpFunc__ops_group_l1)))))
 i_slices_insertionSortCmpFunc__ops_group_a0)) (.keep [0, 1, 2, 3, 8] [])
def i_slices_insertionSortCmpFunc__ops_group : IFn := ⟨4, [],
 (.seq (.reg [⟨some 10, .mov (.t 1), none⟩,
  ⟨some 11, .bin .add (.t 10) (.c (.int .i64 1)), none⟩,
  ⟨some 8, .mov (.t 11), none⟩])
 (.block 0 (.seq (.keep [0, 1, 2, 3, 8] []) (.loop i_slices_insertionSortCmpFunc__ops_group_l0))))⟩
/-! slices_symMergeCmpFunc__ops_group -/
/--  -/
abbrev s_slices_symMergeCmpFunc__ops_group_r (x : Sto) : St := ⟨fun _ => .undef, fun _ => none, x⟩
/-- t0 toArray -/
abbrev s_slices_symMergeCmpFunc__ops_group_x0 (t0 t1 t10 : A) (x : Sto) : St := ⟨upd (upd (upd (fun _ => .undef) 10 t10) 1 t1) 0 t0, fun _ => none, x⟩
/-- t0 toArray -/
abbrev s_slices_symMergeCmpFunc__ops_group_l0 (t0 t1 t4 t10 t11 : A) (x : Sto) : St := ⟨upd (upd (upd (upd (upd (fun _ => .undef) 11 t11) 10 t10) 4 t4) 1 t1) 0 t0, fun _ => none, x⟩
/-- t0 toArray -/
abbrev s_slices_symMergeCmpFunc__ops_group_x1 (t0 t1 t4 t10 t11 : A) (x : Sto) : St := ⟨upd (upd (upd (upd (upd (fun _ => .undef) 11 t11) 10 t10) 4 t4) 1 t1) 0 t0, fun _ => none, x⟩
/--  -/
abbrev s_slices_symMergeCmpFunc__ops_group_x2 (x : Sto) : St := ⟨fun _ => .undef, fun _ => none, x⟩
/-- t0 toArray -/
abbrev s_slices_symMergeCmpFunc__ops_group_l1 (t0 t10 t13 : A) (x : Sto) : St := ⟨upd (upd (upd (fun _ => .undef) 13 t13) 10 t10) 0 t0, fun _ => none, x⟩
/-- t0 toArray -/
abbrev s_slices_symMergeCmpFunc__ops_group_x3 (t0 t10 t13 : A) (x : Sto) : St := ⟨upd (upd (upd (fun _ => .undef) 13 t13) 10 t10) 0 t0, fun _ => none, x⟩
/-- t0 toArray -/
abbrev s_slices_symMergeCmpFunc__ops_group_x4 (t0 t2 t14 : A) (x : Sto) : St := ⟨upd (upd (upd (fun _ => .undef) 14 t14) 2 t2) 0 t0, fun _ => none, x⟩
/-- t0 toArray -/
abbrev s_slices_symMergeCmpFunc__ops_group_l2 (t0 t2 t4 t14 t15 : A) (x : Sto) : St := ⟨upd (upd (upd (upd (upd (fun _ => .undef) 15 t15) 14 t14) 4 t4) 2 t2) 0 t0, fun _ => none, x⟩
/-- t0 toArray -/
abbrev s_slices_symMergeCmpFunc__ops_group_x5 (t0 t2 t4 t14 t15 : A) (x : Sto) : St := ⟨upd (upd (upd (upd (upd (fun _ => .undef) 15 t15) 14 t14) 4 t4) 2 t2) 0 t0, fun _ => none, x⟩
/--  -/
abbrev s_slices_symMergeCmpFunc__ops_group_x6 (x : Sto) : St := ⟨fun _ => .undef, fun _ => none, x⟩
/-- t0 toArray -/
abbrev s_slices_symMergeCmpFunc__ops_group_l3 (t0 t14 t17 : A) (x : Sto) : St := ⟨upd (upd (upd (fun _ => .undef) 17 t17) 14 t14) 0 t0, fun _ => none, x⟩
/-- t0 toArray -/
abbrev s_slices_symMergeCmpFunc__ops_group_x7 (t0 t14 t17 : A) (x : Sto) : St := ⟨upd (upd (upd (fun _ => .undef) 17 t17) 14 t14) 0 t0, fun _ => none, x⟩
/-- t0 toArray -/
abbrev s_slices_symMergeCmpFunc__ops_group_x8 (t0 t1 t2 t3 t4 t18 t19 t20 : A) (x : Sto) : St := ⟨upd (upd (upd (upd (upd (upd (upd (upd (fun _ => .undef) 20 t20) 19 t19) 18 t18) 4 t4) 3 t3) 2 t2) 1 t1) 0 t0, fun _ => none, x⟩
/-- t0 toArray -/
abbrev s_slices_symMergeCmpFunc__ops_group_l4 (t0 t1 t2 t3 t4 t18 t19 t20 t21 t22 : A) (x : Sto) : St := ⟨upd (upd (upd (upd (upd (upd (upd (upd (upd (upd (fun _ => .undef) 22 t22) 21 t21) 20 t20) 19 t19) 18 t18) 4 t4) 3 t3) 2 t2) 1 t1) 0 t0, fun _ => none, x⟩
/-- t0 toArray -/
abbrev s_slices_symMergeCmpFunc__ops_group_x9 (t0 t1 t2 t3 t4 t18 t19 t20 t21 t22 : A) (x : Sto) : St := ⟨upd (upd (upd (upd (upd (upd (upd (upd (upd (upd (fun _ => .undef) 22 t22) 21 t21) 20 t20) 19 t19) 18 t18) 4 t4) 3 t3) 2 t2) 1 t1) 0 t0, fun _ => none, x⟩
def i_slices_symMergeCmpFunc__ops_group_l0 : IC := .seq (.seq (.seq (.reg [⟨some 31, .mov (.t 10), none⟩,
  ⟨some 32, .mov (.t 11), none⟩,
  ⟨some 33, .bin .lss (.t 31) (.t 32), none⟩])
 (.cond (.t 33) .skip (.seq (.keep [0, 1, 10] []) (.exit 0))))
 (.block 1 (.seq (.reg [⟨some 34, .mov (.t 10), none⟩,
  ⟨some 35, .mov (.t 11), none⟩,
  ⟨some 36, .bin .add (.t 34) (.t 35), none⟩,
  ⟨some 37, .conv .u64 (.t 36), none⟩,
  ⟨some 38, .bin .shr (.t 37) (.c (.int .u64 1)), none⟩,
  ⟨some 39, .conv .i64 (.t 38), none⟩,
  ⟨some 12, .mov (.t 39), none⟩])
 (.seq (.dreg [⟨some 40, .mov (.t 4), none⟩,
  ⟨some 41, .mov (.t 0), none⟩,
  ⟨some 42, .mov (.t 12), none⟩,
  ⟨some 43, .idxp (.t 41) (.t 42) 2, none⟩,
  ⟨some 44, .load (.t 43) (some 2), none⟩,
  ⟨some 45, .mov (.t 0), none⟩,
  ⟨some 46, .mov (.t 1), none⟩,
  ⟨some 47, .idxp (.t 45) (.t 46) 2, none⟩,
  ⟨some 48, .load (.t 47) (some 2), none⟩,
  ⟨some 49, .call (.t 40) [(.t 44), (.t 48)] none true [], none⟩,
  ⟨some 50, .bin .lss (.t 49) (.c (.int .i64 0)), none⟩])
 (.cond (.t 50) (.reg [⟨some 51, .mov (.t 12), none⟩,
  ⟨some 52, .bin .add (.t 51) (.c (.int .i64 1)), none⟩,
  ⟨some 10, .mov (.t 52), none⟩]) (.reg [⟨some 53, .mov (.t 12), none⟩,
  ⟨some 11, .mov (.t 53), none⟩])))))) (.keep [0, 1, 4, 10, 11] [])
def i_slices_symMergeCmpFunc__ops_group_l1 : IC := .seq (.seq (.seq (.reg [⟨some 55, .mov (.t 13), none⟩,
  ⟨some 56, .mov (.t 10), none⟩,
  ⟨some 57, .bin .sub (.t 56) (.c (.int .i64 1)), none⟩,
  ⟨some 58, .bin .lss (.t 55) (.t 57), none⟩])
 (.cond (.t 58) .skip (.seq (.keep [] []) (.exit 2))))
 (.seq (.block 3 (.dreg [⟨some 61, .mov (.t 0), none⟩,
  ⟨some 62, .mov (.t 13), none⟩,
  ⟨some 63, .mov (.t 0), none⟩,
  ⟨some 64, .mov (.t 13), none⟩,
  ⟨some 65, .bin .add (.t 64) (.c (.int .i64 1)), none⟩,
  ⟨some 66, .mov (.t 0), none⟩,
  ⟨some 67, .mov (.t 13), none⟩,
  ⟨some 68, .bin .add (.t 67) (.c (.int .i64 1)), none⟩,
  ⟨some 69, .idxp (.t 66) (.t 68) 2, none⟩,
  ⟨some 70, .load (.t 69) (some 2), none⟩,
  ⟨some 71, .mov (.t 0), none⟩,
  ⟨some 72, .mov (.t 13), none⟩,
  ⟨some 73, .idxp (.t 71) (.t 72) 2, none⟩,
  ⟨some 74, .load (.t 73) (some 2), none⟩,
  ⟨some 75, .idxp (.t 61) (.t 62) 2, none⟩,
  ⟨none, .store (.t 75) (.t 70) (some 2), none⟩,
  ⟨some 76, .idxp (.t 63) (.t 65) 2, none⟩,
  ⟨none, .store (.t 76) (.t 74) (some 2), none⟩]))
 (.reg [⟨some 59, .mov (.t 13), none⟩,
  ⟨some 60, .bin .add (.t 59) (.c (.int .i64 1)), none⟩,
  ⟨some 13, .mov (.t 60), none⟩]))) (.keep [0, 10, 13] [])
def i_slices_symMergeCmpFunc__ops_group_a0 : IC := (.seq (.keep [] []) .ret)
def i_slices_symMergeCmpFunc__ops_group_a1 : IC := (.seq (.seq (.reg [⟨some 54, .mov (.t 1), none⟩,
  ⟨some 13, .mov (.t 54), none⟩])
 (.block 2 (.seq (.keep [0, 10, 13] []) (.loop i_slices_symMergeCmpFunc__ops_group_l1))))
 i_slices_symMergeCmpFunc__ops_group_a0)
def i_slices_symMergeCmpFunc__ops_group_l2 : IC := .seq (.seq (.seq (.reg [⟨some 83, .mov (.t 14), none⟩,
  ⟨some 84, .mov (.t 15), none⟩,
  ⟨some 85, .bin .lss (.t 83) (.t 84), none⟩])
 (.cond (.t 85) .skip (.seq (.keep [0, 2, 14] []) (.exit 4))))
 (.block 5 (.seq (.reg [⟨some 86, .mov (.t 14), none⟩,
  ⟨some 87, .mov (.t 15), none⟩,
  ⟨some 88, .bin .add (.t 86) (.t 87), none⟩,
  ⟨some 89, .conv .u64 (.t 88), none⟩,
  ⟨some 90, .bin .shr (.t 89) (.c (.int .u64 1)), none⟩,
  ⟨some 91, .conv .i64 (.t 90), none⟩,
  ⟨some 16, .mov (.t 91), none⟩])
 (.seq (.dreg [⟨some 92, .mov (.t 4), none⟩,
  ⟨some 93, .mov (.t 0), none⟩,
  ⟨some 94, .mov (.t 2), none⟩,
  ⟨some 95, .idxp (.t 93) (.t 94) 2, none⟩,
  ⟨some 96, .load (.t 95) (some 2), none⟩,
  ⟨some 97, .mov (.t 0), none⟩,
  ⟨some 98, .mov (.t 16), none⟩,
  ⟨some 99, .idxp (.t 97) (.t 98) 2, none⟩,
  ⟨some 100, .load (.t 99) (some 2), none⟩,
  ⟨some 101, .call (.t 92) [(.t 96), (.t 100)] none true [], none⟩,
  ⟨some 102, .bin .lss (.t 101) (.c (.int .i64 0)), none⟩,
  ⟨some 103, .not (.t 102), none⟩])
 (.cond (.t 103) (.reg [⟨some 104, .mov (.t 16), none⟩,
  ⟨some 105, .bin .add (.t 104) (.c (.int .i64 1)), none⟩,
  ⟨some 14, .mov (.t 105), none⟩]) (.reg [⟨some 106, .mov (.t 16), none⟩,
  ⟨some 15, .mov (.t 106), none⟩])))))) (.keep [0, 2, 4, 14, 15] [])
def i_slices_symMergeCmpFunc__ops_group_l3 : IC := .seq (.seq (.seq (.reg [⟨some 108, .mov (.t 17), none⟩,
  ⟨some 109, .mov (.t 14), none⟩,
  ⟨some 110, .bin .gtr (.t 108) (.t 109), none⟩])
 (.cond (.t 110) .skip (.seq (.keep [] []) (.exit 6))))
 (.seq (.block 7 (.dreg [⟨some 113, .mov (.t 0), none⟩,
  ⟨some 114, .mov (.t 17), none⟩,
  ⟨some 115, .mov (.t 0), none⟩,
  ⟨some 116, .mov (.t 17), none⟩,
  ⟨some 117, .bin .sub (.t 116) (.c (.int .i64 1)), none⟩,
  ⟨some 118, .mov (.t 0), none⟩,
  ⟨some 119, .mov (.t 17), none⟩,
  ⟨some 120, .bin .sub (.t 119) (.c (.int .i64 1)), none⟩,
  ⟨some 121, .idxp (.t 118) (.t 120) 2, none⟩,
  ⟨some 122, .load (.t 121) (some 2), none⟩,
  ⟨some 123, .mov (.t 0), none⟩,
  ⟨some 124, .mov (.t 17), none⟩,
  ⟨some 125, .idxp (.t 123) (.t 124) 2, none⟩,
  ⟨some 126, .load (.t 125) (some 2), none⟩,
  ⟨some 127, .idxp (.t 113) (.t 114) 2, none⟩,
  ⟨none, .store (.t 127) (.t 122) (some 2), none⟩,
  ⟨some 128, .idxp (.t 115) (.t 117) 2, none⟩,
  ⟨none, .store (.t 128) (.t 126) (some 2), none⟩]))
 (.reg [⟨some 111, .mov (.t 17), none⟩,
  ⟨some 112, .bin .sub (.t 111) (.c (.int .i64 1)), none⟩,
  ⟨some 17, .mov (.t 112), none⟩]))) (.keep [0, 14, 17] [])
def i_slices_symMergeCmpFunc__ops_group_a2 : IC := (.seq (.keep [] []) .ret)
def i_slices_symMergeCmpFunc__ops_group_a3 : IC := (.seq (.seq (.reg [⟨some 107, .mov (.t 2), none⟩,
  ⟨some 17, .mov (.t 107), none⟩])
 (.block 6 (.seq (.keep [0, 14, 17] []) (.loop i_slices_symMergeCmpFunc__ops_group_l3))))
 i_slices_symMergeCmpFunc__ops_group_a2)
def i_slices_symMergeCmpFunc__ops_group_l4 : IC := .seq (.seq (.seq (.reg [⟨some 149, .mov (.t 20), none⟩,
  ⟨some 150, .mov (.t 21), none⟩,
  ⟨some 151, .bin .lss (.t 149) (.t 150), none⟩])
 (.cond (.t 151) .skip (.seq (.keep [0, 1, 2, 3, 4, 18, 19, 20] []) (.exit 8))))
 (.block 9 (.seq (.reg [⟨some 152, .mov (.t 20), none⟩,
  ⟨some 153, .mov (.t 21), none⟩,
  ⟨some 154, .bin .add (.t 152) (.t 153), none⟩,
  ⟨some 155, .conv .u64 (.t 154), none⟩,
  ⟨some 156, .bin .shr (.t 155) (.c (.int .u64 1)), none⟩,
  ⟨some 157, .conv .i64 (.t 156), none⟩,
  ⟨some 23, .mov (.t 157), none⟩])
 (.seq (.dreg [⟨some 158, .mov (.t 4), none⟩,
  ⟨some 159, .mov (.t 0), none⟩,
  ⟨some 160, .mov (.t 22), none⟩,
  ⟨some 161, .mov (.t 23), none⟩,
  ⟨some 162, .bin .sub (.t 160) (.t 161), none⟩,
  ⟨some 163, .idxp (.t 159) (.t 162) 2, none⟩,
  ⟨some 164, .load (.t 163) (some 2), none⟩,
  ⟨some 165, .mov (.t 0), none⟩,
  ⟨some 166, .mov (.t 23), none⟩,
  ⟨some 167, .idxp (.t 165) (.t 166) 2, none⟩,
  ⟨some 168, .load (.t 167) (some 2), none⟩,
  ⟨some 169, .call (.t 158) [(.t 164), (.t 168)] none true [], none⟩,
  ⟨some 170, .bin .lss (.t 169) (.c (.int .i64 0)), none⟩,
  ⟨some 171, .not (.t 170), none⟩])
 (.cond (.t 171) (.reg [⟨some 172, .mov (.t 23), none⟩,
  ⟨some 173, .bin .add (.t 172) (.c (.int .i64 1)), none⟩,
  ⟨some 20, .mov (.t 173), none⟩]) (.reg [⟨some 174, .mov (.t 23), none⟩,
  ⟨some 21, .mov (.t 174), none⟩])))))) (.keep [0, 1, 2, 3, 4, 18, 19, 20, 21, 22] [])
def i_slices_symMergeCmpFunc__ops_group_a4 : IC := (.seq (.reg [⟨some 175, .mov (.t 19), none⟩,
  ⟨some 176, .mov (.t 20), none⟩,
  ⟨some 177, .bin .sub (.t 175) (.t 176), none⟩,
  ⟨some 24, .mov (.t 177), none⟩])
 (.seq (.seq (.seq (.reg [⟨some 178, .mov (.t 20), none⟩,
  ⟨some 179, .mov (.t 2), none⟩,
  ⟨some 180, .bin .lss (.t 178) (.t 179), none⟩,
  ⟨some 181, .mov (.t 180), none⟩,
  ⟨some 182, .mov (.t 2), some (181, true)⟩,
  ⟨some 183, .mov (.t 24), some (181, true)⟩,
  ⟨some 184, .bin .lss (.t 182) (.t 183), some (181, true)⟩,
  ⟨some 185, .pick (.t 181) (.t 184) (.c (.bool false)), none⟩])
 (.cond (.t 185) (.reg [⟨some 186, .mov (.t 0), none⟩,
  ⟨some 187, .mov (.t 20), none⟩,
  ⟨some 188, .mov (.t 2), none⟩,
  ⟨some 189, .mov (.t 24), none⟩,
  ⟨some 190, .mov (.t 4), none⟩,
  ⟨some 191, .call (.c (.fn n_slices_rotateCmpFunc__ops_group [])) [(.t 186), (.t 187), (.t 188), (.t 189), (.t 190)] none false [], none⟩]) .skip)) (.keep [0, 1, 3, 4, 18, 20, 24] []))
 (.seq (.seq (.seq (.reg [⟨some 192, .mov (.t 1), none⟩,
  ⟨some 193, .mov (.t 20), none⟩,
  ⟨some 194, .bin .lss (.t 192) (.t 193), none⟩,
  ⟨some 195, .mov (.t 194), none⟩,
  ⟨some 196, .mov (.t 20), some (195, true)⟩,
  ⟨some 197, .mov (.t 18), some (195, true)⟩,
  ⟨some 198, .bin .lss (.t 196) (.t 197), some (195, true)⟩,
  ⟨some 199, .pick (.t 195) (.t 198) (.c (.bool false)), none⟩])
 (.cond (.t 199) (.reg [⟨some 200, .mov (.t 0), none⟩,
  ⟨some 201, .mov (.t 1), none⟩,
  ⟨some 202, .mov (.t 20), none⟩,
  ⟨some 203, .mov (.t 18), none⟩,
  ⟨some 204, .mov (.t 4), none⟩,
  ⟨some 205, .call (.c (.fn n_slices_symMergeCmpFunc__ops_group [])) [(.t 200), (.t 201), (.t 202), (.t 203), (.t 204)] none false [], none⟩]) .skip)) (.keep [0, 3, 4, 18, 24] []))
 (.seq (.reg [⟨some 206, .mov (.t 18), none⟩,
  ⟨some 207, .mov (.t 24), none⟩,
  ⟨some 208, .bin .lss (.t 206) (.t 207), none⟩,
  ⟨some 209, .mov (.t 208), none⟩,
  ⟨some 210, .mov (.t 24), some (209, true)⟩,
  ⟨some 211, .mov (.t 3), some (209, true)⟩,
  ⟨some 212, .bin .lss (.t 210) (.t 211), some (209, true)⟩,
  ⟨some 213, .pick (.t 209) (.t 212) (.c (.bool false)), none⟩])
 (.cond (.t 213) (.reg [⟨some 214, .mov (.t 0), none⟩,
  ⟨some 215, .mov (.t 18), none⟩,
  ⟨some 216, .mov (.t 24), none⟩,
  ⟨some 217, .mov (.t 3), none⟩,
  ⟨some 218, .mov (.t 4), none⟩,
  ⟨some 219, .call (.c (.fn n_slices_symMergeCmpFunc__ops_group [])) [(.t 214), (.t 215), (.t 216), (.t 217), (.t 218)] none false [], none⟩]) .skip)))))
def i_slices_symMergeCmpFunc__ops_group : IFn := ⟨5, [],
 (.seq (.seq (.reg [⟨some 25, .mov (.t 2), none⟩,
  ⟨some 26, .mov (.t 1), none⟩,
  ⟨some 27, .bin .sub (.t 25) (.t 26), none⟩,
  ⟨some 28, .bin .eql (.t 27) (.c (.int .i64 1)), none⟩])
 (.cond (.t 28) (.seq (.reg [⟨some 29, .mov (.t 2), none⟩,
  ⟨some 10, .mov (.t 29), none⟩])
 (.seq (.reg [⟨some 30, .mov (.t 3), none⟩,
  ⟨some 11, .mov (.t 30), none⟩])
 (.seq (.block 0 (.seq (.keep [0, 1, 4, 10, 11] []) (.loop i_slices_symMergeCmpFunc__ops_group_l0)))
 i_slices_symMergeCmpFunc__ops_group_a1))) .skip))
 (.seq (.seq (.reg [⟨some 77, .mov (.t 3), none⟩,
  ⟨some 78, .mov (.t 2), none⟩,
  ⟨some 79, .bin .sub (.t 77) (.t 78), none⟩,
  ⟨some 80, .bin .eql (.t 79) (.c (.int .i64 1)), none⟩])
 (.cond (.t 80) (.seq (.reg [⟨some 81, .mov (.t 1), none⟩,
  ⟨some 14, .mov (.t 81), none⟩])
 (.seq (.reg [⟨some 82, .mov (.t 2), none⟩,
  ⟨some 15, .mov (.t 82), none⟩])
 (.seq (.block 4 (.seq (.keep [0, 2, 4, 14, 15] []) (.loop i_slices_symMergeCmpFunc__ops_group_l2)))
 i_slices_symMergeCmpFunc__ops_group_a3))) .skip))
 (.seq (.reg [⟨some 129, .mov (.t 1), none⟩,
  ⟨some 130, .mov (.t 3), none⟩,
  ⟨some 131, .bin .add (.t 129) (.t 130), none⟩,
  ⟨some 132, .conv .u64 (.t 131), none⟩,
  ⟨some 133, .bin .shr (.t 132) (.c (.int .u64 1)), none⟩,
  ⟨some 134, .conv .i64 (.t 133), none⟩,
  ⟨some 18, .mov (.t 134), none⟩])
 (.seq (.reg [⟨some 135, .mov (.t 18), none⟩,
  ⟨some 136, .mov (.t 2), none⟩,
  ⟨some 137, .bin .add (.t 135) (.t 136), none⟩,
  ⟨some 19, .mov (.t 137), none⟩])
 (.seq (.reg [⟨some 20, .mov (.c (.int .i64 0)), none⟩,
  ⟨some 21, .mov (.c (.int .i64 0)), none⟩])
 (.seq (.seq (.seq (.reg [⟨some 138, .mov (.t 2), none⟩,
  ⟨some 139, .mov (.t 18), none⟩,
  ⟨some 140, .bin .gtr (.t 138) (.t 139), none⟩])
 (.cond (.t 140) (.seq (.reg [⟨some 141, .mov (.t 19), none⟩,
  ⟨some 142, .mov (.t 3), none⟩,
  ⟨some 143, .bin .sub (.t 141) (.t 142), none⟩,
  ⟨some 20, .mov (.t 143), none⟩])
 (.reg [⟨some 144, .mov (.t 18), none⟩,
  ⟨some 21, .mov (.t 144), none⟩])) (.seq (.reg [⟨some 145, .mov (.t 1), none⟩,
  ⟨some 20, .mov (.t 145), none⟩])
 (.reg [⟨some 146, .mov (.t 2), none⟩,
  ⟨some 21, .mov (.t 146), none⟩])))) (.keep [0, 1, 2, 3, 4, 18, 19, 20, 21] []))
 (.seq (.reg [⟨some 147, .mov (.t 19), none⟩,
  ⟨some 148, .bin .sub (.t 147) (.c (.int .i64 1)), none⟩,
  ⟨some 22, .mov (.t 148), none⟩])
 (.seq (.block 8 (.seq (.keep [0, 1, 2, 3, 4, 18, 19, 20, 21, 22] []) (.loop i_slices_symMergeCmpFunc__ops_group_l4)))
 i_slices_symMergeCmpFunc__ops_group_a4))))))))⟩
/-! exprs_all -/
/--  -/
abbrev s_exprs_all_r (t4 : A) (x : Sto) : St := ⟨upd (fun _ => .undef) 4 t4, fun _ => none, x⟩
/--  -/
abbrev s_exprs_all_x0 (x : Sto) : St := ⟨fun _ => .undef, fun _ => none, x⟩
/-- t1 want -/
abbrev s_exprs_all_l0 (t1 t9 t10 t11 : A) (x : Sto) : St := ⟨upd (upd (upd (upd (fun _ => .undef) 11 t11) 10 t10) 9 t9) 1 t1, fun _ => none, x⟩
/-- t1 want -/
abbrev s_exprs_all_x1 (t1 t9 t10 t11 : A) (x : Sto) : St := ⟨upd (upd (upd (upd (fun _ => .undef) 11 t11) 10 t10) 9 t9) 1 t1, fun _ => none, x⟩
def i_exprs_all_l0 : IC := .seq (.seq (.reg [⟨some 12, .bin .lss (.t 11) (.t 10), none⟩])
 (.seq (.cond (.t 12) .skip (.seq (.keep [] []) (.exit 0)))
 (.seq (.block 1 (.seq (.reg [⟨some 13, .idxp (.t 9) (.t 11) 1, none⟩,
  ⟨some 14, .load (.t 13) none, none⟩,
  ⟨some 6, .mov (.t 14), none⟩])
 (.seq (.reg [⟨some 16, .mov (.t 6), none⟩,
  ⟨some 17, .mov (.t 1), none⟩,
  ⟨some 18, .call (.c (.fn n_exprs_one [])) [(.t 16), (.t 17)] (some []) true [], none⟩,
  ⟨some 15, .mov (.t 18), none⟩,
  ⟨some 19, .ext (.t 15) 0, none⟩,
  ⟨some 20, .ext (.t 15) 1, none⟩,
  ⟨some 7, .mov (.t 19), none⟩,
  ⟨some 8, .mov (.t 20), none⟩])
 (.seq (.reg [⟨some 21, .mov (.t 8), none⟩,
  ⟨some 22, .not (.t 21), none⟩])
 (.cond (.t 22) (.seq (.reg [⟨some 4, .mov (.c (.bool false)), none⟩])
 (.seq (.keep [4] []) .ret)) .skip)))))
 (.reg [⟨some 23, .bin .add (.t 11) (.c (.int .i64 1)), none⟩,
  ⟨some 11, .mov (.t 23), none⟩])))) (.keep [1, 9, 10, 11] [])
def i_exprs_all_a0 : IC := (.seq (.reg [⟨some 4, .mov (.c (.bool true)), none⟩])
 (.seq (.keep [4] []) .ret))
def i_exprs_all : IFn := ⟨2, [.tmp 4 false],
 (.seq (.reg [⟨some 4, .mov (.c (.bool false)), none⟩])
 (.seq (.seq (.reg [⟨some 9, .mov (.t 0), none⟩,
  ⟨some 10, .len false (.t 9), none⟩,
  ⟨some 11, .mov (.c (.int .i64 0)), none⟩])
 (.block 0 (.seq (.keep [1, 9, 10, 11] []) (.loop i_exprs_all_l0))))
 i_exprs_all_a0))⟩
/-! exprs_one -/
/--  -/
abbrev s_exprs_one_r (t4 t5 : A) (x : Sto) : St := ⟨upd (upd (fun _ => .undef) 5 t5) 4 t4, fun _ => none, x⟩
/--  -/
abbrev s_exprs_one_x0 (x : Sto) : St := ⟨fun _ => .undef, fun _ => none, x⟩
def i_exprs_one : IFn := ⟨2, [.tmp 4 false, .tmp 5 false],
 (.seq (.reg [⟨some 4, .mov (.c (.int .i64 0)), none⟩,
  ⟨some 5, .mov (.c (.bool false)), none⟩])
 (.seq (.block 0 (.seq (.reg [⟨some 7, .mov (.t 0), none⟩,
  ⟨some 8, .mov (.t 1), none⟩,
  ⟨some 9, .bin .eql (.t 7) (.t 8), none⟩,
  ⟨some 10, .mov (.t 9), none⟩,
  ⟨some 11, .mov (.t 1), some (10, false)⟩,
  ⟨some 12, .bin .eql (.t 11) (.c (.int .i64 1)), some (10, false)⟩,
  ⟨some 13, .pick (.t 10) (.c (.bool true)) (.t 12), none⟩,
  ⟨some 6, .mov (.t 13), none⟩])
 (.cond (.t 6) (.seq (.reg [⟨some 14, .mov (.t 0), none⟩,
  ⟨some 4, .mov (.t 14), none⟩,
  ⟨some 5, .mov (.c (.bool true)), none⟩])
 (.seq (.keep [4, 5] []) .ret)) (.seq (.reg [⟨some 16, .mov (.t 0), none⟩,
  ⟨some 17, .bin .eql (.t 16) (.c (.int .i64 1)), none⟩,
  ⟨some 15, .mov (.t 17), none⟩])
 (.cond (.t 15) (.seq (.reg [⟨some 18, .mov (.t 1), none⟩,
  ⟨some 4, .mov (.t 18), none⟩,
  ⟨some 5, .mov (.c (.bool true)), none⟩])
 (.seq (.keep [4, 5] []) .ret)) .skip)))))
 (.seq (.reg [⟨some 4, .mov (.c (.int .i64 0)), none⟩,
  ⟨some 5, .mov (.c (.bool false)), none⟩])
 (.seq (.keep [4, 5] []) .ret))))⟩
end Go.Tide
