/- Part 7 of the proof's ground: The code of the functions that the statements reach, with its types resolved. -/
import Derived.Laws.BitsLemmas
import Derived.Laws.Externs
import Derived.Lib.Bytealg
import Derived.SizedLaws
import Derived.Test.YtfalonfjpihgeaaTide6

/- The code of the functions that the statements reach, with its types resolved. -/
set_option linter.unusedVariables false
namespace Go.Tide
/-! slices_swapRangeCmpFunc__P_window_line -/
/--  -/
abbrev s_slices_swapRangeCmpFunc__P_window_line_r (x : Sto) : St := ⟨fun _ => .undef, fun _ => none, x⟩
/--  -/
abbrev s_slices_swapRangeCmpFunc__P_window_line_x0 (x : Sto) : St := ⟨fun _ => .undef, fun _ => none, x⟩
/-- t0 data, t1 a, t2 b, t3 n, t10 i -/
abbrev s_slices_swapRangeCmpFunc__P_window_line_l0 (t0 t1 t2 t3 t10 : A) (x : Sto) : St := ⟨upd (upd (upd (upd (upd (fun _ => .undef) 10 t10) 3 t3) 2 t2) 1 t1) 0 t0, fun _ => none, x⟩
/-- t0 data, t1 a, t2 b, t3 n, t10 i -/
abbrev s_slices_swapRangeCmpFunc__P_window_line_x1 (t0 t1 t2 t3 t10 : A) (x : Sto) : St := ⟨upd (upd (upd (upd (upd (fun _ => .undef) 10 t10) 3 t3) 2 t2) 1 t1) 0 t0, fun _ => none, x⟩
def i_slices_swapRangeCmpFunc__P_window_line_l0 : IC := .seq (.seq (.seq (.reg [⟨some 11, .mov (.t 10), none⟩,
  ⟨some 12, .mov (.t 3), none⟩,
  ⟨some 13, .bin .lss (.t 11) (.t 12), none⟩])
 (.cond (.t 13) .skip (.seq (.keep [] []) (.exit 0))))
 (.seq (.block 1 (.dreg [⟨some 16, .mov (.t 0), none⟩,
  ⟨some 17, .mov (.t 1), none⟩,
  ⟨some 18, .mov (.t 10), none⟩,
  ⟨some 19, .bin .add (.t 17) (.t 18), none⟩,
  ⟨some 20, .mov (.t 0), none⟩,
  ⟨some 21, .mov (.t 2), none⟩,
  ⟨some 22, .mov (.t 10), none⟩,
  ⟨some 23, .bin .add (.t 21) (.t 22), none⟩,
  ⟨some 24, .mov (.t 0), none⟩,
  ⟨some 25, .mov (.t 2), none⟩,
  ⟨some 26, .mov (.t 10), none⟩,
  ⟨some 27, .bin .add (.t 25) (.t 26), none⟩,
  ⟨some 28, .idxp (.t 24) (.t 27) 1, none⟩,
  ⟨some 29, .load (.t 28) none, none⟩,
  ⟨some 30, .mov (.t 0), none⟩,
  ⟨some 31, .mov (.t 1), none⟩,
  ⟨some 32, .mov (.t 10), none⟩,
  ⟨some 33, .bin .add (.t 31) (.t 32), none⟩,
  ⟨some 34, .idxp (.t 30) (.t 33) 1, none⟩,
  ⟨some 35, .load (.t 34) none, none⟩,
  ⟨some 36, .idxp (.t 16) (.t 19) 1, none⟩,
  ⟨none, .store (.t 36) (.t 29) none, none⟩,
  ⟨some 37, .idxp (.t 20) (.t 23) 1, none⟩,
  ⟨none, .store (.t 37) (.t 35) none, none⟩]))
 (.reg [⟨some 14, .mov (.t 10), none⟩,
  ⟨some 15, .bin .add (.t 14) (.c (.int .i64 1)), none⟩,
  ⟨some 10, .mov (.t 15), none⟩]))) (.keep [0, 1, 2, 3, 10] [])
def i_slices_swapRangeCmpFunc__P_window_line : IFn := ⟨5, [],
 (.seq (.reg [⟨some 10, .mov (.c (.int .i64 0)), none⟩])
 (.block 0 (.seq (.keep [0, 1, 2, 3, 10] []) (.loop i_slices_swapRangeCmpFunc__P_window_line_l0))))⟩
/-! slices_insertionSortCmpFunc__api_ZRow -/
/--  -/
abbrev s_slices_insertionSortCmpFunc__api_ZRow_r (x : Sto) : St := ⟨fun _ => .undef, fun _ => none, x⟩
/--  -/
abbrev s_slices_insertionSortCmpFunc__api_ZRow_x0 (x : Sto) : St := ⟨fun _ => .undef, fun _ => none, x⟩
/-- t0 data, t1 a, t2 b, t3 cmp, t8 i -/
abbrev s_slices_insertionSortCmpFunc__api_ZRow_l0 (t0 t1 t2 t3 t8 : A) (x : Sto) : St := ⟨upd (upd (upd (upd (upd (fun _ => .undef) 8 t8) 3 t3) 2 t2) 1 t1) 0 t0, fun _ => none, x⟩
/-- t0 data, t1 a, t2 b, t3 cmp, t8 i -/
abbrev s_slices_insertionSortCmpFunc__api_ZRow_x1 (t0 t1 t2 t3 t8 : A) (x : Sto) : St := ⟨upd (upd (upd (upd (upd (fun _ => .undef) 8 t8) 3 t3) 2 t2) 1 t1) 0 t0, fun _ => none, x⟩
/-- t0 data, t1 a, t2 b, t3 cmp, t8 i -/
abbrev s_slices_insertionSortCmpFunc__api_ZRow_x2 (t0 t1 t2 t3 t8 : A) (x : Sto) : St := ⟨upd (upd (upd (upd (upd (fun _ => .undef) 8 t8) 3 t3) 2 t2) 1 t1) 0 t0, fun _ => none, x⟩
/-- t0 data, t1 a, t2 b, t3 cmp, t8 i, t9 j -/
abbrev s_slices_insertionSortCmpFunc__api_ZRow_l1 (t0 t1 t2 t3 t8 t9 : A) (x : Sto) : St := ⟨upd (upd (upd (upd (upd (upd (fun _ => .undef) 9 t9) 8 t8) 3 t3) 2 t2) 1 t1) 0 t0, fun _ => none, x⟩
/-- t0 data, t1 a, t2 b, t3 cmp, t8 i, t9 j -/
abbrev s_slices_insertionSortCmpFunc__api_ZRow_x3 (t0 t1 t2 t3 t8 t9 : A) (x : Sto) : St := ⟨upd (upd (upd (upd (upd (upd (fun _ => .undef) 9 t9) 8 t8) 3 t3) 2 t2) 1 t1) 0 t0, fun _ => none, x⟩
def i_slices_insertionSortCmpFunc__api_ZRow_l1 : IC := .seq (.seq (.seq (.dreg [⟨some 18, .mov (.t 9), none⟩,
  ⟨some 19, .mov (.t 1), none⟩,
  ⟨some 20, .bin .gtr (.t 18) (.t 19), none⟩,
  ⟨some 21, .mov (.t 20), none⟩,
  ⟨some 22, .mov (.t 3), some (21, true)⟩,
  ⟨some 23, .mov (.t 0), some (21, true)⟩,
  ⟨some 24, .mov (.t 9), some (21, true)⟩,
  ⟨some 25, .idxp (.t 23) (.t 24) 2, some (21, true)⟩,
  ⟨some 26, .load (.t 25) (some 2), some (21, true)⟩,
  ⟨some 27, .mov (.t 0), some (21, true)⟩,
  ⟨some 28, .mov (.t 9), some (21, true)⟩,
  ⟨some 29, .bin .sub (.t 28) (.c (.int .i64 1)), some (21, true)⟩,
  ⟨some 30, .idxp (.t 27) (.t 29) 2, some (21, true)⟩,
  ⟨some 31, .load (.t 30) (some 2), some (21, true)⟩,
  ⟨some 32, .call (.t 22) [(.t 26), (.t 31)] none true [], some (21, true)⟩,
  ⟨some 33, .bin .lss (.t 32) (.c (.int .i64 0)), some (21, true)⟩,
  ⟨some 34, .pick (.t 21) (.t 33) (.c (.bool false)), none⟩])
 (.cond (.t 34) .skip (.seq (.keep [0, 1, 2, 3, 8] []) (.exit 2))))
 (.seq (.block 3 (.dreg [⟨some 37, .mov (.t 0), none⟩,
  ⟨some 38, .mov (.t 9), none⟩,
  ⟨some 39, .mov (.t 0), none⟩,
  ⟨some 40, .mov (.t 9), none⟩,
  ⟨some 41, .bin .sub (.t 40) (.c (.int .i64 1)), none⟩,
  ⟨some 42, .mov (.t 0), none⟩,
  ⟨some 43, .mov (.t 9), none⟩,
  ⟨some 44, .bin .sub (.t 43) (.c (.int .i64 1)), none⟩,
  ⟨some 45, .idxp (.t 42) (.t 44) 2, none⟩,
  ⟨some 46, .load (.t 45) (some 2), none⟩,
  ⟨some 47, .mov (.t 0), none⟩,
  ⟨some 48, .mov (.t 9), none⟩,
  ⟨some 49, .idxp (.t 47) (.t 48) 2, none⟩,
  ⟨some 50, .load (.t 49) (some 2), none⟩,
  ⟨some 51, .idxp (.t 37) (.t 38) 2, none⟩,
  ⟨none, .store (.t 51) (.t 46) (some 2), none⟩,
  ⟨some 52, .idxp (.t 39) (.t 41) 2, none⟩,
  ⟨none, .store (.t 52) (.t 50) (some 2), none⟩]))
 (.reg [⟨some 35, .mov (.t 9), none⟩,
  ⟨some 36, .bin .sub (.t 35) (.c (.int .i64 1)), none⟩,
  ⟨some 9, .mov (.t 36), none⟩]))) (.keep [0, 1, 2, 3, 8, 9] [])
def i_slices_insertionSortCmpFunc__api_ZRow_a0 : IC := (.reg [⟨some 15, .mov (.t 8), none⟩,
  ⟨some 16, .bin .add (.t 15) (.c (.int .i64 1)), none⟩,
  ⟨some 8, .mov (.t 16), none⟩])
def i_slices_insertionSortCmpFunc__api_ZRow_l0 : IC := .seq (.seq (.seq (.reg [⟨some 12, .mov (.t 8), none⟩,
  ⟨some 13, .mov (.t 2), none⟩,
  ⟨some 14, .bin .lss (.t 12) (.t 13), none⟩])
 (.cond (.t 14) .skip (.seq (.keep [] []) (.exit 0))))
 (.seq (.block 1 (.seq (.reg [⟨some 17, .mov (.t 8), none⟩,
  ⟨some 9, .mov (.t 17), none⟩])
 (.block 2 (.seq (.keep [0, 1, 2, 3, 8, 9] []) (.loop i_slices_insertionSortCmpFunc__api_ZRow_l1)))))
 i_slices_insertionSortCmpFunc__api_ZRow_a0)) (.keep [0, 1, 2, 3, 8] [])
def i_slices_insertionSortCmpFunc__api_ZRow : IFn := ⟨4, [],
 (.seq (.reg [⟨some 10, .mov (.t 1), none⟩,
  ⟨some 11, .bin .add (.t 10) (.c (.int .i64 1)), none⟩,
  ⟨some 8, .mov (.t 11), none⟩])
 (.block 0 (.seq (.keep [0, 1, 2, 3, 8] []) (.loop i_slices_insertionSortCmpFunc__api_ZRow_l0))))⟩
/-! slices_symMergeCmpFunc__api_ZRow -/
/--  -/
abbrev s_slices_symMergeCmpFunc__api_ZRow_r (x : Sto) : St := ⟨fun _ => .undef, fun _ => none, x⟩
/-- t0 toArray -/
abbrev s_slices_symMergeCmpFunc__api_ZRow_x0 (t0 t1 t10 : A) (x : Sto) : St := ⟨upd (upd (upd (fun _ => .undef) 10 t10) 1 t1) 0 t0, fun _ => none, x⟩
/-- t0 toArray -/
abbrev s_slices_symMergeCmpFunc__api_ZRow_l0 (t0 t1 t4 t10 t11 : A) (x : Sto) : St := ⟨upd (upd (upd (upd (upd (fun _ => .undef) 11 t11) 10 t10) 4 t4) 1 t1) 0 t0, fun _ => none, x⟩
/-- t0 toArray -/
abbrev s_slices_symMergeCmpFunc__api_ZRow_x1 (t0 t1 t4 t10 t11 : A) (x : Sto) : St := ⟨upd (upd (upd (upd (upd (fun _ => .undef) 11 t11) 10 t10) 4 t4) 1 t1) 0 t0, fun _ => none, x⟩
/--  -/
abbrev s_slices_symMergeCmpFunc__api_ZRow_x2 (x : Sto) : St := ⟨fun _ => .undef, fun _ => none, x⟩
/-- t0 toArray -/
abbrev s_slices_symMergeCmpFunc__api_ZRow_l1 (t0 t10 t13 : A) (x : Sto) : St := ⟨upd (upd (upd (fun _ => .undef) 13 t13) 10 t10) 0 t0, fun _ => none, x⟩
/-- t0 toArray -/
abbrev s_slices_symMergeCmpFunc__api_ZRow_x3 (t0 t10 t13 : A) (x : Sto) : St := ⟨upd (upd (upd (fun _ => .undef) 13 t13) 10 t10) 0 t0, fun _ => none, x⟩
/-- t0 toArray -/
abbrev s_slices_symMergeCmpFunc__api_ZRow_x4 (t0 t2 t14 : A) (x : Sto) : St := ⟨upd (upd (upd (fun _ => .undef) 14 t14) 2 t2) 0 t0, fun _ => none, x⟩
/-- t0 toArray -/
abbrev s_slices_symMergeCmpFunc__api_ZRow_l2 (t0 t2 t4 t14 t15 : A) (x : Sto) : St := ⟨upd (upd (upd (upd (upd (fun _ => .undef) 15 t15) 14 t14) 4 t4) 2 t2) 0 t0, fun _ => none, x⟩
/-- t0 toArray -/
abbrev s_slices_symMergeCmpFunc__api_ZRow_x5 (t0 t2 t4 t14 t15 : A) (x : Sto) : St := ⟨upd (upd (upd (upd (upd (fun _ => .undef) 15 t15) 14 t14) 4 t4) 2 t2) 0 t0, fun _ => none, x⟩
/--  -/
abbrev s_slices_symMergeCmpFunc__api_ZRow_x6 (x : Sto) : St := ⟨fun _ => .undef, fun _ => none, x⟩
/-- t0 toArray -/
abbrev s_slices_symMergeCmpFunc__api_ZRow_l3 (t0 t14 t17 : A) (x : Sto) : St := ⟨upd (upd (upd (fun _ => .undef) 17 t17) 14 t14) 0 t0, fun _ => none, x⟩
/-- t0 toArray -/
abbrev s_slices_symMergeCmpFunc__api_ZRow_x7 (t0 t14 t17 : A) (x : Sto) : St := ⟨upd (upd (upd (fun _ => .undef) 17 t17) 14 t14) 0 t0, fun _ => none, x⟩
/-- t0 toArray -/
abbrev s_slices_symMergeCmpFunc__api_ZRow_x8 (t0 t1 t2 t3 t4 t18 t19 t20 : A) (x : Sto) : St := ⟨upd (upd (upd (upd (upd (upd (upd (upd (fun _ => .undef) 20 t20) 19 t19) 18 t18) 4 t4) 3 t3) 2 t2) 1 t1) 0 t0, fun _ => none, x⟩
/-- t0 toArray -/
abbrev s_slices_symMergeCmpFunc__api_ZRow_l4 (t0 t1 t2 t3 t4 t18 t19 t20 t21 t22 : A) (x : Sto) : St := ⟨upd (upd (upd (upd (upd (upd (upd (upd (upd (upd (fun _ => .undef) 22 t22) 21 t21) 20 t20) 19 t19) 18 t18) 4 t4) 3 t3) 2 t2) 1 t1) 0 t0, fun _ => none, x⟩
/-- t0 toArray -/
abbrev s_slices_symMergeCmpFunc__api_ZRow_x9 (t0 t1 t2 t3 t4 t18 t19 t20 t21 t22 : A) (x : Sto) : St := ⟨upd (upd (upd (upd (upd (upd (upd (upd (upd (upd (fun _ => .undef) 22 t22) 21 t21) 20 t20) 19 t19) 18 t18) 4 t4) 3 t3) 2 t2) 1 t1) 0 t0, fun _ => none, x⟩
def i_slices_symMergeCmpFunc__api_ZRow_l0 : IC := .seq (.seq (.seq (.reg [⟨some 31, .mov (.t 10), none⟩,
  ⟨some 32, .mov (.t 11), none⟩,
  ⟨some 33, .bin .lss (.t 31) (.t 32), none⟩])
 (.cond (.t 33) .skip (.seq (.keep [0, 1, 10] []) (.exit 0))))
 (.block 1 (.seq (.reg [⟨some 34, .mov (.t 10), none⟩,
  ⟨some 35, .mov (.t 11), none⟩,
  ⟨some 36, .bin .add (.t 34) (.t 35), none⟩,
  ⟨some 37, .conv .u64 (.t 36), none⟩,
  ⟨some 38, .bin .shr (.t 37) (.c (.int .u64 1)), none⟩,
  ⟨some 39, .conv .i64 (.t 38), none⟩,
  ⟨some 12, .mov (.t 39), none⟩])
 (.seq (.dreg [⟨some 40, .mov (.t 4), none⟩,
  ⟨some 41, .mov (.t 0), none⟩,
  ⟨some 42, .mov (.t 12), none⟩,
  ⟨some 43, .idxp (.t 41) (.t 42) 2, none⟩,
  ⟨some 44, .load (.t 43) (some 2), none⟩,
  ⟨some 45, .mov (.t 0), none⟩,
  ⟨some 46, .mov (.t 1), none⟩,
  ⟨some 47, .idxp (.t 45) (.t 46) 2, none⟩,
  ⟨some 48, .load (.t 47) (some 2), none⟩,
  ⟨some 49, .call (.t 40) [(.t 44), (.t 48)] none true [], none⟩,
  ⟨some 50, .bin .lss (.t 49) (.c (.int .i64 0)), none⟩])
 (.cond (.t 50) (.reg [⟨some 51, .mov (.t 12), none⟩,
  ⟨some 52, .bin .add (.t 51) (.c (.int .i64 1)), none⟩,
  ⟨some 10, .mov (.t 52), none⟩]) (.reg [⟨some 53, .mov (.t 12), none⟩,
  ⟨some 11, .mov (.t 53), none⟩])))))) (.keep [0, 1, 4, 10, 11] [])
def i_slices_symMergeCmpFunc__api_ZRow_l1 : IC := .seq (.seq (.seq (.reg [⟨some 55, .mov (.t 13), none⟩,
  ⟨some 56, .mov (.t 10), none⟩,
  ⟨some 57, .bin .sub (.t 56) (.c (.int .i64 1)), none⟩,
  ⟨some 58, .bin .lss (.t 55) (.t 57), none⟩])
 (.cond (.t 58) .skip (.seq (.keep [] []) (.exit 2))))
 (.seq (.block 3 (.dreg [⟨some 61, .mov (.t 0), none⟩,
  ⟨some 62, .mov (.t 13), none⟩,
  ⟨some 63, .mov (.t 0), none⟩,
  ⟨some 64, .mov (.t 13), none⟩,
  ⟨some 65, .bin .add (.t 64) (.c (.int .i64 1)), none⟩,
  ⟨some 66, .mov (.t 0), none⟩,
  ⟨some 67, .mov (.t 13), none⟩,
  ⟨some 68, .bin .add (.t 67) (.c (.int .i64 1)), none⟩,
  ⟨some 69, .idxp (.t 66) (.t 68) 2, none⟩,
  ⟨some 70, .load (.t 69) (some 2), none⟩,
  ⟨some 71, .mov (.t 0), none⟩,
  ⟨some 72, .mov (.t 13), none⟩,
  ⟨some 73, .idxp (.t 71) (.t 72) 2, none⟩,
  ⟨some 74, .load (.t 73) (some 2), none⟩,
  ⟨some 75, .idxp (.t 61) (.t 62) 2, none⟩,
  ⟨none, .store (.t 75) (.t 70) (some 2), none⟩,
  ⟨some 76, .idxp (.t 63) (.t 65) 2, none⟩,
  ⟨none, .store (.t 76) (.t 74) (some 2), none⟩]))
 (.reg [⟨some 59, .mov (.t 13), none⟩,
  ⟨some 60, .bin .add (.t 59) (.c (.int .i64 1)), none⟩,
  ⟨some 13, .mov (.t 60), none⟩]))) (.keep [0, 10, 13] [])
def i_slices_symMergeCmpFunc__api_ZRow_a0 : IC := (.seq (.keep [] []) .ret)
def i_slices_symMergeCmpFunc__api_ZRow_a1 : IC := (.seq (.seq (.reg [⟨some 54, .mov (.t 1), none⟩,
  ⟨some 13, .mov (.t 54), none⟩])
 (.block 2 (.seq (.keep [0, 10, 13] []) (.loop i_slices_symMergeCmpFunc__api_ZRow_l1))))
 i_slices_symMergeCmpFunc__api_ZRow_a0)
def i_slices_symMergeCmpFunc__api_ZRow_l2 : IC := .seq (.seq (.seq (.reg [⟨some 83, .mov (.t 14), none⟩,
  ⟨some 84, .mov (.t 15), none⟩,
  ⟨some 85, .bin .lss (.t 83) (.t 84), none⟩])
 (.cond (.t 85) .skip (.seq (.keep [0, 2, 14] []) (.exit 4))))
 (.block 5 (.seq (.reg [⟨some 86, .mov (.t 14), none⟩,
  ⟨some 87, .mov (.t 15), none⟩,
  ⟨some 88, .bin .add (.t 86) (.t 87), none⟩,
  ⟨some 89, .conv .u64 (.t 88), none⟩,
  ⟨some 90, .bin .shr (.t 89) (.c (.int .u64 1)), none⟩,
  ⟨some 91, .conv .i64 (.t 90), none⟩,
  ⟨some 16, .mov (.t 91), none⟩])
 (.seq (.dreg [⟨some 92, .mov (.t 4), none⟩,
  ⟨some 93, .mov (.t 0), none⟩,
  ⟨some 94, .mov (.t 2), none⟩,
  ⟨some 95, .idxp (.t 93) (.t 94) 2, none⟩,
  ⟨some 96, .load (.t 95) (some 2), none⟩,
  ⟨some 97, .mov (.t 0), none⟩,
  ⟨some 98, .mov (.t 16), none⟩,
  ⟨some 99, .idxp (.t 97) (.t 98) 2, none⟩,
  ⟨some 100, .load (.t 99) (some 2), none⟩,
  ⟨some 101, .call (.t 92) [(.t 96), (.t 100)] none true [], none⟩,
  ⟨some 102, .bin .lss (.t 101) (.c (.int .i64 0)), none⟩,
  ⟨some 103, .not (.t 102), none⟩])
 (.cond (.t 103) (.reg [⟨some 104, .mov (.t 16), none⟩,
  ⟨some 105, .bin .add (.t 104) (.c (.int .i64 1)), none⟩,
  ⟨some 14, .mov (.t 105), none⟩]) (.reg [⟨some 106, .mov (.t 16), none⟩,
  ⟨some 15, .mov (.t 106), none⟩])))))) (.keep [0, 2, 4, 14, 15] [])
def i_slices_symMergeCmpFunc__api_ZRow_l3 : IC := .seq (.seq (.seq (.reg [⟨some 108, .mov (.t 17), none⟩,
  ⟨some 109, .mov (.t 14), none⟩,
  ⟨some 110, .bin .gtr (.t 108) (.t 109), none⟩])
 (.cond (.t 110) .skip (.seq (.keep [] []) (.exit 6))))
 (.seq (.block 7 (.dreg [⟨some 113, .mov (.t 0), none⟩,
  ⟨some 114, .mov (.t 17), none⟩,
  ⟨some 115, .mov (.t 0), none⟩,
  ⟨some 116, .mov (.t 17), none⟩,
  ⟨some 117, .bin .sub (.t 116) (.c (.int .i64 1)), none⟩,
  ⟨some 118, .mov (.t 0), none⟩,
  ⟨some 119, .mov (.t 17), none⟩,
  ⟨some 120, .bin .sub (.t 119) (.c (.int .i64 1)), none⟩,
  ⟨some 121, .idxp (.t 118) (.t 120) 2, none⟩,
  ⟨some 122, .load (.t 121) (some 2), none⟩,
  ⟨some 123, .mov (.t 0), none⟩,
  ⟨some 124, .mov (.t 17), none⟩,
  ⟨some 125, .idxp (.t 123) (.t 124) 2, none⟩,
  ⟨some 126, .load (.t 125) (some 2), none⟩,
  ⟨some 127, .idxp (.t 113) (.t 114) 2, none⟩,
  ⟨none, .store (.t 127) (.t 122) (some 2), none⟩,
  ⟨some 128, .idxp (.t 115) (.t 117) 2, none⟩,
  ⟨none, .store (.t 128) (.t 126) (some 2), none⟩]))
 (.reg [⟨some 111, .mov (.t 17), none⟩,
  ⟨some 112, .bin .sub (.t 111) (.c (.int .i64 1)), none⟩,
  ⟨some 17, .mov (.t 112), none⟩]))) (.keep [0, 14, 17] [])
def i_slices_symMergeCmpFunc__api_ZRow_a2 : IC := (.seq (.keep [] []) .ret)
def i_slices_symMergeCmpFunc__api_ZRow_a3 : IC := (.seq (.seq (.reg [⟨some 107, .mov (.t 2), none⟩,
  ⟨some 17, .mov (.t 107), none⟩])
 (.block 6 (.seq (.keep [0, 14, 17] []) (.loop i_slices_symMergeCmpFunc__api_ZRow_l3))))
 i_slices_symMergeCmpFunc__api_ZRow_a2)
def i_slices_symMergeCmpFunc__api_ZRow_l4 : IC := .seq (.seq (.seq (.reg [⟨some 149, .mov (.t 20), none⟩,
  ⟨some 150, .mov (.t 21), none⟩,
  ⟨some 151, .bin .lss (.t 149) (.t 150), none⟩])
 (.cond (.t 151) .skip (.seq (.keep [0, 1, 2, 3, 4, 18, 19, 20] []) (.exit 8))))
 (.block 9 (.seq (.reg [⟨some 152, .mov (.t 20), none⟩,
  ⟨some 153, .mov (.t 21), none⟩,
  ⟨some 154, .bin .add (.t 152) (.t 153), none⟩,
  ⟨some 155, .conv .u64 (.t 154), none⟩,
  ⟨some 156, .bin .shr (.t 155) (.c (.int .u64 1)), none⟩,
  ⟨some 157, .conv .i64 (.t 156), none⟩,
  ⟨some 23, .mov (.t 157), none⟩])
 (.seq (.dreg [⟨some 158, .mov (.t 4), none⟩,
  ⟨some 159, .mov (.t 0), none⟩,
  ⟨some 160, .mov (.t 22), none⟩,
  ⟨some 161, .mov (.t 23), none⟩,
  ⟨some 162, .bin .sub (.t 160) (.t 161), none⟩,
  ⟨some 163, .idxp (.t 159) (.t 162) 2, none⟩,
  ⟨some 164, .load (.t 163) (some 2), none⟩,
  ⟨some 165, .mov (.t 0), none⟩,
  ⟨some 166, .mov (.t 23), none⟩,
  ⟨some 167, .idxp (.t 165) (.t 166) 2, none⟩,
  ⟨some 168, .load (.t 167) (some 2), none⟩,
  ⟨some 169, .call (.t 158) [(.t 164), (.t 168)] none true [], none⟩,
  ⟨some 170, .bin .lss (.t 169) (.c (.int .i64 0)), none⟩,
  ⟨some 171, .not (.t 170), none⟩])
 (.cond (.t 171) (.reg [⟨some 172, .mov (.t 23), none⟩,
  ⟨some 173, .bin .add (.t 172) (.c (.int .i64 1)), none⟩,
  ⟨some 20, .mov (.t 173), none⟩]) (.reg [⟨some 174, .mov (.t 23), none⟩,
  ⟨some 21, .mov (.t 174), none⟩])))))) (.keep [0, 1, 2, 3, 4, 18, 19, 20, 21, 22] [])
def i_slices_symMergeCmpFunc__api_ZRow_a4 : IC := (.seq (.reg [⟨some 175, .mov (.t 19), none⟩,
  ⟨some 176, .mov (.t 20), none⟩,
  ⟨some 177, .bin .sub (.t 175) (.t 176), none⟩,
  ⟨some 24, .mov (.t 177), none⟩])
 (.seq (.seq (.seq (.reg [⟨some 178, .mov (.t 20), none⟩,
  ⟨some 179, .mov (.t 2), none⟩,
  ⟨some 180, .bin .lss (.t 178) (.t 179), none⟩,
  ⟨some 181, .mov (.t 180), none⟩,
  ⟨some 182, .mov (.t 2), some (181, true)⟩,
  ⟨some 183, .mov (.t 24), some (181, true)⟩,
  ⟨some 184, .bin .lss (.t 182) (.t 183), some (181, true)⟩,
  ⟨some 185, .pick (.t 181) (.t 184) (.c (.bool false)), none⟩])
 (.cond (.t 185) (.reg [⟨some 186, .mov (.t 0), none⟩,
  ⟨some 187, .mov (.t 20), none⟩,
  ⟨some 188, .mov (.t 2), none⟩,
  ⟨some 189, .mov (.t 24), none⟩,
  ⟨some 190, .mov (.t 4), none⟩,
  ⟨some 191, .call (.c (.fn n_slices_rotateCmpFunc__api_ZRow [])) [(.t 186), (.t 187), (.t 188), (.t 189), (.t 190)] none false [], none⟩]) .skip)) (.keep [0, 1, 3, 4, 18, 20, 24] []))
 (.seq (.seq (.seq (.reg [⟨some 192, .mov (.t 1), none⟩,
  ⟨some 193, .mov (.t 20), none⟩,
  ⟨some 194, .bin .lss (.t 192) (.t 193), none⟩,
  ⟨some 195, .mov (.t 194), none⟩,
  ⟨some 196, .mov (.t 20), some (195, true)⟩,
  ⟨some 197, .mov (.t 18), some (195, true)⟩,
  ⟨some 198, .bin .lss (.t 196) (.t 197), some (195, true)⟩,
  ⟨some 199, .pick (.t 195) (.t 198) (.c (.bool false)), none⟩])
 (.cond (.t 199) (.reg [⟨some 200, .mov (.t 0), none⟩,
  ⟨some 201, .mov (.t 1), none⟩,
  ⟨some 202, .mov (.t 20), none⟩,
  ⟨some 203, .mov (.t 18), none⟩,
  ⟨some 204, .mov (.t 4), none⟩,
  ⟨some 205, .call (.c (.fn n_slices_symMergeCmpFunc__api_ZRow [])) [(.t 200), (.t 201), (.t 202), (.t 203), (.t 204)] none false [], none⟩]) .skip)) (.keep [0, 3, 4, 18, 24] []))
 (.seq (.reg [⟨some 206, .mov (.t 18), none⟩,
  ⟨some 207, .mov (.t 24), none⟩,
  ⟨some 208, .bin .lss (.t 206) (.t 207), none⟩,
  ⟨some 209, .mov (.t 208), none⟩,
  ⟨some 210, .mov (.t 24), some (209, true)⟩,
  ⟨some 211, .mov (.t 3), some (209, true)⟩,
  ⟨some 212, .bin .lss (.t 210) (.t 211), some (209, true)⟩,
  ⟨some 213, .pick (.t 209) (.t 212) (.c (.bool false)), none⟩])
 (.cond (.t 213) (.reg [⟨some 214, .mov (.t 0), none⟩,
  ⟨some 215, .mov (.t 18), none⟩,
  ⟨some 216, .mov (.t 24), none⟩,
  ⟨some 217, .mov (.t 3), none⟩,
  ⟨some 218, .mov (.t 4), none⟩,
  ⟨some 219, .call (.c (.fn n_slices_symMergeCmpFunc__api_ZRow [])) [(.t 214), (.t 215), (.t 216), (.t 217), (.t 218)] none false [], none⟩]) .skip)))))
def i_slices_symMergeCmpFunc__api_ZRow : IFn := ⟨5, [],
 (.seq (.seq (.reg [⟨some 25, .mov (.t 2), none⟩,
  ⟨some 26, .mov (.t 1), none⟩,
  ⟨some 27, .bin .sub (.t 25) (.t 26), none⟩,
  ⟨some 28, .bin .eql (.t 27) (.c (.int .i64 1)), none⟩])
 (.cond (.t 28) (.seq (.reg [⟨some 29, .mov (.t 2), none⟩,
  ⟨some 10, .mov (.t 29), none⟩])
 (.seq (.reg [⟨some 30, .mov (.t 3), none⟩,
  ⟨some 11, .mov (.t 30), none⟩])
 (.seq (.block 0 (.seq (.keep [0, 1, 4, 10, 11] []) (.loop i_slices_symMergeCmpFunc__api_ZRow_l0)))
 i_slices_symMergeCmpFunc__api_ZRow_a1))) .skip))
 (.seq (.seq (.reg [⟨some 77, .mov (.t 3), none⟩,
  ⟨some 78, .mov (.t 2), none⟩,
  ⟨some 79, .bin .sub (.t 77) (.t 78), none⟩,
  ⟨some 80, .bin .eql (.t 79) (.c (.int .i64 1)), none⟩])
 (.cond (.t 80) (.seq (.reg [⟨some 81, .mov (.t 1), none⟩,
  ⟨some 14, .mov (.t 81), none⟩])
 (.seq (.reg [⟨some 82, .mov (.t 2), none⟩,
  ⟨some 15, .mov (.t 82), none⟩])
 (.seq (.block 4 (.seq (.keep [0, 2, 4, 14, 15] []) (.loop i_slices_symMergeCmpFunc__api_ZRow_l2)))
 i_slices_symMergeCmpFunc__api_ZRow_a3))) .skip))
 (.seq (.reg [⟨some 129, .mov (.t 1), none⟩,
  ⟨some 130, .mov (.t 3), none⟩,
  ⟨some 131, .bin .add (.t 129) (.t 130), none⟩,
  ⟨some 132, .conv .u64 (.t 131), none⟩,
  ⟨some 133, .bin .shr (.t 132) (.c (.int .u64 1)), none⟩,
  ⟨some 134, .conv .i64 (.t 133), none⟩,
  ⟨some 18, .mov (.t 134), none⟩])
 (.seq (.reg [⟨some 135, .mov (.t 18), none⟩,
  ⟨some 136, .mov (.t 2), none⟩,
  ⟨some 137, .bin .add (.t 135) (.t 136), none⟩,
  ⟨some 19, .mov (.t 137), none⟩])
 (.seq (.reg [⟨some 20, .mov (.c (.int .i64 0)), none⟩,
  ⟨some 21, .mov (.c (.int .i64 0)), none⟩])
 (.seq (.seq (.seq (.reg [⟨some 138, .mov (.t 2), none⟩,
  ⟨some 139, .mov (.t 18), none⟩,
  ⟨some 140, .bin .gtr (.t 138) (.t 139), none⟩])
 (.cond (.t 140) (.seq (.reg [⟨some 141, .mov (.t 19), none⟩,
  ⟨some 142, .mov (.t 3), none⟩,
  ⟨some 143, .bin .sub (.t 141) (.t 142), none⟩,
  ⟨some 20, .mov (.t 143), none⟩])
 (.reg [⟨some 144, .mov (.t 18), none⟩,
  ⟨some 21, .mov (.t 144), none⟩])) (.seq (.reg [⟨some 145, .mov (.t 1), none⟩,
  ⟨some 20, .mov (.t 145), none⟩])
 (.reg [⟨some 146, .mov (.t 2), none⟩,
  ⟨some 21, .mov (.t 146), none⟩])))) (.keep [0, 1, 2, 3, 4, 18, 19, 20, 21] []))
 (.seq (.reg [⟨some 147, .mov (.t 19), none⟩,
  ⟨some 148, .bin .sub (.t 147) (.c (.int .i64 1)), none⟩,
  ⟨some 22, .mov (.t 148), none⟩])
 (.seq (.block 8 (.seq (.keep [0, 1, 2, 3, 4, 18, 19, 20, 21, 22] []) (.loop i_slices_symMergeCmpFunc__api_ZRow_l4)))
 i_slices_symMergeCmpFunc__api_ZRow_a4))))))))⟩
/-! slices_rotateCmpFunc__ops_group -/
/--  -/
abbrev s_slices_rotateCmpFunc__ops_group_r (x : Sto) : St := ⟨fun _ => .undef, fun _ => none, x⟩
/-- t0 data, t2 m, t4 cmp, t10 i -/
abbrev s_slices_rotateCmpFunc__ops_group_x0 (t0 t2 t4 t10 : A) (x : Sto) : St := ⟨upd (upd (upd (upd (fun _ => .undef) 10 t10) 4 t4) 2 t2) 0 t0, fun _ => none, x⟩
/-- t0 data, t2 m, t4 cmp, t10 i, t11 j -/
abbrev s_slices_rotateCmpFunc__ops_group_l0 (t0 t2 t4 t10 t11 : A) (x : Sto) : St := ⟨upd (upd (upd (upd (upd (fun _ => .undef) 11 t11) 10 t10) 4 t4) 2 t2) 0 t0, fun _ => none, x⟩
/-- t0 data, t2 m, t4 cmp, t10 i, t11 j -/
abbrev s_slices_rotateCmpFunc__ops_group_x1 (t0 t2 t4 t10 t11 : A) (x : Sto) : St := ⟨upd (upd (upd (upd (upd (fun _ => .undef) 11 t11) 10 t10) 4 t4) 2 t2) 0 t0, fun _ => none, x⟩
def i_slices_rotateCmpFunc__ops_group_l0 : IC := .seq (.seq (.seq (.reg [⟨some 18, .mov (.t 10), none⟩,
  ⟨some 19, .mov (.t 11), none⟩,
  ⟨some 20, .bin .neq (.t 18) (.t 19), none⟩])
 (.cond (.t 20) .skip (.seq (.keep [0, 2, 4, 10] []) (.exit 0))))
 (.block 1 (.seq (.reg [⟨some 21, .mov (.t 10), none⟩,
  ⟨some 22, .mov (.t 11), none⟩,
  ⟨some 23, .bin .gtr (.t 21) (.t 22), none⟩])
 (.cond (.t 23) (.seq (.reg [⟨some 24, .mov (.t 0), none⟩,
  ⟨some 25, .mov (.t 2), none⟩,
  ⟨some 26, .mov (.t 10), none⟩,
  ⟨some 27, .bin .sub (.t 25) (.t 26), none⟩,
  ⟨some 28, .mov (.t 2), none⟩,
  ⟨some 29, .mov (.t 11), none⟩,
  ⟨some 30, .mov (.t 4), none⟩,
  ⟨some 31, .call (.c (.fn n_slices_swapRangeCmpFunc__ops_group [])) [(.t 24), (.t 27), (.t 28), (.t 29), (.t 30)] none false [], none⟩])
 (.reg [⟨some 32, .mov (.t 10), none⟩,
  ⟨some 33, .mov (.t 11), none⟩,
  ⟨some 34, .bin .sub (.t 32) (.t 33), none⟩,
  ⟨some 10, .mov (.t 34), none⟩])) (.seq (.reg [⟨some 35, .mov (.t 0), none⟩,
  ⟨some 36, .mov (.t 2), none⟩,
  ⟨some 37, .mov (.t 10), none⟩,
  ⟨some 38, .bin .sub (.t 36) (.t 37), none⟩,
  ⟨some 39, .mov (.t 2), none⟩,
  ⟨some 40, .mov (.t 11), none⟩,
  ⟨some 41, .bin .add (.t 39) (.t 40), none⟩,
  ⟨some 42, .mov (.t 10), none⟩,
  ⟨some 43, .bin .sub (.t 41) (.t 42), none⟩,
  ⟨some 44, .mov (.t 10), none⟩,
  ⟨some 45, .mov (.t 4), none⟩,
  ⟨some 46, .call (.c (.fn n_slices_swapRangeCmpFunc__ops_group [])) [(.t 35), (.t 38), (.t 43), (.t 44), (.t 45)] none false [], none⟩])
 (.reg [⟨some 47, .mov (.t 11), none⟩,
  ⟨some 48, .mov (.t 10), none⟩,
  ⟨some 49, .bin .sub (.t 47) (.t 48), none⟩,
  ⟨some 11, .mov (.t 49), none⟩])))))) (.keep [0, 2, 4, 10, 11] [])
def i_slices_rotateCmpFunc__ops_group_a0 : IC := (.reg [⟨some 50, .mov (.t 0), none⟩,
  ⟨some 51, .mov (.t 2), none⟩,
  ⟨some 52, .mov (.t 10), none⟩,
  ⟨some 53, .bin .sub (.t 51) (.t 52), none⟩,
  ⟨some 54, .mov (.t 2), none⟩,
  ⟨some 55, .mov (.t 10), none⟩,
  ⟨some 56, .mov (.t 4), none⟩,
  ⟨some 57, .call (.c (.fn n_slices_swapRangeCmpFunc__ops_group [])) [(.t 50), (.t 53), (.t 54), (.t 55), (.t 56)] none false [], none⟩])
def i_slices_rotateCmpFunc__ops_group : IFn := ⟨5, [],
 (.seq (.reg [⟨some 12, .mov (.t 2), none⟩,
  ⟨some 13, .mov (.t 1), none⟩,
  ⟨some 14, .bin .sub (.t 12) (.t 13), none⟩,
  ⟨some 10, .mov (.t 14), none⟩])
 (.seq (.reg [⟨some 15, .mov (.t 3), none⟩,
  ⟨some 16, .mov (.t 2), none⟩,
  ⟨some 17, .bin .sub (.t 15) (.t 16), none⟩,
  ⟨some 11, .mov (.t 17), none⟩])
 (.seq (.block 0 (.seq (.keep [0, 2, 4, 10, 11] []) (.loop i_slices_rotateCmpFunc__ops_group_l0)))
 i_slices_rotateCmpFunc__ops_group_a0)))⟩
/-! slices_rotateCmpFunc__api_ZRow -/
/--  -/
abbrev s_slices_rotateCmpFunc__api_ZRow_r (x : Sto) : St := ⟨fun _ => .undef, fun _ => none, x⟩
/-- t0 data, t2 m, t4 cmp, t10 i -/
abbrev s_slices_rotateCmpFunc__api_ZRow_x0 (t0 t2 t4 t10 : A) (x : Sto) : St := ⟨upd (upd (upd (upd (fun _ => .undef) 10 t10) 4 t4) 2 t2) 0 t0, fun _ => none, x⟩
/-- t0 data, t2 m, t4 cmp, t10 i, t11 j -/
abbrev s_slices_rotateCmpFunc__api_ZRow_l0 (t0 t2 t4 t10 t11 : A) (x : Sto) : St := ⟨upd (upd (upd (upd (upd (fun _ => .undef) 11 t11) 10 t10) 4 t4) 2 t2) 0 t0, fun _ => none, x⟩
/-- t0 data, t2 m, t4 cmp, t10 i, t11 j -/
abbrev s_slices_rotateCmpFunc__api_ZRow_x1 (t0 t2 t4 t10 t11 : A) (x : Sto) : St := ⟨upd (upd (upd (upd (upd (fun _ => .undef) 11 t11) 10 t10) 4 t4) 2 t2) 0 t0, fun _ => none, x⟩
def i_slices_rotateCmpFunc__api_ZRow_l0 : IC := .seq (.seq (.seq (.reg [⟨some 18, .mov (.t 10), none⟩,
  ⟨some 19, .mov (.t 11), none⟩,
  ⟨some 20, .bin .neq (.t 18) (.t 19), none⟩])
 (.cond (.t 20) .skip (.seq (.keep [0, 2, 4, 10] []) (.exit 0))))
 (.block 1 (.seq (.reg [⟨some 21, .mov (.t 10), none⟩,
  ⟨some 22, .mov (.t 11), none⟩,
  ⟨some 23, .bin .gtr (.t 21) (.t 22), none⟩])
 (.cond (.t 23) (.seq (.reg [⟨some 24, .mov (.t 0), none⟩,
  ⟨some 25, .mov (.t 2), none⟩,
  ⟨some 26, .mov (.t 10), none⟩,
  ⟨some 27, .bin .sub (.t 25) (.t 26), none⟩,
  ⟨some 28, .mov (.t 2), none⟩,
  ⟨some 29, .mov (.t 11), none⟩,
  ⟨some 30, .mov (.t 4), none⟩,
  ⟨some 31, .call (.c (.fn n_slices_swapRangeCmpFunc__api_ZRow [])) [(.t 24), (.t 27), (.t 28), (.t 29), (.t 30)] none false [], none⟩])
 (.reg [⟨some 32, .mov (.t 10), none⟩,
  ⟨some 33, .mov (.t 11), none⟩,
  ⟨some 34, .bin .sub (.t 32) (.t 33), none⟩,
  ⟨some 10, .mov (.t 34), none⟩])) (.seq (.reg [⟨some 35, .mov (.t 0), none⟩,
  ⟨some 36, .mov (.t 2), none⟩,
  ⟨some 37, .mov (.t 10), none⟩,
  ⟨some 38, .bin .sub (.t 36) (.t 37), none⟩,
  ⟨some 39, .mov (.t 2), none⟩,
  ⟨some 40, .mov (.t 11), none⟩,
  ⟨some 41, .bin .add (.t 39) (.t 40), none⟩,
  ⟨some 42, .mov (.t 10), none⟩,
  ⟨some 43, .bin .sub (.t 41) (.t 42), none⟩,
  ⟨some 44, .mov (.t 10), none⟩,
  ⟨some 45, .mov (.t 4), none⟩,
  ⟨some 46, .call (.c (.fn n_slices_swapRangeCmpFunc__api_ZRow [])) [(.t 35), (.t 38), (.t 43), (.t 44), (.t 45)] none false [], none⟩])
 (.reg [⟨some 47, .mov (.t 11), none⟩,
  ⟨some 48, .mov (.t 10), none⟩,
  ⟨some 49, .bin .sub (.t 47) (.t 48), none⟩,
  ⟨some 11, .mov (.t 49), none⟩])))))) (.keep [0, 2, 4, 10, 11] [])
def i_slices_rotateCmpFunc__api_ZRow_a0 : IC := (.reg [⟨some 50, .mov (.t 0), none⟩,
  ⟨some 51, .mov (.t 2), none⟩,
  ⟨some 52, .mov (.t 10), none⟩,
  ⟨some 53, .bin .sub (.t 51) (.t 52), none⟩,
  ⟨some 54, .mov (.t 2), none⟩,
  ⟨some 55, .mov (.t 10), none⟩,
  ⟨some 56, .mov (.t 4), none⟩,
  ⟨some 57, .call (.c (.fn n_slices_swapRangeCmpFunc__api_ZRow [])) [(.t 50), (.t 53), (.t 54), (.t 55), (.t 56)] none false [], none⟩])
def i_slices_rotateCmpFunc__api_ZRow : IFn := ⟨5, [],
 (.seq (.reg [⟨some 12, .mov (.t 2), none⟩,
  ⟨some 13, .mov (.t 1), none⟩,
  ⟨some 14, .bin .sub (.t 12) (.t 13), none⟩,
  ⟨some 10, .mov (.t 14), none⟩])
 (.seq (.reg [⟨some 15, .mov (.t 3), none⟩,
  ⟨some 16, .mov (.t 2), none⟩,
  ⟨some 17, .bin .sub (.t 15) (.t 16), none⟩,
  ⟨some 11, .mov (.t 17), none⟩])
 (.seq (.block 0 (.seq (.keep [0, 2, 4, 10, 11] []) (.loop i_slices_rotateCmpFunc__api_ZRow_l0)))
 i_slices_rotateCmpFunc__api_ZRow_a0)))⟩
/-! slices_swapRangeCmpFunc__ops_group -/
/--  -/
abbrev s_slices_swapRangeCmpFunc__ops_group_r (x : Sto) : St := ⟨fun _ => .undef, fun _ => none, x⟩
/--  -/
abbrev s_slices_swapRangeCmpFunc__ops_group_x0 (x : Sto) : St := ⟨fun _ => .undef, fun _ => none, x⟩
/-- t0 data, t1 a, t2 b, t3 n, t10 i -/
abbrev s_slices_swapRangeCmpFunc__ops_group_l0 (t0 t1 t2 t3 t10 : A) (x : Sto) : St := ⟨upd (upd (upd (upd (upd (fun _ => .undef) 10 t10) 3 t3) 2 t2) 1 t1) 0 t0, fun _ => none, x⟩
/-- t0 data, t1 a, t2 b, t3 n, t10 i -/
abbrev s_slices_swapRangeCmpFunc__ops_group_x1 (t0 t1 t2 t3 t10 : A) (x : Sto) : St := ⟨upd (upd (upd (upd (upd (fun _ => .undef) 10 t10) 3 t3) 2 t2) 1 t1) 0 t0, fun _ => none, x⟩
def i_slices_swapRangeCmpFunc__ops_group_l0 : IC := .seq (.seq (.seq (.reg [⟨some 11, .mov (.t 10), none⟩,
  ⟨some 12, .mov (.t 3), none⟩,
  ⟨some 13, .bin .lss (.t 11) (.t 12), none⟩])
 (.cond (.t 13) .skip (.seq (.keep [] []) (.exit 0))))
 (.seq (.block 1 (.dreg [⟨some 16, .mov (.t 0), none⟩,
  ⟨some 17, .mov (.t 1), none⟩,
  ⟨some 18, .mov (.t 10), none⟩,
  ⟨some 19, .bin .add (.t 17) (.t 18), none⟩,
  ⟨some 20, .mov (.t 0), none⟩,
  ⟨some 21, .mov (.t 2), none⟩,
  ⟨some 22, .mov (.t 10), none⟩,
  ⟨some 23, .bin .add (.t 21) (.t 22), none⟩,
  ⟨some 24, .mov (.t 0), none⟩,
  ⟨some 25, .mov (.t 2), none⟩,
  ⟨some 26, .mov (.t 10), none⟩,
  ⟨some 27, .bin .add (.t 25) (.t 26), none⟩,
  ⟨some 28, .idxp (.t 24) (.t 27) 2, none⟩,
  ⟨some 29, .load (.t 28) (some 2), none⟩,
  ⟨some 30, .mov (.t 0), none⟩,
  ⟨some 31, .mov (.t 1), none⟩,
  ⟨some 32, .mov (.t 10), none⟩,
  ⟨some 33, .bin .add (.t 31) (.t 32), none⟩,
  ⟨some 34, .idxp (.t 30) (.t 33) 2, none⟩,
  ⟨some 35, .load (.t 34) (some 2), none⟩,
  ⟨some 36, .idxp (.t 16) (.t 19) 2, none⟩,
  ⟨none, .store (.t 36) (.t 29) (some 2), none⟩,
  ⟨some 37, .idxp (.t 20) (.t 23) 2, none⟩,
  ⟨none, .store (.t 37) (.t 35) (some 2), none⟩]))
 (.reg [⟨some 14, .mov (.t 10), none⟩,
  ⟨some 15, .bin .add (.t 14) (.c (.int .i64 1)), none⟩,
  ⟨some 10, .mov (.t 15), none⟩]))) (.keep [0, 1, 2, 3, 10] [])
def i_slices_swapRangeCmpFunc__ops_group : IFn := ⟨5, [],
 (.seq (.reg [⟨some 10, .mov (.c (.int .i64 0)), none⟩])
 (.block 0 (.seq (.keep [0, 1, 2, 3, 10] []) (.loop i_slices_swapRangeCmpFunc__ops_group_l0))))⟩
/-! slices_swapRangeCmpFunc__api_ZRow -/
/--  -/
abbrev s_slices_swapRangeCmpFunc__api_ZRow_r (x : Sto) : St := ⟨fun _ => .undef, fun _ => none, x⟩
/--  -/
abbrev s_slices_swapRangeCmpFunc__api_ZRow_x0 (x : Sto) : St := ⟨fun _ => .undef, fun _ => none, x⟩
/-- t0 data, t1 a, t2 b, t3 n, t10 i -/
abbrev s_slices_swapRangeCmpFunc__api_ZRow_l0 (t0 t1 t2 t3 t10 : A) (x : Sto) : St := ⟨upd (upd (upd (upd (upd (fun _ => .undef) 10 t10) 3 t3) 2 t2) 1 t1) 0 t0, fun _ => none, x⟩
/-- t0 data, t1 a, t2 b, t3 n, t10 i -/
abbrev s_slices_swapRangeCmpFunc__api_ZRow_x1 (t0 t1 t2 t3 t10 : A) (x : Sto) : St := ⟨upd (upd (upd (upd (upd (fun _ => .undef) 10 t10) 3 t3) 2 t2) 1 t1) 0 t0, fun _ => none, x⟩
def i_slices_swapRangeCmpFunc__api_ZRow_l0 : IC := .seq (.seq (.seq (.reg [⟨some 11, .mov (.t 10), none⟩,
  ⟨some 12, .mov (.t 3), none⟩,
  ⟨some 13, .bin .lss (.t 11) (.t 12), none⟩])
 (.cond (.t 13) .skip (.seq (.keep [] []) (.exit 0))))
 (.seq (.block 1 (.dreg [⟨some 16, .mov (.t 0), none⟩,
  ⟨some 17, .mov (.t 1), none⟩,
  ⟨some 18, .mov (.t 10), none⟩,
  ⟨some 19, .bin .add (.t 17) (.t 18), none⟩,
  ⟨some 20, .mov (.t 0), none⟩,
  ⟨some 21, .mov (.t 2), none⟩,
  ⟨some 22, .mov (.t 10), none⟩,
  ⟨some 23, .bin .add (.t 21) (.t 22), none⟩,
  ⟨some 24, .mov (.t 0), none⟩,
  ⟨some 25, .mov (.t 2), none⟩,
  ⟨some 26, .mov (.t 10), none⟩,
  ⟨some 27, .bin .add (.t 25) (.t 26), none⟩,
  ⟨some 28, .idxp (.t 24) (.t 27) 2, none⟩,
  ⟨some 29, .load (.t 28) (some 2), none⟩,
  ⟨some 30, .mov (.t 0), none⟩,
  ⟨some 31, .mov (.t 1), none⟩,
  ⟨some 32, .mov (.t 10), none⟩,
  ⟨some 33, .bin .add (.t 31) (.t 32), none⟩,
  ⟨some 34, .idxp (.t 30) (.t 33) 2, none⟩,
  ⟨some 35, .load (.t 34) (some 2), none⟩,
  ⟨some 36, .idxp (.t 16) (.t 19) 2, none⟩,
  ⟨none, .store (.t 36) (.t 29) (some 2), none⟩,
  ⟨some 37, .idxp (.t 20) (.t 23) 2, none⟩,
  ⟨none, .store (.t 37) (.t 35) (some 2), none⟩]))
 (.reg [⟨some 14, .mov (.t 10), none⟩,
  ⟨some 15, .bin .add (.t 14) (.c (.int .i64 1)), none⟩,
  ⟨some 10, .mov (.t 15), none⟩]))) (.keep [0, 1, 2, 3, 10] [])
def i_slices_swapRangeCmpFunc__api_ZRow : IFn := ⟨5, [],
 (.seq (.reg [⟨some 10, .mov (.c (.int .i64 0)), none⟩])
 (.block 0 (.seq (.keep [0, 1, 2, 3, 10] []) (.loop i_slices_swapRangeCmpFunc__api_ZRow_l0))))⟩
def tbl : List (Nat × IFn) := [(n_tidelaw15_WindowParts, i_tidelaw15_WindowParts), (n_tidelaw15_WindowKeeps, i_tidelaw15_WindowKeeps), (n_tidelaw15_WindowLast, i_tidelaw15_WindowLast), (n_tidelaw15_alive, i_tidelaw15_alive), (n_window_Window, i_window_Window), (n_tidelaw15_col, i_tidelaw15_col), (n_ops_Filter, i_ops_Filter), (n_tideref1_Is, i_tideref1_Is), (n_tideref1_Equal, i_tideref1_Equal), (n_tideref2_Same, i_tideref2_Same), (n_zsets_Positive, i_zsets_Positive), (n_tidelaw15_cut, i_tidelaw15_cut), (n_ops_Group, i_ops_Group), (n_tidelaw15_num, i_tidelaw15_num), (n_ops_Types, i_ops_Types), (n_window_Types, i_window_Types), (n_ops_Input, i_ops_Input), (n_ops_Values, i_ops_Values), (n_slices_SortStableFunc__P_window_line, i_slices_SortStableFunc__P_window_line), (n_window_Window_1, i_window_Window_1), (n_vals_Rows, i_vals_Rows), (n_window_teller_tell, i_window_teller_tell), (n_zsets_Sum, i_zsets_Sum), (n_cmp_Or__api_Errno, i_cmp_Or__api_Errno), (n_ops_truth, i_ops_truth), (n_vals_True, i_vals_True), (n_exprs_Of, i_exprs_Of), (n_tideref1_Null, i_tideref1_Null), (n_tideref1_Truth, i_tideref1_Truth), (n_tideref1_Order, i_tideref1_Order), (n_zsets_each, i_zsets_each), (n_zsets_Positive_1, i_zsets_Positive_1), (n_zsets_Of, i_zsets_Of), (n_ops_AggTypes, i_ops_AggTypes), (n_ops_Grouped, i_ops_Grouped), (n_exprs_Type, i_exprs_Type), (n_zsets_Wrong, i_zsets_Wrong), (n_exprs_Fits, i_exprs_Fits), (n_slices_stableCmpFunc__P_window_line, i_slices_stableCmpFunc__P_window_line), (n_vals_Compare, i_vals_Compare), (n_cmp_Compare__int, i_cmp_Compare__int), (n_slices_Clone__api_Val, i_slices_Clone__api_Val), (n_vals_Int, i_vals_Int), (n_vals_Null, i_vals_Null), (n_zsets_Fit, i_zsets_Fit), (n_zsets_Total, i_zsets_Total), (n_vals_rank, i_vals_rank), (n_exprs_Of_1, i_exprs_Of_1), (n_vals_Bare, i_vals_Bare), (n_vals_Not, i_vals_Not), (n_vals_And, i_vals_And), (n_vals_Or, i_vals_Or), (n_vals_Reckon, i_vals_Reckon), (n_vals_Join, i_vals_Join), (n_vals_Bool, i_vals_Bool), (n_exprs_compared, i_exprs_compared), (n_zsets_right, i_zsets_right), (n_zsets_bare, i_zsets_bare), (n_zsets_row, i_zsets_row), (n_zsets_weight, i_zsets_weight), (n_slices_SortStableFunc__ops_group, i_slices_SortStableFunc__ops_group), (n_ops_Grouped_1, i_ops_Grouped_1), (n_ops_aggregate, i_ops_aggregate), (n_exprs_looker_typ, i_exprs_looker_typ), (n_vals_Wrong, i_vals_Wrong), (n_slices_insertionSortCmpFunc__P_window_line, i_slices_insertionSortCmpFunc__P_window_line), (n_slices_symMergeCmpFunc__P_window_line, i_slices_symMergeCmpFunc__P_window_line), (n_cmp_Or__int, i_cmp_Or__int), (n_cmp_Compare__int64, i_cmp_Compare__int64), (n_strings_Compare, i_strings_Compare), (n_cmp_isNaN__int, i_cmp_isNaN__int), (n_slices_ContainsFunc__api_ZRow, i_slices_ContainsFunc__api_ZRow), (n_zsets_Fit_1, i_zsets_Fit_1), (n_slices_SortStableFunc__api_ZRow, i_slices_SortStableFunc__api_ZRow), (n_zsets_Total_1, i_zsets_Total_1), (n_vals_ranked, i_vals_ranked), (n_vals_Equal, i_vals_Equal), (n_vals_Less, i_vals_Less), (n_slices_stableCmpFunc__ops_group, i_slices_stableCmpFunc__ops_group), (n_ops_total_add, i_ops_total_add), (n_ops_total_val, i_ops_total_val), (n_exprs_kids, i_exprs_kids), (n_exprs_kind, i_exprs_kind), (n_slices_rotateCmpFunc__P_window_line, i_slices_rotateCmpFunc__P_window_line), (n_cmp_isNaN__int64, i_cmp_isNaN__int64), (n_bytealg_CompareString, i_bytealg_CompareString), (n_slices_IndexFunc__api_ZRow, i_slices_IndexFunc__api_ZRow), (n_slices_stableCmpFunc__api_ZRow, i_slices_stableCmpFunc__api_ZRow), (n_vals_alike, i_vals_alike), (n_slices_insertionSortCmpFunc__ops_group, i_slices_insertionSortCmpFunc__ops_group), (n_slices_symMergeCmpFunc__ops_group, i_slices_symMergeCmpFunc__ops_group), (n_exprs_all, i_exprs_all), (n_exprs_one, i_exprs_one), (n_slices_swapRangeCmpFunc__P_window_line, i_slices_swapRangeCmpFunc__P_window_line), (n_slices_insertionSortCmpFunc__api_ZRow, i_slices_insertionSortCmpFunc__api_ZRow), (n_slices_symMergeCmpFunc__api_ZRow, i_slices_symMergeCmpFunc__api_ZRow), (n_slices_rotateCmpFunc__ops_group, i_slices_rotateCmpFunc__ops_group), (n_slices_rotateCmpFunc__api_ZRow, i_slices_rotateCmpFunc__api_ZRow), (n_slices_swapRangeCmpFunc__ops_group, i_slices_swapRangeCmpFunc__ops_group), (n_slices_swapRangeCmpFunc__api_ZRow, i_slices_swapRangeCmpFunc__api_ZRow)]
def Γ (f : Nat) : Option IFn := look tbl f
theorem g_tidelaw15_WindowParts : Γ n_tidelaw15_WindowParts = some i_tidelaw15_WindowParts := rfl
theorem g_tidelaw15_WindowKeeps : Γ n_tidelaw15_WindowKeeps = some i_tidelaw15_WindowKeeps := rfl
theorem g_tidelaw15_WindowLast : Γ n_tidelaw15_WindowLast = some i_tidelaw15_WindowLast := rfl
theorem g_tidelaw15_alive : Γ n_tidelaw15_alive = some i_tidelaw15_alive := rfl
theorem g_window_Window : Γ n_window_Window = some i_window_Window := rfl
theorem g_tidelaw15_col : Γ n_tidelaw15_col = some i_tidelaw15_col := rfl
theorem g_ops_Filter : Γ n_ops_Filter = some i_ops_Filter := rfl
theorem g_tideref1_Is : Γ n_tideref1_Is = some i_tideref1_Is := rfl
theorem g_tideref1_Equal : Γ n_tideref1_Equal = some i_tideref1_Equal := rfl
theorem g_tideref2_Same : Γ n_tideref2_Same = some i_tideref2_Same := rfl
theorem g_zsets_Positive : Γ n_zsets_Positive = some i_zsets_Positive := rfl
theorem g_tidelaw15_cut : Γ n_tidelaw15_cut = some i_tidelaw15_cut := rfl
theorem g_ops_Group : Γ n_ops_Group = some i_ops_Group := rfl
theorem g_tidelaw15_num : Γ n_tidelaw15_num = some i_tidelaw15_num := rfl
theorem g_ops_Types : Γ n_ops_Types = some i_ops_Types := rfl
theorem g_window_Types : Γ n_window_Types = some i_window_Types := rfl
theorem g_ops_Input : Γ n_ops_Input = some i_ops_Input := rfl
theorem g_ops_Values : Γ n_ops_Values = some i_ops_Values := rfl
theorem g_slices_SortStableFunc__P_window_line : Γ n_slices_SortStableFunc__P_window_line = some i_slices_SortStableFunc__P_window_line := rfl
theorem g_window_Window_1 : Γ n_window_Window_1 = some i_window_Window_1 := rfl
theorem g_vals_Rows : Γ n_vals_Rows = some i_vals_Rows := rfl
theorem g_window_teller_tell : Γ n_window_teller_tell = some i_window_teller_tell := rfl
theorem g_zsets_Sum : Γ n_zsets_Sum = some i_zsets_Sum := rfl
theorem g_cmp_Or__api_Errno : Γ n_cmp_Or__api_Errno = some i_cmp_Or__api_Errno := rfl
theorem g_ops_truth : Γ n_ops_truth = some i_ops_truth := rfl
theorem g_vals_True : Γ n_vals_True = some i_vals_True := rfl
theorem g_exprs_Of : Γ n_exprs_Of = some i_exprs_Of := rfl
theorem g_tideref1_Null : Γ n_tideref1_Null = some i_tideref1_Null := rfl
theorem g_tideref1_Truth : Γ n_tideref1_Truth = some i_tideref1_Truth := rfl
theorem g_tideref1_Order : Γ n_tideref1_Order = some i_tideref1_Order := rfl
theorem g_zsets_each : Γ n_zsets_each = some i_zsets_each := rfl
theorem g_zsets_Positive_1 : Γ n_zsets_Positive_1 = some i_zsets_Positive_1 := rfl
theorem g_zsets_Of : Γ n_zsets_Of = some i_zsets_Of := rfl
theorem g_ops_AggTypes : Γ n_ops_AggTypes = some i_ops_AggTypes := rfl
theorem g_ops_Grouped : Γ n_ops_Grouped = some i_ops_Grouped := rfl
theorem g_exprs_Type : Γ n_exprs_Type = some i_exprs_Type := rfl
theorem g_zsets_Wrong : Γ n_zsets_Wrong = some i_zsets_Wrong := rfl
theorem g_exprs_Fits : Γ n_exprs_Fits = some i_exprs_Fits := rfl
theorem g_slices_stableCmpFunc__P_window_line : Γ n_slices_stableCmpFunc__P_window_line = some i_slices_stableCmpFunc__P_window_line := rfl
theorem g_vals_Compare : Γ n_vals_Compare = some i_vals_Compare := rfl
theorem g_cmp_Compare__int : Γ n_cmp_Compare__int = some i_cmp_Compare__int := rfl
theorem g_slices_Clone__api_Val : Γ n_slices_Clone__api_Val = some i_slices_Clone__api_Val := rfl
theorem g_vals_Int : Γ n_vals_Int = some i_vals_Int := rfl
theorem g_vals_Null : Γ n_vals_Null = some i_vals_Null := rfl
theorem g_zsets_Fit : Γ n_zsets_Fit = some i_zsets_Fit := rfl
theorem g_zsets_Total : Γ n_zsets_Total = some i_zsets_Total := rfl
theorem g_vals_rank : Γ n_vals_rank = some i_vals_rank := rfl
theorem g_exprs_Of_1 : Γ n_exprs_Of_1 = some i_exprs_Of_1 := rfl
theorem g_vals_Bare : Γ n_vals_Bare = some i_vals_Bare := rfl
theorem g_vals_Not : Γ n_vals_Not = some i_vals_Not := rfl
theorem g_vals_And : Γ n_vals_And = some i_vals_And := rfl
theorem g_vals_Or : Γ n_vals_Or = some i_vals_Or := rfl
theorem g_vals_Reckon : Γ n_vals_Reckon = some i_vals_Reckon := rfl
theorem g_vals_Join : Γ n_vals_Join = some i_vals_Join := rfl
theorem g_vals_Bool : Γ n_vals_Bool = some i_vals_Bool := rfl
theorem g_exprs_compared : Γ n_exprs_compared = some i_exprs_compared := rfl
theorem g_zsets_right : Γ n_zsets_right = some i_zsets_right := rfl
theorem g_zsets_bare : Γ n_zsets_bare = some i_zsets_bare := rfl
theorem g_zsets_row : Γ n_zsets_row = some i_zsets_row := rfl
theorem g_zsets_weight : Γ n_zsets_weight = some i_zsets_weight := rfl
theorem g_slices_SortStableFunc__ops_group : Γ n_slices_SortStableFunc__ops_group = some i_slices_SortStableFunc__ops_group := rfl
theorem g_ops_Grouped_1 : Γ n_ops_Grouped_1 = some i_ops_Grouped_1 := rfl
theorem g_ops_aggregate : Γ n_ops_aggregate = some i_ops_aggregate := rfl
theorem g_exprs_looker_typ : Γ n_exprs_looker_typ = some i_exprs_looker_typ := rfl
theorem g_vals_Wrong : Γ n_vals_Wrong = some i_vals_Wrong := rfl
theorem g_slices_insertionSortCmpFunc__P_window_line : Γ n_slices_insertionSortCmpFunc__P_window_line = some i_slices_insertionSortCmpFunc__P_window_line := rfl
theorem g_slices_symMergeCmpFunc__P_window_line : Γ n_slices_symMergeCmpFunc__P_window_line = some i_slices_symMergeCmpFunc__P_window_line := rfl
theorem g_cmp_Or__int : Γ n_cmp_Or__int = some i_cmp_Or__int := rfl
theorem g_cmp_Compare__int64 : Γ n_cmp_Compare__int64 = some i_cmp_Compare__int64 := rfl
theorem g_strings_Compare : Γ n_strings_Compare = some i_strings_Compare := rfl
theorem g_cmp_isNaN__int : Γ n_cmp_isNaN__int = some i_cmp_isNaN__int := rfl
theorem g_slices_ContainsFunc__api_ZRow : Γ n_slices_ContainsFunc__api_ZRow = some i_slices_ContainsFunc__api_ZRow := rfl
theorem g_zsets_Fit_1 : Γ n_zsets_Fit_1 = some i_zsets_Fit_1 := rfl
theorem g_slices_SortStableFunc__api_ZRow : Γ n_slices_SortStableFunc__api_ZRow = some i_slices_SortStableFunc__api_ZRow := rfl
theorem g_zsets_Total_1 : Γ n_zsets_Total_1 = some i_zsets_Total_1 := rfl
theorem g_vals_ranked : Γ n_vals_ranked = some i_vals_ranked := rfl
theorem g_vals_Equal : Γ n_vals_Equal = some i_vals_Equal := rfl
theorem g_vals_Less : Γ n_vals_Less = some i_vals_Less := rfl
theorem g_slices_stableCmpFunc__ops_group : Γ n_slices_stableCmpFunc__ops_group = some i_slices_stableCmpFunc__ops_group := rfl
theorem g_ops_total_add : Γ n_ops_total_add = some i_ops_total_add := rfl
theorem g_ops_total_val : Γ n_ops_total_val = some i_ops_total_val := rfl
theorem g_exprs_kids : Γ n_exprs_kids = some i_exprs_kids := rfl
theorem g_exprs_kind : Γ n_exprs_kind = some i_exprs_kind := rfl
theorem g_slices_rotateCmpFunc__P_window_line : Γ n_slices_rotateCmpFunc__P_window_line = some i_slices_rotateCmpFunc__P_window_line := rfl
theorem g_cmp_isNaN__int64 : Γ n_cmp_isNaN__int64 = some i_cmp_isNaN__int64 := rfl
theorem g_bytealg_CompareString : Γ n_bytealg_CompareString = some i_bytealg_CompareString := rfl
theorem g_slices_IndexFunc__api_ZRow : Γ n_slices_IndexFunc__api_ZRow = some i_slices_IndexFunc__api_ZRow := rfl
theorem g_slices_stableCmpFunc__api_ZRow : Γ n_slices_stableCmpFunc__api_ZRow = some i_slices_stableCmpFunc__api_ZRow := rfl
theorem g_vals_alike : Γ n_vals_alike = some i_vals_alike := rfl
theorem g_slices_insertionSortCmpFunc__ops_group : Γ n_slices_insertionSortCmpFunc__ops_group = some i_slices_insertionSortCmpFunc__ops_group := rfl
theorem g_slices_symMergeCmpFunc__ops_group : Γ n_slices_symMergeCmpFunc__ops_group = some i_slices_symMergeCmpFunc__ops_group := rfl
theorem g_exprs_all : Γ n_exprs_all = some i_exprs_all := rfl
theorem g_exprs_one : Γ n_exprs_one = some i_exprs_one := rfl
theorem g_slices_swapRangeCmpFunc__P_window_line : Γ n_slices_swapRangeCmpFunc__P_window_line = some i_slices_swapRangeCmpFunc__P_window_line := rfl
theorem g_slices_insertionSortCmpFunc__api_ZRow : Γ n_slices_insertionSortCmpFunc__api_ZRow = some i_slices_insertionSortCmpFunc__api_ZRow := rfl
theorem g_slices_symMergeCmpFunc__api_ZRow : Γ n_slices_symMergeCmpFunc__api_ZRow = some i_slices_symMergeCmpFunc__api_ZRow := rfl
theorem g_slices_rotateCmpFunc__ops_group : Γ n_slices_rotateCmpFunc__ops_group = some i_slices_rotateCmpFunc__ops_group := rfl
theorem g_slices_rotateCmpFunc__api_ZRow : Γ n_slices_rotateCmpFunc__api_ZRow = some i_slices_rotateCmpFunc__api_ZRow := rfl
theorem g_slices_swapRangeCmpFunc__ops_group : Γ n_slices_swapRangeCmpFunc__ops_group = some i_slices_swapRangeCmpFunc__ops_group := rfl
theorem g_slices_swapRangeCmpFunc__api_ZRow : Γ n_slices_swapRangeCmpFunc__api_ZRow = some i_slices_swapRangeCmpFunc__api_ZRow := rfl
end Go.Tide

/- The data of the program, in plain Lean, and how they are told as abstract values. -/
set_option linter.unusedVariables false
namespace Go.Tide

structure Val where
  kind : Int
  n : Int
  text : ByteArray
  deriving DecidableEq, Inhabited

abbrev Row := List Val

structure ZRow where
  row : Row
  w : Int
  deriving Inhabited

abbrev ZSet := List ZRow

inductive Expr where
  | mk (kind : Int) (val : Val) (col : Int) (kids : List Expr)

def Expr.kind : Expr → Int | .mk k _ _ _ => k
def Expr.val : Expr → Val | .mk _ v _ _ => v
def Expr.col : Expr → Int | .mk _ _ c _ => c
def Expr.kids : Expr → List Expr | .mk _ _ _ l => l

/-- An aggregate, or what a window tells. -/
structure Agg where
  kind : Int
  x : Expr

inductive Plan where
  | mk (kind : Int) (n : Int) (x : Expr) (xs : List Expr) (aggs : List Agg) (kids : List Plan)

def Plan.kind : Plan → Int | .mk k _ _ _ _ _ => k
def Plan.n : Plan → Int | .mk _ n _ _ _ _ => n
def Plan.x : Plan → Expr | .mk _ _ x _ _ _ => x
def Plan.xs : Plan → List Expr | .mk _ _ _ l _ _ => l
def Plan.aggs : Plan → List Agg | .mk _ _ _ _ l _ => l
def Plan.kids : Plan → List Plan | .mk _ _ _ _ _ l => l

/-! ### told as cells -/

abbrev aI (n : Int) : A := .int .i64 n
abbrev encI (n : Int) : List A := [.int .i64 n]
abbrev encB (b : Bool) : List A := [.bool b]
abbrev encV (v : Val) : List A := [.int .i64 v.kind, .int .i64 v.n, .str v.text]
abbrev aV (v : Val) : A := .agg (encV v)
abbrev encR (r : Row) : List A := [.sl (r.map encV)]
abbrev aR (r : Row) : A := .sl (r.map encV)
abbrev encZ (z : ZRow) : List A := [.sl (z.row.map encV), .int .i64 z.w]
abbrev aZ (z : ZRow) : A := .agg (encZ z)
abbrev aS (z : ZSet) : A := .sl (z.map encZ)
abbrev encS (z : ZSet) : List A := [.sl (z.map encZ)]

mutual
def encE : Expr → List A
  | .mk k v c l => [.int .i64 k, .int .i64 v.kind, .int .i64 v.n, .str v.text, .int .i64 c, .sl (encEs l)]
def encEs : List Expr → List (List A)
  | [] => []
  | x :: r => encE x :: encEs r
end
theorem encEs_map (l : List Expr) : encEs l = l.map encE := by
  induction l with
  | nil => rfl
  | cons x r ih => rw [encEs, ih]; rfl

abbrev encG (a : Agg) : List A := .int .i64 a.kind :: encE a.x

mutual
def encP : Plan → List A
  | .mk k n x xs ags l => .int .i64 k :: .int .i64 n :: (encE x ++ [.sl (encEs xs), .sl (ags.map encG), .sl (encPs l)])
def encPs : List Plan → List (List A)
  | [] => []
  | x :: r => encP x :: encPs r
end
theorem encPs_map (l : List Plan) : encPs l = l.map encP := by
  induction l with
  | nil => rfl
  | cons x r ih => rw [encPs, ih]; rfl

abbrev aE (x : Expr) : A := .agg (encE x)
abbrev pE (x : Expr) : A := .pim (encE x) 0
abbrev aEs (l : List Expr) : A := .sl (encEs l)
abbrev aP (x : Plan) : A := .agg (encP x)
abbrev pP (x : Plan) : A := .pim (encP x) 0
abbrev aIs (l : List Int) : A := .sl (l.map encI)

/-- In 64 bits. -/
def I64 (n : Int) : Prop := -9223372036854775808 ≤ n ∧ n ≤ 9223372036854775807

end Go.Tide

/- Values, in plain Lean: what is reckoned with them. -/
set_option linter.unusedVariables false
namespace Go.Tide

abbrev bE : ByteArray := ⟨#[]⟩
def maxInt : Int := 1000000000000000

/-- The order of texts, byte by byte. -/
def cmpB (a b : ByteArray) : Int := if Op.bytesLess a.toList b.toList then -1 else if a.toList == b.toList then 0 else 1

def cmpI (a b : Int) : Int := if a < b then -1 else if b < a then 1 else 0

def orI : List Int → Int
  | [] => 0
  | a :: r => if a ≠ 0 then a else orI r

namespace Val
def null : Val := ⟨1, 0, bE⟩
def ofBool (b : Bool) : Val := ⟨2, if b then 1 else 0, bE⟩
def ofInt (n : Int) : Val := if maxInt < n ∨ n < -maxInt then null else ⟨3, n, bE⟩
def bare (v : Val) : Val := if v.kind = 1 then null else if v.kind = 4 then ⟨4, 0, v.text⟩ else ⟨v.kind, v.n, bE⟩
def cmp (a b : Val) : Int := orI [cmpI a.bare.kind b.bare.kind, cmpI a.bare.n b.bare.n, cmpB a.bare.text b.bare.text]
def eqv (a b : Val) : Val := if a.kind = b.kind ∧ a.kind ≠ 1 then ofBool (a.cmp b == 0) else null
def less (a b : Val) : Val := if a.kind = b.kind ∧ a.kind ≠ 1 then ofBool (decide (a.cmp b < 0)) else null
def rank (v : Val) : Int := if v.kind ≠ 2 then 1 else IntKind.wrap .i64 (2 * v.n)
def ranked (n : Int) : Val := if n = 1 then null else ofBool (n == 2)
def and (a b : Val) : Val := ranked (if b.rank < a.rank then b.rank else a.rank)
def or (a b : Val) : Val := ranked (if b.rank > a.rank then b.rank else a.rank)
def not (a : Val) : Val := ranked (IntKind.wrap .i64 (2 - a.rank))
def isTrue (a : Val) : Bool := a.rank == 2
def wrong (v : Val) : Int :=
  if v.kind = 1 then 0 else if v.kind = 2 then (if v.n ≠ 0 ∧ v.n ≠ 1 then 3 else 0) else if v.kind = 3 then (if maxInt < v.n ∨ v.n < -maxInt then 3 else 0)
  else if v.kind = 4 then (if 60 < v.text.size then 4 else 0) else 1
def right (v : Val) : Prop := v.wrong = 0
def join (a b : Val) : Val := if a.kind = 4 ∧ b.kind = 4 ∧ a.text.size + b.text.size ≤ 60 then ⟨4, 0, a.text ++ b.text⟩ else null
def reckon (s : Int) (a b : Val) : Val :=
  if a.kind = 3 ∧ b.kind = 3 then (if s = 43 then ofInt (a.n + b.n) else if s = 45 then ofInt (a.n - b.n) else if s = 42 then ofInt (a.n * b.n) else null) else null
theorem right_text {v : Val} (h : v.right) (hk : v.kind = 4) : v.text.size ≤ 60 := by
  unfold right wrong at h
  rw [hk] at h
  simp at h
  exact h
theorem right_int {v : Val} (h : v.right) (hk : v.kind = 3) : -1000000000000000 ≤ v.n ∧ v.n ≤ 1000000000000000 := by
  unfold right wrong at h
  rw [hk] at h
  simp [maxInt] at h
  omega
end Val

def rowCmp : Row → Row → Int
  | [], [] => 0
  | [], _ :: _ => -1
  | _ :: _, [] => 1
  | a :: r, b :: s => if a.cmp b ≠ 0 then a.cmp b else rowCmp r s

end Go.Tide

/- Calls of this program's functions. -/
set_option linter.unusedVariables false
namespace Go.Tide

/-- What has no body here. -/
def Base : CallSem := fun f as x K => f = n_bytealg_abigen_runtime_cmpstring ∧ match as with
  | [.str a, .str b] => K [.int .i64 (cmpB a b)] x
  | _ => False

theorem Base_mono : CMono Base Base := by
  intro f as x K K' h hb
  unfold Base at hb ⊢
  refine ⟨hb.1, ?_⟩
  have h2 := hb.2
  split at h2
  · exact h _ _ h2
  · exact h2

abbrev CC : CallSem := Call Γ Base

theorem fnc {f : Nat} {fn : IFn} (hf : Γ f = some fn) {as : List A} {x : Sto} {K : List A → Sto → Prop} (hn : as.length = fn.nargs) (h : wpc CC fn.code (fnQ fn.res K) ⟨initE as 0, fun _ => none, x⟩) : CC f as x K :=
  Call_fn Base_mono hf hn h

theorem loop {c : IC} {Q : Ex → St → Prop} {ι : Type} (S : ι → St) (μ : ι → Nat) (I : ι → Prop)
    (step : ∀ i, I i → (∀ j, I j → μ j < μ i → Loop (wpc CC c) Q (S j)) → wpc CC c (thenQ (Loop (wpc CC c) Q) Q) (S i)) : ∀ i, I i → Loop (wpc CC c) Q (S i) :=
  Loop_rec Base_mono S μ I step

end Go.Tide

/- What has no body: two texts compared. The abstract call is the real one. -/
set_option linter.unusedVariables false
namespace Go.Tide

theorem bytes_list (s : ByteArray) : s.toList = s.data.toList := ByteArray.toList_eq s

theorem compareBytes_eq : ∀ a b : List UInt8, Lib.compareBytes a b = if Op.bytesLess a b then -1 else if a == b then 0 else 1
  | [], [] => by simp [Lib.compareBytes, Op.bytesLess]
  | [], _ :: _ => by simp [Lib.compareBytes, Op.bytesLess]
  | _ :: _, [] => by simp [Lib.compareBytes, Op.bytesLess]
  | a :: as, b :: bs => by
    rw [Lib.compareBytes, Op.bytesLess, compareBytes_eq as bs]
    by_cases h : a < b
    · simp [h]
    · by_cases h2 : b < a
      · have hne : ¬ a = b := fun e => by subst e; exact h h2
        simp [h, h2, hne]
      · have e : a = b := UInt8.le_antisymm (UInt8.not_lt.1 h2) (UInt8.not_lt.1 h)
        subst e
        simp [h]

theorem csem_compare {P : Program} {f : Nat} {fn : Func} (hf : P.funcs[f]? = some fn) (hname : (fn.name == "runtime.NumGoroutine") = false) (hb : fn.body.isNone = true) (hn : Extern.findNext fn = none)
    (he : Extern.find fn = some Extern.BytealgCompare.compare) {a b : ByteArray} {x : Sto} {K : List A → Sto → Prop} (h : K [.int .i64 (cmpB a b)] x) : CSem P f [.str a, .str b] x K := by
  intro vals w Z κ hin
  have h0 := (hin.args 0 (.str a) rfl).str_inv.1
  have h1 := (hin.args 1 (.str b) rfl).str_inv.1
  have hs : vals.size = 2 := hin.size
  obtain ⟨v0, v1, rfl⟩ : ∃ v0 v1, vals = #[v0, v1] := by
    obtain ⟨l⟩ := vals
    match l, hs with
    | [a, b], _ => exact ⟨_, _, rfl⟩
  change v0 = _ at h0
  change v1 = _ at h1
  subst h0
  subst h1
  unfold Enters
  rw [run_callFunc_extern hf hname hb hn he, Lib.run_compareString]
  simp only [Result.andThen]
  refine ⟨_, x, xob x, κ, #[.int .i64 (cmpB a b)], h, ⟨fun _ => rfl, hin.hold, fun i o b off hi ho => ?_, Frame.refl _ _, fun n => LikeAt.refl _ _, rfl, ?_, fun j y hy => ?_⟩⟩
  · cases i with
    | U n => exact .inl ⟨n, o, hi, ho⟩
    | L n => cases hi
  · simp only [List.size_toArray, List.length_cons, List.length_nil, Nat.zero_add, dite_true]
    rw [compareBytes_eq]
    simp [cmpB, bytes_list]
  · cases j with
    | zero =>
      simp only [List.getElem?_cons_zero, Option.some.injEq] at hy
      subst hy
      exact .imm _ _ (.int _ _)
    | succ j => simp at hy

/-- What the base says holds of the real call. -/
theorem base_sound {P : Program} {fn : Func} (hf : P.funcs[n_bytealg_abigen_runtime_cmpstring]? = some fn) (hname : (fn.name == "runtime.NumGoroutine") = false) (hb : fn.body.isNone = true) (hn : Extern.findNext fn = none)
    (he : Extern.find fn = some Extern.BytealgCompare.compare) : ∀ f as x K, Base f as x K → CSem P f as x K := by
  intro f as x K h
  obtain ⟨rfl, h⟩ := h
  split at h
  · exact csem_compare hf hname hb hn he h
  · exact h.elim

/-- A function with a body is entered. -/
theorem run_enters {P : Program} {f : Nat} {fn : Func} (hf : P.funcs[f]? = some fn) (hname : (fn.name == "runtime.NumGoroutine") = false) (hb : fn.body.isNone = false) (args : Array Value) (w : World) :
    (callFunc f args).run P w = .ok (.enter f args) w := by
  have h1 : fn.name ≠ "runtime.NumGoroutine" := by simpa using hname
  have h2 : ¬ fn.body = none := fun e => by rw [e] at hb; cases hb
  simp [callFunc, hf, h1, h2]
end Go.Tide

/- Plain data of the program's types, as lists of values, rows, expressions. -/
set_option linter.unusedVariables false
namespace Go.Tide
variable {P : Program}

theorem Ty.int_is {t : TypeId} {k : IntKind} {as : List A} (hu : P.underlying t = some (.int k)) (h : Ty P t as) : ∃ n, as = [.int k n] ∧ (Lit.int k n).wf = true := by
  cases h with
  | bool b h => rw [hu] at h; cases h
  | int n h hw => rw [hu] at h; cases h; exact ⟨n, rfl, hw⟩
  | str s h => rw [hu] at h; cases h
  | slice xs h => rw [hu] at h; cases h
  | struct ps h => rw [hu] at h; cases h

theorem Ty.str_is {t : TypeId} {as : List A} (hu : P.underlying t = some .string) (h : Ty P t as) : ∃ s, as = [.str s] ∧ s.size ≤ maxLen := by
  cases h with
  | bool b h => rw [hu] at h; cases h
  | int n h hw => rw [hu] at h; cases h
  | str s h hs => exact ⟨s, rfl, hs⟩
  | slice xs h => rw [hu] at h; cases h
  | struct ps h => rw [hu] at h; cases h

theorem Ty.sl_is {t e : TypeId} {as : List A} (hu : P.underlying t = some (.slice e)) (h : Ty P t as) : ∃ xs, as = [.sl xs] ∧ ∀ x ∈ xs, Ty P e x := by
  cases h with
  | bool b h => rw [hu] at h; cases h
  | int n h hw => rw [hu] at h; cases h
  | str s h => rw [hu] at h; cases h
  | slice xs h hx => rw [hu] at h; cases h; exact ⟨xs, rfl, hx⟩
  | struct ps h => rw [hu] at h; cases h

/-- Parts, one for each field's type. -/
def Parts (P : Program) : List TypeId → List (List A) → Prop
  | [], [] => True
  | t :: ts, p :: ps => Ty P t p ∧ Parts P ts ps
  | _, _ => False

theorem parts_of : ∀ (fs : List Field) (parts : List (List A)), parts.length = fs.length → (∀ (j : Nat) (f : Field) (p : List A), fs[j]? = some f → parts[j]? = some p → Ty P f.type p) → Parts P (fs.map (·.type)) parts
  | [], [], _, _ => trivial
  | f :: fs, p :: ps, hl, h => ⟨h 0 f p rfl rfl, parts_of fs ps (by simpa using hl) fun j g q hg hq => h (j + 1) g q (by simpa using hg) (by simpa using hq)⟩
  | [], _ :: _, hl, _ => by simp at hl
  | _ :: _, [], hl, _ => by simp at hl

theorem Ty.st_is {t : TypeId} {fs : Array Field} {as : List A} (hu : P.underlying t = some (.struct fs)) (h : Ty P t as) : ∃ parts, as = parts.flatten ∧ Parts P (fs.toList.map (·.type)) parts := by
  cases h with
  | bool b h => rw [hu] at h; cases h
  | int n h hw => rw [hu] at h; cases h
  | str s h => rw [hu] at h; cases h
  | slice xs h => rw [hu] at h; cases h
  | struct ps h hl hp => rw [hu] at h; cases h; exact ⟨ps, rfl, parts_of _ _ (by simpa using hl) fun j f p hf hq => hp j f p (by simpa using hf) hq⟩

theorem list_enc {α : Type} {enc : α → List A} : ∀ {xs : List (List A)}, (∀ x ∈ xs, ∃ y, x = enc y) → ∃ ys : List α, xs = ys.map enc
  | [], _ => ⟨[], rfl⟩
  | x :: xs, h => by
    obtain ⟨y, rfl⟩ := h x (by simp)
    obtain ⟨ys, rfl⟩ := list_enc fun x hx => h x (List.mem_cons_of_mem _ hx)
    exact ⟨y :: ys, rfl⟩

/-- The same, with a bound of each. -/
theorem list_encP {α : Type} {enc : α → List A} {Q : α → Prop} : ∀ {xs : List (List A)}, (∀ x ∈ xs, ∃ y, x = enc y ∧ Q y) → ∃ ys : List α, xs = ys.map enc ∧ ∀ y ∈ ys, Q y
  | [], _ => ⟨[], rfl, by simp⟩
  | x :: xs, h => by
    obtain ⟨y, rfl, hq⟩ := h x (by simp)
    obtain ⟨ys, rfl, hy⟩ := list_encP fun x hx => h x (List.mem_cons_of_mem _ hx)
    exact ⟨y :: ys, rfl, by simpa using ⟨hq, hy⟩⟩

/-! ### The program's types -/

/-- The places of the program's types among a translation's. -/
structure Api where
  int64 : TypeId
  int : TypeId
  str : TypeId
  ints : TypeId
  val : TypeId
  vals : TypeId
  zrow : TypeId
  zset : TypeId
  expr : TypeId
  exprs : TypeId
  win : TypeId
  wins : TypeId

def typesOf (fs : Array Field) : List TypeId := fs.toList.map (·.type)

def isInt (P : Program) (t : TypeId) : Bool := match P.underlying t with | some (.int .i64) => true | _ => false
def isStr (P : Program) (t : TypeId) : Bool := match P.underlying t with | some .string => true | _ => false
def isSl (P : Program) (t e : TypeId) : Bool := match P.underlying t with | some (.slice e') => e' == e | _ => false
def isSt (P : Program) (t : TypeId) (ts : List TypeId) : Bool := match P.underlying t with | some (.struct fs) => typesOf fs == ts | _ => false

theorem isInt_eq {t : TypeId} (h : isInt P t = true) : P.underlying t = some (.int .i64) := by
  unfold isInt at h; split at h <;> first | assumption | cases h
theorem isStr_eq {t : TypeId} (h : isStr P t = true) : P.underlying t = some .string := by
  unfold isStr at h; split at h <;> first | assumption | cases h
theorem isSl_eq {t e : TypeId} (h : isSl P t e = true) : P.underlying t = some (.slice e) := by
  unfold isSl at h
  split at h
  · rename_i e' he
    rw [he, eq_of_beq h]
  · cases h
theorem isSt_eq {t : TypeId} {ts : List TypeId} (h : isSt P t ts = true) : ∃ fs : Array Field, P.underlying t = some (.struct fs) ∧ fs.toList.map (·.type) = ts := by
  unfold isSt at h
  split at h
  · rename_i fs he
    exact ⟨fs, he, eq_of_beq h⟩
  · cases h

/-- The types are what they are. -/
def apiOk (P : Program) (a : Api) : Bool :=
  isInt P a.int64 && isInt P a.int && isStr P a.str && isSl P a.ints a.int && isSt P a.val [a.int, a.int64, a.str] && isSl P a.vals a.val && isSt P a.zrow [a.vals, a.int64] && isSl P a.zset a.zrow &&
  isSt P a.expr [a.int, a.val, a.int, a.exprs] && isSl P a.exprs a.expr && isSt P a.win [a.int, a.expr] && isSl P a.wins a.win

section
variable {a : Api} (ha : apiOk P a = true)
include ha

theorem ty_ints {as : List A} (h : Ty P a.ints as) : ∃ l : List Int, as = [aIs l] := by
  simp only [apiOk, Bool.and_eq_true] at ha
  obtain ⟨xs, rfl, hx⟩ := h.sl_is (isSl_eq ha.1.1.1.1.1.1.1.1.2)
  obtain ⟨l, rfl⟩ := list_enc (enc := encI) fun x hx' => by
    obtain ⟨n, e, _⟩ := (hx x hx').int_is (isInt_eq ha.1.1.1.1.1.1.1.1.1.1.2)
    exact ⟨n, e⟩
  exact ⟨l, rfl⟩

theorem ty_val {as : List A} (h : Ty P a.val as) : ∃ v : Val, as = encV v := by
  simp only [apiOk, Bool.and_eq_true] at ha
  obtain ⟨fs, hu, hf⟩ := isSt_eq ha.1.1.1.1.1.1.1.2
  obtain ⟨parts, rfl, hp⟩ := h.st_is hu
  rw [hf] at hp
  match parts, hp with
  | [p, q, r], ⟨h1, h2, h3, _⟩ =>
    obtain ⟨k, rfl, _⟩ := h1.int_is (isInt_eq ha.1.1.1.1.1.1.1.1.1.1.2)
    obtain ⟨n, rfl, _⟩ := h2.int_is (isInt_eq ha.1.1.1.1.1.1.1.1.1.1.1)
    obtain ⟨s, rfl, _⟩ := h3.str_is (isStr_eq ha.1.1.1.1.1.1.1.1.1.2)
    exact ⟨⟨k, n, s⟩, rfl⟩

theorem ty_row {as : List A} (h : Ty P a.vals as) : ∃ r : Row, as = encR r := by
  have ha' := ha
  simp only [apiOk, Bool.and_eq_true] at ha'
  obtain ⟨xs, rfl, hx⟩ := h.sl_is (isSl_eq ha'.1.1.1.1.1.1.2)
  obtain ⟨l, rfl⟩ := list_enc (enc := encV) fun x hx' => ty_val ha (hx x hx')
  exact ⟨l, rfl⟩

theorem ty_zrow {as : List A} (h : Ty P a.zrow as) : ∃ z : ZRow, as = encZ z := by
  have ha' := ha
  simp only [apiOk, Bool.and_eq_true] at ha'
  obtain ⟨fs, hu, hf⟩ := isSt_eq ha'.1.1.1.1.1.2
  obtain ⟨parts, rfl, hp⟩ := h.st_is hu
  rw [hf] at hp
  match parts, hp with
  | [p, q], ⟨h1, h2, _⟩ =>
    obtain ⟨r, rfl⟩ := ty_row ha h1
    obtain ⟨n, rfl, _⟩ := h2.int_is (isInt_eq ha'.1.1.1.1.1.1.1.1.1.1.1)
    exact ⟨⟨r, n⟩, rfl⟩

theorem ty_zset {as : List A} (h : Ty P a.zset as) : ∃ z : ZSet, as = [aS z] := by
  have ha' := ha
  simp only [apiOk, Bool.and_eq_true] at ha'
  obtain ⟨xs, rfl, hx⟩ := h.sl_is (isSl_eq ha'.1.1.1.1.2)
  obtain ⟨l, rfl⟩ := list_enc (enc := encZ) fun x hx' => ty_zrow ha (hx x hx')
  exact ⟨l, rfl⟩

theorem ty_expr2 {t : TypeId} {as : List A} (h : Ty P t as) : (t = a.expr → ∃ x : Expr, as = encE x) ∧ (t = a.exprs → ∃ l : List Expr, as = [aEs l]) := by
  have ha' := ha
  simp only [apiOk, Bool.and_eq_true] at ha'
  obtain ⟨fs0, hu0, hf0⟩ := isSt_eq ha'.1.1.1.2
  have hu1 := isSl_eq ha'.1.1.2
  induction h with
  | bool b h => exact ⟨fun e => (by rw [e, hu0] at h; cases h), fun e => (by rw [e, hu1] at h; cases h)⟩
  | int n h hw => exact ⟨fun e => (by rw [e, hu0] at h; cases h), fun e => (by rw [e, hu1] at h; cases h)⟩
  | str s h => exact ⟨fun e => (by rw [e, hu0] at h; cases h), fun e => (by rw [e, hu1] at h; cases h)⟩
  | slice xs h hx ih =>
    refine ⟨fun e => (by rw [e, hu0] at h; cases h), fun e => ?_⟩
    rw [e, hu1] at h
    cases h
    obtain ⟨l, rfl⟩ := list_enc (enc := encE) fun x hx' => (ih x hx').1 rfl
    exact ⟨l, by rw [aEs, encEs_map]⟩
  | @struct t fs ps h hl hp ih =>
    refine ⟨fun e => ?_, fun e => (by rw [e, hu1] at h; cases h)⟩
    rw [e, hu0] at h
    cases h
    have h3 := parts_of fs0.toList ps (by simpa using hl) fun j f p hf hq => hp j f p (by simpa using hf) hq
    have hk : ∀ (j : Nat) (t : TypeId) (p : List A), (fs0.toList.map (·.type))[j]? = some t → ps[j]? = some p → t = a.exprs → ∃ l : List Expr, p = [aEs l] := by
      intro j t p ht hq e
      rw [List.getElem?_map, Option.map_eq_some_iff] at ht
      obtain ⟨f, hf, rfl⟩ := ht
      exact (ih j f p (by simpa using hf) hq).2 e
    rw [hf0] at h3 hk
    match ps, h3 with
    | [p, q, r, s], ⟨h1, h2, h3, h4, _⟩ =>
      obtain ⟨k, rfl, _⟩ := h1.int_is (isInt_eq ha'.1.1.1.1.1.1.1.1.1.1.2)
      obtain ⟨v, rfl⟩ := ty_val ha h2
      obtain ⟨c, rfl, _⟩ := h3.int_is (isInt_eq ha'.1.1.1.1.1.1.1.1.1.1.2)
      obtain ⟨l, rfl⟩ := hk 3 a.exprs s rfl rfl rfl
      exact ⟨.mk k v c l, rfl⟩

theorem ty_expr {as : List A} (h : Ty P a.expr as) : ∃ x : Expr, as = encE x := (ty_expr2 ha h).1 rfl
theorem ty_exprs {as : List A} (h : Ty P a.exprs as) : ∃ l : List Expr, as = [aEs l] := (ty_expr2 ha h).2 rfl

theorem ty_win {as : List A} (h : Ty P a.win as) : ∃ g : Agg, as = encG g := by
  have ha' := ha
  simp only [apiOk, Bool.and_eq_true] at ha'
  obtain ⟨fs, hu, hf⟩ := isSt_eq ha'.1.2
  obtain ⟨parts, rfl, hp⟩ := h.st_is hu
  rw [hf] at hp
  match parts, hp with
  | [p, q], ⟨h1, h2, _⟩ =>
    obtain ⟨k, rfl, _⟩ := h1.int_is (isInt_eq ha'.1.1.1.1.1.1.1.1.1.1.2)
    obtain ⟨x, rfl⟩ := ty_expr ha h2
    exact ⟨⟨k, x⟩, by simp [encG]⟩

theorem ty_wins {as : List A} (h : Ty P a.wins as) : ∃ l : List Agg, as = [.sl (l.map encG)] := by
  have ha' := ha
  simp only [apiOk, Bool.and_eq_true] at ha'
  obtain ⟨xs, rfl, hx⟩ := h.sl_is (isSl_eq ha'.2)
  obtain ⟨l, rfl⟩ := list_enc (enc := encG) fun x hx' => ty_win ha (hx x hx')
  exact ⟨l, rfl⟩
end

/-! ### an argument, read -/

/-- A row that came in: what it leads to, and how long it is. -/
theorem arg_row {H : Type} {enc : TypeId × Value → H} {w : World} {T : List TypeId} (hT : closedT P T = true) {t e : TypeId} (hu : P.underlying t = some (.slice e)) (ht : T.contains t = true) {v : Value} {d : DataW H} {ps : List MemPlace}
    (h : DataW.Trod enc P w 0 (fun _ => true) true t v d ps) (hv : ∃ b l c, v = .slice b l c) (hb : ∀ es sp, d = .slice es sp → (es.length + sp.length) * P.bytesOf e ≤ reachBytes) :
    ∃ xs, Ty P t [.sl xs] ∧ Imm w noZone (.sl xs) v ∧ xs.length * P.bytesOf e ≤ reachBytes := by
  obtain ⟨fuel, hf⟩ := h
  obtain ⟨b, l, c, rfl⟩ := hv
  obtain ⟨as, hty, hrl⟩ := trod_imm hT fuel t _ _ ht hf
  obtain ⟨xs, rfl, hx⟩ := hty.sl_is hu
  have him := (hrl.2 0 (.sl xs) (.slice b l c) rfl rfl).1
  refine ⟨xs, hty, him, ?_⟩
  have hl : xs.length = l := by cases him; rfl
  rcases DataW.trod_slice hu hf with ⟨hcs, _⟩ | ⟨a, len, cap, elems, rest, n, hn, hcs, hx, _, hlc, _, hel, _⟩
  · simp [Value.cells] at hcs
    rw [hl, hcs.2.1, Nat.zero_mul]
    exact Nat.zero_le _
  · simp [Value.cells] at hcs
    obtain ⟨_, rfl, _⟩ := hcs
    have := hb _ _ (Prod.mk.inj hx).1
    rw [List.length_map, List.length_map] at this
    rw [hl]
    have h2 : l * P.bytesOf e ≤ (elems.length + rest.length) * P.bytesOf e := Nat.mul_le_mul_right _ (by omega)
    omega

/-- A flat value that came in: its cells. -/
theorem arg_cells {H : Type} {enc : TypeId × Value → H} {w : World} {T : List TypeId} (hT : closedT P T = true) {t : TypeId} (ht : T.contains t = true) {v : Value} {d : DataW H} {ps : List MemPlace}
    (h : DataW.Trod enc P w 0 (fun _ => true) true t v d ps) : ∃ as, Ty P t as ∧ RL w as v.cells.toList := by
  obtain ⟨fuel, hf⟩ := h
  exact trod_imm hT fuel t _ _ ht hf

/-- A struct that came in: its cells. -/
theorem arg_agg {H : Type} {enc : TypeId × Value → H} {w : World} {T : List TypeId} (hT : closedT P T = true) {t : TypeId} (ht : T.contains t = true) {v : Value} {d : DataW H} {ps : List MemPlace}
    (h : DataW.Trod enc P w 0 (fun _ => true) true t v d ps) (hv : ∃ cs, v = .agg cs ∧ cs.size = P.cellsOf t) : ∃ ys, Ty P t ys ∧ Imm w noZone (.agg ys) v := by
  obtain ⟨cs, rfl, _⟩ := hv
  obtain ⟨ys, hty, hrl⟩ := arg_cells hT ht h
  refine ⟨ys, hty, .agg ys cs ?_ ?_ ?_⟩
  · have := hrl.1
    simpa [Value.cells] using this.symm
  · intro v hv
    obtain ⟨j, hj⟩ := List.getElem?_of_mem hv
    have hl : j < ys.length := by rw [hrl.1]; exact (List.getElem?_eq_some_iff.1 hj).1
    exact (hrl.2 j _ v (List.getElem?_eq_getElem hl) hj).2
  · intro j y hy
    have hl : j < cs.toList.length := by
      have := (List.getElem?_eq_some_iff.1 hy).1
      rw [hrl.1] at this
      exact this
    have := (hrl.2 j y _ hy (List.getElem?_eq_getElem hl)).1
    have e : cs.getD j (.tuple #[]) = cs.toList[j] := by
      have : j < cs.size := by simpa using hl
      simp [Array.getD_eq_getD_getElem?, this]
    rw [e]
    exact this
end Go.Tide

/- Small laws: places in lists, numbers that fit. -/
set_option linter.unusedVariables false
namespace Go.Tide

theorem lt_drop {α : Type} {f : α → List A} {l : List α} {i : Nat} (h : (i : Int) < ((l.map f).length : Int)) : ∃ a r, l.drop i = a :: r ∧ l.drop (i + 1) = r ∧ i < l.length := by
  rw [List.length_map] at h
  have hi : i < l.length := by omega
  exact ⟨l[i], l.drop (i + 1), (List.drop_eq_getElem_cons hi), rfl, hi⟩

theorem ge_drop {α : Type} {f : α → List A} {l : List α} {i : Nat} (h : ¬ (i : Int) < ((l.map f).length : Int)) : l.drop i = [] ∧ l.length ≤ i := by
  rw [List.length_map] at h
  exact ⟨List.drop_eq_nil_of_le (by omega), by omega⟩

theorem at_drop {α : Type} (f : α → List A) {l : List α} {i : Nat} {a : α} {r : List α} (h : l.drop i = a :: r) : (l.map f)[((i : Int)).toNat]? = some (f a) := by
  have : l[i]? = some a := by
    have := List.getElem?_drop (xs := l) (i := i) (j := 0)
    rw [h] at this
    simpa using this.symm
  simp [this]

theorem tok_snoc {α : Type} (xs : List α) (y : α) : xs.length + [y].length = (xs ++ [y]).length := by simp
theorem snoc_map {α : Type} (f : α → List A) (l : List α) (a : α) {y : List A} (h : f a = y) : l.map f ++ [y] = (l ++ [a]).map f := by subst h; simp

theorem wrap_i64 {n : Int} (h : I64 n) : IntKind.wrap .i64 n = n := by
  obtain ⟨h1, h2⟩ := h
  rw [IntKind.wrap_i64]
  omega

theorem wrap_nat {n : Nat} (h : (n : Int) ≤ maxI) : IntKind.wrap .i64 (n : Int) = (n : Int) := wrap_i64 ⟨by omega, by simp only [maxI] at h; exact h⟩
theorem wrap_succ {n : Nat} (h : (n : Int) + 1 ≤ maxI) : IntKind.wrap .i64 ((n : Int) + 1) = ((n + 1 : Nat) : Int) := wrap_nat (n := n + 1) h
theorem succ_map {α : Type} {f : α → List A} {l : List α} {i : Nat} (hl : ((l.map f).length : Int) ≤ maxI) (h : i < l.length) : IntKind.wrap .i64 ((i : Int) + 1) = ((i + 1 : Nat) : Int) := by
  rw [List.length_map] at hl
  exact wrap_succ (by omega)
theorem wrap_add_size {a b : ByteArray} (hs : a.size + b.size ≤ 1000) : IntKind.wrap .i64 ((a.size : Int) + (b.size : Int)) = ((a.size + b.size : Nat) : Int) := wrap_i64 ⟨by omega, by omega⟩

/-- A product that divides back, and is small as it stands in 64 bits, is small. -/
theorem mul_back {x y : Int} (hx : x ≠ 0) (h1 : IntKind.wrap .i64 ((IntKind.wrap .i64 (x * y)).tdiv x) = y) (h2 : IntKind.wrap .i64 (x * y) ≤ maxInt) (h3 : -maxInt ≤ IntKind.wrap .i64 (x * y)) : -maxInt ≤ x * y ∧ x * y ≤ maxInt := by
  generalize IntKind.wrap .i64 (x * y) = p at h1 h2 h3
  unfold maxInt at *
  have hle : (p.tdiv x).natAbs ≤ p.natAbs := by
    rw [Int.natAbs_tdiv]
    exact Nat.div_le_self _ _
  rw [wrap_i64 ⟨by omega, by omega⟩] at h1
  have h4 : (x * y).natAbs ≤ p.natAbs := by
    rw [Int.natAbs_mul, ← h1, Int.natAbs_tdiv]
    exact Nat.mul_div_le _ _
  omega
theorem mem_drop {α : Type} {l : List α} {i : Nat} {a : α} {r : List α} (h : l.drop i = a :: r) : a ∈ l := List.mem_of_mem_drop (by rw [h]; exact List.mem_cons_self)
theorem sl_one {α : Type} (f : α → List A) (n : Nat) (hf : ∀ a, (f a).length = n) (a : α) : ∀ z ∈ [f a], z.length = n := by intro z hz; rw [List.mem_singleton.1 hz]; exact hf a
theorem map_snoc {α : Type} (f : α → List A) (l : List α) (a : α) : l.map f ++ [f a] = (l ++ [a]).map f := by simp
theorem get_elem {α : Type} {l : List α} {i : Nat} {a : α} {r : List α} (h : l.drop i = a :: r) : l[i]? = some a := by
  have := List.getElem?_drop (xs := l) (i := i) (j := 0)
  rw [h] at this
  simpa using this.symm

theorem take_snoc {α : Type} {l : List α} {i : Nat} {a : α} {r : List α} (h : l.drop i = a :: r) : l.take (i + 1) = l.take i ++ [a] := by
  rw [List.take_add_one, get_elem h]; rfl

end Go.Tide

/- Values: what each function comes to. -/
set_option linter.unusedVariables false
namespace Go.Tide
variable {x : Sto} {K : List A → Sto → Prop}

theorem s_vals_Null (h : K [aV Val.null] x) : CC n_vals_Null [] x K := by
  refine fnc g_vals_Null rfl ?_
  conv => whnf
  exact h

theorem s_tideref1_Null (h : K [aV Val.null] x) : CC n_tideref1_Null [] x K := by
  refine fnc g_tideref1_Null rfl ?_
  conv => whnf
  exact h

theorem s_vals_Bool (b : Bool) (h : K [aV (Val.ofBool b)] x) : CC n_vals_Bool [.bool b] x K := by
  refine fnc g_vals_Bool rfl ?_
  conv => whnf
  refine way (fun h1 => ?_) (fun h1 => ?_)
  all_goals conv => whnf
  · subst h1; exact h
  · subst h1; exact h

theorem s_tideref1_Truth (b : Bool) (h : K [aV (Val.ofBool b)] x) : CC n_tideref1_Truth [.bool b] x K := by
  refine fnc g_tideref1_Truth rfl ?_
  conv => whnf
  refine way (fun h1 => ?_) (fun h1 => ?_)
  all_goals conv => whnf
  · subst h1; exact h
  · subst h1; exact h

theorem s_vals_Int (n : Int) (h : K [aV (Val.ofInt n)] x) : CC n_vals_Int [aI n] x K := by
  refine fnc g_vals_Int rfl ?_
  conv => whnf
  refine way_dec (fun h1 => ?_) (fun h1 => ?_)
  all_goals conv => whnf
  · refine s_vals_Null ?_
    refine ⟨fun _ => rfl, ?_⟩
    conv => whnf
    rw [Val.ofInt, if_pos (.inl h1)] at h
    exact h
  · refine way_dec (fun h2 => ?_) (fun h2 => ?_)
    all_goals conv => whnf
    · refine s_vals_Null ?_
      refine ⟨fun _ => rfl, ?_⟩
      conv => whnf
      rw [Val.ofInt, if_pos (.inr h2)] at h
      exact h
    · rw [Val.ofInt, if_neg (by simp only [not_or]; exact ⟨h1, h2⟩)] at h
      exact h

theorem s_vals_Bare (v : Val) (h : K [aV v.bare] x) : CC n_vals_Bare [aV v] x K := by
  refine fnc g_vals_Bare rfl ?_
  conv => whnf
  refine way_eq (fun h1 => ?_) (fun h1 => ?_)
  all_goals conv => whnf
  · refine s_vals_Null ?_
    refine ⟨fun _ => rfl, ?_⟩
    conv => whnf
    rw [Val.bare, if_pos h1] at h
    exact h
  · refine way_eq (fun h2 => ?_) (fun h2 => ?_)
    all_goals conv => whnf
    · rw [Val.bare, if_neg h1, if_pos h2] at h
      exact h
    · rw [Val.bare, if_neg h1, if_neg h2] at h
      exact h

theorem s_cmp_isNaN__int (n : Int) (h : K [.bool false] x) : CC n_cmp_isNaN__int [aI n] x K := by
  refine fnc g_cmp_isNaN__int rfl ?_
  conv => whnf
  rw [bne_self_eq_false]
  exact h

theorem s_cmp_isNaN__int64 (n : Int) (h : K [.bool false] x) : CC n_cmp_isNaN__int64 [aI n] x K := by
  refine fnc g_cmp_isNaN__int64 rfl ?_
  conv => whnf
  rw [bne_self_eq_false]
  exact h

theorem s_cmp_Compare__int (a b : Int) (h : K [aI (cmpI a b)] x) : CC n_cmp_Compare__int [aI a, aI b] x K := by
  refine fnc g_cmp_Compare__int rfl ?_
  conv => whnf
  refine s_cmp_isNaN__int a ?_
  refine ⟨fun _ => rfl, ?_⟩
  conv => whnf
  refine s_cmp_isNaN__int b ?_
  refine ⟨fun _ => rfl, ?_⟩
  conv => whnf
  refine way_dec (fun h1 => ?_) (fun h1 => ?_)
  all_goals conv => whnf
  · rw [cmpI, if_pos h1] at h
    exact h
  · refine way_dec (fun h2 => ?_) (fun h2 => ?_)
    all_goals conv => whnf
    · rw [cmpI, if_neg h1, if_pos h2] at h
      exact h
    · rw [cmpI, if_neg h1, if_neg h2] at h
      exact h

theorem s_cmp_Compare__int64 (a b : Int) (h : K [aI (cmpI a b)] x) : CC n_cmp_Compare__int64 [aI a, aI b] x K := by
  refine fnc g_cmp_Compare__int64 rfl ?_
  conv => whnf
  refine s_cmp_isNaN__int64 a ?_
  refine ⟨fun _ => rfl, ?_⟩
  conv => whnf
  refine s_cmp_isNaN__int64 b ?_
  refine ⟨fun _ => rfl, ?_⟩
  conv => whnf
  refine way_dec (fun h1 => ?_) (fun h1 => ?_)
  all_goals conv => whnf
  · rw [cmpI, if_pos h1] at h
    exact h
  · refine way_dec (fun h2 => ?_) (fun h2 => ?_)
    all_goals conv => whnf
    · rw [cmpI, if_neg h1, if_pos h2] at h
      exact h
    · rw [cmpI, if_neg h1, if_neg h2] at h
      exact h

theorem s_bytealg_abigen_runtime_cmpstring (a b : ByteArray) (h : K [aI (cmpB a b)] x) : CC n_bytealg_abigen_runtime_cmpstring [.str a, .str b] x K := Call_base ⟨rfl, h⟩

theorem s_bytealg_CompareString (a b : ByteArray) (h : K [aI (cmpB a b)] x) : CC n_bytealg_CompareString [.str a, .str b] x K := by
  refine fnc g_bytealg_CompareString rfl ?_
  conv => whnf
  refine s_bytealg_abigen_runtime_cmpstring a b ?_
  refine ⟨fun _ => rfl, ?_⟩
  conv => whnf
  exact h

theorem s_strings_Compare (a b : ByteArray) (h : K [aI (cmpB a b)] x) : CC n_strings_Compare [.str a, .str b] x K := by
  refine fnc g_strings_Compare rfl ?_
  conv => whnf
  refine s_bytealg_CompareString a b ?_
  refine ⟨fun _ => rfl, ?_⟩
  conv => whnf
  exact h

theorem s_cmp_Or__int (l : List Int) (h : K [aI (orI l)] x) : CC n_cmp_Or__int [aIs l] x K := by
  refine fnc g_cmp_Or__int rfl ?_
  conv => whnf
  intro hl
  conv => whnf
  refine loop (fun (i : Nat) => s_cmp_Or__int_l0 (aI 0) (aIs l) (aI (l.map encI).length) (aI i) x) (fun i => l.length - i) (fun i => i ≤ l.length ∧ orI (l.drop i) = orI l) ?_ (0) ⟨Nat.zero_le _, rfl⟩
  intro i ⟨hi, hinv⟩ ih
  conv => whnf
  refine way_dec (fun h1 => ?_) (fun h1 => ?_)
  all_goals conv => whnf
  · obtain ⟨a, r, e, e2, hlt⟩ := lt_drop h1
    refine ⟨encI a, Int.natCast_nonneg _, at_drop encI e, rfl, ?_⟩
    conv => whnf
    refine way_ne (fun h2 => ?_) (fun h2 => ?_)
    all_goals conv => whnf
    · rw [← hinv, e, orI, if_pos h2] at h
      exact h
    · rw [succ_map hl hlt]
      refine ih (i + 1) ⟨by omega, ?_⟩ (by omega)
      rw [e2, ← hinv, e, orI, if_neg (by simpa using h2)]
  · obtain ⟨e, _⟩ := ge_drop h1
    rw [← hinv, e] at h
    exact h

theorem s_cmp_Or__api_Errno (l : List Int) (h : K [aI (orI l)] x) : CC n_cmp_Or__api_Errno [aIs l] x K := by
  refine fnc g_cmp_Or__api_Errno rfl ?_
  conv => whnf
  intro hl
  conv => whnf
  refine loop (fun (i : Nat) => s_cmp_Or__api_Errno_l0 (aI 0) (aIs l) (aI (l.map encI).length) (aI i) x) (fun i => l.length - i) (fun i => i ≤ l.length ∧ orI (l.drop i) = orI l) ?_ (0) ⟨Nat.zero_le _, rfl⟩
  intro i ⟨hi, hinv⟩ ih
  conv => whnf
  refine way_dec (fun h1 => ?_) (fun h1 => ?_)
  all_goals conv => whnf
  · obtain ⟨a, r, e, e2, hlt⟩ := lt_drop h1
    refine ⟨encI a, Int.natCast_nonneg _, at_drop encI e, rfl, ?_⟩
    conv => whnf
    refine way_ne (fun h2 => ?_) (fun h2 => ?_)
    all_goals conv => whnf
    · rw [← hinv, e, orI, if_pos h2] at h
      exact h
    · rw [succ_map hl hlt]
      refine ih (i + 1) ⟨by omega, ?_⟩ (by omega)
      rw [e2, ← hinv, e, orI, if_neg (by simpa using h2)]
  · obtain ⟨e, _⟩ := ge_drop h1
    rw [← hinv, e] at h
    exact h

theorem s_vals_Compare (a b : Val) (h : K [aI (a.cmp b)] x) : CC n_vals_Compare [aV a, aV b] x K := by
  refine fnc g_vals_Compare rfl ?_
  conv => whnf
  refine ⟨_, s_vals_Bare a ⟨rfl, rfl⟩, ?_⟩
  conv => whnf
  refine ⟨_, s_vals_Bare b ⟨rfl, rfl⟩, ?_⟩
  conv => whnf
  refine ⟨_, s_cmp_Compare__int a.bare.kind b.bare.kind ⟨rfl, rfl⟩, ?_⟩
  conv => whnf
  refine ⟨_, s_cmp_Compare__int64 a.bare.n b.bare.n ⟨rfl, rfl⟩, ?_⟩
  conv => whnf
  refine ⟨_, s_strings_Compare a.bare.text b.bare.text ⟨rfl, rfl⟩, ?_⟩
  conv => whnf
  refine ⟨_, s_cmp_Or__int [cmpI a.bare.kind b.bare.kind, cmpI a.bare.n b.bare.n, cmpB a.bare.text b.bare.text] ⟨rfl, rfl⟩, ?_⟩
  conv => whnf
  exact h

theorem s_vals_alike (a b : Val) (h : K [.bool (decide (a.kind = b.kind ∧ a.kind ≠ 1))] x) : CC n_vals_alike [aV a, aV b] x K := by
  refine fnc g_vals_alike rfl ?_
  conv => whnf
  refine way_eq (fun h1 => ?_) (fun h1 => ?_)
  all_goals conv => whnf
  · have e : decide (a.kind = b.kind ∧ a.kind ≠ 1) = (a.kind != 1) := by simp [h1, bne]; rfl
    rw [e] at h
    exact h
  · have e : decide (a.kind = b.kind ∧ a.kind ≠ 1) = false := by simp [h1]
    rw [e] at h
    exact h

theorem s_vals_Equal (a b : Val) (h : K [aV (a.eqv b)] x) : CC n_vals_Equal [aV a, aV b] x K := by
  refine fnc g_vals_Equal rfl ?_
  conv => whnf
  refine s_vals_alike a b ?_
  refine ⟨fun _ => rfl, ?_⟩
  conv => whnf
  refine way_not ?_
  refine way_dec (fun h1 => ?_) (fun h1 => ?_)
  all_goals conv => whnf
  · refine s_vals_Compare a b ?_
    refine ⟨fun _ => rfl, ?_⟩
    conv => whnf
    refine s_vals_Bool (a.cmp b == 0) ?_
    refine ⟨fun _ => rfl, ?_⟩
    conv => whnf
    rw [Val.eqv, if_pos h1] at h
    exact h
  · refine s_vals_Null ?_
    refine ⟨fun _ => rfl, ?_⟩
    conv => whnf
    rw [Val.eqv, if_neg h1] at h
    exact h

theorem s_vals_Less (a b : Val) (h : K [aV (a.less b)] x) : CC n_vals_Less [aV a, aV b] x K := by
  refine fnc g_vals_Less rfl ?_
  conv => whnf
  refine s_vals_alike a b ?_
  refine ⟨fun _ => rfl, ?_⟩
  conv => whnf
  refine way_not ?_
  refine way_dec (fun h1 => ?_) (fun h1 => ?_)
  all_goals conv => whnf
  · refine s_vals_Compare a b ?_
    refine ⟨fun _ => rfl, ?_⟩
    conv => whnf
    refine s_vals_Bool (decide (a.cmp b < 0)) ?_
    refine ⟨fun _ => rfl, ?_⟩
    conv => whnf
    rw [Val.less, if_pos h1] at h
    exact h
  · refine s_vals_Null ?_
    refine ⟨fun _ => rfl, ?_⟩
    conv => whnf
    rw [Val.less, if_neg h1] at h
    exact h

theorem s_vals_rank (v : Val) (h : K [aI v.rank] x) : CC n_vals_rank [aV v] x K := by
  refine fnc g_vals_rank rfl ?_
  conv => whnf
  refine way_ne (fun h1 => ?_) (fun h1 => ?_)
  all_goals conv => whnf
  · rw [Val.rank, if_pos h1] at h
    exact h
  · rw [Val.rank, if_neg (by simpa using h1)] at h
    exact h

theorem s_vals_ranked (n : Int) (h : K [aV (Val.ranked n)] x) : CC n_vals_ranked [aI n] x K := by
  refine fnc g_vals_ranked rfl ?_
  conv => whnf
  refine way_eq (fun h1 => ?_) (fun h1 => ?_)
  all_goals conv => whnf
  · refine s_vals_Null ?_
    refine ⟨fun _ => rfl, ?_⟩
    conv => whnf
    rw [Val.ranked, if_pos h1] at h
    exact h
  · refine s_vals_Bool (n == 2) ?_
    refine ⟨fun _ => rfl, ?_⟩
    conv => whnf
    rw [Val.ranked, if_neg h1] at h
    exact h

theorem s_vals_And (a b : Val) (h : K [aV (a.and b)] x) : CC n_vals_And [aV a, aV b] x K := by
  refine fnc g_vals_And rfl ?_
  conv => whnf
  refine ⟨_, s_vals_rank a ⟨rfl, rfl⟩, ?_⟩
  conv => whnf
  refine ⟨_, s_vals_rank b ⟨rfl, rfl⟩, ?_⟩
  conv => whnf
  refine ⟨rfl, ?_⟩
  conv => whnf
  refine ⟨_, s_vals_ranked (if b.rank < a.rank then b.rank else a.rank) ⟨rfl, rfl⟩, ?_⟩
  conv => whnf
  exact h

theorem s_vals_Or (a b : Val) (h : K [aV (a.or b)] x) : CC n_vals_Or [aV a, aV b] x K := by
  refine fnc g_vals_Or rfl ?_
  conv => whnf
  refine ⟨_, s_vals_rank a ⟨rfl, rfl⟩, ?_⟩
  conv => whnf
  refine ⟨_, s_vals_rank b ⟨rfl, rfl⟩, ?_⟩
  conv => whnf
  refine ⟨rfl, ?_⟩
  conv => whnf
  refine ⟨_, s_vals_ranked (if b.rank > a.rank then b.rank else a.rank) ⟨rfl, rfl⟩, ?_⟩
  conv => whnf
  exact h

theorem s_vals_Not (a : Val) (h : K [aV a.not] x) : CC n_vals_Not [aV a] x K := by
  refine fnc g_vals_Not rfl ?_
  conv => whnf
  refine s_vals_rank a ?_
  refine ⟨fun _ => rfl, ?_⟩
  conv => whnf
  refine s_vals_ranked (IntKind.wrap .i64 (2 - a.rank)) ?_
  refine ⟨fun _ => rfl, ?_⟩
  conv => whnf
  exact h

theorem s_vals_True (a : Val) (h : K [.bool a.isTrue] x) : CC n_vals_True [aV a] x K := by
  refine fnc g_vals_True rfl ?_
  conv => whnf
  refine s_vals_rank a ?_
  refine ⟨fun _ => rfl, ?_⟩
  conv => whnf
  exact h

theorem s_vals_Wrong (v : Val) (h : K [aI v.wrong] x) : CC n_vals_Wrong [aV v] x K := by
  refine fnc g_vals_Wrong rfl ?_
  conv => whnf
  refine way_eq (fun h1 => ?_) (fun h1 => ?_)
  all_goals conv => whnf
  · rw [Val.wrong, if_pos h1] at h
    exact h
  · refine way_eq (fun h2 => ?_) (fun h2 => ?_)
    all_goals conv => whnf
    · refine way_ne (fun h3 => ?_) (fun h3 => ?_)
      all_goals conv => whnf
      · refine way_ne (fun h4 => ?_) (fun h4 => ?_)
        all_goals conv => whnf
        · rw [Val.wrong, if_neg h1, if_pos h2, if_pos ⟨h3, h4⟩] at h
          exact h
        · rw [Val.wrong, if_neg h1, if_pos h2, if_neg (fun e => e.2 h4)] at h
          exact h
      · rw [Val.wrong, if_neg h1, if_pos h2, if_neg (fun e => e.1 h3)] at h
        exact h
    · refine way_eq (fun h3 => ?_) (fun h3 => ?_)
      all_goals conv => whnf
      · refine way_dec (fun h4 => ?_) (fun h4 => ?_)
        all_goals conv => whnf
        · rw [Val.wrong, if_neg h1, if_neg h2, if_pos h3, if_pos (.inl h4)] at h
          exact h
        · refine way_dec (fun h5 => ?_) (fun h5 => ?_)
          all_goals conv => whnf
          · rw [Val.wrong, if_neg h1, if_neg h2, if_pos h3, if_pos (.inr h5)] at h
            exact h
          · rw [Val.wrong, if_neg h1, if_neg h2, if_pos h3, if_neg (fun e => e.elim h4 h5)] at h
            exact h
      · refine way_eq (fun h4 => ?_) (fun h4 => ?_)
        all_goals conv => whnf
        · intro hl
          conv => whnf
          refine way_dec (fun h5 => ?_) (fun h5 => ?_)
          all_goals conv => whnf
          · rw [Val.wrong, if_neg h1, if_neg h2, if_neg h3, if_pos h4, if_pos (by omega)] at h
            exact h
          · rw [Val.wrong, if_neg h1, if_neg h2, if_neg h3, if_pos h4, if_neg (by omega)] at h
            exact h
        · rw [Val.wrong, if_neg h1, if_neg h2, if_neg h3, if_neg h4] at h
          exact h

theorem s_vals_Join (a b : Val) (ha : a.right) (hb : b.right) (h : K [aV (a.join b)] x) : CC n_vals_Join [aV a, aV b] x K := by
  refine fnc g_vals_Join rfl ?_
  conv => whnf
  refine way_ne (fun h1 => ?_) (fun h1 => ?_)
  all_goals conv => whnf
  · refine s_vals_Null ?_
    refine ⟨fun _ => rfl, ?_⟩
    conv => whnf
    rw [Val.join, if_neg (fun e => h1 e.1)] at h
    exact h
  · refine way_ne (fun h2 => ?_) (fun h2 => ?_)
    all_goals conv => whnf
    · refine s_vals_Null ?_
      refine ⟨fun _ => rfl, ?_⟩
      conv => whnf
      rw [Val.join, if_neg (fun e => h2 e.2.1)] at h
      exact h
    · have la := Val.right_text ha h1
      have lb := Val.right_text hb h2
      intro hl
      conv => whnf
      intro hl2
      conv => whnf
      rw [wrap_add_size (by omega)]
      refine way_dec (fun h3 => ?_) (fun h3 => ?_)
      all_goals conv => whnf
      · refine s_vals_Null ?_
        refine ⟨fun _ => rfl, ?_⟩
        conv => whnf
        rw [Val.join, if_neg (fun e => by have := e.2.2; omega)] at h
        exact h
      · refine ⟨by omega, ?_⟩
        conv => whnf
        rw [Val.join, if_pos ⟨h1, h2, by omega⟩] at h
        exact h

theorem s_vals_Reckon (s : Int) (a b : Val) (ha : a.right) (hb : b.right) (h : K [aV (Val.reckon s a b)] x) : CC n_vals_Reckon [.int .i32 s, aV a, aV b] x K := by
  refine fnc g_vals_Reckon rfl ?_
  conv => whnf
  refine way_ne (fun h1 => ?_) (fun h1 => ?_)
  all_goals conv => whnf
  · refine s_vals_Null ?_
    refine ⟨fun _ => rfl, ?_⟩
    conv => whnf
    rw [Val.reckon, if_neg (fun e => h1 e.1)] at h
    exact h
  · refine way_ne (fun h2 => ?_) (fun h2 => ?_)
    all_goals conv => whnf
    · refine s_vals_Null ?_
      refine ⟨fun _ => rfl, ?_⟩
      conv => whnf
      rw [Val.reckon, if_neg (fun e => h2 e.2)] at h
      exact h
    · rw [Val.reckon, if_pos ⟨h1, h2⟩] at h
      have la := Val.right_int ha h1
      have lb := Val.right_int hb h2
      refine way_eq (fun h3 => ?_) (fun h3 => ?_)
      all_goals conv => whnf
      · rw [wrap_i64 (n := a.n + b.n) ⟨by omega, by omega⟩]
        refine s_vals_Int (a.n + b.n) ?_
        refine ⟨fun _ => rfl, ?_⟩
        conv => whnf
        rw [if_pos h3] at h
        exact h
      · rw [if_neg h3] at h
        refine way_eq (fun h4 => ?_) (fun h4 => ?_)
        all_goals conv => whnf
        · rw [wrap_i64 (n := a.n - b.n) ⟨by omega, by omega⟩]
          refine s_vals_Int (a.n - b.n) ?_
          refine ⟨fun _ => rfl, ?_⟩
          conv => whnf
          rw [if_pos h4] at h
          exact h
        · rw [if_neg h4] at h
          refine way_eq (fun h5 => ?_) (fun h5 => ?_)
          all_goals conv => whnf
          · rw [if_pos h5] at h
            refine way_eq (fun h6 => ?_) (fun h6 => ?_)
            all_goals conv => whnf
            · rw [show IntKind.wrap .i64 (a.n * b.n) = a.n * b.n by rw [h6, Int.zero_mul]; rfl]
              refine s_vals_Int (a.n * b.n) ?_
              refine ⟨fun _ => rfl, ?_⟩
              conv => whnf
              exact h
            · refine ⟨rfl, h6, ?_⟩
              conv => whnf
              by_cases hb2 : -maxInt ≤ a.n * b.n ∧ a.n * b.n ≤ maxInt
              · obtain ⟨g1, g2⟩ := hb2
                unfold maxInt at g1 g2
                rw [wrap_i64 (n := a.n * b.n) ⟨by omega, by omega⟩, Int.mul_tdiv_cancel_left _ h6, wrap_i64 (n := b.n) ⟨by omega, by omega⟩]
                refine way_t (by simp) ?_
                conv => whnf
                refine way_t (by simp; omega) ?_
                conv => whnf
                refine way_t (by simp; omega) ?_
                conv => whnf
                refine s_vals_Int (a.n * b.n) ?_
                refine ⟨fun _ => rfl, ?_⟩
                conv => whnf
                exact h
              · have hn : Val.ofInt (a.n * b.n) = Val.null := by
                  rw [Val.ofInt, if_pos]
                  omega
                rw [hn] at h
                refine way_eq (fun h7 => ?_) (fun h7 => ?_)
                all_goals conv => whnf
                · refine way_dec (fun h8 => ?_) (fun h8 => ?_)
                  all_goals conv => whnf
                  · refine way_dec (fun h9 => ?_) (fun h9 => ?_)
                    all_goals conv => whnf
                    · exfalso
                      exact hb2 (mul_back h6 h7 h8 h9)
                    · refine s_vals_Null ?_
                      refine ⟨fun _ => rfl, ?_⟩
                      conv => whnf
                      exact h
                  · refine s_vals_Null ?_
                    refine ⟨fun _ => rfl, ?_⟩
                    conv => whnf
                    exact h
                · refine s_vals_Null ?_
                  refine ⟨fun _ => rfl, ?_⟩
                  conv => whnf
                  exact h
          · refine s_vals_Null ?_
            refine ⟨fun _ => rfl, ?_⟩
            conv => whnf
            rw [if_neg h5] at h
            exact h

theorem s_vals_Rows (a b : Row) (h : K [aI (rowCmp a b)] x) : CC n_vals_Rows [aR a, aR b] x K := by
  refine fnc g_vals_Rows rfl ?_
  conv => whnf
  intro hl
  conv => whnf
  refine loop (fun (i : Nat) => s_vals_Rows_l0 (aR a) (aR b) (aR a) (aI (a.map encV).length) (aI i) x) (fun i => a.length - i) (fun i => i ≤ a.length ∧ i ≤ b.length ∧ rowCmp (a.drop i) (b.drop i) = rowCmp a b) ?_ (0) ⟨Nat.zero_le _, Nat.zero_le _, rfl⟩
  intro i ⟨hi, hib, hinv⟩ ih
  conv => whnf
  refine way_dec (fun h1 => ?_) (fun h1 => ?_)
  all_goals conv => whnf
  · obtain ⟨u, r, e, e2, hlt⟩ := lt_drop h1
    refine ⟨encV u, Int.natCast_nonneg _, at_drop encV e, rfl, ?_⟩
    conv => whnf
    intro hlb
    conv => whnf
    refine way_eq (fun h2 => ?_) (fun h2 => ?_)
    all_goals conv => whnf
    · have eb : b.drop i = [] := List.drop_eq_nil_of_le (by rw [List.length_map] at h2; omega)
      rw [← hinv, e, eb, rowCmp] at h
      exact h
    · have h3 : (i : Int) < ((b.map encV).length : Int) := by rw [List.length_map] at h2 ⊢; omega
      obtain ⟨v, q, eb, eb2, hltb⟩ := lt_drop h3
      refine ⟨encV v, Int.natCast_nonneg _, at_drop encV eb, rfl, ?_⟩
      conv => whnf
      refine ⟨_, s_vals_Compare u v ⟨rfl, rfl⟩, ?_⟩
      conv => whnf
      refine way_ne (fun h4 => ?_) (fun h4 => ?_)
      all_goals conv => whnf
      · rw [← hinv, e, eb, rowCmp, if_pos h4] at h
        exact h
      · rw [succ_map hl hlt]
        refine ih (i + 1) ⟨by omega, by omega, ?_⟩ (by omega)
        rw [e2, eb2, ← hinv, e, eb, rowCmp, if_neg (by simpa using h4)]
  · obtain ⟨e, hge⟩ := ge_drop h1
    intro hla
    conv => whnf
    intro hlb
    conv => whnf
    refine s_cmp_Compare__int ((a.map encV).length) ((b.map encV).length) ?_
    refine ⟨fun _ => rfl, ?_⟩
    conv => whnf
    have : cmpI ((a.map encV).length) ((b.map encV).length) = rowCmp a b := by
      rw [← hinv, e]
      rw [List.length_map, List.length_map]
      cases hb : b.drop i with
      | nil =>
        rw [rowCmp]
        have := List.drop_eq_nil_iff.1 hb
        rw [cmpI, if_neg (by omega), if_neg (by omega)]
      | cons v q =>
        rw [rowCmp]
        have : i < b.length := by
          have := congrArg List.length hb
          rw [List.length_drop, List.length_cons] at this
          omega
        rw [cmpI, if_pos (by omega)]
    rw [this]
    exact h

end Go.Tide

/- Expressions, in plain Lean: types and values. -/
set_option linter.unusedVariables false
namespace Go.Tide

def kidsN (k : Int) : Int :=
  if k = 1 ∨ k = 2 then 0 else if k = 3 ∨ k = 16 then 1 else if (4 ≤ k ∧ k ≤ 15) ∨ k = 18 then 2 else if k = 17 then 3 else -1

def oneT (a b : Int) : Int × Bool := if a = b ∨ b = 1 then (a, true) else if a = 1 then (b, true) else (0, false)

def allT (w : Int) : List Int → Bool
  | [] => true
  | t :: r => if (oneT t w).2 = true then allT w r else false

/-- What comes of kids of types: what it is, and whether it fits. -/
def kindO (k : Int) (t : List Int) : Int × Bool :=
  if k ≤ 5 then (2, allT 2 t) else if k ≤ 11 then (2, (oneT (t.getD 0 0) (t.getD 1 0)).2) else if k ≤ 14 then (3, allT 3 t) else if k = 15 then (4, allT 4 t)
  else if k = 17 then ((oneT (t.getD 1 0) (t.getD 2 0)).1, (oneT (t.getD 1 0) (t.getD 2 0)).2 && allT 2 (t.take 1)) else oneT (t.getD 0 0) (t.getD 1 0)

def kindT (k : Int) (t : List Int) : Int × Int := if (kindO k t).2 = true then ((kindO k t).1, 0) else (0, 9)

/-- A node's type, of its kids' ones: type, what is wrong. -/
def nodeT (cols : List Int) (k : Int) (v : Val) (c : Int) (ts : List Int) : Int × Int :=
  if k = 1 then (v.kind, v.wrong) else if k = 2 then (if c < 0 ∨ (cols.length : Int) ≤ c then (0, 7) else (cols.getD c.toNat 0, 0)) else if k = 16 then (2, 0) else kindT k ts

mutual
/-- How many nodes there were, the type, what is wrong. -/
def typ (cols : List Int) : Expr → Int → Int → Int × Int × Int
  | .mk k v c l, n, d =>
    if 200 < n + 1 ∨ 20 < d then (n + 1, 0, 4)
    else if kidsN k < 0 then (n + 1, 0, 1)
    else if (l.length : Int) ≠ kidsN k then (n + 1, 0, 5)
    else
      let r := typs cols l (n + 1) (d + 1)
      if r.2.2 ≠ 0 then (r.1, 0, r.2.2) else (r.1, nodeT cols k v c r.2.1)
def typs (cols : List Int) : List Expr → Int → Int → Int × List Int × Int
  | [], n, d => (n, [], 0)
  | x :: r, n, d =>
    let a := typ cols x n d
    if a.2.2 ≠ 0 then (a.1, [], a.2.2) else
      let b := typs cols r a.1 d
      if b.2.2 ≠ 0 then (b.1, [], b.2.2) else (b.1, a.2.1 :: b.2.1, 0)
end

/-- Columns of types. -/
def colsBad : List Int → Bool
  | [] => false
  | t :: r => if t < 1 ∨ 4 < t then true else colsBad r

/-- An expression's type, and what is wrong with it. -/
def typeOf (cols : List Int) (x : Expr) : Int × Int :=
  if 16 < cols.length then (0, 5) else if colsBad cols = true then (0, 1) else
    let r := typ cols x 0 1
    if r.2.2 ≠ 0 then (0, r.2.2) else (r.2.1, 0)

def compared (k : Int) (a b : Val) : Val :=
  if k = 6 then a.eqv b else if k = 7 then (a.eqv b).not else if k = 8 then a.less b else if k = 9 then (b.less a).not else if k = 10 then b.less a else (a.less b).not

/-- A node's value, of its kids' ones. -/
def evalK (row : Row) (k : Int) (v : Val) (c : Int) (a : List Val) : Val :=
  let a0 := a.getD 0 .null
  let a1 := a.getD 1 .null
  let a2 := a.getD 2 .null
  if k = 1 then v.bare else if k = 2 then (match row[c.toNat]? with | some u => u.bare | none => .null)
  else if k = 3 then a0.not else if k = 4 then a0.and a1 else if k = 5 then a0.or a1
  else if k = 12 then Val.reckon 43 a0 a1 else if k = 13 then Val.reckon 45 a0 a1 else if k = 14 then Val.reckon 42 a0 a1
  else if k = 15 then a0.join a1 else if k = 16 then Val.ofBool (a0.kind == 1)
  else if k = 17 then (if a0.isTrue = true then a1 else a2) else if k = 18 then (if a0.kind ≠ 1 then a0 else a1)
  else compared k a0 a1

mutual
def Expr.eval (row : Row) : Expr → Val
  | .mk k v c l => evalK row k v c (Expr.evals row l)
def Expr.evals (row : Row) : List Expr → List Val
  | [] => []
  | x :: r => x.eval row :: Expr.evals row r
end

/-- What a right expression is like. -/
inductive Expr.Ok : Expr → Prop
  | mk (k : Int) (v : Val) (c : Int) (l : List Expr) : (l.length : Int) = kidsN k → (k = 1 → v.right) → (k = 2 → 0 ≤ c) → (∀ y ∈ l, y.Ok) → Expr.Ok (.mk k v c l)

def Row.Right (r : Row) : Prop := ∀ v ∈ r, Val.right v

theorem kidsN_cases {k : Int} {n : Nat} (h : (n : Int) = kidsN k) :
    (n = 0 ∧ (k = 1 ∨ k = 2)) ∨ (n = 1 ∧ (k = 3 ∨ k = 16)) ∨ (n = 2 ∧ (k = 4 ∨ k = 5 ∨ k = 6 ∨ k = 7 ∨ k = 8 ∨ k = 9 ∨ k = 10 ∨ k = 11 ∨ k = 12 ∨ k = 13 ∨ k = 14 ∨ k = 15 ∨ k = 18)) ∨ (n = 3 ∧ k = 17) := by
  unfold kidsN at h
  split at h
  · left; exact ⟨by omega, by assumption⟩
  · split at h
    · right; left; exact ⟨by omega, by assumption⟩
    · split at h
      · right; right; left; refine ⟨by omega, by omega⟩
      · split at h
        · right; right; right; exact ⟨by omega, by assumption⟩
        · omega

/-! ### what is reckoned is right -/

theorem Val.null_right : Val.null.right := rfl
theorem Val.ofBool_right (b : Bool) : (Val.ofBool b).right := by cases b <;> rfl
theorem Val.ofInt_right (n : Int) : (Val.ofInt n).right := by
  unfold Val.ofInt
  split
  · rfl
  · rename_i h
    unfold Val.right Val.wrong
    simp only [Int.reduceEq, if_false, if_true]
    rw [if_neg h]
theorem Val.bare_right {v : Val} (h : v.right) : v.bare.right := by
  unfold Val.bare
  split
  · rfl
  · split
    · rename_i h1 h2
      unfold Val.right Val.wrong
      have := Val.right_text h h2
      simp only [Int.reduceEq, if_false, if_true]
      rw [if_neg (by omega)]
    · rename_i h1 h2
      unfold Val.right Val.wrong at *
      simp only [h1, h2, if_false] at h ⊢
      exact h
theorem Val.ranked_right (n : Int) : (Val.ranked n).right := by
  unfold Val.ranked
  split
  · rfl
  · exact Val.ofBool_right _
theorem Val.eqv_right (a b : Val) : (a.eqv b).right := by unfold Val.eqv; split <;> first | rfl | exact Val.ofBool_right _
theorem Val.less_right (a b : Val) : (a.less b).right := by unfold Val.less; split <;> first | rfl | exact Val.ofBool_right _
theorem Val.join_right (a b : Val) : (a.join b).right := by
  unfold Val.join
  split
  · rename_i h
    unfold Val.right Val.wrong
    simp only [Int.reduceEq, if_false, if_true]
    rw [if_neg]
    rw [ByteArray.size_append]
    omega
  · rfl
theorem Val.reckon_right (s : Int) (a b : Val) : (Val.reckon s a b).right := by
  unfold Val.reckon
  split
  · split
    · exact Val.ofInt_right _
    · split
      · exact Val.ofInt_right _
      · split
        · exact Val.ofInt_right _
        · rfl
  · rfl
theorem compared_right (k : Int) (a b : Val) : (compared k a b).right := by
  unfold compared
  repeat' split
  all_goals first | exact Val.eqv_right _ _ | exact Val.less_right _ _ | exact Val.ranked_right _

theorem ite_right {p : Prop} [Decidable p] {a b : Val} (h1 : a.right) (h2 : b.right) : (if p then a else b).right := by split <;> assumption

theorem getD_right {l : List Val} (h : ∀ v ∈ l, v.right) (i : Nat) : (l.getD i .null).right := by
  by_cases hi : i < l.length
  · rw [List.getD_eq_getElem?_getD, List.getElem?_eq_getElem hi]
    exact h _ (List.getElem_mem hi)
  · rw [List.getD_eq_getElem?_getD, List.getElem?_eq_none (by omega)]
    rfl

theorem evalK_right {row : Row} (hr : row.Right) (k : Int) (v : Val) (c : Int) (hv : k = 1 → v.right) {a : List Val} (ha : ∀ v ∈ a, v.right) : (evalK row k v c a).right := by
  have h0 := getD_right ha 0
  have h1 := getD_right ha 1
  have h2 := getD_right ha 2
  unfold evalK
  generalize a.getD 0 .null = a0 at *
  generalize a.getD 1 .null = a1 at *
  generalize a.getD 2 .null = a2 at *
  dsimp only
  by_cases hk : k = 1
  · rw [if_pos hk]; exact Val.bare_right (hv hk)
  · rw [if_neg hk]
    refine ite_right ?_ (ite_right (Val.ranked_right _) (ite_right (Val.ranked_right _) (ite_right (Val.ranked_right _) (ite_right (Val.reckon_right _ _ _) (ite_right (Val.reckon_right _ _ _) (ite_right (Val.reckon_right _ _ _) (ite_right (Val.join_right _ _) (ite_right (Val.ofBool_right _) (ite_right (ite_right h1 h2) (ite_right (ite_right h0 h1) (compared_right _ _ _)))))))))))
    cases hc : row[c.toNat]? with
    | some u => exact Val.bare_right (hr _ (List.mem_of_getElem? hc))
    | none => rfl

theorem Expr.evals_map (row : Row) (l : List Expr) : Expr.evals row l = l.map (Expr.eval row) := by
  induction l with
  | nil => rfl
  | cons x r ih => rw [Expr.evals, ih]; rfl

theorem Expr.eval_right {row : Row} (hr : row.Right) {x : Expr} (h : x.Ok) : (x.eval row).right := by
  induction h with
  | mk k v c l hl hv hc hk ih =>
    rw [Expr.eval]
    refine evalK_right hr k v c hv fun u hu => ?_
    rw [Expr.evals_map] at hu
    obtain ⟨y, hy, rfl⟩ := List.mem_map.1 hu
    exact ih y hy

end Go.Tide

/- Sorting that keeps the order of equals, in plain Lean. -/
set_option linter.unusedVariables false
namespace Go.Tide

section
variable {α : Type} (lt : α → α → Bool)

/-- A strict weak order. -/
structure SW : Prop where
  asym : ∀ x y, lt x y = true → lt y x = false
  ntrans : ∀ x y z, lt x y = false → lt y z = false → lt x z = false

theorem SW.irr {lt : α → α → Bool} (h : SW lt) (x : α) : lt x x = false := by
  cases hh : lt x x with
  | false => rfl
  | true => exact absurd (h.asym x x hh) (by simp [hh])

theorem SW.trans {lt : α → α → Bool} (h : SW lt) {x y z : α} (h1 : lt x y = true) (h2 : lt y z = true) : lt x z = true := by
  cases hh : lt x z with
  | true => rfl
  | false => exact absurd (h.ntrans x z y hh (h.asym y z h2)) (by simp [h1])

theorem SW.ltle {lt : α → α → Bool} (h : SW lt) {x y z : α} (h1 : lt x y = true) (h2 : lt z y = false) : lt x z = true := by
  cases hh : lt x z with
  | true => rfl
  | false => exact absurd (h.ntrans x z y hh h2) (by simp [h1])

theorem SW.lelt {lt : α → α → Bool} (h : SW lt) {x y z : α} (h1 : lt y x = false) (h2 : lt y z = true) : lt x z = true := by
  cases hh : lt x z with
  | true => rfl
  | false => exact absurd (h.ntrans y x z h1 hh) (by simp [h2])

def Srt (l : List α) : Prop := l.Pairwise fun x y => lt y x = false

def same (c z : α) : Bool := !lt z c && !lt c z

/-- The same elements, equals in the same order. -/
structure Stab (s r : List α) : Prop where
  perm : r.Perm s
  filt : ∀ c, r.filter (same lt c) = s.filter (same lt c)

variable {lt}

theorem Stab.refl (s : List α) : Stab lt s s := ⟨List.Perm.refl s, fun _ => rfl⟩
theorem Stab.trans {a b c : List α} (h1 : Stab lt a b) (h2 : Stab lt b c) : Stab lt a c := ⟨h2.perm.trans h1.perm, fun x => (h2.filt x).trans (h1.filt x)⟩
theorem Stab.app {a b c d : List α} (h1 : Stab lt a b) (h2 : Stab lt c d) : Stab lt (a ++ c) (b ++ d) :=
  ⟨h1.perm.append h2.perm, fun x => by rw [List.filter_append, List.filter_append, h1.filt, h2.filt]⟩
theorem Stab.len {s r : List α} (h : Stab lt s r) : r.length = s.length := h.perm.length_eq
theorem Stab.mem {s r : List α} (h : Stab lt s r) {x : α} : x ∈ r ↔ x ∈ s := h.perm.mem_iff

/-- Two blocks, all of the one less than all of the other, change places. -/
theorem Stab.swap (sw : SW lt) {u v : List α} (h : ∀ x ∈ u, ∀ y ∈ v, lt y x = true) : Stab lt (u ++ v) (v ++ u) := by
  refine ⟨List.perm_append_comm, fun c => ?_⟩
  rw [List.filter_append, List.filter_append]
  by_cases hu : u.filter (same lt c) = []
  · rw [hu]; simp
  · by_cases hv : v.filter (same lt c) = []
    · rw [hv]; simp
    · exfalso
      obtain ⟨x, hx⟩ := List.exists_mem_of_ne_nil _ hu
      obtain ⟨y, hy⟩ := List.exists_mem_of_ne_nil _ hv
      rw [List.mem_filter] at hx hy
      have h1 := h x hx.1 y hy.1
      have h2 := hx.2
      have h3 := hy.2
      simp only [same, Bool.and_eq_true, Bool.not_eq_true'] at h2 h3
      have := sw.ntrans y c x h3.1 h2.2
      rw [this] at h1
      cases h1

theorem Srt.nil : Srt lt ([] : List α) := List.Pairwise.nil
theorem Srt.one (x : α) : Srt lt [x] := List.pairwise_singleton _ _

theorem Srt.app {u v : List α} (hu : Srt lt u) (hv : Srt lt v) (h : ∀ x ∈ u, ∀ y ∈ v, lt y x = false) : Srt lt (u ++ v) :=
  List.pairwise_append.2 ⟨hu, hv, h⟩

theorem Srt.left {u v : List α} (h : Srt lt (u ++ v)) : Srt lt u := (List.pairwise_append.1 h).1
theorem Srt.right {u v : List α} (h : Srt lt (u ++ v)) : Srt lt v := (List.pairwise_append.1 h).2.1
theorem Srt.mid {u v : List α} (h : Srt lt (u ++ v)) : ∀ x ∈ u, ∀ y ∈ v, lt y x = false := (List.pairwise_append.1 h).2.2

/-- There is but one. -/
theorem stab_unique (sw : SW lt) : ∀ {r1 r2 : List α}, Srt lt r1 → Srt lt r2 → Stab lt r1 r2 → r1 = r2
  | [], r2, _, _, h => by
    have := h.len
    exact (List.eq_nil_of_length_eq_zero (by simpa using this)).symm
  | x :: t1, r2, h1, h2, h => by
    cases r2 with
    | nil => have := h.len; simp at this
    | cons y t2 =>
      have hx : ∀ z ∈ x :: t1, lt z x = false := by
        intro z hz
        rcases List.mem_cons.1 hz with rfl | hz
        · exact sw.irr _
        · exact (List.pairwise_cons.1 h1).1 z hz
      have hy : ∀ z ∈ y :: t2, lt z y = false := by
        intro z hz
        rcases List.mem_cons.1 hz with rfl | hz
        · exact sw.irr _
        · exact (List.pairwise_cons.1 h2).1 z hz
      have e1 : lt y x = false := hx y (h.mem.1 (by simp))
      have e2 : lt x y = false := hy x (h.mem.2 (by simp))
      have f := h.filt x
      rw [List.filter_cons_of_pos (by simp [same, e1, e2]), List.filter_cons_of_pos (by simp [same, sw.irr])] at f
      obtain ⟨rfl, _⟩ := List.cons.inj f
      congr 1
      refine stab_unique sw (List.pairwise_cons.1 h1).2 (List.pairwise_cons.1 h2).2 ⟨(List.perm_cons _).1 h.perm, fun c => ?_⟩
      have g := h.filt c
      by_cases hc : same lt c y = true
      · rw [List.filter_cons_of_pos hc, List.filter_cons_of_pos hc] at g
        exact (List.cons.inj g).2
      · rw [List.filter_cons_of_neg hc, List.filter_cons_of_neg hc] at g
        exact g

/-! ### a plain sort -/

variable (lt) in
def insL (x : α) : List α → List α
  | [] => [x]
  | y :: t => if lt y x = true then y :: insL x t else x :: y :: t

variable (lt) in
def isort : List α → List α
  | [] => []
  | x :: t => insL lt x (isort t)

theorem insL_split (sw : SW lt) (x : α) : ∀ (l : List α), Srt lt l → ∃ u v, l = u ++ v ∧ insL lt x l = u ++ x :: v ∧ (∀ y ∈ u, lt y x = true) ∧ (∀ y ∈ v, lt y x = false)
  | [], _ => ⟨[], [], rfl, rfl, by simp, by simp⟩
  | y :: t, h => by
    rw [insL]
    by_cases hy : lt y x = true
    · rw [if_pos hy]
      obtain ⟨u, v, e1, e2, h1, h2⟩ := insL_split sw x t (List.pairwise_cons.1 h).2
      exact ⟨y :: u, v, by simp [e1], by simp [e2], by simpa using ⟨hy, h1⟩, h2⟩
    · rw [if_neg hy]
      have hy' : lt y x = false := by simpa using hy
      refine ⟨[], y :: t, rfl, rfl, by simp, fun z hz => ?_⟩
      rcases List.mem_cons.1 hz with rfl | hz
      · exact hy'
      · exact sw.ntrans z y x ((List.pairwise_cons.1 h).1 z hz) hy'

theorem isort_srt (sw : SW lt) : ∀ (l : List α), Srt lt (isort lt l) ∧ Stab lt l (isort lt l)
  | [] => ⟨Srt.nil, Stab.refl _⟩
  | x :: t => by
    obtain ⟨h1, h2⟩ := isort_srt sw t
    obtain ⟨u, v, e1, e2, g1, g2⟩ := insL_split sw x _ h1
    rw [isort, e2]
    rw [e1] at h1 h2
    refine ⟨h1.left.app (List.pairwise_cons.2 ⟨g2, h1.right⟩) fun a ha b hb => ?_, ?_⟩
    · rcases List.mem_cons.1 hb with rfl | hb
      · exact sw.asym _ _ (g1 a ha)
      · exact h1.mid a ha b hb
    · have s1 : Stab lt (x :: t) (x :: (u ++ v)) := (Stab.refl [x]).app h2
      have s2 : Stab lt ([x] ++ u) (u ++ [x]) := Stab.swap sw (fun a ha b hb => by rw [List.mem_singleton.1 ha]; exact g1 b hb)
      have s3 := s2.app (Stab.refl (lt := lt) v)
      simpa using s1.trans (by simpa using s3)

theorem sort_is (sw : SW lt) {s r : List α} (h1 : Srt lt r) (h2 : Stab lt s r) : r = isort lt s := by
  obtain ⟨g1, g2⟩ := isort_srt sw s
  refine (stab_unique sw g1 h1 ?_).symm
  exact ⟨h2.perm.trans g2.perm.symm, fun c => (h2.filt c).trans (g2.filt c).symm⟩
end

/-! ### blocks -/

def Shape {α : Type} (k : Nat) : List (List α) → Prop
  | [] => True
  | [l] => l.length ≤ k
  | l :: r => l.length = k ∧ Shape k r

theorem shape_tail {α : Type} {k : Nat} {l : List α} {L : List (List α)} (h : Shape k (l :: L)) : Shape k L := by
  cases L with
  | nil => trivial
  | cons a r => exact h.2

theorem shape_head {α : Type} {k : Nat} {l a : List α} {L : List (List α)} (h : Shape k (l :: a :: L)) : l.length = k := h.1

theorem shape_le {α : Type} {k : Nat} {l : List α} {L : List (List α)} (h : Shape k (l :: L)) : l.length ≤ k := by
  cases L with
  | nil => exact h
  | cons a r => exact Nat.le_of_eq h.1

theorem shape_full {α : Type} {k : Nat} : ∀ {D : List (List α)}, (∀ l ∈ D, l.length = k) → Shape k D
  | [], _ => trivial
  | [l], h => Nat.le_of_eq (h l (by simp))
  | l :: a :: r, h => ⟨h l (by simp), shape_full fun x hx => h x (List.mem_cons_of_mem _ hx)⟩

theorem shape_snoc {α : Type} {k : Nat} {x : List α} (hx : x.length ≤ k) : ∀ {D : List (List α)}, (∀ l ∈ D, l.length = k) → Shape k (D ++ [x])
  | [], _ => hx
  | [l], h => ⟨h l (by simp), hx⟩
  | l :: a :: r, h => ⟨h l (by simp), shape_snoc hx fun x hx => h x (List.mem_cons_of_mem _ hx)⟩

theorem shape_one {α : Type} {lt : α → α → Bool} {k : Nat} {L : List (List α)} (h : Shape k L) (hs : ∀ l ∈ L, Srt lt l) (hk : L.flatten.length ≤ k) (h0 : 0 < k) : Srt lt L.flatten := by
  cases L with
  | nil => exact Srt.nil
  | cons l r =>
    cases r with
    | nil => simpa using hs l (by simp)
    | cons a r =>
      have h1 := shape_head h
      rw [List.flatten_cons, List.length_append] at hk
      have : (a :: r).flatten = [] := List.eq_nil_of_length_eq_zero (by omega)
      rw [List.flatten_cons, this, List.append_nil]
      exact hs l (by simp)

end Go.Tide

/- Small laws: rows in their places, halves, swaps. -/
set_option linter.unusedVariables false
namespace Go.Tide

theorem updS_updS (s : Sto) (a : Nat) (o o' : Option Ob) : updS (updS s a o) a o' = updS s a o' := by
  funext t
  unfold updS
  cases Nat.beq a t <;> rfl

theorem at_split {α : Type} (f : α → List A) (u v : List α) (a : α) : ((u ++ a :: v).map f)[u.length]? = some (f a) := by simp

theorem get_at {α : Type} (f : α → List A) {d u v : List α} {a : α} {j : Int} (hd : d = u ++ a :: v) (hj : j = u.length) : (d.map f)[j.toNat]? = some (f a) := by
  subst hd; subst hj; simp

theorem get_set {α : Type} (f : α → List A) {d u v : List α} {a : α} {i j : Int} {c : List A} (hd : d = u ++ a :: v) (hj : j = u.length) (h0 : 0 ≤ i) (hij : i ≠ j) : ((d.map f).set i.toNat c)[j.toNat]? = some (f a) := by
  rw [List.getElem?_set_ne (by omega)]
  exact get_at f hd hj

theorem len_map {α : Type} {f : α → List A} {d : List α} {n : Nat} (h : n = d.length) : n = (d.map f).length := by simp [h]
theorem len_mset {α : Type} {f : α → List A} {d : List α} {n i : Nat} {c : List A} (h : n = d.length) : n = ((d.map f).set i c).length := by simp [h]

theorem sw_int {α : Type} (f : α → List A) {d u w : List α} {y x : α} {i j : Int} (hd : d = u ++ y :: x :: w) (hi : i = (u.length : Int) + 1) (hj : j = u.length) : ((d.map f).set i.toNat (f y)).set j.toNat (f x) = (u ++ x :: y :: w).map f := by
  subst hd
  have e1 : i.toNat = u.length + 1 := by omega
  have e2 : j.toNat = u.length := by omega
  rw [e1, e2]
  simp only [List.map_append, List.map_cons]
  rw [List.set_append_right _ _ (by simp), List.set_append_right _ _ (by simp)]
  simp

theorem sw_far {α : Type} (f : α → List A) {d u m w : List α} {a b : α} {i j : Int} (hd : d = u ++ a :: m ++ b :: w) (hi : i = u.length) (hj : j = (u.length : Int) + 1 + (m.length : Int)) : ((d.map f).set i.toNat (f b)).set j.toNat (f a) = (u ++ b :: m ++ a :: w).map f := by
  subst hd
  have e1 : i.toNat = u.length := by omega
  have e2 : j.toNat = (u ++ b :: m).length := by simp; omega
  have e3 : ((u ++ a :: m ++ b :: w).map f).set u.length (f b) = (u ++ b :: m ++ b :: w).map f := by
    simp
  rw [e1, e3, e2]
  simp

theorem half {n : Int} (h0 : 0 ≤ n) (h1 : n ≤ 4611686018427387904) : IntKind.wrap .i64 (Int.fdiv (IntKind.wrap .u64 n) (2 ^ min (Int.toNat 1) (IntKind.bits .u64))) = n / 2 := by
  have e : IntKind.wrap .u64 n = n := by
    simp [IntKind.wrap, IntKind.bits, IntKind.signed]
    omega
  rw [e, show ((2 : Int) ^ min (Int.toNat 1) (IntKind.bits .u64)) = 2 from rfl, Int.fdiv_eq_ediv_of_nonneg _ (by omega)]
  exact wrap_i64 ⟨by omega, by omega⟩

theorem get_u {α : Type} (f : α → List A) {p u v q : List α} {i : Nat} {a : α} {j : Int} (h : u[i]? = some a) (hj : j = (p.length : Int) + i) : ((p ++ u ++ v ++ q).map f)[j.toNat]? = some (f a) := by
  have hi : i < u.length := (List.getElem?_eq_some_iff.1 h).1
  have e : j.toNat = p.length + i := by omega
  rw [List.getElem?_map, e, List.append_assoc, List.append_assoc, List.getElem?_append_right (by omega), List.getElem?_append_left (by omega), Nat.add_sub_cancel_left, h]
  rfl

theorem get_v {α : Type} (f : α → List A) {p u v q : List α} {i : Nat} {a : α} {j : Int} (h : v[i]? = some a) (hj : j = (p.length : Int) + u.length + i) : ((p ++ u ++ v ++ q).map f)[j.toNat]? = some (f a) := by
  have hi : i < v.length := (List.getElem?_eq_some_iff.1 h).1
  have e : j.toNat = (p ++ u).length + i := by simp; omega
  rw [List.getElem?_map, e, List.append_assoc, List.getElem?_append_right (by omega), List.getElem?_append_left (by omega), Nat.add_sub_cancel_left, h]
  rfl

theorem Srt.get {α : Type} {lt : α → α → Bool} (sw : SW lt) {l : List α} (h : Srt lt l) {i j : Nat} (hij : i ≤ j) {x y : α} (hx : l[i]? = some x) (hy : l[j]? = some y) : lt y x = false := by
  obtain ⟨hi, rfl⟩ := List.getElem?_eq_some_iff.1 hx
  obtain ⟨hj, rfl⟩ := List.getElem?_eq_some_iff.1 hy
  rcases Nat.eq_or_lt_of_le hij with e | hlt
  · subst e; exact sw.irr _
  · exact (List.pairwise_iff_getElem.1 h) i j hi hj hlt

theorem ex_get {α : Type} {l : List α} {i : Nat} (h : i < l.length) : ∃ x, l[i]? = some x := ⟨l[i], List.getElem?_eq_getElem h⟩

theorem mem_take {α : Type} {l : List α} {n : Nat} {x : α} (h : x ∈ l.take n) : ∃ i, i < n ∧ l[i]? = some x := by
  obtain ⟨i, hi⟩ := List.getElem?_of_mem h
  rw [List.getElem?_take] at hi
  split at hi
  · exact ⟨i, by assumption, hi⟩
  · cases hi

theorem mem_dropi {α : Type} {l : List α} {n : Nat} {x : α} (h : x ∈ l.drop n) : ∃ i, n ≤ i ∧ l[i]? = some x := by
  obtain ⟨i, hi⟩ := List.getElem?_of_mem h
  rw [List.getElem?_drop] at hi
  exact ⟨n + i, by omega, hi⟩

theorem set_at {α : Type} (f : α → List A) {d u w : List α} {a b : α} {i : Int} (hd : d = u ++ a :: w) (hi : i = u.length) : (d.map f).set i.toNat (f b) = (u ++ b :: w).map f := by
  subst hd; subst hi; simp

theorem sw_adj {α : Type} (f : α → List A) (u w : List α) (y x : α) : (((u ++ y :: x :: w).map f).set (u.length + 1) (f y)).set u.length (f x) = (u ++ x :: y :: w).map f := by
  simp only [List.map_append, List.map_cons]
  rw [List.set_append_right _ _ (by simp), List.set_append_right _ _ (by simp)]
  simp

end Go.Tide
