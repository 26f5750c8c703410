/- The tables of this seat's translation: types, functions, registers, what loops keep; and that they are the program's. -/
import Derived.Test.YtdiilljbojhpoaaProg
import Derived.Test.YtdiilljbojhpoaaPackD
namespace Go.Lg.Pv.Q
open Go Go.Lg Go.Lg.Pv Go.Proofs
set_option linter.unusedVariables false
set_option maxRecDepth 100000

def n_laws_FnExactPlayWindow : Nat := 5
def n_laws_FnExactStepWindow : Nat := 6
def n_laws_FnExactSettleWindow : Nat := 7
def n_impl_PlayWindow : Nat := 9
def n_spec_PlayWindow : Nat := 10
def n_impl_SettleWindow : Nat := 15
def n_impl_GoodWindow : Nat := 16
def n_impl_StepWindow : Nat := 19
def n_spec_StepWindow : Nat := 20
def n_spec_GoodWindow : Nat := 21
def n_spec_SettleWindow : Nat := 23
def n_impl_NewWindow : Nat := 27
def n_spec_NewWindow : Nat := 28
def n_laws_szStringS : Nat := 29
def n_laws_szWinStepS : Nat := 30
def n_laws_toStringS : Nat := 31
def n_laws_toWinStepS : Nat := 32
def n_laws_eqWindow : Nat := 33
def n_laws_eqBoolS : Nat := 34
def n_laws_eqStringS : Nat := 35
def n_laws_eqWinStepS : Nat := 36
def n_laws_markStringS : Nat := 37
def n_laws_markWinStepS : Nat := 38
def n_laws_markWindow : Nat := 39
def n_laws_markBoolS : Nat := 40
def n_laws_heldWindow : Nat := 41
def n_laws_heldBoolS : Nat := 42
def n_laws_szWindow : Nat := 43
def n_laws_toWindow : Nat := 44
def n_laws_toWinStep : Nat := 45
def n_impl_Window_step : Nat := 49
def n_impl_Window_own : Nat := 50
def n_spec_l9Step : Nat := 51
def n_spec_l9Own : Nat := 52
def n_slices_Clone_string_string : Nat := 53
def n_impl_without : Nat := 54
def n_impl_arePieces : Nat := 55
def n_impl_within : Nat := 56
def n_impl_areAll_impl_Frame : Nat := 57
def n_impl_Window_isFrame : Nat := 58
def n_spec_l9Pieces : Nat := 60
def n_spec_l1In : Nat := 61
def n_spec_l9Told : Nat := 62
def n_impl_newWindow : Nat := 65
def n_laws_eqFrameS : Nat := 66
def n_laws_eqWinStep : Nat := 67
def n_laws_markText : Nat := 68
def n_laws_markFrameS : Nat := 69
def n_laws_heldStringS : Nat := 70
def n_laws_heldFrameS : Nat := 71
def n_laws_szBoolS : Nat := 72
def n_laws_szFrameS : Nat := 73
def n_laws_toBoolS : Nat := 74
def n_laws_toFrameS : Nat := 75
def n_impl_Window_send : Nat := 79
def n_slices_Delete_impl_Frame_impl_Frame : Nat := 80
def n_impl_Window_take : Nat := 81
def n_impl_Window_write : Nat := 82
def n_slices_Clone_bool_bool : Nat := 83
def n_slices_Clone_impl_Frame_impl_Frame : Nat := 84
def n_spec_l9Write : Nat := 85
def n_spec_l9Take : Nat := 86
def n_impl_areAll_string : Nat := 87
def n_impl_arePieces_1 : Nat := 88
def n_slices_ContainsFunc_impl_Frame_impl_Frame : Nat := 89
def n_impl_areAll_impl_Frame_1 : Nat := 90
def n_laws_eqFrame : Nat := 91
def n_laws_szFrame : Nat := 92
def n_laws_toFrame : Nat := 93
def n_slices_ContainsFunc_string_string : Nat := 94
def n_impl_areAll_string_1 : Nat := 95
def n_slices_IndexFunc_impl_Frame_impl_Frame : Nat := 96
def n_slices_IndexFunc_string_string : Nat := 97
def S_laws_FnExactPlayWindow : Sig := ⟨[(.snap, [.sl [.sc]]), (.snap, [.sc]), (.snap, [.sl [.sc, .sc]])], [[.sc]], true⟩
def S_laws_FnExactStepWindow : Sig := ⟨[(.snap, [.sl [.sc], .sc, .sl [.sc], .sl [.sc, .sc, .sc], .sl [.sc], .sl [.sc], .sc]), (.snap, [.sc, .sc])], [[.sc]], true⟩
def S_laws_FnExactSettleWindow : Sig := ⟨[(.snap, [.sl [.sc], .sc, .sl [.sc], .sl [.sc, .sc, .sc], .sl [.sc], .sl [.sc], .sc])], [[.sc]], true⟩
def S_impl_PlayWindow : Sig := ⟨[(.snap, [.sl [.sc]]), (.snap, [.sc]), (.snap, [.sl [.sc, .sc]])], [[.sl [.sc], .sc, .sl [.sc], .sl [.sc, .sc, .sc], .sl [.sc], .sl [.sc], .sc], [.sl [.sc]], [.sc]], true⟩
def S_spec_PlayWindow : Sig := ⟨[(.snap, [.sl [.sc]]), (.snap, [.sc]), (.snap, [.sl [.sc, .sc]])], [[.sl [.sc], .sc, .sl [.sc], .sl [.sc, .sc, .sc], .sl [.sc], .sl [.sc], .sc], [.sl [.sc]], [.sc]], true⟩
def S_impl_SettleWindow : Sig := ⟨[(.snap, [.sl [.sc], .sc, .sl [.sc], .sl [.sc, .sc, .sc], .sl [.sc], .sl [.sc], .sc])], [[.sl [.sc], .sc, .sl [.sc], .sl [.sc, .sc, .sc], .sl [.sc], .sl [.sc], .sc], [.sc], [.sc]], true⟩
def S_impl_GoodWindow : Sig := ⟨[(.snap, [.sl [.sc], .sc, .sl [.sc], .sl [.sc, .sc, .sc], .sl [.sc], .sl [.sc], .sc])], [[.sc]], true⟩
def S_impl_StepWindow : Sig := ⟨[(.snap, [.sl [.sc], .sc, .sl [.sc], .sl [.sc, .sc, .sc], .sl [.sc], .sl [.sc], .sc]), (.snap, [.sc, .sc])], [[.sl [.sc], .sc, .sl [.sc], .sl [.sc, .sc, .sc], .sl [.sc], .sl [.sc], .sc], [.sc]], true⟩
def S_spec_StepWindow : Sig := ⟨[(.snap, [.sl [.sc], .sc, .sl [.sc], .sl [.sc, .sc, .sc], .sl [.sc], .sl [.sc], .sc]), (.snap, [.sc, .sc])], [[.sl [.sc], .sc, .sl [.sc], .sl [.sc, .sc, .sc], .sl [.sc], .sl [.sc], .sc], [.sc]], true⟩
def S_spec_GoodWindow : Sig := ⟨[(.snap, [.sl [.sc], .sc, .sl [.sc], .sl [.sc, .sc, .sc], .sl [.sc], .sl [.sc], .sc])], [[.sc]], true⟩
def S_spec_SettleWindow : Sig := ⟨[(.snap, [.sl [.sc], .sc, .sl [.sc], .sl [.sc, .sc, .sc], .sl [.sc], .sl [.sc], .sc])], [[.sl [.sc], .sc, .sl [.sc], .sl [.sc, .sc, .sc], .sl [.sc], .sl [.sc], .sc], [.sc], [.sc]], true⟩
def S_impl_NewWindow : Sig := ⟨[(.snap, [.sl [.sc]]), (.snap, [.sc])], [[.sl [.sc], .sc, .sl [.sc], .sl [.sc, .sc, .sc], .sl [.sc], .sl [.sc], .sc], [.sc]], true⟩
def S_spec_NewWindow : Sig := ⟨[(.snap, [.sl [.sc]]), (.snap, [.sc])], [[.sl [.sc], .sc, .sl [.sc], .sl [.sc, .sc, .sc], .sl [.sc], .sl [.sc], .sc], [.sc]], true⟩
def S_laws_szStringS : Sig := ⟨[(.snap, [.sl [.sc]]), (.snap, [.sc])], [[.sc]], true⟩
def S_laws_szWinStepS : Sig := ⟨[(.snap, [.sl [.sc, .sc]]), (.snap, [.sc])], [[.sc]], true⟩
def S_laws_toStringS : Sig := ⟨[(.snap, [.sl [.sc]])], [[.sl [.sc]]], true⟩
def S_laws_toWinStepS : Sig := ⟨[(.snap, [.sl [.sc, .sc]])], [[.sl [.sc, .sc]]], true⟩
def S_laws_eqWindow : Sig := ⟨[(.snap, [.sl [.sc], .sc, .sl [.sc], .sl [.sc, .sc, .sc], .sl [.sc], .sl [.sc], .sc]), (.snap, [.sl [.sc], .sc, .sl [.sc], .sl [.sc, .sc, .sc], .sl [.sc], .sl [.sc], .sc])], [[.sc]], true⟩
def S_laws_eqBoolS : Sig := ⟨[(.snap, [.sl [.sc]]), (.snap, [.sl [.sc]])], [[.sc]], true⟩
def S_laws_eqStringS : Sig := ⟨[(.snap, [.sl [.sc]]), (.snap, [.sl [.sc]])], [[.sc]], true⟩
def S_laws_eqWinStepS : Sig := ⟨[(.snap, [.sl [.sc, .sc]]), (.snap, [.sl [.sc, .sc]])], [[.sc]], true⟩
def S_laws_heldWindow : Sig := ⟨[(.snap, [.sl [.sc], .sc, .sl [.sc], .sl [.sc, .sc, .sc], .sl [.sc], .sl [.sc], .sc]), (.snap, [.sc])], [[.sc]], true⟩
def S_laws_heldBoolS : Sig := ⟨[(.snap, [.sl [.sc]]), (.snap, [.sc])], [[.sc]], true⟩
def S_laws_szWindow : Sig := ⟨[(.snap, [.sl [.sc], .sc, .sl [.sc], .sl [.sc, .sc, .sc], .sl [.sc], .sl [.sc], .sc]), (.snap, [.sc])], [[.sc]], true⟩
def S_laws_toWindow : Sig := ⟨[(.snap, [.sl [.sc], .sc, .sl [.sc], .sl [.sc, .sc, .sc], .sl [.sc], .sl [.sc], .sc])], [[.sl [.sc], .sc, .sl [.sc], .sl [.sc, .sc, .sc], .sl [.sc], .sl [.sc], .sc]], true⟩
def S_laws_toWinStep : Sig := ⟨[(.snap, [.sc, .sc])], [[.sc, .sc]], true⟩
def S_impl_Window_own : Sig := ⟨[(.snap, [.sl [.sc], .sc, .sl [.sc], .sl [.sc, .sc, .sc], .sl [.sc], .sl [.sc], .sc])], [[.sl [.sc], .sc, .sl [.sc], .sl [.sc, .sc, .sc], .sl [.sc], .sl [.sc], .sc]], true⟩
def S_spec_l9Step : Sig := ⟨[(.move, [.sl [.sc], .sc, .sl [.sc], .sl [.sc, .sc, .sc], .sl [.sc], .sl [.sc], .sc]), (.snap, [.sc, .sc])], [[.sl [.sc], .sc, .sl [.sc], .sl [.sc, .sc, .sc], .sl [.sc], .sl [.sc], .sc], [.sc]], true⟩
def S_spec_l9Own : Sig := ⟨[(.snap, [.sl [.sc], .sc, .sl [.sc], .sl [.sc, .sc, .sc], .sl [.sc], .sl [.sc], .sc])], [[.sl [.sc], .sc, .sl [.sc], .sl [.sc, .sc, .sc], .sl [.sc], .sl [.sc], .sc]], true⟩
def S_slices_Clone_string_string : Sig := ⟨[(.snap, [.sl [.sc]])], [[.sl [.sc]]], true⟩
def S_impl_without : Sig := ⟨[(.snap, [.sl [.sc]])], [[.sc]], true⟩
def S_impl_arePieces : Sig := ⟨[(.snap, [.sl [.sc]])], [[.sc]], true⟩
def S_impl_within : Sig := ⟨[(.snap, [.sc]), (.snap, [.sc]), (.snap, [.sc])], [[.sc]], true⟩
def S_impl_areAll_impl_Frame : Sig := ⟨[(.snap, [.sl [.sc, .sc, .sc]]), (.snap, [.sc])], [[.sc]], true⟩
def S_impl_Window_isFrame : Sig := ⟨[(.snap, [.sl [.sc], .sc, .sl [.sc], .sl [.sc, .sc, .sc], .sl [.sc], .sl [.sc], .sc]), (.snap, [.sc, .sc, .sc])], [[.sc]], true⟩
def S_spec_l9Pieces : Sig := ⟨[(.snap, [.sl [.sc]])], [[.sc]], true⟩
def S_spec_l1In : Sig := ⟨[(.snap, [.sc]), (.snap, [.sc]), (.snap, [.sc])], [[.sc]], true⟩
def S_spec_l9Told : Sig := ⟨[(.snap, [.sl [.sc]])], [[.sc]], true⟩
def S_impl_newWindow : Sig := ⟨[(.snap, [.sl [.sc]]), (.snap, [.sc])], [[.sl [.sc], .sc, .sl [.sc], .sl [.sc, .sc, .sc], .sl [.sc], .sl [.sc], .sc]], true⟩
def S_laws_eqFrameS : Sig := ⟨[(.snap, [.sl [.sc, .sc, .sc]]), (.snap, [.sl [.sc, .sc, .sc]])], [[.sc]], true⟩
def S_laws_eqWinStep : Sig := ⟨[(.snap, [.sc, .sc]), (.snap, [.sc, .sc])], [[.sc]], true⟩
def S_laws_markText : Sig := ⟨[(.snap, [.sc])], [[.sc]], true⟩
def S_laws_heldStringS : Sig := ⟨[(.snap, [.sl [.sc]]), (.snap, [.sc])], [[.sc]], true⟩
def S_laws_heldFrameS : Sig := ⟨[(.snap, [.sl [.sc, .sc, .sc]]), (.snap, [.sc])], [[.sc]], true⟩
def S_laws_szBoolS : Sig := ⟨[(.snap, [.sl [.sc]]), (.snap, [.sc])], [[.sc]], true⟩
def S_laws_szFrameS : Sig := ⟨[(.snap, [.sl [.sc, .sc, .sc]]), (.snap, [.sc])], [[.sc]], true⟩
def S_laws_toBoolS : Sig := ⟨[(.snap, [.sl [.sc]])], [[.sl [.sc]]], true⟩
def S_laws_toFrameS : Sig := ⟨[(.snap, [.sl [.sc, .sc, .sc]])], [[.sl [.sc, .sc, .sc]]], true⟩
def S_slices_Clone_bool_bool : Sig := ⟨[(.snap, [.sl [.sc]])], [[.sl [.sc]]], true⟩
def S_slices_Clone_impl_Frame_impl_Frame : Sig := ⟨[(.snap, [.sl [.sc, .sc, .sc]])], [[.sl [.sc, .sc, .sc]]], true⟩
def S_spec_l9Write : Sig := ⟨[(.move, [.sl [.sc], .sc, .sl [.sc], .sl [.sc, .sc, .sc], .sl [.sc], .sl [.sc], .sc]), (.snap, [.sc, .sc, .sc])], [[.sl [.sc], .sc, .sl [.sc], .sl [.sc, .sc, .sc], .sl [.sc], .sl [.sc], .sc]], true⟩
def S_spec_l9Take : Sig := ⟨[(.move, [.sl [.sc], .sc, .sl [.sc], .sl [.sc, .sc, .sc], .sl [.sc], .sl [.sc], .sc]), (.snap, [.sc, .sc, .sc])], [[.sl [.sc], .sc, .sl [.sc], .sl [.sc, .sc, .sc], .sl [.sc], .sl [.sc], .sc]], true⟩
def S_impl_areAll_string : Sig := ⟨[(.snap, [.sl [.sc]]), (.snap, [.sc])], [[.sc]], true⟩
def S_impl_arePieces_1 : Sig := ⟨[(.snap, [.sc])], [[.sc]], true⟩
def S_slices_ContainsFunc_impl_Frame_impl_Frame : Sig := ⟨[(.snap, [.sl [.sc, .sc, .sc]]), (.snap, [.sc])], [[.sc]], true⟩
def S_laws_eqFrame : Sig := ⟨[(.snap, [.sc, .sc, .sc]), (.snap, [.sc, .sc, .sc])], [[.sc]], true⟩
def S_laws_szFrame : Sig := ⟨[(.snap, [.sc, .sc, .sc]), (.snap, [.sc])], [[.sc]], true⟩
def S_laws_toFrame : Sig := ⟨[(.snap, [.sc, .sc, .sc])], [[.sc, .sc, .sc]], true⟩
def S_slices_ContainsFunc_string_string : Sig := ⟨[(.snap, [.sl [.sc]]), (.snap, [.sc])], [[.sc]], true⟩
def S_slices_IndexFunc_impl_Frame_impl_Frame : Sig := ⟨[(.snap, [.sl [.sc, .sc, .sc]]), (.snap, [.sc])], [[.sc]], true⟩
def S_slices_IndexFunc_string_string : Sig := ⟨[(.snap, [.sl [.sc]]), (.snap, [.sc])], [[.sc]], true⟩
def tis : List (Nat × TI) := [(3, ⟨1, 8, false, [.int .i64 0], .int .i64⟩),
  (4, ⟨1, 1, false, [.bool false], .bool⟩),
  (5, ⟨1, 1, false, [.int .u8 0], .int .u8⟩),
  (9, ⟨1, 16, false, [.string ⟨#[]⟩], .str⟩),
  (22, ⟨1, 24, false, [.slice none 0 0], .slice 5⟩),
  (23, ⟨1, 24, false, [.slice none 0 0], .slice 9⟩),
  (24, ⟨1, 24, false, [.slice none 0 0], .slice 47⟩),
  (27, ⟨1, 24, false, [.slice none 0 0], .slice 4⟩),
  (28, ⟨1, 24, false, [.slice none 0 0], .slice 44⟩),
  (30, ⟨7, 136, true, [.slice none 0 0, .int .i64 0, .slice none 0 0, .slice none 0 0, .slice none 0 0, .slice none 0 0, .int .i64 0], .struct [(0, 1, false), (1, 1, false), (2, 1, false), (3, 1, false), (4, 1, false), (5, 1, false), (6, 1, false)]⟩),
  (44, ⟨3, 32, true, [.bool false, .int .i64 0, .string ⟨#[]⟩], .struct [(0, 1, false), (1, 1, false), (2, 1, false)]⟩),
  (47, ⟨2, 16, true, [.int .i64 0, .int .i64 0], .struct [(0, 1, false), (1, 1, false)]⟩),
  (57, ⟨1, 24, false, [.slice none 0 0], .slice 70⟩),
  (67, ⟨1, 24, false, [.slice none 0 0], .slice 113⟩),
  (69, ⟨7, 136, true, [.slice none 0 0, .int .i64 0, .slice none 0 0, .slice none 0 0, .slice none 0 0, .slice none 0 0, .int .i64 0], .struct [(0, 1, false), (1, 1, false), (2, 1, false), (3, 1, false), (4, 1, false), (5, 1, false), (6, 1, false)]⟩),
  (70, ⟨2, 16, true, [.int .i64 0, .int .i64 0], .struct [(0, 1, false), (1, 1, false)]⟩),
  (90, ⟨1, 8, false, [.nilFunc], .func⟩),
  (110, ⟨1, 8, false, [.nilFunc], .func⟩),
  (113, ⟨3, 32, true, [.bool false, .int .i64 0, .string ⟨#[]⟩], .struct [(0, 1, false), (1, 1, false), (2, 1, false)]⟩)]
noncomputable def fns : List (Nat × Func) := [(n_laws_FnExactPlayWindow, Try.f5), (n_laws_FnExactStepWindow, Try.f6), (n_laws_FnExactSettleWindow, Try.f7), (n_impl_PlayWindow, Try.f9), (n_spec_PlayWindow, Try.f10), (n_impl_SettleWindow, Try.f15), (n_impl_GoodWindow, Try.f16), (n_impl_StepWindow, Try.f19), (n_spec_StepWindow, Try.f20), (n_spec_GoodWindow, Try.f21), (n_spec_SettleWindow, Try.f23), (n_impl_NewWindow, Try.f27), (n_spec_NewWindow, Try.f28), (n_laws_szStringS, Try.f29), (n_laws_szWinStepS, Try.f30), (n_laws_toStringS, Try.f31), (n_laws_toWinStepS, Try.f32), (n_laws_eqWindow, Try.f33), (n_laws_eqBoolS, Try.f34), (n_laws_eqStringS, Try.f35), (n_laws_eqWinStepS, Try.f36), (n_laws_markStringS, Try.f37), (n_laws_markWinStepS, Try.f38), (n_laws_markWindow, Try.f39), (n_laws_markBoolS, Try.f40), (n_laws_heldWindow, Try.f41), (n_laws_heldBoolS, Try.f42), (n_laws_szWindow, Try.f43), (n_laws_toWindow, Try.f44), (n_laws_toWinStep, Try.f45), (n_impl_Window_step, Try.f49), (n_impl_Window_own, Try.f50), (n_spec_l9Step, Try.f51), (n_spec_l9Own, Try.f52), (n_slices_Clone_string_string, Try.f53), (n_impl_without, Try.f54), (n_impl_arePieces, Try.f55), (n_impl_within, Try.f56), (n_impl_areAll_impl_Frame, Try.f57), (n_impl_Window_isFrame, Try.f58), (n_spec_l9Pieces, Try.f60), (n_spec_l1In, Try.f61), (n_spec_l9Told, Try.f62), (n_impl_newWindow, Try.f65), (n_laws_eqFrameS, Try.f66), (n_laws_eqWinStep, Try.f67), (n_laws_markText, Try.f68), (n_laws_markFrameS, Try.f69), (n_laws_heldStringS, Try.f70), (n_laws_heldFrameS, Try.f71), (n_laws_szBoolS, Try.f72), (n_laws_szFrameS, Try.f73), (n_laws_toBoolS, Try.f74), (n_laws_toFrameS, Try.f75), (n_impl_Window_send, Try.f79), (n_slices_Delete_impl_Frame_impl_Frame, Try.f80), (n_impl_Window_take, Try.f81), (n_impl_Window_write, Try.f82), (n_slices_Clone_bool_bool, Try.f83), (n_slices_Clone_impl_Frame_impl_Frame, Try.f84), (n_spec_l9Write, Try.f85), (n_spec_l9Take, Try.f86), (n_impl_areAll_string, Try.f87), (n_impl_arePieces_1, Try.f88), (n_slices_ContainsFunc_impl_Frame_impl_Frame, Try.f89), (n_impl_areAll_impl_Frame_1, Try.f90), (n_laws_eqFrame, Try.f91), (n_laws_szFrame, Try.f92), (n_laws_toFrame, Try.f93), (n_slices_ContainsFunc_string_string, Try.f94), (n_impl_areAll_string_1, Try.f95), (n_slices_IndexFunc_impl_Frame_impl_Frame, Try.f96), (n_slices_IndexFunc_string_string, Try.f97)]
def tups : List (Nat × Nat) := [(0, 0), (31, 3), (39, 3), (50, 2)]
def locs : List (Nat × List Nat) := [(5, [8, 13, 19]), (6, [2, 3, 8]), (7, [1, 4, 7, 8, 14]), (9, [6, 13]), (10, [6, 9, 13]), (15, [1, 2]), (16, [1]), (19, [2, 3, 4]), (20, [2, 3, 4]), (21, [1, 7]), (23, [1, 2, 5]), (27, [4]), (33, [2, 3]), (39, [2]), (41, [2]), (43, [2]), (44, [1, 2, 3]), (45, [1, 2, 3]), (49, [3]), (50, [2]), (51, [2, 3, 7]), (52, [1, 2]), (58, [2, 3]), (67, [2, 3]), (81, [3]), (82, [3]), (85, [2, 3, 4]), (86, [2, 3, 4]), (90, [2]), (91, [2, 3]), (92, [2]), (93, [1, 2, 3])]
def keeps : List (Nat × List (Nat × (List Nat × List (Nat × Nat)))) := [(9, [(6, ([9, 11, 28, 29, 30], [(6, 7)]))]),
  (10, [(6, ([11, 30, 31, 32], [(6, 7), (9, 7)]))]),
  (15, [(4, ([5, 6], [(2, 7)]))]),
  (16, [(5, ([47, 48, 49], [(1, 7)]))]),
  (21, [(5, ([3, 57, 58, 59], [(1, 7)])), (11, ([3, 103, 104, 105], [(1, 7)]))]),
  (23, [(6, ([6, 7], [(2, 7), (5, 7)]))]),
  (29, [(5, ([0, 1, 5], []))]),
  (31, [(3, ([0, 3, 4], []))]),
  (32, [(3, ([0, 3, 4], []))]),
  (34, [(4, ([0, 1, 5], []))]),
  (35, [(4, ([0, 1, 5], []))]),
  (36, [(4, ([0, 1, 5], []))]),
  (37, [(2, ([0, 1, 5], []))]),
  (38, [(2, ([0, 1, 5], []))]),
  (40, [(2, ([0, 1, 5], []))]),
  (42, [(2, ([0, 1, 5], []))]),
  (54, [(2, ([0, 3], []))]),
  (60, [(2, ([0, 5, 6, 7], []))]),
  (62, [(2, ([0, 3], []))]),
  (66, [(4, ([0, 1, 5], []))]),
  (68, [(4, ([0, 3], []))]),
  (69, [(2, ([0, 1, 5], []))]),
  (70, [(2, ([0, 1, 5], []))]),
  (71, [(2, ([0, 1, 5], []))]),
  (73, [(5, ([0, 1, 5], []))]),
  (74, [(3, ([0, 3, 4], []))]),
  (75, [(3, ([0, 3, 4], []))]),
  (96, [(2, ([0, 1, 7, 8], []))]),
  (97, [(2, ([0, 1, 7, 8], []))])]
def eqs : List (Nat × List Nat) := []
def shsT : List (Nat × List Sh) := [(3, [.sc]), (4, [.sc]), (5, [.sc]), (9, [.sc]), (22, [.sl [.sc]]), (23, [.sl [.sc]]), (24, [.sl [.sc, .sc]]), (27, [.sl [.sc]]), (28, [.sl [.sc, .sc, .sc]]), (30, [.sl [.sc], .sc, .sl [.sc], .sl [.sc, .sc, .sc], .sl [.sc], .sl [.sc], .sc]), (44, [.sc, .sc, .sc]), (47, [.sc, .sc]), (57, [.sl [.sc, .sc]]), (67, [.sl [.sc, .sc, .sc]]), (69, [.sl [.sc], .sc, .sl [.sc], .sl [.sc, .sc, .sc], .sl [.sc], .sl [.sc], .sc]), (70, [.sc, .sc]), (90, [.sc]), (110, [.sc]), (113, [.sc, .sc, .sc])]
def sgs : List (Nat × Sig) := [(5, S_laws_FnExactPlayWindow), (6, S_laws_FnExactStepWindow), (7, S_laws_FnExactSettleWindow), (9, S_impl_PlayWindow), (10, S_spec_PlayWindow), (15, S_impl_SettleWindow), (16, S_impl_GoodWindow), (19, S_impl_StepWindow), (20, S_spec_StepWindow), (21, S_spec_GoodWindow), (23, S_spec_SettleWindow), (27, S_impl_NewWindow), (28, S_spec_NewWindow), (29, S_laws_szStringS), (30, S_laws_szWinStepS), (31, S_laws_toStringS), (32, S_laws_toWinStepS), (33, S_laws_eqWindow), (34, S_laws_eqBoolS), (35, S_laws_eqStringS), (36, S_laws_eqWinStepS), (41, S_laws_heldWindow), (42, S_laws_heldBoolS), (43, S_laws_szWindow), (44, S_laws_toWindow), (45, S_laws_toWinStep), (50, S_impl_Window_own), (51, S_spec_l9Step), (52, S_spec_l9Own), (53, S_slices_Clone_string_string), (54, S_impl_without), (55, S_impl_arePieces), (56, S_impl_within), (57, S_impl_areAll_impl_Frame), (58, S_impl_Window_isFrame), (60, S_spec_l9Pieces), (61, S_spec_l1In), (62, S_spec_l9Told), (65, S_impl_newWindow), (66, S_laws_eqFrameS), (67, S_laws_eqWinStep), (68, S_laws_markText), (70, S_laws_heldStringS), (71, S_laws_heldFrameS), (72, S_laws_szBoolS), (73, S_laws_szFrameS), (74, S_laws_toBoolS), (75, S_laws_toFrameS), (83, S_slices_Clone_bool_bool), (84, S_slices_Clone_impl_Frame_impl_Frame), (85, S_spec_l9Write), (86, S_spec_l9Take), (87, S_impl_areAll_string), (88, S_impl_arePieces_1), (89, S_slices_ContainsFunc_impl_Frame_impl_Frame), (91, S_laws_eqFrame), (92, S_laws_szFrame), (93, S_laws_toFrame), (94, S_slices_ContainsFunc_string_string), (96, S_slices_IndexFunc_impl_Frame_impl_Frame), (97, S_slices_IndexFunc_string_string)]
def lts : List (Nat × List Nat) := [(9, [37]), (10, [47]), (68, [12]), (82, [16]), (85, [12])]
def ops : List (Nat × List Nat) := [(6, [2]), (7, [1]), (15, [1]), (16, [1]), (19, [2]), (20, [2]), (21, [1]), (23, [1]), (33, [2, 3]), (39, [2]), (41, [2]), (43, [2]), (44, [1]), (50, [1]), (51, [2]), (52, [1]), (57, [3]), (58, [2]), (85, [2]), (86, [2]), (87, [3])]
def tds : List (Nat × List Nat) := []
noncomputable def E : Env := ⟨look fns, look tis, look tups, flag locs, fun f i => match look keeps f with | some l => (match look l i with | some x => x | none => ([], [])) | none => ([], []), fun t => match look eqs t with | some l => l | none => []⟩
def cls : List (Nat × Nat) := [(53, 1), (83, 1), (84, 3)]
noncomputable def P : PEnv := ⟨E, fun t => match look shsT t with | some l => l | none => [], look sgs, flag lts, flag ops, flag tds, clT cls⟩
theorem clOk : ClOk P := clOk_of (l := cls) rfl ⟨⟨fun _ _ _ => by kernel_rfl, fun _ _ _ _ _ _ => by kernel_rfl⟩, ⟨⟨fun _ _ _ => by kernel_rfl, fun _ _ _ _ _ _ => by kernel_rfl⟩, ⟨⟨fun _ _ _ => by kernel_rfl, fun _ _ _ _ _ _ => by kernel_rfl⟩, trivial⟩⟩⟩
theorem fnsOk : FnsOk Try.prog fns := ⟨⟨Try.func5, by kernel_rfl⟩, ⟨⟨Try.func6, by kernel_rfl⟩, ⟨⟨Try.func7, by kernel_rfl⟩, ⟨⟨Try.func9, by kernel_rfl⟩, ⟨⟨Try.func10, by kernel_rfl⟩, ⟨⟨Try.func15, by kernel_rfl⟩, ⟨⟨Try.func16, by kernel_rfl⟩, ⟨⟨Try.func19, by kernel_rfl⟩, ⟨⟨Try.func20, by kernel_rfl⟩, ⟨⟨Try.func21, by kernel_rfl⟩, ⟨⟨Try.func23, by kernel_rfl⟩, ⟨⟨Try.func27, by kernel_rfl⟩, ⟨⟨Try.func28, by kernel_rfl⟩, ⟨⟨Try.func29, by kernel_rfl⟩, ⟨⟨Try.func30, by kernel_rfl⟩, ⟨⟨Try.func31, by kernel_rfl⟩, ⟨⟨Try.func32, by kernel_rfl⟩, ⟨⟨Try.func33, by kernel_rfl⟩, ⟨⟨Try.func34, by kernel_rfl⟩, ⟨⟨Try.func35, by kernel_rfl⟩, ⟨⟨Try.func36, by kernel_rfl⟩, ⟨⟨Try.func37, by kernel_rfl⟩, ⟨⟨Try.func38, by kernel_rfl⟩, ⟨⟨Try.func39, by kernel_rfl⟩, ⟨⟨Try.func40, by kernel_rfl⟩, ⟨⟨Try.func41, by kernel_rfl⟩, ⟨⟨Try.func42, by kernel_rfl⟩, ⟨⟨Try.func43, by kernel_rfl⟩, ⟨⟨Try.func44, by kernel_rfl⟩, ⟨⟨Try.func45, by kernel_rfl⟩, ⟨⟨Try.func49, by kernel_rfl⟩, ⟨⟨Try.func50, by kernel_rfl⟩, ⟨⟨Try.func51, by kernel_rfl⟩, ⟨⟨Try.func52, by kernel_rfl⟩, ⟨⟨Try.func53, by kernel_rfl⟩, ⟨⟨Try.func54, by kernel_rfl⟩, ⟨⟨Try.func55, by kernel_rfl⟩, ⟨⟨Try.func56, by kernel_rfl⟩, ⟨⟨Try.func57, by kernel_rfl⟩, ⟨⟨Try.func58, by kernel_rfl⟩, ⟨⟨Try.func60, by kernel_rfl⟩, ⟨⟨Try.func61, by kernel_rfl⟩, ⟨⟨Try.func62, by kernel_rfl⟩, ⟨⟨Try.func65, by kernel_rfl⟩, ⟨⟨Try.func66, by kernel_rfl⟩, ⟨⟨Try.func67, by kernel_rfl⟩, ⟨⟨Try.func68, by kernel_rfl⟩, ⟨⟨Try.func69, by kernel_rfl⟩, ⟨⟨Try.func70, by kernel_rfl⟩, ⟨⟨Try.func71, by kernel_rfl⟩, ⟨⟨Try.func72, by kernel_rfl⟩, ⟨⟨Try.func73, by kernel_rfl⟩, ⟨⟨Try.func74, by kernel_rfl⟩, ⟨⟨Try.func75, by kernel_rfl⟩, ⟨⟨Try.func79, by kernel_rfl⟩, ⟨⟨Try.func80, by kernel_rfl⟩, ⟨⟨Try.func81, by kernel_rfl⟩, ⟨⟨Try.func82, by kernel_rfl⟩, ⟨⟨Try.func83, by kernel_rfl⟩, ⟨⟨Try.func84, by kernel_rfl⟩, ⟨⟨Try.func85, by kernel_rfl⟩, ⟨⟨Try.func86, by kernel_rfl⟩, ⟨⟨Try.func87, by kernel_rfl⟩, ⟨⟨Try.func88, by kernel_rfl⟩, ⟨⟨Try.func89, by kernel_rfl⟩, ⟨⟨Try.func90, by kernel_rfl⟩, ⟨⟨Try.func91, by kernel_rfl⟩, ⟨⟨Try.func92, by kernel_rfl⟩, ⟨⟨Try.func93, by kernel_rfl⟩, ⟨⟨Try.func94, by kernel_rfl⟩, ⟨⟨Try.func95, by kernel_rfl⟩, ⟨⟨Try.func96, by kernel_rfl⟩, ⟨⟨Try.func97, by kernel_rfl⟩, trivial⟩⟩⟩⟩⟩⟩⟩⟩⟩⟩⟩⟩⟩⟩⟩⟩⟩⟩⟩⟩⟩⟩⟩⟩⟩⟩⟩⟩⟩⟩⟩⟩⟩⟩⟩⟩⟩⟩⟩⟩⟩⟩⟩⟩⟩⟩⟩⟩⟩⟩⟩⟩⟩⟩⟩⟩⟩⟩⟩⟩⟩⟩⟩⟩⟩⟩⟩⟩⟩⟩⟩⟩⟩
theorem envE : EnvOk Try.prog E := envOk (tis := tis) rfl rfl fnsOk (by kernel_rfl) (by kernel_rfl) (by kernel_rfl)
theorem eqE : ∀ T q ks, E.eqT T = q :: ks → eqTOk Try.prog T (q :: ks) = true := eqsOk (eqs := eqs) rfl (by kernel_rfl)
end Go.Lg.Pv.Q
