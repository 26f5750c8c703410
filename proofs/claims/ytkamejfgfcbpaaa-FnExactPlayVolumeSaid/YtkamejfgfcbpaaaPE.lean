/- The tables of this seat's translation: types, functions, registers, what loops keep; and that they are the program's. -/
import Derived.Test.YtkamejfgfcbpaaaProg
import Derived.Test.YtkamejfgfcbpaaaPackD
namespace Go.Lg.Pv.Q
open Go Go.Lg Go.Lg.Pv Go.Proofs
set_option linter.unusedVariables false
set_option maxRecDepth 100000

def n_laws_FnExactFoldRecords : Nat := 3
def n_laws_FnFolded : Nat := 4
def n_laws_FnExactBlocksIn : Nat := 5
def n_laws_FnVolume : Nat := 7
def n_laws_FnExactDoVolume : Nat := 8
def n_laws_FnExactPlayVolume : Nat := 9
def n_laws_szRecordS : Nat := 11
def n_spec_FoldRecords : Nat := 12
def n_laws_toRecordS : Nat := 13
def n_impl_FoldRecords : Nat := 14
def n_laws_eqStringS : Nat := 15
def n_laws_eqRecordS : Nat := 16
def n_laws_markRecordS : Nat := 17
def n_laws_markStringS : Nat := 18
def n_laws_heldStringS : Nat := 19
def n_spec_DrawFoldRecords : Nat := 20
def n_laws_sameTexts : Nat := 21
def n_impl_BlocksOf : Nat := 22
def n_laws_has : Nat := 23
def n_spec_DrawRecordText : Nat := 24
def n_impl_RecordText : Nat := 25
def n_spec_RecordText : Nat := 26
def n_spec_BlocksOf : Nat := 27
def n_laws_sameInts : Nat := 28
def n_impl_GoodRecord : Nat := 29
def n_impl_ReadRecord : Nat := 30
def n_laws_szVolume : Nat := 31
def n_spec_BlocksIn : Nat := 32
def n_laws_toVolume : Nat := 33
def n_impl_BlocksIn : Nat := 34
def n_laws_eqVolume : Nat := 35
def n_laws_markVolume : Nat := 36
def n_spec_DrawPlayVolume : Nat := 39
def n_impl_PlayVolume : Nat := 40
def n_spec_PlayVolume : Nat := 41
def n_laws_sameBools : Nat := 42
def n_laws_sameVolume : Nat := 43
def n_impl_RecordFor : Nat := 44
def n_impl_GoodVolume : Nat := 45
def n_laws_sameRecords : Nat := 46
def n_impl_DoVolume : Nat := 47
def n_impl_MarkOf : Nat := 48
def n_laws_szVolOp : Nat := 49
def n_spec_DoVolume : Nat := 50
def n_laws_toVolOp : Nat := 51
def n_laws_heldVolume : Nat := 52
def n_laws_szVolOpS : Nat := 53
def n_laws_toVolOpS : Nat := 54
def n_laws_eqBoolS : Nat := 55
def n_laws_eqVolOpS : Nat := 56
def n_laws_markVolOpS : Nat := 57
def n_laws_markBoolS : Nat := 58
def n_laws_heldBoolS : Nat := 59
def n_spec_GoodVolume : Nat := 61
def n_spec_RecordFor : Nat := 65
def n_impl_NewVolume : Nat := 66
def n_spec_NewVolume : Nat := 67
def n_laws_szRecord : Nat := 68
def n_spec_l3Good : Nat := 69
def n_spec_l3Fold : Nat := 70
def n_laws_toRecord : Nat := 71
def n_impl_areAll_impl_Record : Nat := 72
def n_impl_emptyBlocks : Nat := 73
def n_impl_Record_do : Nat := 74
def n_laws_eqRecord : Nat := 75
def n_laws_markText : Nat := 76
def n_spec_l1Cur_records : Nat := 77
def n_spec_l1Cur_among : Nat := 78
def n_impl_run : Nat := 79
def n_spec_DrawGoodRecord : Nat := 80
def n_impl_Record_text : Nat := 81
def n_spec_GoodRecord : Nat := 82
def n_spec_l3Text : Nat := 83
def n_impl_within : Nat := 84
def n_impl_isRun : Nat := 85
def n_impl_readRecord : Nat := 86
def n_laws_szStringS : Nat := 87
def n_spec_l6In : Nat := 88
def n_laws_toStringS : Nat := 89
def n_impl_Volume_blocks : Nat := 90
def n_spec_l1In : Nat := 91
def n_spec_l1Cur_volOps : Nat := 93
def n_impl_Volume_do : Nat := 94
def n_impl_Volume_own : Nat := 95
def n_spec_l6Do : Nat := 96
def n_spec_l6Own : Nat := 97
def n_impl_areBlocks : Nat := 98
def n_impl_Volume_mark : Nat := 99
def n_laws_heldRecordS : Nat := 100
def n_laws_eqVolOp : Nat := 101
def n_spec_l1Cur_volOp : Nat := 103
def n_spec_l6Blocks : Nat := 104
def n_spec_l1Cur_pick : Nat := 105
def n_spec_l6Mark : Nat := 106
def n_spec_l3Blank : Nat := 107
def n_spec_l3Do : Nat := 108
def n_slices_ContainsFunc_impl_Record_impl_Record : Nat := 109
def n_impl_areAll_impl_Record_1 : Nat := 110
def n_slices_Repeat_string_string : Nat := 111
def n_spec_l1Cur_record : Nat := 112
def n_impl_withSum : Nat := 113
def n_spec_l3Where : Nat := 114
def n_spec_l1With : Nat := 115
def n_impl_checkSum : Nat := 116
def n_slices_Clone_string_string : Nat := 117
def n_spec_l1Cur_one : Nat := 121
def n_impl_Volume_put : Nat := 122
def n_impl_Volume_fold : Nat := 123
def n_slices_Clone_impl_Record_impl_Record : Nat := 124
def n_impl_areAll_string : Nat := 125
def n_impl_isData : Nat := 126
def n_impl_markOf : Nat := 127
def n_spec_l1Cur_next : Nat := 128
def n_slices_IndexFunc_impl_Record_impl_Record : Nat := 129
def n_math_bits_Mul : Nat := 130
def n_impl_twoBytes : Nat := 131
def n_impl_sumOn : Nat := 132
def n_spec_l1On : Nat := 133
def n_slices_ContainsFunc_string_string : Nat := 136
def n_impl_areAll_string_1 : Nat := 137
def n_math_bits_Mul32 : Nat := 138
def n_math_bits_Mul64 : Nat := 139
def n_slices_IndexFunc_string_string : Nat := 142
def S_laws_FnExactFoldRecords : Sig := ⟨[(.snap, [.sl [.sc, .sc, .sc, .sc]])], [[.sc]], true⟩
def S_laws_FnFolded : Sig := ⟨[(.snap, [.sl [.sc]]), (.snap, [.sl [.sc]])], [[.sc]], true⟩
def S_laws_FnExactBlocksIn : Sig := ⟨[(.snap, [.sl [.sc], .sc, .sl [.sc, .sc, .sc, .sc], .sc])], [[.sc]], true⟩
def S_laws_FnVolume : Sig := ⟨[(.snap, [.sl [.sc]])], [[.sc]], true⟩
def S_laws_FnExactDoVolume : Sig := ⟨[(.snap, [.sl [.sc], .sc, .sl [.sc, .sc, .sc, .sc], .sc]), (.snap, [.sc, .sc, .sc, .sc, .sc])], [[.sc]], true⟩
def S_laws_FnExactPlayVolume : Sig := ⟨[(.snap, [.sl [.sc, .sc, .sc, .sc, .sc]])], [[.sc]], true⟩
def S_laws_szRecordS : Sig := ⟨[(.snap, [.sl [.sc, .sc, .sc, .sc]]), (.snap, [.sc])], [[.sc]], true⟩
def S_spec_FoldRecords : Sig := ⟨[(.snap, [.sl [.sc, .sc, .sc, .sc]])], [[.sl [.sc]], [.sc]], true⟩
def S_laws_toRecordS : Sig := ⟨[(.snap, [.sl [.sc, .sc, .sc, .sc]])], [[.sl [.sc, .sc, .sc, .sc]]], true⟩
def S_impl_FoldRecords : Sig := ⟨[(.snap, [.sl [.sc, .sc, .sc, .sc]])], [[.sl [.sc]], [.sc]], true⟩
def S_laws_eqStringS : Sig := ⟨[(.snap, [.sl [.sc]]), (.snap, [.sl [.sc]])], [[.sc]], true⟩
def S_laws_eqRecordS : Sig := ⟨[(.snap, [.sl [.sc, .sc, .sc, .sc]]), (.snap, [.sl [.sc, .sc, .sc, .sc]])], [[.sc]], true⟩
def S_laws_heldStringS : Sig := ⟨[(.snap, [.sl [.sc]]), (.snap, [.sc])], [[.sc]], true⟩
def S_spec_DrawFoldRecords : Sig := ⟨[(.snap, [.sl [.sc]])], [[.sl [.sc, .sc, .sc, .sc]]], true⟩
def S_laws_sameTexts : Sig := ⟨[(.snap, [.sl [.sc]]), (.snap, [.sl [.sc]])], [[.sc]], true⟩
def S_impl_BlocksOf : Sig := ⟨[(.snap, [.sc, .sc, .sc, .sc])], [[.sl [.sc]], [.sc]], true⟩
def S_laws_has : Sig := ⟨[(.snap, [.sl [.sc]]), (.snap, [.sc])], [[.sc]], true⟩
def S_spec_DrawRecordText : Sig := ⟨[(.snap, [.sl [.sc]])], [[.sc, .sc, .sc, .sc]], true⟩
def S_impl_RecordText : Sig := ⟨[(.snap, [.sc, .sc, .sc, .sc])], [[.sc], [.sc]], true⟩
def S_spec_RecordText : Sig := ⟨[(.snap, [.sc, .sc, .sc, .sc])], [[.sc], [.sc]], true⟩
def S_spec_BlocksOf : Sig := ⟨[(.snap, [.sc, .sc, .sc, .sc])], [[.sl [.sc]], [.sc]], true⟩
def S_laws_sameInts : Sig := ⟨[(.snap, [.sl [.sc]]), (.snap, [.sl [.sc]])], [[.sc]], true⟩
def S_impl_GoodRecord : Sig := ⟨[(.snap, [.sc, .sc, .sc, .sc])], [[.sc]], true⟩
def S_impl_ReadRecord : Sig := ⟨[(.snap, [.sc]), (.snap, [.sc])], [[.sc, .sc, .sc, .sc], [.sc], [.sc]], true⟩
def S_laws_szVolume : Sig := ⟨[(.snap, [.sl [.sc], .sc, .sl [.sc, .sc, .sc, .sc], .sc]), (.snap, [.sc])], [[.sc]], true⟩
def S_spec_BlocksIn : Sig := ⟨[(.snap, [.sl [.sc], .sc, .sl [.sc, .sc, .sc, .sc], .sc])], [[.sl [.sc]], [.sc]], true⟩
def S_laws_toVolume : Sig := ⟨[(.snap, [.sl [.sc], .sc, .sl [.sc, .sc, .sc, .sc], .sc])], [[.sl [.sc], .sc, .sl [.sc, .sc, .sc, .sc], .sc]], true⟩
def S_impl_BlocksIn : Sig := ⟨[(.snap, [.sl [.sc], .sc, .sl [.sc, .sc, .sc, .sc], .sc])], [[.sl [.sc]], [.sc]], true⟩
def S_laws_eqVolume : Sig := ⟨[(.snap, [.sl [.sc], .sc, .sl [.sc, .sc, .sc, .sc], .sc]), (.snap, [.sl [.sc], .sc, .sl [.sc, .sc, .sc, .sc], .sc])], [[.sc]], true⟩
def S_spec_DrawPlayVolume : Sig := ⟨[(.snap, [.sl [.sc]])], [[.sl [.sc, .sc, .sc, .sc, .sc]]], true⟩
def S_impl_PlayVolume : Sig := ⟨[(.snap, [.sl [.sc, .sc, .sc, .sc, .sc]])], [[.sl [.sc], .sc, .sl [.sc, .sc, .sc, .sc], .sc], [.sl [.sc]], [.sc]], true⟩
def S_spec_PlayVolume : Sig := ⟨[(.snap, [.sl [.sc, .sc, .sc, .sc, .sc]])], [[.sl [.sc], .sc, .sl [.sc, .sc, .sc, .sc], .sc], [.sl [.sc]], [.sc]], true⟩
def S_laws_sameBools : Sig := ⟨[(.snap, [.sl [.sc]]), (.snap, [.sl [.sc]])], [[.sc]], true⟩
def S_laws_sameVolume : Sig := ⟨[(.snap, [.sl [.sc], .sc, .sl [.sc, .sc, .sc, .sc], .sc]), (.snap, [.sl [.sc], .sc, .sl [.sc, .sc, .sc, .sc], .sc])], [[.sc]], true⟩
def S_impl_RecordFor : Sig := ⟨[(.snap, [.sc, .sc, .sc, .sc, .sc])], [[.sc, .sc, .sc, .sc], [.sc]], true⟩
def S_impl_GoodVolume : Sig := ⟨[(.snap, [.sl [.sc], .sc, .sl [.sc, .sc, .sc, .sc], .sc])], [[.sc]], true⟩
def S_laws_sameRecords : Sig := ⟨[(.snap, [.sl [.sc, .sc, .sc, .sc]]), (.snap, [.sl [.sc, .sc, .sc, .sc]])], [[.sc]], true⟩
def S_impl_DoVolume : Sig := ⟨[(.snap, [.sl [.sc], .sc, .sl [.sc, .sc, .sc, .sc], .sc]), (.snap, [.sc, .sc, .sc, .sc, .sc])], [[.sl [.sc], .sc, .sl [.sc, .sc, .sc, .sc], .sc], [.sc]], true⟩
def S_impl_MarkOf : Sig := ⟨[(.snap, [.sl [.sc], .sc, .sl [.sc, .sc, .sc, .sc], .sc])], [[.sc], [.sc]], true⟩
def S_laws_szVolOp : Sig := ⟨[(.snap, [.sc, .sc, .sc, .sc, .sc]), (.snap, [.sc])], [[.sc]], true⟩
def S_spec_DoVolume : Sig := ⟨[(.snap, [.sl [.sc], .sc, .sl [.sc, .sc, .sc, .sc], .sc]), (.snap, [.sc, .sc, .sc, .sc, .sc])], [[.sl [.sc], .sc, .sl [.sc, .sc, .sc, .sc], .sc], [.sc]], true⟩
def S_laws_toVolOp : Sig := ⟨[(.snap, [.sc, .sc, .sc, .sc, .sc])], [[.sc, .sc, .sc, .sc, .sc]], true⟩
def S_laws_heldVolume : Sig := ⟨[(.snap, [.sl [.sc], .sc, .sl [.sc, .sc, .sc, .sc], .sc]), (.snap, [.sc])], [[.sc]], true⟩
def S_laws_szVolOpS : Sig := ⟨[(.snap, [.sl [.sc, .sc, .sc, .sc, .sc]]), (.snap, [.sc])], [[.sc]], true⟩
def S_laws_toVolOpS : Sig := ⟨[(.snap, [.sl [.sc, .sc, .sc, .sc, .sc]])], [[.sl [.sc, .sc, .sc, .sc, .sc]]], true⟩
def S_laws_eqBoolS : Sig := ⟨[(.snap, [.sl [.sc]]), (.snap, [.sl [.sc]])], [[.sc]], true⟩
def S_laws_eqVolOpS : Sig := ⟨[(.snap, [.sl [.sc, .sc, .sc, .sc, .sc]]), (.snap, [.sl [.sc, .sc, .sc, .sc, .sc]])], [[.sc]], true⟩
def S_laws_heldBoolS : Sig := ⟨[(.snap, [.sl [.sc]]), (.snap, [.sc])], [[.sc]], true⟩
def S_spec_GoodVolume : Sig := ⟨[(.snap, [.sl [.sc], .sc, .sl [.sc, .sc, .sc, .sc], .sc])], [[.sc]], true⟩
def S_spec_RecordFor : Sig := ⟨[(.snap, [.sc, .sc, .sc, .sc, .sc])], [[.sc, .sc, .sc, .sc], [.sc]], true⟩
def S_impl_NewVolume : Sig := ⟨[], [[.sl [.sc], .sc, .sl [.sc, .sc, .sc, .sc], .sc]], true⟩
def S_spec_NewVolume : Sig := ⟨[], [[.sl [.sc], .sc, .sl [.sc, .sc, .sc, .sc], .sc]], true⟩
def S_laws_szRecord : Sig := ⟨[(.snap, [.sc, .sc, .sc, .sc]), (.snap, [.sc])], [[.sc]], true⟩
def S_spec_l3Good : Sig := ⟨[(.snap, [.sl [.sc, .sc, .sc, .sc]])], [[.sc]], true⟩
def S_spec_l3Fold : Sig := ⟨[(.snap, [.sl [.sc, .sc, .sc, .sc]])], [[.sl [.sc]]], true⟩
def S_laws_toRecord : Sig := ⟨[(.snap, [.sc, .sc, .sc, .sc])], [[.sc, .sc, .sc, .sc]], true⟩
def S_impl_areAll_impl_Record : Sig := ⟨[(.snap, [.sl [.sc, .sc, .sc, .sc]]), (.snap, [.sc])], [[.sc]], true⟩
def S_impl_emptyBlocks : Sig := ⟨[], [[.sl [.sc]]], true⟩
def S_laws_eqRecord : Sig := ⟨[(.snap, [.sc, .sc, .sc, .sc]), (.snap, [.sc, .sc, .sc, .sc])], [[.sc]], true⟩
def S_laws_markText : Sig := ⟨[(.snap, [.sc])], [[.sc]], true⟩
def S_impl_run : Sig := ⟨[(.snap, [.sc]), (.snap, [.sc])], [[.sl [.sc]]], true⟩
def S_spec_DrawGoodRecord : Sig := ⟨[(.snap, [.sl [.sc]])], [[.sc, .sc, .sc, .sc]], true⟩
def S_impl_Record_text : Sig := ⟨[(.snap, [.sc, .sc, .sc, .sc])], [[.sc]], true⟩
def S_spec_GoodRecord : Sig := ⟨[(.snap, [.sc, .sc, .sc, .sc])], [[.sc]], true⟩
def S_spec_l3Text : Sig := ⟨[(.snap, [.sc, .sc, .sc, .sc])], [[.sc]], true⟩
def S_impl_within : Sig := ⟨[(.snap, [.sc]), (.snap, [.sc]), (.snap, [.sc])], [[.sc]], true⟩
def S_impl_isRun : Sig := ⟨[(.snap, [.sc]), (.snap, [.sc])], [[.sc]], true⟩
def S_impl_readRecord : Sig := ⟨[(.snap, [.sc])], [[.sc, .sc, .sc, .sc], [.sc], [.sc]], true⟩
def S_laws_szStringS : Sig := ⟨[(.snap, [.sl [.sc]]), (.snap, [.sc])], [[.sc]], true⟩
def S_spec_l6In : Sig := ⟨[(.snap, [.sl [.sc], .sc, .sl [.sc, .sc, .sc, .sc], .sc])], [[.sl [.sc]]], true⟩
def S_laws_toStringS : Sig := ⟨[(.snap, [.sl [.sc]])], [[.sl [.sc]]], true⟩
def S_impl_Volume_blocks : Sig := ⟨[(.snap, [.sl [.sc], .sc, .sl [.sc, .sc, .sc, .sc], .sc])], [[.sl [.sc]]], true⟩
def S_spec_l1In : Sig := ⟨[(.snap, [.sc]), (.snap, [.sc]), (.snap, [.sc])], [[.sc]], true⟩
def S_impl_Volume_own : Sig := ⟨[(.snap, [.sl [.sc], .sc, .sl [.sc, .sc, .sc, .sc], .sc])], [[.sl [.sc], .sc, .sl [.sc, .sc, .sc, .sc], .sc]], true⟩
def S_spec_l6Do : Sig := ⟨[(.move, [.sl [.sc], .sc, .sl [.sc, .sc, .sc, .sc], .sc]), (.snap, [.sc, .sc, .sc, .sc, .sc])], [[.sl [.sc], .sc, .sl [.sc, .sc, .sc, .sc], .sc], [.sc]], true⟩
def S_spec_l6Own : Sig := ⟨[(.snap, [.sl [.sc], .sc, .sl [.sc, .sc, .sc, .sc], .sc])], [[.sl [.sc], .sc, .sl [.sc, .sc, .sc, .sc], .sc]], true⟩
def S_impl_areBlocks : Sig := ⟨[(.snap, [.sl [.sc]])], [[.sc]], true⟩
def S_impl_Volume_mark : Sig := ⟨[(.snap, [.sl [.sc], .sc, .sl [.sc, .sc, .sc, .sc], .sc])], [[.sc]], true⟩
def S_laws_heldRecordS : Sig := ⟨[(.snap, [.sl [.sc, .sc, .sc, .sc]]), (.snap, [.sc])], [[.sc]], true⟩
def S_laws_eqVolOp : Sig := ⟨[(.snap, [.sc, .sc, .sc, .sc, .sc]), (.snap, [.sc, .sc, .sc, .sc, .sc])], [[.sc]], true⟩
def S_spec_l6Blocks : Sig := ⟨[(.snap, [.sl [.sc]])], [[.sc]], true⟩
def S_spec_l6Mark : Sig := ⟨[(.snap, [.sl [.sc], .sc, .sl [.sc, .sc, .sc, .sc], .sc])], [[.sc]], true⟩
def S_spec_l3Blank : Sig := ⟨[], [[.sl [.sc]]], true⟩
def S_slices_ContainsFunc_impl_Record_impl_Record : Sig := ⟨[(.snap, [.sl [.sc, .sc, .sc, .sc]]), (.snap, [.sc])], [[.sc]], true⟩
def S_slices_Repeat_string_string : Sig := ⟨[(.snap, [.sl [.sc]]), (.snap, [.sc])], [[.sl [.sc]]], true⟩
def S_impl_withSum : Sig := ⟨[(.snap, [.sc])], [[.sc]], true⟩
def S_spec_l3Where : Sig := ⟨[(.snap, [.sc, .sc, .sc, .sc])], [[.sc]], true⟩
def S_spec_l1With : Sig := ⟨[(.snap, [.sc])], [[.sc]], true⟩
def S_impl_checkSum : Sig := ⟨[(.snap, [.sc])], [[.sc], [.sc]], true⟩
def S_slices_Clone_string_string : Sig := ⟨[(.snap, [.sl [.sc]])], [[.sl [.sc]]], true⟩
def S_slices_Clone_impl_Record_impl_Record : Sig := ⟨[(.snap, [.sl [.sc, .sc, .sc, .sc]])], [[.sl [.sc, .sc, .sc, .sc]]], true⟩
def S_impl_areAll_string : Sig := ⟨[(.snap, [.sl [.sc]]), (.snap, [.sc])], [[.sc]], true⟩
def S_impl_isData : Sig := ⟨[(.snap, [.sc])], [[.sc]], true⟩
def S_impl_markOf : Sig := ⟨[(.snap, [.sc]), (.snap, [.sl [.sc, .sc, .sc, .sc]])], [[.sc]], true⟩
def S_slices_IndexFunc_impl_Record_impl_Record : Sig := ⟨[(.snap, [.sl [.sc, .sc, .sc, .sc]]), (.snap, [.sc])], [[.sc]], true⟩
def S_math_bits_Mul : Sig := ⟨[(.snap, [.sc]), (.snap, [.sc])], [[.sc], [.sc]], true⟩
def S_impl_twoBytes : Sig := ⟨[(.snap, [.sc])], [[.sc]], true⟩
def S_impl_sumOn : Sig := ⟨[(.snap, [.sc]), (.snap, [.sc])], [[.sc]], true⟩
def S_spec_l1On : Sig := ⟨[(.snap, [.sc]), (.snap, [.sc])], [[.sc]], true⟩
def S_slices_ContainsFunc_string_string : Sig := ⟨[(.snap, [.sl [.sc]]), (.snap, [.sc])], [[.sc]], true⟩
def S_math_bits_Mul32 : Sig := ⟨[(.snap, [.sc]), (.snap, [.sc])], [[.sc], [.sc]], true⟩
def S_math_bits_Mul64 : Sig := ⟨[(.snap, [.sc]), (.snap, [.sc])], [[.sc], [.sc]], true⟩
def S_slices_IndexFunc_string_string : Sig := ⟨[(.snap, [.sl [.sc]]), (.snap, [.sc])], [[.sc]], true⟩
def tis : List (Nat × TI) := [(3, ⟨1, 8, false, [.int .i64 0], .int .i64⟩),
  (4, ⟨1, 1, false, [.bool false], .bool⟩),
  (5, ⟨1, 1, false, [.int .u8 0], .int .u8⟩),
  (9, ⟨1, 16, false, [.string ⟨#[]⟩], .str⟩),
  (22, ⟨1, 24, false, [.slice none 0 0], .slice 96⟩),
  (24, ⟨1, 24, false, [.slice none 0 0], .slice 9⟩),
  (27, ⟨1, 24, false, [.slice none 0 0], .slice 37⟩),
  (34, ⟨1, 24, false, [.slice none 0 0], .slice 5⟩),
  (37, ⟨4, 40, true, [.int .i64 0, .int .i64 0, .int .i64 0, .string ⟨#[]⟩], .struct [(0, 1, false), (1, 1, false), (2, 1, false), (3, 1, false)]⟩),
  (38, ⟨1, 24, false, [.slice none 0 0], .slice 3⟩),
  (46, ⟨1, 8, false, [.nilFunc], .func⟩),
  (51, ⟨4, 64, true, [.slice none 0 0, .int .i64 0, .slice none 0 0, .int .i64 0], .struct [(0, 1, false), (1, 1, false), (2, 1, false), (3, 1, false)]⟩),
  (55, ⟨4, 64, true, [.slice none 0 0, .int .i64 0, .slice none 0 0, .int .i64 0], .struct [(0, 1, false), (1, 1, false), (2, 1, false), (3, 1, false)]⟩),
  (62, ⟨1, 24, false, [.slice none 0 0], .slice 69⟩),
  (64, ⟨1, 24, false, [.slice none 0 0], .slice 4⟩),
  (69, ⟨5, 48, true, [.int .i64 0, .int .i64 0, .int .i64 0, .string ⟨#[]⟩, .int .i64 0], .struct [(0, 1, false), (1, 1, false), (2, 1, false), (3, 1, false), (4, 1, false)]⟩),
  (78, ⟨5, 48, true, [.int .i64 0, .int .i64 0, .int .i64 0, .string ⟨#[]⟩, .int .i64 0], .struct [(0, 1, false), (1, 1, false), (2, 1, false), (3, 1, false), (4, 1, false)]⟩),
  (82, ⟨1, 24, false, [.slice none 0 0], .slice 78⟩),
  (96, ⟨4, 40, true, [.int .i64 0, .int .i64 0, .int .i64 0, .string ⟨#[]⟩], .struct [(0, 1, false), (1, 1, false), (2, 1, false), (3, 1, false)]⟩),
  (106, ⟨1, 8, false, [.int .u64 0], .int .u64⟩),
  (108, ⟨3, 40, true, [.slice none 0 0, .int .i64 0, .int .u64 0], .struct [(0, 1, false), (1, 1, false), (2, 1, false)]⟩),
  (146, ⟨1, 8, false, [.nilFunc], .func⟩),
  (149, ⟨1, 8, false, [.int .u64 0], .int .u64⟩),
  (154, ⟨1, 4, false, [.int .u32 0], .int .u32⟩)]
noncomputable def fns : List (Nat × Func) := [(n_laws_FnExactFoldRecords, Try.f3), (n_laws_FnFolded, Try.f4), (n_laws_FnExactBlocksIn, Try.f5), (n_laws_FnVolume, Try.f7), (n_laws_FnExactDoVolume, Try.f8), (n_laws_FnExactPlayVolume, Try.f9), (n_laws_szRecordS, Try.f11), (n_spec_FoldRecords, Try.f12), (n_laws_toRecordS, Try.f13), (n_impl_FoldRecords, Try.f14), (n_laws_eqStringS, Try.f15), (n_laws_eqRecordS, Try.f16), (n_laws_markRecordS, Try.f17), (n_laws_markStringS, Try.f18), (n_laws_heldStringS, Try.f19), (n_spec_DrawFoldRecords, Try.f20), (n_laws_sameTexts, Try.f21), (n_impl_BlocksOf, Try.f22), (n_laws_has, Try.f23), (n_spec_DrawRecordText, Try.f24), (n_impl_RecordText, Try.f25), (n_spec_RecordText, Try.f26), (n_spec_BlocksOf, Try.f27), (n_laws_sameInts, Try.f28), (n_impl_GoodRecord, Try.f29), (n_impl_ReadRecord, Try.f30), (n_laws_szVolume, Try.f31), (n_spec_BlocksIn, Try.f32), (n_laws_toVolume, Try.f33), (n_impl_BlocksIn, Try.f34), (n_laws_eqVolume, Try.f35), (n_laws_markVolume, Try.f36), (n_spec_DrawPlayVolume, Try.f39), (n_impl_PlayVolume, Try.f40), (n_spec_PlayVolume, Try.f41), (n_laws_sameBools, Try.f42), (n_laws_sameVolume, Try.f43), (n_impl_RecordFor, Try.f44), (n_impl_GoodVolume, Try.f45), (n_laws_sameRecords, Try.f46), (n_impl_DoVolume, Try.f47), (n_impl_MarkOf, Try.f48), (n_laws_szVolOp, Try.f49), (n_spec_DoVolume, Try.f50), (n_laws_toVolOp, Try.f51), (n_laws_heldVolume, Try.f52), (n_laws_szVolOpS, Try.f53), (n_laws_toVolOpS, Try.f54), (n_laws_eqBoolS, Try.f55), (n_laws_eqVolOpS, Try.f56), (n_laws_markVolOpS, Try.f57), (n_laws_markBoolS, Try.f58), (n_laws_heldBoolS, Try.f59), (n_spec_GoodVolume, Try.f61), (n_spec_RecordFor, Try.f65), (n_impl_NewVolume, Try.f66), (n_spec_NewVolume, Try.f67), (n_laws_szRecord, Try.f68), (n_spec_l3Good, Try.f69), (n_spec_l3Fold, Try.f70), (n_laws_toRecord, Try.f71), (n_impl_areAll_impl_Record, Try.f72), (n_impl_emptyBlocks, Try.f73), (n_impl_Record_do, Try.f74), (n_laws_eqRecord, Try.f75), (n_laws_markText, Try.f76), (n_spec_l1Cur_records, Try.f77), (n_spec_l1Cur_among, Try.f78), (n_impl_run, Try.f79), (n_spec_DrawGoodRecord, Try.f80), (n_impl_Record_text, Try.f81), (n_spec_GoodRecord, Try.f82), (n_spec_l3Text, Try.f83), (n_impl_within, Try.f84), (n_impl_isRun, Try.f85), (n_impl_readRecord, Try.f86), (n_laws_szStringS, Try.f87), (n_spec_l6In, Try.f88), (n_laws_toStringS, Try.f89), (n_impl_Volume_blocks, Try.f90), (n_spec_l1In, Try.f91), (n_spec_l1Cur_volOps, Try.f93), (n_impl_Volume_do, Try.f94), (n_impl_Volume_own, Try.f95), (n_spec_l6Do, Try.f96), (n_spec_l6Own, Try.f97), (n_impl_areBlocks, Try.f98), (n_impl_Volume_mark, Try.f99), (n_laws_heldRecordS, Try.f100), (n_laws_eqVolOp, Try.f101), (n_spec_l1Cur_volOp, Try.f103), (n_spec_l6Blocks, Try.f104), (n_spec_l1Cur_pick, Try.f105), (n_spec_l6Mark, Try.f106), (n_spec_l3Blank, Try.f107), (n_spec_l3Do, Try.f108), (n_slices_ContainsFunc_impl_Record_impl_Record, Try.f109), (n_impl_areAll_impl_Record_1, Try.f110), (n_slices_Repeat_string_string, Try.f111), (n_spec_l1Cur_record, Try.f112), (n_impl_withSum, Try.f113), (n_spec_l3Where, Try.f114), (n_spec_l1With, Try.f115), (n_impl_checkSum, Try.f116), (n_slices_Clone_string_string, Try.f117), (n_spec_l1Cur_one, Try.f121), (n_impl_Volume_put, Try.f122), (n_impl_Volume_fold, Try.f123), (n_slices_Clone_impl_Record_impl_Record, Try.f124), (n_impl_areAll_string, Try.f125), (n_impl_isData, Try.f126), (n_impl_markOf, Try.f127), (n_spec_l1Cur_next, Try.f128), (n_slices_IndexFunc_impl_Record_impl_Record, Try.f129), (n_math_bits_Mul, Try.f130), (n_impl_twoBytes, Try.f131), (n_impl_sumOn, Try.f132), (n_spec_l1On, Try.f133), (n_slices_ContainsFunc_string_string, Try.f136), (n_impl_areAll_string_1, Try.f137), (n_math_bits_Mul32, Try.f138), (n_math_bits_Mul64, Try.f139), (n_slices_IndexFunc_string_string, Try.f142)]
def tups : List (Nat × Nat) := [(0, 0), (25, 2), (39, 2), (43, 2), (47, 3), (65, 3), (70, 2), (73, 2), (75, 2), (150, 2), (157, 2)]
def locs : List (Nat × List Nat) := [(4, [12, 18, 27]), (5, [1, 6]), (7, [4, 7, 14, 15, 21]), (8, [2, 3, 8]), (9, [4, 8, 14]), (14, [6]), (22, [1]), (24, [2]), (25, [1]), (26, [1]), (27, [1]), (29, [1]), (30, [4, 7]), (31, [2]), (32, [1]), (33, [1, 2, 3]), (34, [1]), (35, [2, 3]), (36, [2]), (40, [2, 8]), (41, [2, 5, 8]), (43, [2, 3]), (44, [1, 2, 4]), (45, [1, 5]), (47, [2, 3, 4]), (48, [1]), (49, [2]), (50, [2, 3, 4]), (51, [1, 2, 3]), (52, [2]), (61, [1, 5]), (65, [1, 2, 4]), (66, [0]), (67, [0]), (68, [2]), (69, [4]), (70, [5]), (71, [1, 2, 3]), (74, [2]), (75, [2, 3]), (80, [2]), (81, [1]), (82, [1]), (83, [1]), (86, [2]), (88, [1, 5]), (90, [1, 5]), (94, [3]), (95, [2]), (96, [2, 3, 4, 6, 9]), (97, [1, 2]), (99, [1]), (101, [2, 3]), (103, [2, 3]), (106, [1, 5]), (108, [3]), (110, [2]), (112, [2]), (114, [1]), (122, [3, 5]), (123, [4]), (127, [6])]
def keeps : List (Nat × List (Nat × (List Nat × List (Nat × Nat)))) := [(4, [(15, ([1, 6, 10, 13, 90, 91], [(12, 4)])), (21, ([1, 6, 110, 111, 112], [(12, 4)]))]),
  (7, [(13, ([5, 10, 11, 12, 62, 63, 64], [(4, 4)]))]),
  (11, [(5, ([0, 1, 5], []))]),
  (13, [(3, ([0, 3, 4], []))]),
  (14, [(5, ([4, 16, 17, 18], []))]),
  (15, [(4, ([0, 1, 5], []))]),
  (16, [(4, ([0, 1, 5], []))]),
  (17, [(2, ([0, 1, 5], []))]),
  (18, [(2, ([0, 1, 5], []))]),
  (19, [(2, ([0, 1, 5], []))]),
  (21, [(4, ([0, 1, 12, 13], []))]),
  (23, [(2, ([1, 7, 8, 9], []))]),
  (27, [(5, ([4, 5], [(1, 4)]))]),
  (28, [(4, ([0, 1, 12, 13], []))]),
  (40, [(6, ([5, 6, 14, 15, 16], [(2, 4)]))]),
  (41, [(6, ([6, 16, 17, 18], [(2, 4), (5, 4)]))]),
  (42, [(4, ([0, 1, 12, 13], []))]),
  (45, [(5, ([3, 40, 41, 42], []))]),
  (46, [(4, ([0, 1, 12, 13], []))]),
  (53, [(5, ([0, 1, 5], []))]),
  (54, [(3, ([0, 3, 4], []))]),
  (55, [(4, ([0, 1, 5], []))]),
  (56, [(4, ([0, 1, 5], []))]),
  (57, [(2, ([0, 1, 5], []))]),
  (58, [(2, ([0, 1, 5], []))]),
  (59, [(2, ([0, 1, 5], []))]),
  (61, [(5, ([3, 40, 41, 42], []))]),
  (69, [(2, ([5, 6, 7], []))]),
  (70, [(3, ([3, 7, 8, 9], []))]),
  (74, [(2, ([1, 6, 7], [(2, 4)]))]),
  (76, [(4, ([0, 3], []))]),
  (77, [(3, ([0, 5, 6], []))]),
  (79, [(3, ([0, 5, 7, 8], []))]),
  (87, [(5, ([0, 1, 5], []))]),
  (88, [(3, ([3, 11, 12, 13], []))]),
  (89, [(3, ([0, 3, 4], []))]),
  (90, [(3, ([3, 10, 11, 12], []))]),
  (93, [(5, ([0, 3, 4], []))]),
  (96, [(17, ([111, 112, 113], [(2, 4), (4, 4)]))]),
  (100, [(2, ([0, 1, 5], []))]),
  (104, [(2, ([0, 5, 6, 7], []))]),
  (106, [(3, ([3, 9, 10, 11], []))]),
  (107, [(3, ([1, 2], []))]),
  (108, [(2, ([0, 4], [(3, 4)]))]),
  (111, [(8, ([7, 8], []))]),
  (112, [(5, ([0, 3, 4], [(2, 4)]))]),
  (123, [(2, ([0, 2, 14, 15, 16], []))]),
  (127, [(2, ([0, 7, 8, 9], []))]),
  (129, [(2, ([0, 1, 7, 8], []))]),
  (132, [(2, ([0, 9, 10, 11], [])), (5, ([0, 6, 7, 9, 10, 11], []))]),
  (133, [(2, ([0, 1, 5], [])), (5, ([0, 1, 5, 6], []))]),
  (142, [(2, ([0, 1, 7, 8], []))])]
def eqs : List (Nat × List Nat) := [(37, [1, 1, 1, 2]), (69, [1, 1, 1, 2, 1])]
def shsT : List (Nat × List Sh) := [(3, [.sc]), (4, [.sc]), (5, [.sc]), (9, [.sc]), (22, [.sl [.sc, .sc, .sc, .sc]]), (24, [.sl [.sc]]), (27, [.sl [.sc, .sc, .sc, .sc]]), (34, [.sl [.sc]]), (37, [.sc, .sc, .sc, .sc]), (38, [.sl [.sc]]), (46, [.sc]), (51, [.sl [.sc], .sc, .sl [.sc, .sc, .sc, .sc], .sc]), (55, [.sl [.sc], .sc, .sl [.sc, .sc, .sc, .sc], .sc]), (62, [.sl [.sc, .sc, .sc, .sc, .sc]]), (64, [.sl [.sc]]), (69, [.sc, .sc, .sc, .sc, .sc]), (78, [.sc, .sc, .sc, .sc, .sc]), (82, [.sl [.sc, .sc, .sc, .sc, .sc]]), (96, [.sc, .sc, .sc, .sc]), (106, [.sc]), (108, [.sl [.sc], .sc, .sc]), (146, [.sc]), (149, [.sc]), (154, [.sc])]
def sgs : List (Nat × Sig) := [(3, S_laws_FnExactFoldRecords), (4, S_laws_FnFolded), (5, S_laws_FnExactBlocksIn), (7, S_laws_FnVolume), (8, S_laws_FnExactDoVolume), (9, S_laws_FnExactPlayVolume), (11, S_laws_szRecordS), (12, S_spec_FoldRecords), (13, S_laws_toRecordS), (14, S_impl_FoldRecords), (15, S_laws_eqStringS), (16, S_laws_eqRecordS), (19, S_laws_heldStringS), (20, S_spec_DrawFoldRecords), (21, S_laws_sameTexts), (22, S_impl_BlocksOf), (23, S_laws_has), (24, S_spec_DrawRecordText), (25, S_impl_RecordText), (26, S_spec_RecordText), (27, S_spec_BlocksOf), (28, S_laws_sameInts), (29, S_impl_GoodRecord), (30, S_impl_ReadRecord), (31, S_laws_szVolume), (32, S_spec_BlocksIn), (33, S_laws_toVolume), (34, S_impl_BlocksIn), (35, S_laws_eqVolume), (39, S_spec_DrawPlayVolume), (40, S_impl_PlayVolume), (41, S_spec_PlayVolume), (42, S_laws_sameBools), (43, S_laws_sameVolume), (44, S_impl_RecordFor), (45, S_impl_GoodVolume), (46, S_laws_sameRecords), (47, S_impl_DoVolume), (48, S_impl_MarkOf), (49, S_laws_szVolOp), (50, S_spec_DoVolume), (51, S_laws_toVolOp), (52, S_laws_heldVolume), (53, S_laws_szVolOpS), (54, S_laws_toVolOpS), (55, S_laws_eqBoolS), (56, S_laws_eqVolOpS), (59, S_laws_heldBoolS), (61, S_spec_GoodVolume), (65, S_spec_RecordFor), (66, S_impl_NewVolume), (67, S_spec_NewVolume), (68, S_laws_szRecord), (69, S_spec_l3Good), (70, S_spec_l3Fold), (71, S_laws_toRecord), (72, S_impl_areAll_impl_Record), (73, S_impl_emptyBlocks), (75, S_laws_eqRecord), (76, S_laws_markText), (79, S_impl_run), (80, S_spec_DrawGoodRecord), (81, S_impl_Record_text), (82, S_spec_GoodRecord), (83, S_spec_l3Text), (84, S_impl_within), (85, S_impl_isRun), (86, S_impl_readRecord), (87, S_laws_szStringS), (88, S_spec_l6In), (89, S_laws_toStringS), (90, S_impl_Volume_blocks), (91, S_spec_l1In), (95, S_impl_Volume_own), (96, S_spec_l6Do), (97, S_spec_l6Own), (98, S_impl_areBlocks), (99, S_impl_Volume_mark), (100, S_laws_heldRecordS), (101, S_laws_eqVolOp), (104, S_spec_l6Blocks), (106, S_spec_l6Mark), (107, S_spec_l3Blank), (109, S_slices_ContainsFunc_impl_Record_impl_Record), (111, S_slices_Repeat_string_string), (113, S_impl_withSum), (114, S_spec_l3Where), (115, S_spec_l1With), (116, S_impl_checkSum), (117, S_slices_Clone_string_string), (124, S_slices_Clone_impl_Record_impl_Record), (125, S_impl_areAll_string), (126, S_impl_isData), (127, S_impl_markOf), (129, S_slices_IndexFunc_impl_Record_impl_Record), (130, S_math_bits_Mul), (131, S_impl_twoBytes), (132, S_impl_sumOn), (133, S_spec_l1On), (136, S_slices_ContainsFunc_string_string), (138, S_math_bits_Mul32), (139, S_math_bits_Mul64), (142, S_slices_IndexFunc_string_string)]
def lts : List (Nat × List Nat) := [(7, [85]), (27, [20]), (40, [23]), (41, [33]), (73, [1]), (76, [12]), (77, [18]), (79, [15]), (81, [13, 22]), (83, [13, 22]), (93, [19]), (96, [43]), (107, [8]), (111, [15, 17]), (112, [34]), (115, [13]), (122, [43]), (130, [12, 14]), (131, [8]), (132, [9])]
def ops : List (Nat × List Nat) := [(5, [1]), (8, [2]), (31, [2]), (32, [1]), (33, [1]), (34, [1]), (35, [2, 3]), (36, [2]), (43, [2, 3]), (45, [1]), (47, [2]), (48, [1]), (50, [2]), (52, [2]), (61, [1]), (72, [3]), (88, [1]), (90, [1]), (95, [1]), (96, [2]), (97, [1]), (99, [1]), (106, [1]), (125, [3])]
def tds : List (Nat × List Nat) := []
noncomputable def E : Env := ⟨look fns, look tis, look tups, flag locs, fun f i => match look keeps f with | some l => (match look l i with | some x => x | none => ([], [])) | none => ([], []), fun t => match look eqs t with | some l => l | none => []⟩
def cls : List (Nat × Nat) := [(117, 1), (124, 4)]
noncomputable def P : PEnv := ⟨E, fun t => match look shsT t with | some l => l | none => [], look sgs, flag lts, flag ops, flag tds, clT cls⟩
theorem clOk : ClOk P := clOk_of (l := cls) rfl ⟨⟨fun _ _ _ => by kernel_rfl, fun _ _ _ _ _ _ => by kernel_rfl⟩, ⟨⟨fun _ _ _ => by kernel_rfl, fun _ _ _ _ _ _ => by kernel_rfl⟩, trivial⟩⟩
theorem fnsOk : FnsOk Try.prog fns := ⟨⟨Try.func3, by kernel_rfl⟩, ⟨⟨Try.func4, by kernel_rfl⟩, ⟨⟨Try.func5, by kernel_rfl⟩, ⟨⟨Try.func7, by kernel_rfl⟩, ⟨⟨Try.func8, by kernel_rfl⟩, ⟨⟨Try.func9, by kernel_rfl⟩, ⟨⟨Try.func11, by kernel_rfl⟩, ⟨⟨Try.func12, by kernel_rfl⟩, ⟨⟨Try.func13, by kernel_rfl⟩, ⟨⟨Try.func14, by kernel_rfl⟩, ⟨⟨Try.func15, by kernel_rfl⟩, ⟨⟨Try.func16, by kernel_rfl⟩, ⟨⟨Try.func17, by kernel_rfl⟩, ⟨⟨Try.func18, by kernel_rfl⟩, ⟨⟨Try.func19, by kernel_rfl⟩, ⟨⟨Try.func20, by kernel_rfl⟩, ⟨⟨Try.func21, by kernel_rfl⟩, ⟨⟨Try.func22, by kernel_rfl⟩, ⟨⟨Try.func23, by kernel_rfl⟩, ⟨⟨Try.func24, by kernel_rfl⟩, ⟨⟨Try.func25, by kernel_rfl⟩, ⟨⟨Try.func26, by kernel_rfl⟩, ⟨⟨Try.func27, by kernel_rfl⟩, ⟨⟨Try.func28, by kernel_rfl⟩, ⟨⟨Try.func29, by kernel_rfl⟩, ⟨⟨Try.func30, by kernel_rfl⟩, ⟨⟨Try.func31, by kernel_rfl⟩, ⟨⟨Try.func32, by kernel_rfl⟩, ⟨⟨Try.func33, by kernel_rfl⟩, ⟨⟨Try.func34, by kernel_rfl⟩, ⟨⟨Try.func35, by kernel_rfl⟩, ⟨⟨Try.func36, by kernel_rfl⟩, ⟨⟨Try.func39, by kernel_rfl⟩, ⟨⟨Try.func40, by kernel_rfl⟩, ⟨⟨Try.func41, by kernel_rfl⟩, ⟨⟨Try.func42, by kernel_rfl⟩, ⟨⟨Try.func43, by kernel_rfl⟩, ⟨⟨Try.func44, by kernel_rfl⟩, ⟨⟨Try.func45, by kernel_rfl⟩, ⟨⟨Try.func46, by kernel_rfl⟩, ⟨⟨Try.func47, by kernel_rfl⟩, ⟨⟨Try.func48, by kernel_rfl⟩, ⟨⟨Try.func49, by kernel_rfl⟩, ⟨⟨Try.func50, by kernel_rfl⟩, ⟨⟨Try.func51, by kernel_rfl⟩, ⟨⟨Try.func52, by kernel_rfl⟩, ⟨⟨Try.func53, by kernel_rfl⟩, ⟨⟨Try.func54, by kernel_rfl⟩, ⟨⟨Try.func55, by kernel_rfl⟩, ⟨⟨Try.func56, by kernel_rfl⟩, ⟨⟨Try.func57, by kernel_rfl⟩, ⟨⟨Try.func58, by kernel_rfl⟩, ⟨⟨Try.func59, by kernel_rfl⟩, ⟨⟨Try.func61, by kernel_rfl⟩, ⟨⟨Try.func65, by kernel_rfl⟩, ⟨⟨Try.func66, by kernel_rfl⟩, ⟨⟨Try.func67, by kernel_rfl⟩, ⟨⟨Try.func68, by kernel_rfl⟩, ⟨⟨Try.func69, by kernel_rfl⟩, ⟨⟨Try.func70, by kernel_rfl⟩, ⟨⟨Try.func71, by kernel_rfl⟩, ⟨⟨Try.func72, by kernel_rfl⟩, ⟨⟨Try.func73, by kernel_rfl⟩, ⟨⟨Try.func74, by kernel_rfl⟩, ⟨⟨Try.func75, by kernel_rfl⟩, ⟨⟨Try.func76, by kernel_rfl⟩, ⟨⟨Try.func77, by kernel_rfl⟩, ⟨⟨Try.func78, by kernel_rfl⟩, ⟨⟨Try.func79, by kernel_rfl⟩, ⟨⟨Try.func80, by kernel_rfl⟩, ⟨⟨Try.func81, by kernel_rfl⟩, ⟨⟨Try.func82, by kernel_rfl⟩, ⟨⟨Try.func83, by kernel_rfl⟩, ⟨⟨Try.func84, by kernel_rfl⟩, ⟨⟨Try.func85, by kernel_rfl⟩, ⟨⟨Try.func86, by kernel_rfl⟩, ⟨⟨Try.func87, by kernel_rfl⟩, ⟨⟨Try.func88, by kernel_rfl⟩, ⟨⟨Try.func89, by kernel_rfl⟩, ⟨⟨Try.func90, by kernel_rfl⟩, ⟨⟨Try.func91, by kernel_rfl⟩, ⟨⟨Try.func93, by kernel_rfl⟩, ⟨⟨Try.func94, by kernel_rfl⟩, ⟨⟨Try.func95, by kernel_rfl⟩, ⟨⟨Try.func96, by kernel_rfl⟩, ⟨⟨Try.func97, by kernel_rfl⟩, ⟨⟨Try.func98, by kernel_rfl⟩, ⟨⟨Try.func99, by kernel_rfl⟩, ⟨⟨Try.func100, by kernel_rfl⟩, ⟨⟨Try.func101, by kernel_rfl⟩, ⟨⟨Try.func103, by kernel_rfl⟩, ⟨⟨Try.func104, by kernel_rfl⟩, ⟨⟨Try.func105, by kernel_rfl⟩, ⟨⟨Try.func106, by kernel_rfl⟩, ⟨⟨Try.func107, by kernel_rfl⟩, ⟨⟨Try.func108, by kernel_rfl⟩, ⟨⟨Try.func109, by kernel_rfl⟩, ⟨⟨Try.func110, by kernel_rfl⟩, ⟨⟨Try.func111, by kernel_rfl⟩, ⟨⟨Try.func112, by kernel_rfl⟩, ⟨⟨Try.func113, by kernel_rfl⟩, ⟨⟨Try.func114, by kernel_rfl⟩, ⟨⟨Try.func115, by kernel_rfl⟩, ⟨⟨Try.func116, by kernel_rfl⟩, ⟨⟨Try.func117, by kernel_rfl⟩, ⟨⟨Try.func121, by kernel_rfl⟩, ⟨⟨Try.func122, by kernel_rfl⟩, ⟨⟨Try.func123, by kernel_rfl⟩, ⟨⟨Try.func124, by kernel_rfl⟩, ⟨⟨Try.func125, by kernel_rfl⟩, ⟨⟨Try.func126, by kernel_rfl⟩, ⟨⟨Try.func127, by kernel_rfl⟩, ⟨⟨Try.func128, by kernel_rfl⟩, ⟨⟨Try.func129, by kernel_rfl⟩, ⟨⟨Try.func130, by kernel_rfl⟩, ⟨⟨Try.func131, by kernel_rfl⟩, ⟨⟨Try.func132, by kernel_rfl⟩, ⟨⟨Try.func133, by kernel_rfl⟩, ⟨⟨Try.func136, by kernel_rfl⟩, ⟨⟨Try.func137, by kernel_rfl⟩, ⟨⟨Try.func138, by kernel_rfl⟩, ⟨⟨Try.func139, by kernel_rfl⟩, ⟨⟨Try.func142, by kernel_rfl⟩, trivial⟩⟩⟩⟩⟩⟩⟩⟩⟩⟩⟩⟩⟩⟩⟩⟩⟩⟩⟩⟩⟩⟩⟩⟩⟩⟩⟩⟩⟩⟩⟩⟩⟩⟩⟩⟩⟩⟩⟩⟩⟩⟩⟩⟩⟩⟩⟩⟩⟩⟩⟩⟩⟩⟩⟩⟩⟩⟩⟩⟩⟩⟩⟩⟩⟩⟩⟩⟩⟩⟩⟩⟩⟩⟩⟩⟩⟩⟩⟩⟩⟩⟩⟩⟩⟩⟩⟩⟩⟩⟩⟩⟩⟩⟩⟩⟩⟩⟩⟩⟩⟩⟩⟩⟩⟩⟩⟩⟩⟩⟩⟩⟩⟩⟩⟩⟩⟩⟩⟩⟩⟩⟩⟩
theorem envE : EnvOk Try.prog E := envOk (tis := tis) rfl rfl fnsOk (by kernel_rfl) (by kernel_rfl) (by kernel_rfl)
theorem eqE : ∀ T q ks, E.eqT T = q :: ks → eqTOk Try.prog T (q :: ks) = true := eqsOk (eqs := eqs) rfl (by kernel_rfl)
end Go.Lg.Pv.Q
