/- The tables of this seat's translation: types, functions, registers, what loops keep; and that they are the program's. -/
import Derived.Test.YtkamejfgfcbpaaaProg
import Derived.Test.YtkamejfgfcbpaaaPackD
namespace Go.Lg.Pv.Q
open Go Go.Lg Go.Lg.Pv Go.Proofs
set_option linter.unusedVariables false
set_option maxRecDepth 100000

def n_laws_FnExactFoldRecords : Nat := 3
def n_laws_szRecordS : Nat := 11
def n_spec_FoldRecords : Nat := 12
def n_laws_toRecordS : Nat := 13
def n_impl_FoldRecords : Nat := 14
def n_laws_eqStringS : Nat := 15
def n_laws_eqRecordS : Nat := 16
def n_laws_markRecordS : Nat := 17
def n_laws_markStringS : Nat := 18
def n_laws_heldStringS : Nat := 19
def n_impl_GoodRecord : Nat := 29
def n_laws_szRecord : Nat := 68
def n_spec_l3Good : Nat := 69
def n_spec_l3Fold : Nat := 70
def n_laws_toRecord : Nat := 71
def n_impl_areAll_impl_Record : Nat := 72
def n_impl_emptyBlocks : Nat := 73
def n_impl_Record_do : Nat := 74
def n_laws_eqRecord : Nat := 75
def n_laws_markText : Nat := 76
def n_spec_GoodRecord : Nat := 82
def n_impl_within : Nat := 84
def n_impl_isRun : Nat := 85
def n_spec_l1In : Nat := 91
def n_spec_l3Blank : Nat := 107
def n_spec_l3Do : Nat := 108
def n_slices_ContainsFunc_impl_Record_impl_Record : Nat := 109
def n_impl_areAll_impl_Record_1 : Nat := 110
def n_slices_Repeat_string_string : Nat := 111
def n_spec_l3Where : Nat := 114
def n_slices_IndexFunc_impl_Record_impl_Record : Nat := 129
def n_math_bits_Mul : Nat := 130
def n_math_bits_Mul32 : Nat := 138
def n_math_bits_Mul64 : Nat := 139
def S_laws_FnExactFoldRecords : Sig := ⟨[(.snap, [.sl [.sc, .sc, .sc, .sc]])], [[.sc]], true⟩
def S_laws_szRecordS : Sig := ⟨[(.snap, [.sl [.sc, .sc, .sc, .sc]]), (.snap, [.sc])], [[.sc]], true⟩
def S_spec_FoldRecords : Sig := ⟨[(.snap, [.sl [.sc, .sc, .sc, .sc]])], [[.sl [.sc]], [.sc]], true⟩
def S_laws_toRecordS : Sig := ⟨[(.snap, [.sl [.sc, .sc, .sc, .sc]])], [[.sl [.sc, .sc, .sc, .sc]]], true⟩
def S_impl_FoldRecords : Sig := ⟨[(.snap, [.sl [.sc, .sc, .sc, .sc]])], [[.sl [.sc]], [.sc]], true⟩
def S_laws_eqStringS : Sig := ⟨[(.snap, [.sl [.sc]]), (.snap, [.sl [.sc]])], [[.sc]], true⟩
def S_laws_eqRecordS : Sig := ⟨[(.snap, [.sl [.sc, .sc, .sc, .sc]]), (.snap, [.sl [.sc, .sc, .sc, .sc]])], [[.sc]], true⟩
def S_laws_heldStringS : Sig := ⟨[(.snap, [.sl [.sc]]), (.snap, [.sc])], [[.sc]], true⟩
def S_impl_GoodRecord : Sig := ⟨[(.snap, [.sc, .sc, .sc, .sc])], [[.sc]], true⟩
def S_laws_szRecord : Sig := ⟨[(.snap, [.sc, .sc, .sc, .sc]), (.snap, [.sc])], [[.sc]], true⟩
def S_spec_l3Good : Sig := ⟨[(.snap, [.sl [.sc, .sc, .sc, .sc]])], [[.sc]], true⟩
def S_spec_l3Fold : Sig := ⟨[(.snap, [.sl [.sc, .sc, .sc, .sc]])], [[.sl [.sc]]], true⟩
def S_laws_toRecord : Sig := ⟨[(.snap, [.sc, .sc, .sc, .sc])], [[.sc, .sc, .sc, .sc]], true⟩
def S_impl_areAll_impl_Record : Sig := ⟨[(.snap, [.sl [.sc, .sc, .sc, .sc]]), (.snap, [.sc])], [[.sc]], true⟩
def S_impl_emptyBlocks : Sig := ⟨[], [[.sl [.sc]]], true⟩
def S_laws_eqRecord : Sig := ⟨[(.snap, [.sc, .sc, .sc, .sc]), (.snap, [.sc, .sc, .sc, .sc])], [[.sc]], true⟩
def S_laws_markText : Sig := ⟨[(.snap, [.sc])], [[.sc]], true⟩
def S_spec_GoodRecord : Sig := ⟨[(.snap, [.sc, .sc, .sc, .sc])], [[.sc]], true⟩
def S_impl_within : Sig := ⟨[(.snap, [.sc]), (.snap, [.sc]), (.snap, [.sc])], [[.sc]], true⟩
def S_impl_isRun : Sig := ⟨[(.snap, [.sc]), (.snap, [.sc])], [[.sc]], true⟩
def S_spec_l1In : Sig := ⟨[(.snap, [.sc]), (.snap, [.sc]), (.snap, [.sc])], [[.sc]], true⟩
def S_spec_l3Blank : Sig := ⟨[], [[.sl [.sc]]], true⟩
def S_slices_ContainsFunc_impl_Record_impl_Record : Sig := ⟨[(.snap, [.sl [.sc, .sc, .sc, .sc]]), (.snap, [.sc])], [[.sc]], true⟩
def S_slices_Repeat_string_string : Sig := ⟨[(.snap, [.sl [.sc]]), (.snap, [.sc])], [[.sl [.sc]]], true⟩
def S_spec_l3Where : Sig := ⟨[(.snap, [.sc, .sc, .sc, .sc])], [[.sc]], true⟩
def S_slices_IndexFunc_impl_Record_impl_Record : Sig := ⟨[(.snap, [.sl [.sc, .sc, .sc, .sc]]), (.snap, [.sc])], [[.sc]], true⟩
def S_math_bits_Mul : Sig := ⟨[(.snap, [.sc]), (.snap, [.sc])], [[.sc], [.sc]], true⟩
def S_math_bits_Mul32 : Sig := ⟨[(.snap, [.sc]), (.snap, [.sc])], [[.sc], [.sc]], true⟩
def S_math_bits_Mul64 : Sig := ⟨[(.snap, [.sc]), (.snap, [.sc])], [[.sc], [.sc]], true⟩
def tis : List (Nat × TI) := [(3, ⟨1, 8, false, [.int .i64 0], .int .i64⟩),
  (4, ⟨1, 1, false, [.bool false], .bool⟩),
  (5, ⟨1, 1, false, [.int .u8 0], .int .u8⟩),
  (9, ⟨1, 16, false, [.string ⟨#[]⟩], .str⟩),
  (22, ⟨1, 24, false, [.slice none 0 0], .slice 96⟩),
  (24, ⟨1, 24, false, [.slice none 0 0], .slice 9⟩),
  (27, ⟨1, 24, false, [.slice none 0 0], .slice 37⟩),
  (34, ⟨1, 24, false, [.slice none 0 0], .slice 5⟩),
  (37, ⟨4, 40, true, [.int .i64 0, .int .i64 0, .int .i64 0, .string ⟨#[]⟩], .struct [(0, 1, false), (1, 1, false), (2, 1, false), (3, 1, false)]⟩),
  (46, ⟨1, 8, false, [.nilFunc], .func⟩),
  (96, ⟨4, 40, true, [.int .i64 0, .int .i64 0, .int .i64 0, .string ⟨#[]⟩], .struct [(0, 1, false), (1, 1, false), (2, 1, false), (3, 1, false)]⟩),
  (106, ⟨1, 8, false, [.int .u64 0], .int .u64⟩),
  (149, ⟨1, 8, false, [.int .u64 0], .int .u64⟩),
  (154, ⟨1, 4, false, [.int .u32 0], .int .u32⟩)]
noncomputable def fns : List (Nat × Func) := [(n_laws_FnExactFoldRecords, Try.f3), (n_laws_szRecordS, Try.f11), (n_spec_FoldRecords, Try.f12), (n_laws_toRecordS, Try.f13), (n_impl_FoldRecords, Try.f14), (n_laws_eqStringS, Try.f15), (n_laws_eqRecordS, Try.f16), (n_laws_markRecordS, Try.f17), (n_laws_markStringS, Try.f18), (n_laws_heldStringS, Try.f19), (n_impl_GoodRecord, Try.f29), (n_laws_szRecord, Try.f68), (n_spec_l3Good, Try.f69), (n_spec_l3Fold, Try.f70), (n_laws_toRecord, Try.f71), (n_impl_areAll_impl_Record, Try.f72), (n_impl_emptyBlocks, Try.f73), (n_impl_Record_do, Try.f74), (n_laws_eqRecord, Try.f75), (n_laws_markText, Try.f76), (n_spec_GoodRecord, Try.f82), (n_impl_within, Try.f84), (n_impl_isRun, Try.f85), (n_spec_l1In, Try.f91), (n_spec_l3Blank, Try.f107), (n_spec_l3Do, Try.f108), (n_slices_ContainsFunc_impl_Record_impl_Record, Try.f109), (n_impl_areAll_impl_Record_1, Try.f110), (n_slices_Repeat_string_string, Try.f111), (n_spec_l3Where, Try.f114), (n_slices_IndexFunc_impl_Record_impl_Record, Try.f129), (n_math_bits_Mul, Try.f130), (n_math_bits_Mul32, Try.f138), (n_math_bits_Mul64, Try.f139)]
def tups : List (Nat × Nat) := [(0, 0), (25, 2), (150, 2), (157, 2)]
def locs : List (Nat × List Nat) := [(14, [6]), (29, [1]), (68, [2]), (69, [4]), (70, [5]), (71, [1, 2, 3]), (74, [2]), (75, [2, 3]), (82, [1]), (108, [3]), (110, [2]), (114, [1])]
def keeps : List (Nat × List (Nat × (List Nat × List (Nat × Nat)))) := [(11, [(5, ([0, 1, 5], []))]),
  (13, [(3, ([0, 3, 4], []))]),
  (14, [(5, ([4, 16, 17, 18], []))]),
  (15, [(4, ([0, 1, 5], []))]),
  (16, [(4, ([0, 1, 5], []))]),
  (17, [(2, ([0, 1, 5], []))]),
  (18, [(2, ([0, 1, 5], []))]),
  (19, [(2, ([0, 1, 5], []))]),
  (69, [(2, ([5, 6, 7], []))]),
  (70, [(3, ([3, 7, 8, 9], []))]),
  (74, [(2, ([1, 6, 7], [(2, 4)]))]),
  (76, [(4, ([0, 3], []))]),
  (107, [(3, ([1, 2], []))]),
  (108, [(2, ([0, 4], [(3, 4)]))]),
  (111, [(8, ([7, 8], []))]),
  (129, [(2, ([0, 1, 7, 8], []))])]
def eqs : List (Nat × List Nat) := []
def shsT : List (Nat × List Sh) := [(3, [.sc]), (4, [.sc]), (5, [.sc]), (9, [.sc]), (22, [.sl [.sc, .sc, .sc, .sc]]), (24, [.sl [.sc]]), (27, [.sl [.sc, .sc, .sc, .sc]]), (34, [.sl [.sc]]), (37, [.sc, .sc, .sc, .sc]), (46, [.sc]), (96, [.sc, .sc, .sc, .sc]), (106, [.sc]), (149, [.sc]), (154, [.sc])]
def sgs : List (Nat × Sig) := [(3, S_laws_FnExactFoldRecords), (11, S_laws_szRecordS), (12, S_spec_FoldRecords), (13, S_laws_toRecordS), (14, S_impl_FoldRecords), (15, S_laws_eqStringS), (16, S_laws_eqRecordS), (19, S_laws_heldStringS), (29, S_impl_GoodRecord), (68, S_laws_szRecord), (69, S_spec_l3Good), (70, S_spec_l3Fold), (71, S_laws_toRecord), (72, S_impl_areAll_impl_Record), (73, S_impl_emptyBlocks), (75, S_laws_eqRecord), (76, S_laws_markText), (82, S_spec_GoodRecord), (84, S_impl_within), (85, S_impl_isRun), (91, S_spec_l1In), (107, S_spec_l3Blank), (109, S_slices_ContainsFunc_impl_Record_impl_Record), (111, S_slices_Repeat_string_string), (114, S_spec_l3Where), (129, S_slices_IndexFunc_impl_Record_impl_Record), (130, S_math_bits_Mul), (138, S_math_bits_Mul32), (139, S_math_bits_Mul64)]
def lts : List (Nat × List Nat) := [(73, [1]), (76, [12]), (107, [8]), (111, [15, 17]), (130, [12, 14])]
def ops : List (Nat × List Nat) := [(72, [3])]
def tds : List (Nat × List Nat) := []
noncomputable def E : Env := ⟨look fns, look tis, look tups, flag locs, fun f i => match look keeps f with | some l => (match look l i with | some x => x | none => ([], [])) | none => ([], []), fun t => match look eqs t with | some l => l | none => []⟩
noncomputable def P : PEnv := ⟨E, fun t => match look shsT t with | some l => l | none => [], look sgs, flag lts, flag ops, flag tds⟩
theorem fnsOk : FnsOk Try.prog fns := ⟨⟨Try.func3, by kernel_rfl⟩, ⟨⟨Try.func11, by kernel_rfl⟩, ⟨⟨Try.func12, by kernel_rfl⟩, ⟨⟨Try.func13, by kernel_rfl⟩, ⟨⟨Try.func14, by kernel_rfl⟩, ⟨⟨Try.func15, by kernel_rfl⟩, ⟨⟨Try.func16, by kernel_rfl⟩, ⟨⟨Try.func17, by kernel_rfl⟩, ⟨⟨Try.func18, by kernel_rfl⟩, ⟨⟨Try.func19, by kernel_rfl⟩, ⟨⟨Try.func29, by kernel_rfl⟩, ⟨⟨Try.func68, by kernel_rfl⟩, ⟨⟨Try.func69, by kernel_rfl⟩, ⟨⟨Try.func70, by kernel_rfl⟩, ⟨⟨Try.func71, by kernel_rfl⟩, ⟨⟨Try.func72, by kernel_rfl⟩, ⟨⟨Try.func73, by kernel_rfl⟩, ⟨⟨Try.func74, by kernel_rfl⟩, ⟨⟨Try.func75, by kernel_rfl⟩, ⟨⟨Try.func76, by kernel_rfl⟩, ⟨⟨Try.func82, by kernel_rfl⟩, ⟨⟨Try.func84, by kernel_rfl⟩, ⟨⟨Try.func85, by kernel_rfl⟩, ⟨⟨Try.func91, by kernel_rfl⟩, ⟨⟨Try.func107, by kernel_rfl⟩, ⟨⟨Try.func108, by kernel_rfl⟩, ⟨⟨Try.func109, by kernel_rfl⟩, ⟨⟨Try.func110, by kernel_rfl⟩, ⟨⟨Try.func111, by kernel_rfl⟩, ⟨⟨Try.func114, by kernel_rfl⟩, ⟨⟨Try.func129, by kernel_rfl⟩, ⟨⟨Try.func130, by kernel_rfl⟩, ⟨⟨Try.func138, by kernel_rfl⟩, ⟨⟨Try.func139, by kernel_rfl⟩, trivial⟩⟩⟩⟩⟩⟩⟩⟩⟩⟩⟩⟩⟩⟩⟩⟩⟩⟩⟩⟩⟩⟩⟩⟩⟩⟩⟩⟩⟩⟩⟩⟩⟩⟩
theorem envE : EnvOk Try.prog E := envOk (tis := tis) rfl rfl fnsOk (by kernel_rfl) (by kernel_rfl) (by kernel_rfl)
theorem eqE : ∀ T q ks, E.eqT T = q :: ks → eqTOk Try.prog T (q :: ks) = true := eqsOk (eqs := eqs) rfl (by kernel_rfl)
end Go.Lg.Pv.Q
