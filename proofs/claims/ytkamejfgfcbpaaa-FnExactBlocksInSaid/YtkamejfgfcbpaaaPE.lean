/- The tables of this seat's translation: types, functions, registers, what loops keep; and that they are the program's. -/
import Derived.Test.YtkamejfgfcbpaaaProg
import Derived.Test.YtkamejfgfcbpaaaPackD
namespace Go.Lg.Pv.Q
open Go Go.Lg Go.Lg.Pv Go.Proofs
set_option linter.unusedVariables false
set_option maxRecDepth 100000

def n_laws_FnExactBlocksIn : Nat := 5
def n_laws_szRecordS : Nat := 11
def n_laws_toRecordS : Nat := 13
def n_laws_eqStringS : Nat := 15
def n_laws_eqRecordS : Nat := 16
def n_laws_markRecordS : Nat := 17
def n_laws_markStringS : Nat := 18
def n_laws_heldStringS : Nat := 19
def n_impl_GoodRecord : Nat := 29
def n_laws_szVolume : Nat := 31
def n_spec_BlocksIn : Nat := 32
def n_laws_toVolume : Nat := 33
def n_impl_BlocksIn : Nat := 34
def n_laws_eqVolume : Nat := 35
def n_laws_markVolume : Nat := 36
def n_impl_GoodVolume : Nat := 45
def n_spec_GoodVolume : Nat := 61
def n_laws_szRecord : Nat := 68
def n_spec_l3Good : Nat := 69
def n_laws_toRecord : Nat := 71
def n_impl_areAll_impl_Record : Nat := 72
def n_impl_Record_do : Nat := 74
def n_laws_eqRecord : Nat := 75
def n_laws_markText : Nat := 76
def n_spec_GoodRecord : Nat := 82
def n_impl_within : Nat := 84
def n_impl_isRun : Nat := 85
def n_laws_szStringS : Nat := 87
def n_spec_l6In : Nat := 88
def n_laws_toStringS : Nat := 89
def n_impl_Volume_blocks : Nat := 90
def n_spec_l1In : Nat := 91
def n_impl_areBlocks : Nat := 98
def n_spec_l6Blocks : Nat := 104
def n_spec_l3Do : Nat := 108
def n_slices_ContainsFunc_impl_Record_impl_Record : Nat := 109
def n_impl_areAll_impl_Record_1 : Nat := 110
def n_spec_l3Where : Nat := 114
def n_slices_Clone_string_string : Nat := 117
def n_impl_areAll_string : Nat := 125
def n_impl_isData : Nat := 126
def n_slices_IndexFunc_impl_Record_impl_Record : Nat := 129
def n_slices_ContainsFunc_string_string : Nat := 136
def n_impl_areAll_string_1 : Nat := 137
def n_slices_IndexFunc_string_string : Nat := 142
def S_laws_FnExactBlocksIn : Sig := ⟨[(.snap, [.sl [.sc], .sc, .sl [.sc, .sc, .sc, .sc], .sc])], [[.sc]], true⟩
def S_laws_szRecordS : Sig := ⟨[(.snap, [.sl [.sc, .sc, .sc, .sc]]), (.snap, [.sc])], [[.sc]], true⟩
def S_laws_toRecordS : Sig := ⟨[(.snap, [.sl [.sc, .sc, .sc, .sc]])], [[.sl [.sc, .sc, .sc, .sc]]], true⟩
def S_laws_eqStringS : Sig := ⟨[(.snap, [.sl [.sc]]), (.snap, [.sl [.sc]])], [[.sc]], true⟩
def S_laws_eqRecordS : Sig := ⟨[(.snap, [.sl [.sc, .sc, .sc, .sc]]), (.snap, [.sl [.sc, .sc, .sc, .sc]])], [[.sc]], true⟩
def S_laws_heldStringS : Sig := ⟨[(.snap, [.sl [.sc]]), (.snap, [.sc])], [[.sc]], true⟩
def S_impl_GoodRecord : Sig := ⟨[(.snap, [.sc, .sc, .sc, .sc])], [[.sc]], true⟩
def S_laws_szVolume : Sig := ⟨[(.snap, [.sl [.sc], .sc, .sl [.sc, .sc, .sc, .sc], .sc]), (.snap, [.sc])], [[.sc]], true⟩
def S_spec_BlocksIn : Sig := ⟨[(.snap, [.sl [.sc], .sc, .sl [.sc, .sc, .sc, .sc], .sc])], [[.sl [.sc]], [.sc]], true⟩
def S_laws_toVolume : Sig := ⟨[(.snap, [.sl [.sc], .sc, .sl [.sc, .sc, .sc, .sc], .sc])], [[.sl [.sc], .sc, .sl [.sc, .sc, .sc, .sc], .sc]], true⟩
def S_impl_BlocksIn : Sig := ⟨[(.snap, [.sl [.sc], .sc, .sl [.sc, .sc, .sc, .sc], .sc])], [[.sl [.sc]], [.sc]], true⟩
def S_laws_eqVolume : Sig := ⟨[(.snap, [.sl [.sc], .sc, .sl [.sc, .sc, .sc, .sc], .sc]), (.snap, [.sl [.sc], .sc, .sl [.sc, .sc, .sc, .sc], .sc])], [[.sc]], true⟩
def S_impl_GoodVolume : Sig := ⟨[(.snap, [.sl [.sc], .sc, .sl [.sc, .sc, .sc, .sc], .sc])], [[.sc]], true⟩
def S_spec_GoodVolume : Sig := ⟨[(.snap, [.sl [.sc], .sc, .sl [.sc, .sc, .sc, .sc], .sc])], [[.sc]], true⟩
def S_laws_szRecord : Sig := ⟨[(.snap, [.sc, .sc, .sc, .sc]), (.snap, [.sc])], [[.sc]], true⟩
def S_spec_l3Good : Sig := ⟨[(.snap, [.sl [.sc, .sc, .sc, .sc]])], [[.sc]], true⟩
def S_laws_toRecord : Sig := ⟨[(.snap, [.sc, .sc, .sc, .sc])], [[.sc, .sc, .sc, .sc]], true⟩
def S_impl_areAll_impl_Record : Sig := ⟨[(.snap, [.sl [.sc, .sc, .sc, .sc]]), (.snap, [.sc])], [[.sc]], true⟩
def S_laws_eqRecord : Sig := ⟨[(.snap, [.sc, .sc, .sc, .sc]), (.snap, [.sc, .sc, .sc, .sc])], [[.sc]], true⟩
def S_laws_markText : Sig := ⟨[(.snap, [.sc])], [[.sc]], true⟩
def S_spec_GoodRecord : Sig := ⟨[(.snap, [.sc, .sc, .sc, .sc])], [[.sc]], true⟩
def S_impl_within : Sig := ⟨[(.snap, [.sc]), (.snap, [.sc]), (.snap, [.sc])], [[.sc]], true⟩
def S_impl_isRun : Sig := ⟨[(.snap, [.sc]), (.snap, [.sc])], [[.sc]], true⟩
def S_laws_szStringS : Sig := ⟨[(.snap, [.sl [.sc]]), (.snap, [.sc])], [[.sc]], true⟩
def S_spec_l6In : Sig := ⟨[(.snap, [.sl [.sc], .sc, .sl [.sc, .sc, .sc, .sc], .sc])], [[.sl [.sc]]], true⟩
def S_laws_toStringS : Sig := ⟨[(.snap, [.sl [.sc]])], [[.sl [.sc]]], true⟩
def S_impl_Volume_blocks : Sig := ⟨[(.snap, [.sl [.sc], .sc, .sl [.sc, .sc, .sc, .sc], .sc])], [[.sl [.sc]]], true⟩
def S_spec_l1In : Sig := ⟨[(.snap, [.sc]), (.snap, [.sc]), (.snap, [.sc])], [[.sc]], true⟩
def S_impl_areBlocks : Sig := ⟨[(.snap, [.sl [.sc]])], [[.sc]], true⟩
def S_spec_l6Blocks : Sig := ⟨[(.snap, [.sl [.sc]])], [[.sc]], true⟩
def S_slices_ContainsFunc_impl_Record_impl_Record : Sig := ⟨[(.snap, [.sl [.sc, .sc, .sc, .sc]]), (.snap, [.sc])], [[.sc]], true⟩
def S_spec_l3Where : Sig := ⟨[(.snap, [.sc, .sc, .sc, .sc])], [[.sc]], true⟩
def S_slices_Clone_string_string : Sig := ⟨[(.snap, [.sl [.sc]])], [[.sl [.sc]]], true⟩
def S_impl_areAll_string : Sig := ⟨[(.snap, [.sl [.sc]]), (.snap, [.sc])], [[.sc]], true⟩
def S_impl_isData : Sig := ⟨[(.snap, [.sc])], [[.sc]], true⟩
def S_slices_IndexFunc_impl_Record_impl_Record : Sig := ⟨[(.snap, [.sl [.sc, .sc, .sc, .sc]]), (.snap, [.sc])], [[.sc]], true⟩
def S_slices_ContainsFunc_string_string : Sig := ⟨[(.snap, [.sl [.sc]]), (.snap, [.sc])], [[.sc]], true⟩
def S_slices_IndexFunc_string_string : Sig := ⟨[(.snap, [.sl [.sc]]), (.snap, [.sc])], [[.sc]], true⟩
def tis : List (Nat × TI) := [(3, ⟨1, 8, false, [.int .i64 0], .int .i64⟩),
  (4, ⟨1, 1, false, [.bool false], .bool⟩),
  (5, ⟨1, 1, false, [.int .u8 0], .int .u8⟩),
  (9, ⟨1, 16, false, [.string ⟨#[]⟩], .str⟩),
  (22, ⟨1, 24, false, [.slice none 0 0], .slice 96⟩),
  (24, ⟨1, 24, false, [.slice none 0 0], .slice 9⟩),
  (27, ⟨1, 24, false, [.slice none 0 0], .slice 37⟩),
  (34, ⟨1, 24, false, [.slice none 0 0], .slice 5⟩),
  (37, ⟨4, 40, true, [.int .i64 0, .int .i64 0, .int .i64 0, .string ⟨#[]⟩], .struct [(0, 1, false), (1, 1, false), (2, 1, false), (3, 1, false)]⟩),
  (46, ⟨1, 8, false, [.nilFunc], .func⟩),
  (51, ⟨4, 64, true, [.slice none 0 0, .int .i64 0, .slice none 0 0, .int .i64 0], .struct [(0, 1, false), (1, 1, false), (2, 1, false), (3, 1, false)]⟩),
  (55, ⟨4, 64, true, [.slice none 0 0, .int .i64 0, .slice none 0 0, .int .i64 0], .struct [(0, 1, false), (1, 1, false), (2, 1, false), (3, 1, false)]⟩),
  (96, ⟨4, 40, true, [.int .i64 0, .int .i64 0, .int .i64 0, .string ⟨#[]⟩], .struct [(0, 1, false), (1, 1, false), (2, 1, false), (3, 1, false)]⟩),
  (146, ⟨1, 8, false, [.nilFunc], .func⟩)]
noncomputable def fns : List (Nat × Func) := [(n_laws_FnExactBlocksIn, Try.f5), (n_laws_szRecordS, Try.f11), (n_laws_toRecordS, Try.f13), (n_laws_eqStringS, Try.f15), (n_laws_eqRecordS, Try.f16), (n_laws_markRecordS, Try.f17), (n_laws_markStringS, Try.f18), (n_laws_heldStringS, Try.f19), (n_impl_GoodRecord, Try.f29), (n_laws_szVolume, Try.f31), (n_spec_BlocksIn, Try.f32), (n_laws_toVolume, Try.f33), (n_impl_BlocksIn, Try.f34), (n_laws_eqVolume, Try.f35), (n_laws_markVolume, Try.f36), (n_impl_GoodVolume, Try.f45), (n_spec_GoodVolume, Try.f61), (n_laws_szRecord, Try.f68), (n_spec_l3Good, Try.f69), (n_laws_toRecord, Try.f71), (n_impl_areAll_impl_Record, Try.f72), (n_impl_Record_do, Try.f74), (n_laws_eqRecord, Try.f75), (n_laws_markText, Try.f76), (n_spec_GoodRecord, Try.f82), (n_impl_within, Try.f84), (n_impl_isRun, Try.f85), (n_laws_szStringS, Try.f87), (n_spec_l6In, Try.f88), (n_laws_toStringS, Try.f89), (n_impl_Volume_blocks, Try.f90), (n_spec_l1In, Try.f91), (n_impl_areBlocks, Try.f98), (n_spec_l6Blocks, Try.f104), (n_spec_l3Do, Try.f108), (n_slices_ContainsFunc_impl_Record_impl_Record, Try.f109), (n_impl_areAll_impl_Record_1, Try.f110), (n_spec_l3Where, Try.f114), (n_slices_Clone_string_string, Try.f117), (n_impl_areAll_string, Try.f125), (n_impl_isData, Try.f126), (n_slices_IndexFunc_impl_Record_impl_Record, Try.f129), (n_slices_ContainsFunc_string_string, Try.f136), (n_impl_areAll_string_1, Try.f137), (n_slices_IndexFunc_string_string, Try.f142)]
def tups : List (Nat × Nat) := [(0, 0), (25, 2)]
def locs : List (Nat × List Nat) := [(5, [1, 6]), (29, [1]), (31, [2]), (32, [1]), (33, [1, 2, 3]), (34, [1]), (35, [2, 3]), (36, [2]), (45, [1, 5]), (61, [1, 5]), (68, [2]), (69, [4]), (71, [1, 2, 3]), (74, [2]), (75, [2, 3]), (82, [1]), (88, [1, 5]), (90, [1, 5]), (108, [3]), (110, [2]), (114, [1])]
def keeps : List (Nat × List (Nat × (List Nat × List (Nat × Nat)))) := [(11, [(5, ([0, 1, 5], []))]),
  (13, [(3, ([0, 3, 4], []))]),
  (15, [(4, ([0, 1, 5], []))]),
  (16, [(4, ([0, 1, 5], []))]),
  (17, [(2, ([0, 1, 5], []))]),
  (18, [(2, ([0, 1, 5], []))]),
  (19, [(2, ([0, 1, 5], []))]),
  (45, [(5, ([3, 40, 41, 42], []))]),
  (61, [(5, ([3, 40, 41, 42], []))]),
  (69, [(2, ([5, 6, 7], []))]),
  (74, [(2, ([1, 6, 7], [(2, 4)]))]),
  (76, [(4, ([0, 3], []))]),
  (87, [(5, ([0, 1, 5], []))]),
  (88, [(3, ([3, 11, 12, 13], []))]),
  (89, [(3, ([0, 3, 4], []))]),
  (90, [(3, ([3, 10, 11, 12], []))]),
  (104, [(2, ([0, 5, 6, 7], []))]),
  (108, [(2, ([0, 4], [(3, 4)]))]),
  (129, [(2, ([0, 1, 7, 8], []))]),
  (142, [(2, ([0, 1, 7, 8], []))])]
def eqs : List (Nat × List Nat) := []
def shsT : List (Nat × List Sh) := [(3, [.sc]), (4, [.sc]), (5, [.sc]), (9, [.sc]), (22, [.sl [.sc, .sc, .sc, .sc]]), (24, [.sl [.sc]]), (27, [.sl [.sc, .sc, .sc, .sc]]), (34, [.sl [.sc]]), (37, [.sc, .sc, .sc, .sc]), (46, [.sc]), (51, [.sl [.sc], .sc, .sl [.sc, .sc, .sc, .sc], .sc]), (55, [.sl [.sc], .sc, .sl [.sc, .sc, .sc, .sc], .sc]), (96, [.sc, .sc, .sc, .sc]), (146, [.sc])]
def sgs : List (Nat × Sig) := [(5, S_laws_FnExactBlocksIn), (11, S_laws_szRecordS), (13, S_laws_toRecordS), (15, S_laws_eqStringS), (16, S_laws_eqRecordS), (19, S_laws_heldStringS), (29, S_impl_GoodRecord), (31, S_laws_szVolume), (32, S_spec_BlocksIn), (33, S_laws_toVolume), (34, S_impl_BlocksIn), (35, S_laws_eqVolume), (45, S_impl_GoodVolume), (61, S_spec_GoodVolume), (68, S_laws_szRecord), (69, S_spec_l3Good), (71, S_laws_toRecord), (72, S_impl_areAll_impl_Record), (75, S_laws_eqRecord), (76, S_laws_markText), (82, S_spec_GoodRecord), (84, S_impl_within), (85, S_impl_isRun), (87, S_laws_szStringS), (88, S_spec_l6In), (89, S_laws_toStringS), (90, S_impl_Volume_blocks), (91, S_spec_l1In), (98, S_impl_areBlocks), (104, S_spec_l6Blocks), (109, S_slices_ContainsFunc_impl_Record_impl_Record), (114, S_spec_l3Where), (117, S_slices_Clone_string_string), (125, S_impl_areAll_string), (126, S_impl_isData), (129, S_slices_IndexFunc_impl_Record_impl_Record), (136, S_slices_ContainsFunc_string_string), (142, S_slices_IndexFunc_string_string)]
def lts : List (Nat × List Nat) := [(76, [12])]
def ops : List (Nat × List Nat) := [(5, [1]), (31, [2]), (32, [1]), (33, [1]), (34, [1]), (35, [2, 3]), (36, [2]), (45, [1]), (61, [1]), (72, [3]), (88, [1]), (90, [1]), (125, [3])]
def tds : List (Nat × List Nat) := []
noncomputable def E : Env := ⟨look fns, look tis, look tups, flag locs, fun f i => match look keeps f with | some l => (match look l i with | some x => x | none => ([], [])) | none => ([], []), fun t => match look eqs t with | some l => l | none => []⟩
noncomputable def P : PEnv := ⟨E, fun t => match look shsT t with | some l => l | none => [], look sgs, flag lts, flag ops, flag tds⟩
theorem fnsOk : FnsOk Try.prog fns := ⟨⟨Try.func5, by kernel_rfl⟩, ⟨⟨Try.func11, by kernel_rfl⟩, ⟨⟨Try.func13, by kernel_rfl⟩, ⟨⟨Try.func15, by kernel_rfl⟩, ⟨⟨Try.func16, by kernel_rfl⟩, ⟨⟨Try.func17, by kernel_rfl⟩, ⟨⟨Try.func18, by kernel_rfl⟩, ⟨⟨Try.func19, by kernel_rfl⟩, ⟨⟨Try.func29, by kernel_rfl⟩, ⟨⟨Try.func31, by kernel_rfl⟩, ⟨⟨Try.func32, by kernel_rfl⟩, ⟨⟨Try.func33, by kernel_rfl⟩, ⟨⟨Try.func34, by kernel_rfl⟩, ⟨⟨Try.func35, by kernel_rfl⟩, ⟨⟨Try.func36, by kernel_rfl⟩, ⟨⟨Try.func45, by kernel_rfl⟩, ⟨⟨Try.func61, by kernel_rfl⟩, ⟨⟨Try.func68, by kernel_rfl⟩, ⟨⟨Try.func69, by kernel_rfl⟩, ⟨⟨Try.func71, by kernel_rfl⟩, ⟨⟨Try.func72, by kernel_rfl⟩, ⟨⟨Try.func74, by kernel_rfl⟩, ⟨⟨Try.func75, by kernel_rfl⟩, ⟨⟨Try.func76, by kernel_rfl⟩, ⟨⟨Try.func82, by kernel_rfl⟩, ⟨⟨Try.func84, by kernel_rfl⟩, ⟨⟨Try.func85, by kernel_rfl⟩, ⟨⟨Try.func87, by kernel_rfl⟩, ⟨⟨Try.func88, by kernel_rfl⟩, ⟨⟨Try.func89, by kernel_rfl⟩, ⟨⟨Try.func90, by kernel_rfl⟩, ⟨⟨Try.func91, by kernel_rfl⟩, ⟨⟨Try.func98, by kernel_rfl⟩, ⟨⟨Try.func104, by kernel_rfl⟩, ⟨⟨Try.func108, by kernel_rfl⟩, ⟨⟨Try.func109, by kernel_rfl⟩, ⟨⟨Try.func110, by kernel_rfl⟩, ⟨⟨Try.func114, by kernel_rfl⟩, ⟨⟨Try.func117, by kernel_rfl⟩, ⟨⟨Try.func125, by kernel_rfl⟩, ⟨⟨Try.func126, by kernel_rfl⟩, ⟨⟨Try.func129, by kernel_rfl⟩, ⟨⟨Try.func136, by kernel_rfl⟩, ⟨⟨Try.func137, by kernel_rfl⟩, ⟨⟨Try.func142, by kernel_rfl⟩, trivial⟩⟩⟩⟩⟩⟩⟩⟩⟩⟩⟩⟩⟩⟩⟩⟩⟩⟩⟩⟩⟩⟩⟩⟩⟩⟩⟩⟩⟩⟩⟩⟩⟩⟩⟩⟩⟩⟩⟩⟩⟩⟩⟩⟩⟩
theorem envE : EnvOk Try.prog E := envOk (tis := tis) rfl rfl fnsOk (by kernel_rfl) (by kernel_rfl) (by kernel_rfl)
theorem eqE : ∀ T q ks, E.eqT T = q :: ks → eqTOk Try.prog T (q :: ks) = true := eqsOk (eqs := eqs) rfl (by kernel_rfl)
end Go.Lg.Pv.Q
