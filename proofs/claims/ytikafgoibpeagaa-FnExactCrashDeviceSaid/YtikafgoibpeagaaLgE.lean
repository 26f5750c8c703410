/- The tables of this seat's translation: types, functions, registers, what loops keep; and that they are the program's. -/
import Derived.Test.YtikafgoibpeagaaProg
import Derived.Test.YtikafgoibpeagaaLgF
import Derived.Test.YtikafgoibpeagaaLgT
namespace Go.Lg.S
open Go Go.Lg Go.Proofs
set_option linter.unusedVariables false
set_option maxRecDepth 100000

def tis : List (Nat × TI) := [(3, ⟨1, 8, false, [.int .i64 0], .int .i64⟩),
  (4, ⟨1, 1, false, [.bool false], .bool⟩),
  (5, ⟨1, 1, false, [.int .u8 0], .int .u8⟩),
  (9, ⟨1, 16, false, [.string ⟨#[]⟩], .str⟩),
  (22, ⟨1, 24, false, [.slice none 0 0], .slice 88⟩),
  (24, ⟨1, 24, true, [.slice none 0 0], .struct [(0, 1, false)]⟩),
  (26, ⟨1, 24, false, [.slice none 0 0], .slice 48⟩),
  (28, ⟨1, 24, true, [.slice none 0 0], .struct [(0, 1, false)]⟩),
  (38, ⟨1, 24, false, [.slice none 0 0], .slice 3⟩),
  (44, ⟨1, 24, false, [.slice none 0 0], .slice 5⟩),
  (48, ⟨3, 32, true, [.string ⟨#[]⟩, .int .i64 0, .bool false], .struct [(0, 1, false), (1, 1, false), (2, 1, false)]⟩),
  (76, ⟨1, 8, false, [.int .u64 0], .int .u64⟩),
  (78, ⟨3, 40, true, [.slice none 0 0, .int .i64 0, .int .u64 0], .struct [(0, 1, false), (1, 1, false), (2, 1, false)]⟩),
  (83, ⟨1, 8, false, [.nilFunc], .func⟩),
  (88, ⟨3, 32, true, [.string ⟨#[]⟩, .int .i64 0, .bool false], .struct [(0, 1, false), (1, 1, false), (2, 1, false)]⟩),
  (95, ⟨1, 24, false, [.slice none 0 0], .slice 9⟩)]
noncomputable def fns : List (Nat × Func) := [(2, Try.f2), (3, Try.f3), (4, Try.f4), (5, Try.f5), (6, Try.f6), (7, Try.f7), (8, Try.f8), (9, Try.f9), (10, Try.f10), (11, Try.f11), (12, Try.f12), (13, Try.f13), (14, Try.f14), (15, Try.f15), (16, Try.f16), (17, Try.f17), (18, Try.f18), (19, Try.f19), (20, Try.f20), (21, Try.f21), (22, Try.f22), (23, Try.f23), (24, Try.f24), (25, Try.f25), (26, Try.f26), (27, Try.f27), (28, Try.f28), (29, Try.f29), (30, Try.f30), (31, Try.f31), (32, Try.f32), (33, Try.f33), (34, Try.f34), (35, Try.f35), (36, Try.f36), (37, Try.f37), (38, Try.f38), (39, Try.f39), (40, Try.f40), (41, Try.f41), (42, Try.f42), (43, Try.f43), (44, Try.f44), (45, Try.f45), (46, Try.f46), (47, Try.f47), (48, Try.f48), (49, Try.f49), (50, Try.f50), (51, Try.f51), (52, Try.f52), (53, Try.f53), (54, Try.f54), (55, Try.f55), (56, Try.f56), (57, Try.f57), (58, Try.f58), (59, Try.f59), (60, Try.f60), (61, Try.f61), (62, Try.f62), (63, Try.f63), (64, Try.f64), (65, Try.f65), (66, Try.f66), (67, Try.f67), (68, Try.f68), (69, Try.f69), (70, Try.f70), (71, Try.f71), (72, Try.f72), (73, Try.f73), (74, Try.f74), (75, Try.f75), (76, Try.f76), (77, Try.f77)]
def tups : List (Nat × Nat) := [(0, 0), (29, 2), (35, 3), (45, 2), (52, 3), (54, 2), (56, 2), (58, 2), (62, 4)]
def locs : List (Nat × List Nat) := [(3, [1, 4, 6, 7, 12]), (4, [3, 8, 11, 12, 18]), (5, [2, 6, 8, 10, 15]), (6, [5, 7, 9, 12, 13, 14, 15, 17, 20]), (7, [5, 8, 11, 22, 24, 26, 28, 30, 38, 47, 49]), (8, [2]), (9, [1, 2, 4, 6]), (10, [1, 2, 3]), (11, [1, 2, 4]), (12, [2, 3]), (13, [2]), (14, [2]), (15, [3, 6, 9, 10]), (16, [3, 6, 9]), (17, [2, 4, 6, 8]), (19, [2, 4, 6, 9]), (22, [2, 5, 8]), (23, [2, 3]), (24, [1]), (25, [2]), (26, [6]), (27, [1, 5]), (28, [4]), (29, [1]), (30, [2]), (31, [2, 4, 6]), (32, [2, 4, 6]), (33, [2, 4, 6]), (34, [2, 4, 6]), (35, [1, 6]), (38, [7]), (39, [4]), (41, [2]), (42, [2]), (44, [1, 2]), (46, [1, 2]), (50, [2]), (52, [2]), (54, [1, 2]), (55, [1, 2]), (56, [2, 3, 10, 12, 14]), (61, [1]), (62, [1, 5]), (63, [2]), (65, [1]), (66, [5]), (67, [1]), (68, [2]), (69, [1, 2, 3]), (71, [2, 3]), (75, [2])]
def keeps : List (Nat × List (Nat × (List Nat × List (Nat × Nat)))) := [(6, [(10, ([1, 55, 56, 57], [(7, 1)])), (25, ([128, 129, 130], [(14, 1)]))]),
  (9, [(5, ([14, 15, 16], [(2, 1), (4, 1)]))]),
  (11, [(5, ([14, 15], [(2, 1), (4, 1)]))]),
  (17, [(5, ([1, 24, 25, 26], [(4, 1), (6, 1)]))]),
  (18, [(3, ([0, 3, 4], []))]),
  (19, [(5, ([24, 25, 26], [(2, 1), (4, 1), (6, 1)]))]),
  (20, [(4, ([0, 1, 5], []))]),
  (21, [(2, ([0, 1, 5], []))]),
  (22, [(5, ([4, 6, 16, 17, 18], [(2, 1), (5, 1)]))]),
  (23, [(4, ([15, 16], [(2, 1), (3, 1)]))]),
  (27, [(3, ([3, 7, 8, 9], [(1, 1)]))]),
  (35, [(5, ([4, 11, 12, 13], []))]),
  (36, [(4, ([0, 1, 12, 13], []))]),
  (37, [(2, ([1, 7, 8, 9], []))]),
  (43, [(5, ([0, 1, 5], []))]),
  (45, [(3, ([0, 3, 4], []))]),
  (47, [(4, ([0, 1, 5], []))]),
  (48, [(2, ([0, 1, 5], []))]),
  (49, [(2, ([0, 1, 5], []))]),
  (56, [(3, ([0, 5], [(2, 1), (3, 1)]))]),
  (62, [(3, ([3, 7, 8, 9], []))]),
  (72, [(4, ([0, 3], []))]),
  (77, [(2, ([0, 1, 7, 8], []))])]
def eqs : List (Nat × List Nat) := [(48, [2, 1, 0])]
noncomputable def E : Env := ⟨look fns, look tis, look tups, fun f t => match look locs f with | some l => l.any (Nat.beq t) | none => false, fun f i => match look keeps f with | some l => (match look l i with | some x => x | none => ([], [])) | none => ([], []), fun t => match look eqs t with | some l => l | none => []⟩
theorem fnsOk : FnsOk Try.prog fns := ⟨⟨Try.func2, by kernel_rfl⟩, ⟨⟨Try.func3, by kernel_rfl⟩, ⟨⟨Try.func4, by kernel_rfl⟩, ⟨⟨Try.func5, by kernel_rfl⟩, ⟨⟨Try.func6, by kernel_rfl⟩, ⟨⟨Try.func7, by kernel_rfl⟩, ⟨⟨Try.func8, by kernel_rfl⟩, ⟨⟨Try.func9, by kernel_rfl⟩, ⟨⟨Try.func10, by kernel_rfl⟩, ⟨⟨Try.func11, by kernel_rfl⟩, ⟨⟨Try.func12, by kernel_rfl⟩, ⟨⟨Try.func13, by kernel_rfl⟩, ⟨⟨Try.func14, by kernel_rfl⟩, ⟨⟨Try.func15, by kernel_rfl⟩, ⟨⟨Try.func16, by kernel_rfl⟩, ⟨⟨Try.func17, by kernel_rfl⟩, ⟨⟨Try.func18, by kernel_rfl⟩, ⟨⟨Try.func19, by kernel_rfl⟩, ⟨⟨Try.func20, by kernel_rfl⟩, ⟨⟨Try.func21, by kernel_rfl⟩, ⟨⟨Try.func22, by kernel_rfl⟩, ⟨⟨Try.func23, by kernel_rfl⟩, ⟨⟨Try.func24, by kernel_rfl⟩, ⟨⟨Try.func25, by kernel_rfl⟩, ⟨⟨Try.func26, by kernel_rfl⟩, ⟨⟨Try.func27, by kernel_rfl⟩, ⟨⟨Try.func28, by kernel_rfl⟩, ⟨⟨Try.func29, by kernel_rfl⟩, ⟨⟨Try.func30, by kernel_rfl⟩, ⟨⟨Try.func31, by kernel_rfl⟩, ⟨⟨Try.func32, by kernel_rfl⟩, ⟨⟨Try.func33, by kernel_rfl⟩, ⟨⟨Try.func34, by kernel_rfl⟩, ⟨⟨Try.func35, by kernel_rfl⟩, ⟨⟨Try.func36, by kernel_rfl⟩, ⟨⟨Try.func37, by kernel_rfl⟩, ⟨⟨Try.func38, by kernel_rfl⟩, ⟨⟨Try.func39, by kernel_rfl⟩, ⟨⟨Try.func40, by kernel_rfl⟩, ⟨⟨Try.func41, by kernel_rfl⟩, ⟨⟨Try.func42, by kernel_rfl⟩, ⟨⟨Try.func43, by kernel_rfl⟩, ⟨⟨Try.func44, by kernel_rfl⟩, ⟨⟨Try.func45, by kernel_rfl⟩, ⟨⟨Try.func46, by kernel_rfl⟩, ⟨⟨Try.func47, by kernel_rfl⟩, ⟨⟨Try.func48, by kernel_rfl⟩, ⟨⟨Try.func49, by kernel_rfl⟩, ⟨⟨Try.func50, by kernel_rfl⟩, ⟨⟨Try.func51, by kernel_rfl⟩, ⟨⟨Try.func52, by kernel_rfl⟩, ⟨⟨Try.func53, by kernel_rfl⟩, ⟨⟨Try.func54, by kernel_rfl⟩, ⟨⟨Try.func55, by kernel_rfl⟩, ⟨⟨Try.func56, by kernel_rfl⟩, ⟨⟨Try.func57, by kernel_rfl⟩, ⟨⟨Try.func58, by kernel_rfl⟩, ⟨⟨Try.func59, by kernel_rfl⟩, ⟨⟨Try.func60, by kernel_rfl⟩, ⟨⟨Try.func61, by kernel_rfl⟩, ⟨⟨Try.func62, by kernel_rfl⟩, ⟨⟨Try.func63, by kernel_rfl⟩, ⟨⟨Try.func64, by kernel_rfl⟩, ⟨⟨Try.func65, by kernel_rfl⟩, ⟨⟨Try.func66, by kernel_rfl⟩, ⟨⟨Try.func67, by kernel_rfl⟩, ⟨⟨Try.func68, by kernel_rfl⟩, ⟨⟨Try.func69, by kernel_rfl⟩, ⟨⟨Try.func70, by kernel_rfl⟩, ⟨⟨Try.func71, by kernel_rfl⟩, ⟨⟨Try.func72, by kernel_rfl⟩, ⟨⟨Try.func73, by kernel_rfl⟩, ⟨⟨Try.func74, by kernel_rfl⟩, ⟨⟨Try.func75, by kernel_rfl⟩, ⟨⟨Try.func76, by kernel_rfl⟩, ⟨⟨Try.func77, by kernel_rfl⟩, trivial⟩⟩⟩⟩⟩⟩⟩⟩⟩⟩⟩⟩⟩⟩⟩⟩⟩⟩⟩⟩⟩⟩⟩⟩⟩⟩⟩⟩⟩⟩⟩⟩⟩⟩⟩⟩⟩⟩⟩⟩⟩⟩⟩⟩⟩⟩⟩⟩⟩⟩⟩⟩⟩⟩⟩⟩⟩⟩⟩⟩⟩⟩⟩⟩⟩⟩⟩⟩⟩⟩⟩⟩⟩⟩⟩⟩
theorem envE : EnvOk Try.prog E := envOk (tis := tis) rfl rfl fnsOk (by kernel_rfl) (by kernel_rfl) (by kernel_rfl)
theorem eqE : ∀ T q ks, E.eqT T = q :: ks → eqTOk Try.prog T (q :: ks) = true := eqsOk (eqs := eqs) rfl (by kernel_rfl)
end Go.Lg.S
