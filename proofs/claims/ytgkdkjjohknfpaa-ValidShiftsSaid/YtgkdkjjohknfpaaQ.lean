/- The equations of the functions, as the small evaluator gives them (printed by vgen.py). Conditions: none. -/
import Derived.Test.YtgkdkjjohknfpaaVmD
import Derived.Test.YtgkdkjjohknfpaaProg
set_option linter.all false
set_option linter.all false
namespace Go.Proofs.Ytgkdkjjohknfpaa.VM
open Go AM
def normTab : List (Nat × Nat × List (Nat × Norm)) := [
 (67, 0, [(2, { slots := [(0, 0), (3, 0)], cells := [] })]),
 (81, 0, [(4, { slots := [(0, 0), (2, 0), (23, 0), (24, 0)], cells := [] })]),
 (52, 0, [(6, { slots := [(0, 0), (5, 5), (6, 0), (7, 0)], cells := [] }), (21, { slots := [(0, 0), (5, 0), (6, 0), (7, 0), (8, 0)], cells := [] }), (26, { slots := [(0, 0), (5, 0), (7, 0), (8, 0), (9, 0)], cells := [] }), (28, { slots := [(0, 0), (5, 0)], cells := [] })]),
 (69, 0, [(2, { slots := [(0, 0), (1, 0), (7, 0), (8, 0)], cells := [] })]),
 (53, 0, [(2, { slots := [(0, 0), (3, 3)], cells := [] })]),
 (72, 0, [(2, { slots := [(0, 0), (1, 0), (7, 0), (8, 0)], cells := [] })]),
 (55, 0, [(6, { slots := [(0, 0), (2, 0), (4, 0)], cells := [] }), (7, { slots := [(0, 0), (2, 0), (4, 0), (26, 0), (27, 0)], cells := [] })]),
 (44, 0, [(4, { slots := [(2, 0), (5, 0), (6, 0), (7, 0), (26, 0), (27, 0)], cells := [] })]),
 (59, 0, [(2, { slots := [(0, 0), (1, 0), (7, 0), (8, 0)], cells := [] })]),
 (32, 0, [(8, { slots := [(2, 0), (8, 0), (30, 0), (31, 0), (32, 0)], cells := [(2, 3, 7)] }), (17, { slots := [(2, 0), (8, 0), (9, 0), (11, 0), (30, 0), (31, 0), (32, 0)], cells := [] })]),
 (76, 0, [(4, { slots := [(0, 0), (2, 0), (3, 0), (5, 0)], cells := [] })]),
 (56, 0, [(5, { slots := [(1, 0), (3, 0), (4, 0), (5, 0)], cells := [] }), (12, { slots := [(1, 0), (3, 0), (4, 0), (5, 0), (6, 0), (7, 0)], cells := [] }), (13, { slots := [(1, 0), (3, 0), (4, 0), (5, 0), (7, 0), (70, 0), (71, 0), (72, 0)], cells := [] })]),
 (15, 0, [(3, { slots := [(2, 0), (3, 0), (13, 0), (14, 0)], cells := [] })]),
 (57, 0, [(2, { slots := [(0, 0), (1, 0), (7, 0), (8, 0)], cells := [] })]),
 (34, 0, [(2, { slots := [(0, 0), (1, 0), (4, 3), (11, 0), (12, 0), (13, 0)], cells := [] })]),
 (20, 0, [(4, { slots := [(0, 0), (1, 0), (12, 0), (13, 0)], cells := [] })]),
 (59, 1, [(2, { slots := [(0, 0), (1, 0), (7, 0), (8, 0)], cells := [] })]),
 (12, 0, [(6, { slots := [(1, 0), (4, 0), (6, 0), (25, 0), (26, 0), (27, 0)], cells := [] }), (9, { slots := [(1, 0), (4, 0), (6, 0), (7, 0), (8, 0), (9, 0), (25, 0), (26, 0), (27, 0)], cells := [] })]),
 (4, 0, [(12, { slots := [(2, 0), (5, 0), (6, 0), (8, 0), (10, 0), (11, 0), (12, 0), (61, 0), (62, 0), (63, 0)], cells := [] }), (18, { slots := [(2, 0), (5, 0), (6, 0), (8, 0), (10, 0), (11, 0), (12, 0), (14, 0), (15, 0), (61, 0), (62, 0), (63, 0), (103, 0), (104, 0), (105, 0)], cells := [] }), (24, { slots := [(2, 0), (5, 0), (6, 0), (8, 0), (10, 0), (11, 0), (12, 0), (14, 0), (15, 0), (61, 0), (62, 0), (63, 0), (126, 0), (127, 0), (128, 0)], cells := [] }), (34, { slots := [(2, 0), (5, 0), (6, 0), (8, 0), (10, 0), (11, 0), (12, 0), (14, 0), (15, 0), (61, 0), (62, 0), (63, 0)], cells := [] })]),
 (21, 0, [(7, { slots := [(1, 0), (2, 0), (4, 0), (6, 0), (43, 0), (44, 0)], cells := [] }), (12, { slots := [(1, 0), (2, 0), (4, 0), (6, 0), (55, 0), (56, 0), (57, 0)], cells := [] }), (16, { slots := [(1, 0), (2, 0), (4, 0), (6, 0), (9, 0), (10, 0), (55, 0), (56, 0), (57, 0), (67, 0), (68, 0)], cells := [] })]),
 (57, 1, [(2, { slots := [(0, 0), (1, 0), (7, 0), (8, 0)], cells := [] })]),
 (34, 1, [(2, { slots := [(0, 0), (1, 0), (4, 3), (11, 0), (12, 0), (13, 0)], cells := [] })]),
 (22, 0, [(4, { slots := [(0, 0), (1, 0), (13, 0), (14, 0)], cells := [] }), (9, { slots := [(0, 0), (1, 0), (5, 0), (13, 0), (14, 0), (32, 0), (33, 0)], cells := [] })]),
 (6, 0, [(15, { slots := [(1, 0), (5, 0), (12, 0), (14, 0), (105, 0), (106, 0)], cells := [] })])]
def callTab : List (Nat × Nat × List (Nat × Nat × CallH)) := [
 (10, 0, [(1, 1, { w := 0, own := [], pre := [], out := (.tup [.nilp, .t (.one (.int .i64))]), blks := [], alt := [((.tup [.ptr 500 0 0, .t (.one (.int .i64))]), [(500, .var [.t (.int .i64), .t (.int .i64), .t (.int .i64), .t (.list 5), .buf 501, .buf 502]), (501, .arr 2), (502, .arr 1)])] }), (4, 1, { w := 1, own := [], pre := [], out := (.one (.t (.one (.list 1)))), blks := [(0, .var [.t (.int .i64), .t (.int .i64), .t (.int .i64), .t (.list 5), .buf 1, .buf 2]), (1, .arr 2), (2, .arr 1)] })]),
 (12, 0, [(1, 1, { w := 0, own := [], pre := [], out := (.tup [.nilp, .t (.one (.int .i64))]), blks := [], alt := [((.tup [.ptr 500 0 0, .t (.one (.int .i64))]), [(500, .var [.t (.int .i64), .t (.int .i64), .t (.int .i64), .t (.list 5), .buf 501, .buf 502]), (501, .arr 2), (502, .arr 1)])] })]),
 (13, 0, [(1, 1, { w := 0, own := [], pre := [], out := (.tup [.nilp, .t (.one (.int .i64))]), blks := [], alt := [((.tup [.ptr 500 0 0, .t (.one (.int .i64))]), [(500, .var [.t (.int .i64), .t (.int .i64), .t (.int .i64), .t (.list 5), .buf 501, .buf 502]), (501, .arr 2), (502, .arr 1)])] })]),
 (14, 0, [(6, 3, { w := 1, own := [], pre := [], out := (.one (.t (.one .bool))), blks := [(0, .var [.t (.int .i64), .t (.int .i64), .t (.int .i64), .t (.list 5)])] })]),
 (15, 0, [(2, 0, { w := 0, own := [], pre := [], out := (.one (.agg [.ptr 0 0 1, .ptr 0 0 2, .ptr 0 0 3])), blks := [(0, .var [.t (.int .i64), .t (.int .i64), .t (.int .i64), .t (.int .i64), .t (.int .i64)])] })]),
 (18, 0, [(2, 18, { w := 0, own := [], pre := [], out := (.one (.t (.one .bool))), blks := [(0, .var [.t (.int .i64), .t (.int .i64), .t (.int .i64), .t (.list 5)])] })]),
 (21, 0, [(15, 0, { w := 0, own := [], pre := [], out := (.one (.agg [.ptr 0 0 1, .ptr 0 0 2, .ptr 0 0 3])), blks := [(0, .var [.t (.int .i64), .t (.int .i64), .t (.int .i64), .t (.int .i64), .t (.int .i64)])] })]),
 (25, 0, [(1, 1, { w := 0, own := [], pre := [], out := (.tup [.nilp, .t (.one (.int .i64))]), blks := [], alt := [((.tup [.ptr 500 0 0, .t (.one (.int .i64))]), [(500, .var [.t (.int .i64), .t (.int .i64), .t (.int .i64), .t (.list 5), .buf 501, .buf 502]), (501, .arr 2), (502, .arr 1)])] }), (4, 3, { w := 0, own := [], pre := [], out := (.one (.t (.one (.list 1)))), blks := [(0, .var [.t (.int .i64), .t (.int .i64), .t (.int .i64), .t (.list 5), .buf 1, .buf 2]), (1, .arr 2), (2, .arr 1)] })]),
 (32, 0, [(12, 2, { w := 0, own := [], pre := [], out := (.one (.t (.agg [.int .i64, .str, .int .i64]))), blks := [(0, .var [.t (.list 3), .t .bool])] }), (13, 1, { w := 0, own := [], pre := [], out := (.one (.t (.agg [.int .i64, .str, .int .i64]))), blks := [(0, .var [.t (.list 3), .t .bool])] }), (14, 1, { w := 0, own := [], pre := [], out := (.one (.t (.agg [.int .i64, .str, .int .i64]))), blks := [(0, .var [.t (.list 3), .t .bool])] }), (15, 1, { w := 0, own := [], pre := [], out := (.one (.t (.agg [.int .i64, .str, .int .i64]))), blks := [(0, .var [.t (.list 3), .t .bool])] }), (16, 3, { w := 0, own := [], pre := [], out := (.one (.t (.agg [.int .i64, .int .i64, .int .i64, .int .i64, .int .i64]))), blks := [(0, .var [.t (.list 3), .t .bool])] })]),
 (33, 0, [(4, 1, { w := 0, own := [], pre := [], out := (.one (.ptr 500 0 0)), blks := [(500, .var [.t (.int .i64), .t (.int .i64), .t (.int .i64), .t (.list 5), .buf 501, .buf 502]), (501, .arr 2), (502, .arr 1)] })]),
 (34, 0, [(4, 11, { w := 0, own := [], pre := [], out := (.one (.t (.one .bool))), blks := [(0, .var [.t (.int .i64), .t (.int .i64), .t (.int .i64), .t (.list 5), .buf 1, .buf 2]), (1, .arr 2), (2, .arr 1)] })]),
 (35, 0, [(1, 4, { w := 1, own := [], pre := [], out := (.one (.t (.one .bool))), blks := [(0, .var [.t (.int .i64)])] })]),
 (36, 0, [(1, 2, { w := 0, own := [], pre := [], out := (.one (.t (.one (.int .i64)))), blks := [(0, .var [.ptr 1 0 0]), (1, .var [.t (.int .i64), .t (.int .i64), .t (.int .i64), .t (.list 5), .buf 2, .buf 3]), (2, .arr 2), (3, .arr 1), (4, .var [.t (.int .i64)])] })]),
 (36, 1, [(1, 2, { w := 1, own := [], pre := [], out := (.one (.t (.one (.int .i64)))), blks := [(0, .var [.t (.int .i64)])] })]),
 (40, 0, [(1, 2, { w := 0, own := [], pre := [], out := (.one (.t (.one (.int .i64)))), blks := [(0, .var [.t (.int .i64), .t (.int .i64), .t (.int .i64), .t (.list 5)])] })]),
 (40, 1, [(1, 2, { w := 1, own := [], pre := [], out := (.one (.t (.one (.int .i64)))), blks := [(0, .var [.t (.int .i64), .t (.int .i64), .t (.int .i64), .t (.list 5)])] })]),
 (44, 0, [(3, 0, { w := 0, own := [], pre := [], out := (.one (.agg [.ptr 0 0 1, .ptr 0 0 2, .ptr 0 0 3])), blks := [(0, .var [.t (.int .i64), .t (.int .i64), .t (.int .i64), .t (.int .i64), .t (.int .i64)])] })]),
 (48, 0, [(1, 3, { w := 0, own := [], pre := [], out := (.one (.t (.one .bool))), blks := [(0, .var [.ptr 1 0 0]), (1, .var [.t (.int .i64), .t (.int .i64), .t (.int .i64), .t (.list 5), .buf 2, .buf 3]), (2, .arr 2), (3, .arr 1), (4, .var [.t (.int .i64)])] })]),
 (55, 0, [(1, 1, { w := 0, own := [], pre := [], out := (.one (.t (.agg [.int .i64, .str, .int .i64]))), blks := [(0, .var [.t (.list 3), .t .bool])] }), (2, 2, { w := 0, own := [], pre := [], out := (.one (.t (.one (.int .i64)))), blks := [(0, .var [.t .str])] }), (6, 0, { w := 0, own := [], pre := [], out := (.one (.agg [.ptr 0 0 1, .ptr 0 0 2, .ptr 0 0 3])), blks := [(0, .var [.t (.int .i64), .t (.int .i64), .t (.int .i64), .t (.int .i64), .t (.int .i64)])] }), (12, 2, { w := 0, own := [], pre := [], out := (.one (.t (.one (.int .i64)))), blks := [(0, .var [.t (.list 3), .t .bool])] }), (14, 2, { w := 0, own := [], pre := [], out := (.one (.t (.one (.int .i64)))), blks := [(0, .var [.t (.list 3), .t .bool])] }), (16, 2, { w := 0, own := [], pre := [], out := (.one (.t (.agg [.int .i64, .str, .int .i64]))), blks := [(0, .var [.t (.list 3), .t .bool])] }), (18, 1, { w := 0, own := [], pre := [], out := (.one (.t (.one (.int .i64)))), blks := [(0, .var [.t (.list 3), .t .bool])] })]),
 (56, 0, [(15, 3, { w := 0, own := [], pre := [], out := (.tup []), blks := [(0, .var [.ptr 1 0 0]), (1, .var [.t (.int .i64), .t (.int .i64), .t (.int .i64), .t (.list 5), .buf 2, .buf 3]), (2, .arr 2), (3, .arr 1), (4, .var [.buf 5]), (5, .arr 1)], alt := [((.tup []), [(0, .var [.ptr 1 0 0]), (1, .var [.t (.int .i64), .t (.int .i64), .t (.int .i64), .t (.list 5), .buf 2, .buf 3]), (2, .arr 2), (3, .arr 1), (4, .var [.buf 500]), (500, .arr 1)])] })]),
 (57, 0, [(4, 5, { w := 0, own := [], pre := [], out := (.one (.t (.one .bool))), blks := [(0, .var [.ptr 1 0 0]), (1, .var [.t (.int .i64), .t (.int .i64), .t (.int .i64), .t (.list 5), .buf 2, .buf 3]), (2, .arr 2), (3, .arr 1), (4, .var [.t (.int .i64)])] })]),
 (57, 1, [(4, 5, { w := 0, own := [], pre := [], out := (.one (.t (.one .bool))), blks := [(0, .var [.t (.int .i64)])] })]),
 (59, 0, [(4, 5, { w := 0, own := [], pre := [], out := (.one (.t (.one .bool))), blks := [(0, .var [.t (.int .i64), .t (.int .i64), .t (.int .i64), .t (.list 5)])] })]),
 (59, 1, [(4, 5, { w := 0, own := [], pre := [], out := (.one (.t (.one .bool))), blks := [(0, .var [.t (.int .i64), .t (.int .i64), .t (.int .i64), .t (.list 5)])] })]),
 (72, 0, [(4, 5, { w := 0, own := [], pre := [], out := (.one (.t (.one .bool))), blks := [(0, .var [.t .str])] })]),
 (74, 0, [(1, 1, { w := 0, own := [], pre := [], out := (.one (.t (.agg [.int .i64, .str, .int .i64]))), blks := [(0, .var [.t (.list 3), .t .bool])] })]),
 (75, 0, [(2, 1, { w := 0, own := [], pre := [], out := (.one (.t (.agg [.int .i64, .str, .int .i64]))), blks := [(0, .var [.t (.list 3), .t .bool])] }), (3, 1, { w := 0, own := [], pre := [], out := (.one (.t (.agg [.int .i64, .str, .int .i64]))), blks := [(0, .var [.t (.list 3), .t .bool])] }), (4, 1, { w := 0, own := [], pre := [], out := (.one (.t (.agg [.int .i64, .str, .int .i64]))), blks := [(0, .var [.t (.list 3), .t .bool])] })])]
def unrollTab : List (Nat × Nat × Nat) := [(15, 3, 4), (21, 16, 4), (44, 4, 4), (55, 7, 4)]
def ownTab : List (Nat × Nat × List Nat) := []
def eqtTab : List (Nat × List Value) := [(72, [.int .u64 0, .int .u64 0])]
def ovSet : List (Nat × OvF) := [(79, ovIdx)]
def cutTab : List (Nat × Nat × Nat) := [(12, 4, 3), (56, 7, 4)]
def hint : Hint := mkHint eqtTab normTab callTab ownTab unrollTab ovSet cutTab
noncomputable abbrev gE (f w nt : Nat) (fn : Func) (T : Tab) (args : List V) (st : St) : Option Res := codeT Try.prog hint f w nt T [] (resKV Try.prog fn (hint.own f w)) (nrm hint f w (bodyOf fn) (envV args 0) st).1 (nrm hint f w (bodyOf fn) (envV args 0) st).2 (bodyOf fn)
noncomputable abbrev gP (f w nt : Nat) (fn : Func) (T : Tab) (p : List Stp) (e : Env) (st : St) : Option Res := codeT Try.prog hint f w nt T p (ctxT Try.prog hint f w nt T [] (List.reverse p) (bodyOf fn) (resKV Try.prog fn (hint.own f w))) e st (nav (List.reverse p) (bodyOf fn))
noncomputable def vr (f w : Nat) (args : List V) (st : St) : Option (V × St) := vrun Try.prog hint f w args st
abbrev YL67_2 := ByteArray → Int → Option Res
def PaL67_2 : List Stp := [.blk, .fst, .snd, .snd]
def Ta67 (KL67_2 : Env → St → Option Res) : Tab := [(PaL67_2, KL67_2)]
def WL67_2 (k : Env → St → Option Res) (s0 : ByteArray) (n3 : Int) : Option Res := k [(0, .t (.str s0)), (3, .t (.int .i64 n3))] ⟨[], []⟩
noncomputable def VL67_2 : Env → St → Option Res := fun e st => atV Try.prog hint 67 0 Try.f67 25 (List.reverse PaL67_2) e st
noncomputable def L67_2 (s0 : ByteArray) (n3 : Int) : Option Res := WL67_2 VL67_2 s0 n3
abbrev YL81_4 := ByteArray → Int → Int → Int → Option Res
def PaL81_4 : List Stp := [.blk, .snd, .fst, .snd, .snd]
def Ta81 (KL81_4 : Env → St → Option Res) : Tab := [(PaL81_4, KL81_4)]
def WL81_4 (k : Env → St → Option Res) (s0 : ByteArray) (n2 A B : Int) : Option Res := k [(0, .t (.str s0)), (2, .t (.int .i64 n2)), (23, .t (.int .i64 A)), (24, .t (.int .i64 B))] ⟨[], []⟩
noncomputable def VL81_4 : Env → St → Option Res := fun e st => atV Try.prog hint 81 0 Try.f81 42 (List.reverse PaL81_4) e st
noncomputable def L81_4 (s0 : ByteArray) (n2 A B : Int) : Option Res := WL81_4 VL81_4 s0 n2 A B
abbrev YL52_6 := ByteArray → Bool → Int → Bool → (List T) → Option Res
abbrev YJ52_28 := ByteArray → Bool → (List T) → Option Res
abbrev YJ52_21 := ByteArray → Bool → Int → Int → Bool → (List T) → Option Res
abbrev YJ52_26 := ByteArray → Int → Int → Bool → (List T) → Int → ByteArray → Int → Option Res
def PaL52_6 : List Stp := [.blk, .fst, .snd, .snd, .snd, .snd, .snd, .blk, .snd]
def PaJ52_28 : List Stp := [.snd, .snd, .snd, .snd, .snd, .snd, .blk, .snd]
def PaJ52_21 : List Stp := [.snd, .snd, .blk, .snd, .lp, .blk, .fst, .snd, .snd, .snd, .snd, .snd, .blk, .snd]
def PaJ52_26 : List Stp := [.snd, .snd, .snd, .snd, .snd, .blk, .snd, .lp, .blk, .fst, .snd, .snd, .snd, .snd, .snd, .blk, .snd]
def Ta52 (KL52_6 KJ52_28 KJ52_21 KJ52_26 : Env → St → Option Res) : Tab := [(PaL52_6, KL52_6), (PaJ52_28, KJ52_28), (PaJ52_21, KJ52_21), (PaJ52_26, KJ52_26)]
def WL52_6 (k : Env → St → Option Res) (s0 : ByteArray) (ends6 : Bool) (at7 : Int) (A : Bool) (B : List T) : Option Res := k [(0, .t (.str s0)), (5, .buf 8), (6, .t (.bool ends6)), (7, .t (.int .i64 at7))] ⟨[(8, .arr true 3 A B)], []⟩
noncomputable def VL52_6 : Env → St → Option Res := fun e st => atV Try.prog hint 52 0 Try.f52 82 (List.reverse PaL52_6) e st
noncomputable def L52_6 (s0 : ByteArray) (ends6 : Bool) (at7 : Int) (A : Bool) (B : List T) : Option Res := WL52_6 VL52_6 s0 ends6 at7 A B
def WJ52_28 (k : Env → St → Option Res) (s0 : ByteArray) (A : Bool) (B : List T) : Option Res := k [(0, .t (.str s0)), (5, .buf 8)] ⟨[(8, .arr true 3 A B)], []⟩
noncomputable def VJ52_28 : Env → St → Option Res := fun e st => atV Try.prog hint 52 0 Try.f52 82 (List.reverse PaJ52_28) e st
noncomputable def J52_28 (s0 : ByteArray) (A : Bool) (B : List T) : Option Res := WJ52_28 VJ52_28 s0 A B
def WJ52_21 (k : Env → St → Option Res) (s0 : ByteArray) (ends6 : Bool) (at7 n8 : Int) (A : Bool) (B : List T) : Option Res := k [(0, .t (.str s0)), (5, .buf 8), (6, .t (.bool ends6)), (7, .t (.int .i64 at7)), (8, .t (.int .i64 n8))] ⟨[(8, .arr true 3 A B)], []⟩
noncomputable def VJ52_21 : Env → St → Option Res := fun e st => atV Try.prog hint 52 0 Try.f52 82 (List.reverse PaJ52_21) e st
noncomputable def J52_21 (s0 : ByteArray) (ends6 : Bool) (at7 n8 : Int) (A : Bool) (B : List T) : Option Res := WJ52_21 VJ52_21 s0 ends6 at7 n8 A B
def WJ52_26 (k : Env → St → Option Res) (s0 : ByteArray) (at7 n8 : Int) (A : Bool) (B : List T) (C : Int) (D : ByteArray) (E : Int) : Option Res := k [(0, .t (.str s0)), (5, .buf 8), (7, .t (.int .i64 at7)), (8, .t (.int .i64 n8)), (9, .ptr 9 0 0)] ⟨[(8, .arr true 3 A B), (9, .var [.t (.int .i64 C), .t (.str D), .t (.int .i64 E)])], []⟩
noncomputable def VJ52_26 : Env → St → Option Res := fun e st => atV Try.prog hint 52 0 Try.f52 82 (List.reverse PaJ52_26) e st
noncomputable def J52_26 (s0 : ByteArray) (at7 n8 : Int) (A : Bool) (B : List T) (C : Int) (D : ByteArray) (E : Int) : Option Res := WJ52_26 VJ52_26 s0 at7 n8 A B C D E
abbrev YL69_2 := Bool → (List T) → Int → Int → Option Res
def PaL69_2 : List Stp := [.blk, .snd, .fst, .snd]
def Ta69 (KL69_2 : Env → St → Option Res) : Tab := [(PaL69_2, KL69_2)]
def WL69_2 (k : Env → St → Option Res) (s0z : Bool) (s0 : List T) (A B : Int) : Option Res := k [(0, .t (.list 3 s0z s0)), (1, .fn 70 [] []), (7, .t (.int .i64 A)), (8, .t (.int .i64 B))] ⟨[], []⟩
noncomputable def VL69_2 : Env → St → Option Res := fun e st => atV Try.prog hint 69 0 Try.f69 19 (List.reverse PaL69_2) e st
noncomputable def L69_2 (s0z : Bool) (s0 : List T) (A B : Int) : Option Res := WL69_2 VL69_2 s0z s0 A B
abbrev YL53_2 := Bool → (List T) → Bool → (List T) → Option Res
def PaL53_2 : List Stp := [.blk, .fst, .snd, .snd]
def Ta53 (KL53_2 : Env → St → Option Res) : Tab := [(PaL53_2, KL53_2)]
def WL53_2 (k : Env → St → Option Res) (l0z : Bool) (l0 : List T) (A : Bool) (B : List T) : Option Res := k [(0, .t (.list 3 l0z l0)), (3, .buf 8)] ⟨[(8, .arr true 1 A B)], []⟩
noncomputable def VL53_2 : Env → St → Option Res := fun e st => atV Try.prog hint 53 0 Try.f53 35 (List.reverse PaL53_2) e st
noncomputable def L53_2 (l0z : Bool) (l0 : List T) (A : Bool) (B : List T) : Option Res := WL53_2 VL53_2 l0z l0 A B
abbrev YL72_2 := Bool → (List T) → Int → Int → ByteArray → Option Res
def PaL72_2 : List Stp := [.blk, .snd, .fst, .snd]
def Ta72 (KL72_2 : Env → St → Option Res) : Tab := [(PaL72_2, KL72_2)]
def WL72_2 (k : Env → St → Option Res) (s0z : Bool) (s0 : List T) (A B : Int) (C : ByteArray) : Option Res := k [(0, .t (.list 4 s0z s0)), (1, .fn 73 [] [.ptr 0 0 0]), (7, .t (.int .i64 A)), (8, .t (.int .i64 B))] ⟨[(0, .var [.t (.str C)])], []⟩
noncomputable def VL72_2 : Env → St → Option Res := fun e st => atV Try.prog hint 72 0 Try.f72 19 (List.reverse PaL72_2) e st
noncomputable def L72_2 (s0z : Bool) (s0 : List T) (A B : Int) (C : ByteArray) : Option Res := WL72_2 VL72_2 s0z s0 A B C
abbrev YJ55_6 := Bool → (List T) → Bool → Int → Int → Int → Int → Int → ByteArray → Int → Int → Int → Option Res
def PaJ55_6 : List Stp := [.snd, .snd, .snd, .snd, .snd]
def Ta55 (KJ55_6 : Env → St → Option Res) : Tab := [(PaJ55_6, KJ55_6)]
def WJ55_6 (k : Env → St → Option Res) (A : Bool) (B : List T) (C : Bool) (D E F G H : Int) (I : ByteArray) (J K L : Int) : Option Res := k [(0, .ptr 0 0 0), (2, .ptr 8 0 0), (4, .ptr 9 0 0)] ⟨[(0, .var [.t (.list 3 A B), .t (.bool C)]), (8, .var [.t (.int .i64 D), .t (.int .i64 E), .t (.int .i64 F), .t (.int .i64 G), .t (.int .i64 H)]), (9, .var [.t (.str I), .t (.int .i64 J), .t (.int .i64 K), .t (.int .i64 L)])], []⟩
noncomputable def VJ55_6 : Env → St → Option Res := fun e st => atV Try.prog hint 55 0 Try.f55 62 (List.reverse PaJ55_6) e st
noncomputable def J55_6 (A : Bool) (B : List T) (C : Bool) (D E F G H : Int) (I : ByteArray) (J K L : Int) : Option Res := WJ55_6 VJ55_6 A B C D E F G H I J K L
abbrev YL59_2 := Bool → (List T) → Int → Int → Int → Int → Int → Bool → (List T) → Option Res
def PaL59_2 : List Stp := [.blk, .snd, .fst, .snd]
def Ta59 (KL59_2 : Env → St → Option Res) : Tab := [(PaL59_2, KL59_2)]
def WL59_2 (k : Env → St → Option Res) (s0z : Bool) (s0 : List T) (A B C D E : Int) (F : Bool) (G : List T) : Option Res := k [(0, .t (.list 5 s0z s0)), (1, .fn 43 [] [.ptr 0 0 0]), (7, .t (.int .i64 A)), (8, .t (.int .i64 B))] ⟨[(0, .var [.t (.int .i64 C), .t (.int .i64 D), .t (.int .i64 E), .t (.list 5 F G)])], []⟩
noncomputable def VL59_2 : Env → St → Option Res := fun e st => atV Try.prog hint 59 0 Try.f59 19 (List.reverse PaL59_2) e st
noncomputable def L59_2 (s0z : Bool) (s0 : List T) (A B C D E : Int) (F : Bool) (G : List T) : Option Res := WL59_2 VL59_2 s0z s0 A B C D E F G
abbrev YL32_8 := Bool → (List T) → Bool → (List T) → Int → Int → Int → Int → Int → Bool → (List T) → Option Res
abbrev YJ32_17 := Bool → (List T) → Int → Bool → (List T) → Int → Int → Int → Int → Int → Bool → (List T) → Bool → (List T) → Bool → Option Res
def PaL32_8 : List Stp := [.blk, .snd, .fst, .snd, .snd, .snd, .snd, .snd]
def PaJ32_17 : List Stp := [.snd, .snd, .snd, .blk, .fst, .snd, .snd, .lp, .blk, .snd, .fst, .snd, .snd, .snd, .snd, .snd]
def Ta32 (KL32_8 KJ32_17 : Env → St → Option Res) : Tab := [(PaL32_8, KL32_8), (PaJ32_17, KJ32_17)]
def WL32_8 (k : Env → St → Option Res) (lines8z : Bool) (lines8 : List T) (A : Bool) (B : List T) (C D E F G : Int) (H : Bool) (I : List T) : Option Res := k [(2, .ptr 8 0 0), (8, .t (.list 1 lines8z lines8)), (30, .t (.list 1 A B)), (31, .t (.int .i64 C)), (32, .t (.int .i64 D))] ⟨[(8, .var [.t (.int .i64 E), .t (.int .i64 F), .t (.int .i64 G), .buf 9]), (9, .arr true 5 H I)], []⟩
noncomputable def VL32_8 : Env → St → Option Res := fun e st => atV Try.prog hint 32 0 Try.f32 92 (List.reverse PaL32_8) e st
noncomputable def L32_8 (lines8z : Bool) (lines8 : List T) (A : Bool) (B : List T) (C D E F G : Int) (H : Bool) (I : List T) : Option Res := WL32_8 VL32_8 lines8z lines8 A B C D E F G H I
def WJ32_17 (k : Env → St → Option Res) (lines8z : Bool) (lines8 : List T) (i9 : Int) (A : Bool) (B : List T) (C D E F G : Int) (H : Bool) (I : List T) (J : Bool) (K : List T) (L : Bool) : Option Res := k [(2, .ptr 8 0 0), (8, .t (.list 1 lines8z lines8)), (9, .t (.int .i64 i9)), (11, .ptr 10 0 0), (30, .t (.list 1 A B)), (31, .t (.int .i64 C)), (32, .t (.int .i64 D))] ⟨[(8, .var [.t (.int .i64 E), .t (.int .i64 F), .t (.int .i64 G), .buf 9]), (9, .arr true 5 H I), (10, .var [.t (.list 3 J K), .t (.bool L)])], []⟩
noncomputable def VJ32_17 : Env → St → Option Res := fun e st => atV Try.prog hint 32 0 Try.f32 92 (List.reverse PaJ32_17) e st
noncomputable def J32_17 (lines8z : Bool) (lines8 : List T) (i9 : Int) (A : Bool) (B : List T) (C D E F G : Int) (H : Bool) (I : List T) (J : Bool) (K : List T) (L : Bool) : Option Res := WJ32_17 VJ32_17 lines8z lines8 i9 A B C D E F G H I J K L
abbrev YJ76_4 := Int → Int → Int → Int → Bool → (List T) → Bool → (List T) → Bool → (List T) → Bool → (List T) → (List T) → Option Res
def PaJ76_4 : List Stp := [.snd, .snd]
def Ta76 (KJ76_4 : Env → St → Option Res) : Tab := [(PaJ76_4, KJ76_4)]
def WJ76_4 (k : Env → St → Option Res) (k0 A B C : Int) (D : Bool) (E : List T) (F : Bool) (G : List T) (H : Bool) (I : List T) (J : Bool) (K L : List T) : Option Res := k [(0, .t (.int .i64 k0)), (2, .ptr 0 0 0), (3, .ptr 4 0 0), (5, .ptr 8 0 0)] ⟨[(0, .var [.ptr 1 0 0]), (1, .var [.t (.int .i64 A), .t (.int .i64 B), .t (.int .i64 C), .t (.list 5 D E), .buf 2, .buf 3]), (2, .arr true 2 F G), (3, .arr true 1 H I), (4, .var [.buf 5]), (5, .arr true 1 J K), (8, .av L)], []⟩
noncomputable def VJ76_4 : Env → St → Option Res := fun e st => atV Try.prog hint 76 0 Try.f76 48 (List.reverse PaJ76_4) e st
noncomputable def J76_4 (k0 A B C : Int) (D : Bool) (E : List T) (F : Bool) (G : List T) (H : Bool) (I : List T) (J : Bool) (K L : List T) : Option Res := WJ76_4 VJ76_4 k0 A B C D E F G H I J K L
abbrev YL56_5 := Int → Int → Int → Bool → (List T) → Int → Int → Int → Bool → (List T) → Bool → (List T) → Bool → (List T) → Bool → (List T) → Option Res
abbrev YJ56_12 := Int → Int → Int → Int → Bool → (List T) → Int → Int → Int → Bool → (List T) → Bool → (List T) → Bool → (List T) → Bool → (List T) → (List T) → Option Res
abbrev YL56_13 := Bool → (List T) → Int → Int → Int → Int → Int → Bool → (List T) → Int → Int → Int → Bool → (List T) → Bool → (List T) → Bool → (List T) → Bool → (List T) → (List T) → Option Res
def PaL56_5 : List Stp := [.blk, .fst, .snd, .snd, .snd, .snd, .snd]
def PaJ56_12 : List Stp := [.snd, .snd, .snd, .snd, .blk, .snd, .lp, .blk, .fst, .snd, .snd, .snd, .snd, .snd]
def PaL56_13 : List Stp := [.blk, .snd, .snd, .snd, .snd, .snd, .blk, .snd, .lp, .blk, .fst, .snd, .snd, .snd, .snd, .snd]
def Ta56 (KL56_5 KJ56_12 KL56_13 : Env → St → Option Res) : Tab := [(PaL56_5, KL56_5), (PaJ56_12, KJ56_12), (PaL56_13, KL56_13)]
def WL56_5 (k : Env → St → Option Res) (A B C : Int) (D : Bool) (E : List T) (F G H : Int) (I : Bool) (J : List T) (K : Bool) (L : List T) (M : Bool) (N : List T) (O : Bool) (P : List T) : Option Res := k [(1, .ptr 8 0 0), (3, .ptr 9 0 0), (4, .ptr 13 0 0), (5, .fn 76 [] [.ptr 9 0 0, .ptr 13 0 0])] ⟨[(8, .var [.t (.int .i64 A), .t (.int .i64 B), .t (.int .i64 C), .t (.list 5 D E)]), (9, .var [.ptr 10 0 0]), (10, .var [.t (.int .i64 F), .t (.int .i64 G), .t (.int .i64 H), .t (.list 5 I J), .buf 11, .buf 12]), (11, .arr true 2 K L), (12, .arr true 1 M N), (13, .var [.buf 14]), (14, .arr true 1 O P)], []⟩
noncomputable def VL56_5 : Env → St → Option Res := fun e st => atV Try.prog hint 56 0 Try.f56 82 (List.reverse PaL56_5) e st
noncomputable def L56_5 (A B C : Int) (D : Bool) (E : List T) (F G H : Int) (I : Bool) (J : List T) (K : Bool) (L : List T) (M : Bool) (N : List T) (O : Bool) (P : List T) : Option Res := WL56_5 VL56_5 A B C D E F G H I J K L M N O P
def WJ56_12 (k : Env → St → Option Res) (i6 A B C : Int) (D : Bool) (E : List T) (F G H : Int) (I : Bool) (J : List T) (K : Bool) (L : List T) (M : Bool) (N : List T) (O : Bool) (P Q : List T) : Option Res := k [(1, .ptr 8 0 0), (3, .ptr 9 0 0), (4, .ptr 13 0 0), (5, .fn 76 [] [.ptr 9 0 0, .ptr 13 0 0]), (6, .t (.int .i64 i6)), (7, .ptr 15 0 0)] ⟨[(8, .var [.t (.int .i64 A), .t (.int .i64 B), .t (.int .i64 C), .t (.list 5 D E)]), (9, .var [.ptr 10 0 0]), (10, .var [.t (.int .i64 F), .t (.int .i64 G), .t (.int .i64 H), .t (.list 5 I J), .buf 11, .buf 12]), (11, .arr true 2 K L), (12, .arr true 1 M N), (13, .var [.buf 14]), (14, .arr true 1 O P), (15, .av Q)], []⟩
noncomputable def VJ56_12 : Env → St → Option Res := fun e st => atV Try.prog hint 56 0 Try.f56 82 (List.reverse PaJ56_12) e st
noncomputable def J56_12 (i6 A B C : Int) (D : Bool) (E : List T) (F G H : Int) (I : Bool) (J : List T) (K : Bool) (L : List T) (M : Bool) (N : List T) (O : Bool) (P Q : List T) : Option Res := WJ56_12 VJ56_12 i6 A B C D E F G H I J K L M N O P Q
def WL56_13 (k : Env → St → Option Res) (A : Bool) (B : List T) (C D E F G : Int) (H : Bool) (I : List T) (J K L : Int) (M : Bool) (N : List T) (O : Bool) (P : List T) (Q : Bool) (R : List T) (S : Bool) (U V : List T) : Option Res := k [(1, .ptr 8 0 0), (3, .ptr 9 0 0), (4, .ptr 13 0 0), (5, .fn 76 [] [.ptr 9 0 0, .ptr 13 0 0]), (7, .ptr 15 0 0), (70, .t (.list 1 A B)), (71, .t (.int .i64 C)), (72, .t (.int .i64 D))] ⟨[(8, .var [.t (.int .i64 E), .t (.int .i64 F), .t (.int .i64 G), .t (.list 5 H I)]), (9, .var [.ptr 10 0 0]), (10, .var [.t (.int .i64 J), .t (.int .i64 K), .t (.int .i64 L), .t (.list 5 M N), .buf 11, .buf 12]), (11, .arr true 2 O P), (12, .arr true 1 Q R), (13, .var [.buf 14]), (14, .arr true 1 S U), (15, .av V)], []⟩
noncomputable def VL56_13 : Env → St → Option Res := fun e st => atV Try.prog hint 56 0 Try.f56 82 (List.reverse PaL56_13) e st
noncomputable def L56_13 (A : Bool) (B : List T) (C D E F G : Int) (H : Bool) (I : List T) (J K L : Int) (M : Bool) (N : List T) (O : Bool) (P : List T) (Q : Bool) (R : List T) (S : Bool) (U V : List T) : Option Res := WL56_13 VL56_13 A B C D E F G H I J K L M N O P Q R S U V
abbrev YL57_2 := Bool → (List T) → Int → Int → Int → Int → Int → Bool → (List T) → Bool → (List T) → Bool → (List T) → Int → Option Res
def PaL57_2 : List Stp := [.blk, .snd, .fst, .snd]
def Ta57 (KL57_2 : Env → St → Option Res) : Tab := [(PaL57_2, KL57_2)]
def WL57_2 (k : Env → St → Option Res) (s0z : Bool) (s0 : List T) (A B C D E : Int) (F : Bool) (G : List T) (H : Bool) (I : List T) (J : Bool) (K : List T) (L : Int) : Option Res := k [(0, .t (.list 1 s0z s0)), (1, .fn 62 [] [.ptr 0 0 0, .ptr 4 0 0]), (7, .t (.int .i64 A)), (8, .t (.int .i64 B))] ⟨[(0, .var [.ptr 1 0 0]), (1, .var [.t (.int .i64 C), .t (.int .i64 D), .t (.int .i64 E), .t (.list 5 F G), .buf 2, .buf 3]), (2, .arr true 2 H I), (3, .arr true 1 J K), (4, .var [.t (.int .i64 L)])], []⟩
noncomputable def VL57_2 : Env → St → Option Res := fun e st => atV Try.prog hint 57 0 Try.f57 19 (List.reverse PaL57_2) e st
noncomputable def L57_2 (s0z : Bool) (s0 : List T) (A B C D E : Int) (F : Bool) (G : List T) (H : Bool) (I : List T) (J : Bool) (K : List T) (L : Int) : Option Res := WL57_2 VL57_2 s0z s0 A B C D E F G H I J K L
abbrev YL34_2 := Bool → (List T) → Int → Int → Int → Int → Int → Bool → (List T) → Bool → (List T) → Bool → (List T) → Bool → (List T) → Option Res
def PaL34_2 : List Stp := [.blk, .snd, .fst, .snd]
def Ta34 (KL34_2 : Env → St → Option Res) : Tab := [(PaL34_2, KL34_2)]
def WL34_2 (k : Env → St → Option Res) (A : Bool) (B : List T) (C D E F G : Int) (H : Bool) (I : List T) (J : Bool) (K : List T) (L : Bool) (M : List T) (N : Bool) (O : List T) : Option Res := k [(0, .ptr 0 0 0), (1, .fn 48 [.ptr 0 0 0] []), (4, .buf 8), (11, .t (.list 5 A B)), (12, .t (.int .i64 C)), (13, .t (.int .i64 D))] ⟨[(0, .var [.t (.int .i64 E), .t (.int .i64 F), .t (.int .i64 G), .t (.list 5 H I), .buf 1, .buf 2]), (1, .arr true 2 J K), (2, .arr true 1 L M), (8, .arr true 1 N O)], []⟩
noncomputable def VL34_2 : Env → St → Option Res := fun e st => atV Try.prog hint 34 0 Try.f34 37 (List.reverse PaL34_2) e st
noncomputable def L34_2 (A : Bool) (B : List T) (C D E F G : Int) (H : Bool) (I : List T) (J : Bool) (K : List T) (L : Bool) (M : List T) (N : Bool) (O : List T) : Option Res := WL34_2 VL34_2 A B C D E F G H I J K L M N O
abbrev YL20_4 := Bool → (List T) → Bool → (List T) → Int → Int → Option Res
def PaL20_4 : List Stp := [.blk, .snd, .fst, .snd, .snd]
def Ta20 (KL20_4 : Env → St → Option Res) : Tab := [(PaL20_4, KL20_4)]
def WL20_4 (k : Env → St → Option Res) (A : Bool) (B : List T) (b1z : Bool) (b1 : List T) (C D : Int) : Option Res := k [(0, .t (.list 1 A B)), (1, .t (.list 1 b1z b1)), (12, .t (.int .i64 C)), (13, .t (.int .i64 D))] ⟨[], []⟩
noncomputable def VL20_4 : Env → St → Option Res := fun e st => atV Try.prog hint 20 0 Try.f20 26 (List.reverse PaL20_4) e st
noncomputable def L20_4 (A : Bool) (B : List T) (b1z : Bool) (b1 : List T) (C D : Int) : Option Res := WL20_4 VL20_4 A B b1z b1 C D
abbrev YL59v1_2 := Bool → (List T) → Int → Int → Int → Int → Int → Bool → (List T) → Option Res
def PaL59v1_2 : List Stp := [.blk, .snd, .fst, .snd]
def Ta59v1 (KL59v1_2 : Env → St → Option Res) : Tab := [(PaL59v1_2, KL59v1_2)]
def WL59v1_2 (k : Env → St → Option Res) (s0z : Bool) (s0 : List T) (A B C D E : Int) (F : Bool) (G : List T) : Option Res := k [(0, .t (.list 5 s0z s0)), (1, .fn 41 [] [.ptr 0 0 0]), (7, .t (.int .i64 A)), (8, .t (.int .i64 B))] ⟨[(0, .var [.t (.int .i64 C), .t (.int .i64 D), .t (.int .i64 E), .t (.list 5 F G)])], []⟩
noncomputable def VL59v1_2 : Env → St → Option Res := fun e st => atV Try.prog hint 59 1 Try.f59 19 (List.reverse PaL59v1_2) e st
noncomputable def L59v1_2 (s0z : Bool) (s0 : List T) (A B C D E : Int) (F : Bool) (G : List T) : Option Res := WL59v1_2 VL59v1_2 s0z s0 A B C D E F G
abbrev YL12_6 := Int → Int → Int → Int → Int → Bool → (List T) → Int → Int → Int → Bool → (List T) → Bool → (List T) → Bool → (List T) → (List RowV) → Option Res
abbrev YL12_9 := Int → Int → Int → Int → Int → Int → Int → Bool → (List T) → Int → Int → Int → Bool → (List T) → Bool → (List T) → Bool → (List T) → (List RowV) → (List T) → Option Res
def PaL12_6 : List Stp := [.blk, .snd, .fst, .snd, .snd, .snd, .snd]
def PaL12_9 : List Stp := [.blk, .snd, .snd, .blk, .fst, .snd, .snd, .lp, .blk, .snd, .fst, .snd, .snd, .snd, .snd]
def Ta12 (KL12_6 KL12_9 : Env → St → Option Res) : Tab := [(PaL12_6, KL12_6), (PaL12_9, KL12_9)]
def WL12_6 (k : Env → St → Option Res) (A B C D E : Int) (F : Bool) (G : List T) (H I J : Int) (K : Bool) (L : List T) (M : Bool) (N : List T) (O : Bool) (P : List T) (Q : List RowV) : Option Res := k [(1, .ptr 8 0 0), (4, .ptr 9 0 0), (6, .buf 12), (25, .buf 10), (26, .t (.int .i64 A)), (27, .t (.int .i64 B))] ⟨[(8, .var [.t (.int .i64 C), .t (.int .i64 D), .t (.int .i64 E), .t (.list 5 F G)]), (9, .var [.t (.int .i64 H), .t (.int .i64 I), .t (.int .i64 J), .t (.list 5 K L), .buf 10, .buf 11]), (10, .arr true 2 M N), (11, .arr true 1 O P), (12, .rows 1 Q)], []⟩
noncomputable def VL12_6 : Env → St → Option Res := fun e st => atV Try.prog hint 12 0 Try.f12 62 (List.reverse PaL12_6) e st
noncomputable def L12_6 (A B C D E : Int) (F : Bool) (G : List T) (H I J : Int) (K : Bool) (L : List T) (M : Bool) (N : List T) (O : Bool) (P : List T) (Q : List RowV) : Option Res := WL12_6 VL12_6 A B C D E F G H I J K L M N O P Q
def WL12_9 (k : Env → St → Option Res) (i7 n9 A B C D E : Int) (F : Bool) (G : List T) (H I J : Int) (K : Bool) (L : List T) (M : Bool) (N : List T) (O : Bool) (P : List T) (Q : List RowV) (R : List T) : Option Res := k [(1, .ptr 8 0 0), (4, .ptr 9 0 0), (6, .buf 12), (7, .t (.int .i64 i7)), (8, .ptr 13 0 0), (9, .t (.int .i64 n9)), (25, .buf 10), (26, .t (.int .i64 A)), (27, .t (.int .i64 B))] ⟨[(8, .var [.t (.int .i64 C), .t (.int .i64 D), .t (.int .i64 E), .t (.list 5 F G)]), (9, .var [.t (.int .i64 H), .t (.int .i64 I), .t (.int .i64 J), .t (.list 5 K L), .buf 10, .buf 11]), (10, .arr true 2 M N), (11, .arr true 1 O P), (12, .rows 1 Q), (13, .av R)], []⟩
noncomputable def VL12_9 : Env → St → Option Res := fun e st => atV Try.prog hint 12 0 Try.f12 62 (List.reverse PaL12_9) e st
noncomputable def L12_9 (i7 n9 A B C D E : Int) (F : Bool) (G : List T) (H I J : Int) (K : Bool) (L : List T) (M : Bool) (N : List T) (O : Bool) (P : List T) (Q : List RowV) (R : List T) : Option Res := WL12_9 VL12_9 i7 n9 A B C D E F G H I J K L M N O P Q R
abbrev YL4_12 := Bool → Bool → (List T) → Bool → (List T) → Bool → Int → Bool → (List T) → Int → Int → Int → Int → Int → Bool → (List T) → Bool → (List T) → Option Res
abbrev YL4_18 := Bool → Bool → (List T) → Bool → (List T) → Bool → Int → Bool → Bool → (List T) → Int → Int → Bool → (List T) → Int → Int → Int → Int → Int → Bool → (List T) → Bool → (List T) → Int → Int → Int → Int → Int → Option Res
abbrev YL4_24 := Bool → Bool → (List T) → Bool → (List T) → Bool → Int → Bool → Bool → (List T) → Int → Int → Bool → (List T) → Int → Int → Int → Int → Int → Bool → (List T) → Bool → (List T) → Int → Int → Int → Int → Int → Option Res
abbrev YJ4_34 := Bool → Bool → (List T) → Bool → (List T) → Bool → Int → Bool → Bool → (List T) → Int → Int → Int → Int → Int → Bool → (List T) → Bool → (List T) → Int → Int → Int → Int → Int → Option Res
def PaL4_12 : List Stp := [.blk, .snd, .fst, .snd, .snd, .snd, .snd, .snd, .snd, .snd, .snd, .snd]
def PaL4_18 : List Stp := [.blk, .snd, .fst, .snd, .snd, .snd, .blk, .fst, .snd, .snd, .lp, .blk, .snd, .fst, .snd, .snd, .snd, .snd, .snd, .snd, .snd, .snd, .snd]
def PaL4_24 : List Stp := [.blk, .snd, .fst, .snd, .snd, .snd, .snd, .blk, .fst, .snd, .snd, .lp, .blk, .snd, .fst, .snd, .snd, .snd, .snd, .snd, .snd, .snd, .snd, .snd]
def PaJ4_34 : List Stp := [.snd, .snd, .snd, .snd, .snd, .snd, .blk, .fst, .snd, .snd, .lp, .blk, .snd, .fst, .snd, .snd, .snd, .snd, .snd, .snd, .snd, .snd, .snd]
def Ta4 (KL4_12 KL4_18 KL4_24 KJ4_34 : Env → St → Option Res) : Tab := [(PaL4_12, KL4_12), (PaL4_18, KL4_18), (PaL4_24, KL4_24), (PaJ4_34, KJ4_34)]
def WL4_12 (k : Env → St → Option Res) (up5 set6z : Bool) (set6 : List T) (reach8z : Bool) (reach8 : List T) (fine10 : Bool) (at12 : Int) (A : Bool) (B : List T) (C D E F G : Int) (H : Bool) (I : List T) (J : Bool) (K : List T) : Option Res := k [(2, .ptr 8 0 0), (5, .t (.bool up5)), (6, .t (.list 1 set6z set6)), (8, .t (.list 1 reach8z reach8)), (10, .t (.bool fine10)), (11, .buf 9), (12, .t (.int .i64 at12)), (61, .t (.list 1 A B)), (62, .t (.int .i64 C)), (63, .t (.int .i64 D))] ⟨[(8, .var [.t (.int .i64 E), .t (.int .i64 F), .t (.int .i64 G), .t (.list 5 H I)]), (9, .arr true 1 J K)], []⟩
noncomputable def VL4_12 : Env → St → Option Res := fun e st => atV Try.prog hint 4 0 Try.f4 189 (List.reverse PaL4_12) e st
noncomputable def L4_12 (up5 set6z : Bool) (set6 : List T) (reach8z : Bool) (reach8 : List T) (fine10 : Bool) (at12 : Int) (A : Bool) (B : List T) (C D E F G : Int) (H : Bool) (I : List T) (J : Bool) (K : List T) : Option Res := WL4_12 VL4_12 up5 set6z set6 reach8z reach8 fine10 at12 A B C D E F G H I J K
def WL4_18 (k : Env → St → Option Res) (up5 set6z : Bool) (set6 : List T) (reach8z : Bool) (reach8 : List T) (fine10 : Bool) (at12 : Int) (pick14 A : Bool) (B : List T) (C D : Int) (E : Bool) (F : List T) (G H I J K : Int) (L : Bool) (M : List T) (N : Bool) (O : List T) (P Q R S U : Int) : Option Res := k [(2, .ptr 8 0 0), (5, .t (.bool up5)), (6, .t (.list 1 set6z set6)), (8, .t (.list 1 reach8z reach8)), (10, .t (.bool fine10)), (11, .buf 9), (12, .t (.int .i64 at12)), (14, .t (.bool pick14)), (15, .ptr 10 0 0), (61, .t (.list 1 A B)), (62, .t (.int .i64 C)), (63, .t (.int .i64 D)), (103, .t (.list 1 E F)), (104, .t (.int .i64 G)), (105, .t (.int .i64 H))] ⟨[(8, .var [.t (.int .i64 I), .t (.int .i64 J), .t (.int .i64 K), .t (.list 5 L M)]), (9, .arr true 1 N O), (10, .var [.t (.int .i64 P), .t (.int .i64 Q), .t (.int .i64 R), .t (.int .i64 S), .t (.int .i64 U)])], []⟩
noncomputable def VL4_18 : Env → St → Option Res := fun e st => atV Try.prog hint 4 0 Try.f4 189 (List.reverse PaL4_18) e st
noncomputable def L4_18 (up5 set6z : Bool) (set6 : List T) (reach8z : Bool) (reach8 : List T) (fine10 : Bool) (at12 : Int) (pick14 A : Bool) (B : List T) (C D : Int) (E : Bool) (F : List T) (G H I J K : Int) (L : Bool) (M : List T) (N : Bool) (O : List T) (P Q R S U : Int) : Option Res := WL4_18 VL4_18 up5 set6z set6 reach8z reach8 fine10 at12 pick14 A B C D E F G H I J K L M N O P Q R S U
def WL4_24 (k : Env → St → Option Res) (up5 set6z : Bool) (set6 : List T) (reach8z : Bool) (reach8 : List T) (fine10 : Bool) (at12 : Int) (pick14 A : Bool) (B : List T) (C D : Int) (E : Bool) (F : List T) (G H I J K : Int) (L : Bool) (M : List T) (N : Bool) (O : List T) (P Q R S U : Int) : Option Res := k [(2, .ptr 8 0 0), (5, .t (.bool up5)), (6, .t (.list 1 set6z set6)), (8, .t (.list 1 reach8z reach8)), (10, .t (.bool fine10)), (11, .buf 9), (12, .t (.int .i64 at12)), (14, .t (.bool pick14)), (15, .ptr 10 0 0), (61, .t (.list 1 A B)), (62, .t (.int .i64 C)), (63, .t (.int .i64 D)), (126, .t (.list 1 E F)), (127, .t (.int .i64 G)), (128, .t (.int .i64 H))] ⟨[(8, .var [.t (.int .i64 I), .t (.int .i64 J), .t (.int .i64 K), .t (.list 5 L M)]), (9, .arr true 1 N O), (10, .var [.t (.int .i64 P), .t (.int .i64 Q), .t (.int .i64 R), .t (.int .i64 S), .t (.int .i64 U)])], []⟩
noncomputable def VL4_24 : Env → St → Option Res := fun e st => atV Try.prog hint 4 0 Try.f4 189 (List.reverse PaL4_24) e st
noncomputable def L4_24 (up5 set6z : Bool) (set6 : List T) (reach8z : Bool) (reach8 : List T) (fine10 : Bool) (at12 : Int) (pick14 A : Bool) (B : List T) (C D : Int) (E : Bool) (F : List T) (G H I J K : Int) (L : Bool) (M : List T) (N : Bool) (O : List T) (P Q R S U : Int) : Option Res := WL4_24 VL4_24 up5 set6z set6 reach8z reach8 fine10 at12 pick14 A B C D E F G H I J K L M N O P Q R S U
def WJ4_34 (k : Env → St → Option Res) (up5 set6z : Bool) (set6 : List T) (reach8z : Bool) (reach8 : List T) (fine10 : Bool) (at12 : Int) (pick14 A : Bool) (B : List T) (C D E F G : Int) (H : Bool) (I : List T) (J : Bool) (K : List T) (L M N O P : Int) : Option Res := k [(2, .ptr 8 0 0), (5, .t (.bool up5)), (6, .t (.list 1 set6z set6)), (8, .t (.list 1 reach8z reach8)), (10, .t (.bool fine10)), (11, .buf 9), (12, .t (.int .i64 at12)), (14, .t (.bool pick14)), (15, .ptr 10 0 0), (61, .t (.list 1 A B)), (62, .t (.int .i64 C)), (63, .t (.int .i64 D))] ⟨[(8, .var [.t (.int .i64 E), .t (.int .i64 F), .t (.int .i64 G), .t (.list 5 H I)]), (9, .arr true 1 J K), (10, .var [.t (.int .i64 L), .t (.int .i64 M), .t (.int .i64 N), .t (.int .i64 O), .t (.int .i64 P)])], []⟩
noncomputable def VJ4_34 : Env → St → Option Res := fun e st => atV Try.prog hint 4 0 Try.f4 189 (List.reverse PaJ4_34) e st
noncomputable def J4_34 (up5 set6z : Bool) (set6 : List T) (reach8z : Bool) (reach8 : List T) (fine10 : Bool) (at12 : Int) (pick14 A : Bool) (B : List T) (C D E F G : Int) (H : Bool) (I : List T) (J : Bool) (K : List T) (L M N O P : Int) : Option Res := WJ4_34 VJ4_34 up5 set6z set6 reach8z reach8 fine10 at12 pick14 A B C D E F G H I J K L M N O P
abbrev YL21_7 := Int → Int → Int → Int → Int → Int → Bool → (List T) → Int → Int → Int → Bool → (List T) → Bool → (List T) → Option Res
abbrev YL21_12 := Int → Bool → (List T) → Int → Int → Int → Int → Int → Bool → (List T) → Int → Int → Int → Bool → (List T) → Bool → (List T) → Option Res
def PaL21_7 : List Stp := [.blk, .snd, .fst, .snd, .snd, .snd]
def PaL21_12 : List Stp := [.blk, .snd, .fst, .snd, .snd, .snd, .snd]
def Ta21 (KL21_7 KL21_12 : Env → St → Option Res) : Tab := [(PaL21_7, KL21_7), (PaL21_12, KL21_12)]
def WL21_7 (k : Env → St → Option Res) (by1 A B C D E : Int) (F : Bool) (G : List T) (H I J : Int) (K : Bool) (L : List T) (M : Bool) (N : List T) : Option Res := k [(1, .t (.int .i64 by1)), (2, .ptr 8 0 0), (4, .ptr 9 0 0), (6, .buf 10), (43, .t (.int .i64 A)), (44, .t (.int .i64 B))] ⟨[(8, .var [.t (.int .i64 C), .t (.int .i64 D), .t (.int .i64 E), .t (.list 5 F G)]), (9, .var [.t (.int .i64 H), .t (.int .i64 I), .t (.int .i64 J), .t (.list 5 K L)]), (10, .arr true 5 M N)], []⟩
noncomputable def VL21_7 : Env → St → Option Res := fun e st => atV Try.prog hint 21 0 Try.f21 92 (List.reverse PaL21_7) e st
noncomputable def L21_7 (by1 A B C D E : Int) (F : Bool) (G : List T) (H I J : Int) (K : Bool) (L : List T) (M : Bool) (N : List T) : Option Res := WL21_7 VL21_7 by1 A B C D E F G H I J K L M N
def WL21_12 (k : Env → St → Option Res) (by1 : Int) (A : Bool) (B : List T) (C D E F G : Int) (H : Bool) (I : List T) (J K L : Int) (M : Bool) (N : List T) (O : Bool) (P : List T) : Option Res := k [(1, .t (.int .i64 by1)), (2, .ptr 8 0 0), (4, .ptr 9 0 0), (6, .buf 10), (55, .t (.list 5 A B)), (56, .t (.int .i64 C)), (57, .t (.int .i64 D))] ⟨[(8, .var [.t (.int .i64 E), .t (.int .i64 F), .t (.int .i64 G), .t (.list 5 H I)]), (9, .var [.t (.int .i64 J), .t (.int .i64 K), .t (.int .i64 L), .t (.list 5 M N)]), (10, .arr true 5 O P)], []⟩
noncomputable def VL21_12 : Env → St → Option Res := fun e st => atV Try.prog hint 21 0 Try.f21 92 (List.reverse PaL21_12) e st
noncomputable def L21_12 (by1 : Int) (A : Bool) (B : List T) (C D E F G : Int) (H : Bool) (I : List T) (J K L : Int) (M : Bool) (N : List T) (O : Bool) (P : List T) : Option Res := WL21_12 VL21_12 by1 A B C D E F G H I J K L M N O P
abbrev YL57v1_2 := Bool → (List T) → Int → Int → Int → Option Res
def PaL57v1_2 : List Stp := [.blk, .snd, .fst, .snd]
def Ta57v1 (KL57v1_2 : Env → St → Option Res) : Tab := [(PaL57v1_2, KL57v1_2)]
def WL57v1_2 (k : Env → St → Option Res) (s0z : Bool) (s0 : List T) (A B C : Int) : Option Res := k [(0, .t (.list 1 s0z s0)), (1, .fn 37 [] [.ptr 0 0 0]), (7, .t (.int .i64 A)), (8, .t (.int .i64 B))] ⟨[(0, .var [.t (.int .i64 C)])], []⟩
noncomputable def VL57v1_2 : Env → St → Option Res := fun e st => atV Try.prog hint 57 1 Try.f57 19 (List.reverse PaL57v1_2) e st
noncomputable def L57v1_2 (s0z : Bool) (s0 : List T) (A B C : Int) : Option Res := WL57v1_2 VL57v1_2 s0z s0 A B C
abbrev YL34v1_2 := Bool → (List T) → Int → Int → Int → Int → Int → Bool → (List T) → Bool → (List T) → Bool → (List T) → Bool → (List T) → Option Res
def PaL34v1_2 : List Stp := [.blk, .snd, .fst, .snd]
def Ta34v1 (KL34v1_2 : Env → St → Option Res) : Tab := [(PaL34v1_2, KL34v1_2)]
def WL34v1_2 (k : Env → St → Option Res) (A : Bool) (B : List T) (C D E F G : Int) (H : Bool) (I : List T) (J : Bool) (K : List T) (L : Bool) (M : List T) (N : Bool) (O : List T) : Option Res := k [(0, .ptr 0 0 0), (1, .fn 35 [] []), (4, .buf 8), (11, .t (.list 5 A B)), (12, .t (.int .i64 C)), (13, .t (.int .i64 D))] ⟨[(0, .var [.t (.int .i64 E), .t (.int .i64 F), .t (.int .i64 G), .t (.list 5 H I), .buf 1, .buf 2]), (1, .arr true 2 J K), (2, .arr true 1 L M), (8, .arr true 1 N O)], []⟩
noncomputable def VL34v1_2 : Env → St → Option Res := fun e st => atV Try.prog hint 34 1 Try.f34 37 (List.reverse PaL34v1_2) e st
noncomputable def L34v1_2 (A : Bool) (B : List T) (C D E F G : Int) (H : Bool) (I : List T) (J : Bool) (K : List T) (L : Bool) (M : List T) (N : Bool) (O : List T) : Option Res := WL34v1_2 VL34v1_2 A B C D E F G H I J K L M N O
abbrev YL22_4 := Bool → (List T) → Bool → (List T) → Int → Int → Option Res
abbrev YL22_9 := Bool → (List T) → Bool → (List T) → Int → Int → Int → Int → Int → Option Res
def PaL22_4 : List Stp := [.blk, .snd, .fst, .snd, .snd]
def PaL22_9 : List Stp := [.blk, .snd, .snd, .snd, .blk, .fst, .snd, .snd, .lp, .blk, .snd, .fst, .snd, .snd]
def Ta22 (KL22_4 KL22_9 : Env → St → Option Res) : Tab := [(PaL22_4, KL22_4), (PaL22_9, KL22_9)]
def WL22_4 (k : Env → St → Option Res) (A : Bool) (B : List T) (b1z : Bool) (b1 : List T) (C D : Int) : Option Res := k [(0, .t (.list 1 A B)), (1, .t (.list 1 b1z b1)), (13, .t (.int .i64 C)), (14, .t (.int .i64 D))] ⟨[], []⟩
noncomputable def VL22_4 : Env → St → Option Res := fun e st => atV Try.prog hint 22 0 Try.f22 53 (List.reverse PaL22_4) e st
noncomputable def L22_4 (A : Bool) (B : List T) (b1z : Bool) (b1 : List T) (C D : Int) : Option Res := WL22_4 VL22_4 A B b1z b1 C D
def WL22_9 (k : Env → St → Option Res) (A : Bool) (B : List T) (b1z : Bool) (b1 : List T) (i5 C D E F : Int) : Option Res := k [(0, .t (.list 1 A B)), (1, .t (.list 1 b1z b1)), (5, .t (.int .i64 i5)), (13, .t (.int .i64 C)), (14, .t (.int .i64 D)), (32, .t (.int .i64 E)), (33, .t (.int .i64 F))] ⟨[], []⟩
noncomputable def VL22_9 : Env → St → Option Res := fun e st => atV Try.prog hint 22 0 Try.f22 53 (List.reverse PaL22_9) e st
noncomputable def L22_9 (A : Bool) (B : List T) (b1z : Bool) (b1 : List T) (i5 C D E F : Int) : Option Res := WL22_9 VL22_9 A B b1z b1 i5 C D E F
abbrev YL6_15 := Int → Bool → Bool → (List T) → Bool → (List T) → Int → Int → Option Res
def PaL6_15 : List Stp := [.blk, .snd, .fst, .snd, .snd, .snd, .snd, .snd, .snd, .snd, .snd, .snd, .snd, .snd]
def Ta6 (KL6_15 : Env → St → Option Res) : Tab := [(PaL6_15, KL6_15)]
def WL6_15 (k : Env → St → Option Res) (by1 : Int) (up5 l12z : Bool) (l12 : List T) (A : Bool) (B : List T) (C D : Int) : Option Res := k [(1, .t (.int .i64 by1)), (5, .t (.bool up5)), (12, .t (.list 1 l12z l12)), (14, .t (.list 1 A B)), (105, .t (.int .i64 C)), (106, .t (.int .i64 D))] ⟨[], []⟩
noncomputable def VL6_15 : Env → St → Option Res := fun e st => atV Try.prog hint 6 0 Try.f6 122 (List.reverse PaL6_15) e st
noncomputable def L6_15 (by1 : Int) (up5 l12z : Bool) (l12 : List T) (A : Bool) (B : List T) (C D : Int) : Option Res := WL6_15 VL6_15 by1 up5 l12z l12 A B C D
abbrev Z0 (v0 : Bool) (v1 : List T) (v2 : Bool) : St := ⟨[(0, .var [.t (.list 3 v0 v1), .t (.bool v2)])], []⟩
abbrev Z1 (v0 v1 v2 : Int) (v3 : Bool) (v4 : List T) : St := ⟨[(0, .var [.t (.int .i64 v0), .t (.int .i64 v1), .t (.int .i64 v2), .t (.list 5 v3 v4)])], [500]⟩
abbrev Z2 (v0 v1 v2 : Int) (v3 : Bool) (v4 : List T) : St := ⟨[(0, .var [.t (.int .i64 v0), .t (.int .i64 v1), .t (.int .i64 v2), .t (.list 5 v3 v4)])], []⟩
abbrev Z3 (v0 v1 v2 : Int) (v3 : Bool) (v4 : List T) (v5 : Bool) (v6 : List T) (v7 : Bool) (v8 : List T) (v9 : Int) : St := ⟨[(0, .var [.ptr 1 0 0]), (1, .var [.t (.int .i64 v0), .t (.int .i64 v1), .t (.int .i64 v2), .t (.list 5 v3 v4), .buf 2, .buf 3]), (2, .arr true 2 v5 v6), (3, .arr true 1 v7 v8), (4, .var [.t (.int .i64 v9)])], [500, 501, 502, 503, 504]⟩
abbrev Z4 (v0 v1 v2 : Int) (v3 : Bool) (v4 : List T) (v5 : Bool) (v6 : List T) (v7 : Bool) (v8 : List T) (v9 : Int) : St := ⟨[(0, .var [.ptr 1 0 0]), (1, .var [.t (.int .i64 v0), .t (.int .i64 v1), .t (.int .i64 v2), .t (.list 5 v3 v4), .buf 2, .buf 3]), (2, .arr true 2 v5 v6), (3, .arr true 1 v7 v8), (4, .var [.t (.int .i64 v9)])], []⟩
abbrev Z5 (v0 v1 v2 : Int) (v3 : Bool) (v4 : List T) (v5 : Bool) (v6 : List T) (v7 : Bool) (v8 : List T) : St := ⟨[(0, .var [.t (.int .i64 v0), .t (.int .i64 v1), .t (.int .i64 v2), .t (.list 5 v3 v4), .buf 1, .buf 2]), (1, .arr true 2 v5 v6), (2, .arr true 1 v7 v8)], [500, 501, 502]⟩
noncomputable def R66  (A : ByteArray) (B : Int) : Option Res := callK (vr 79 0 [.t (.str A), .t (.int .u8 B)] ⟨[], []⟩) fun a b => asT a fun c => asI .i64 c fun a => endB b <| some ((.t (.int .i64 a)), ⟨[], []⟩)
theorem eq66g  (A : ByteArray) (B : Int) : gE 66 0 8 Try.f66 [] [.t (.str A), .t (.int .u8 B)] ⟨[], []⟩ = R66  A B := by kernel_rfl
theorem eq66 (A : ByteArray) (B : Int) : vr 66 0 [.t (.str A), .t (.int .u8 B)] ⟨[], []⟩ = R66  A B :=
 Eq.trans (call_eq Try.prog hint (fn := Try.f66) (nt := 8) (T := []) [] rfl _ _ rfl rfl rfl rfl rfl) (eq66g  A B)
noncomputable def R65  (A : Int) : Option Res :=
(bif (decide (97 ≤ (bitsI .or .u8 A 32))) then
(bif (decide ((bitsI .or .u8 A 32) ≤ 122)) then
 some ((.t (.int .i64 1)), ⟨[], []⟩)
else
(bif (decide (48 ≤ A)) then
(bif (decide (A ≤ 57)) then
 some ((.t (.int .i64 2)), ⟨[], []⟩)
else
 callK (vr 66 0 [.t (.str ⟨#[43, 45, 42, 40, 41, 91, 93, 44, 61, 58]⟩), .t (.int .u8 A)] ⟨[], []⟩) fun a b => asT a fun c => asI .i64 c fun a => endB b <|
(bif (decide (0 ≤ a)) then
 some ((.t (.int .i64 3)), ⟨[], []⟩)
else
(bif (decide (A = 32)) then
 some ((.t (.int .i64 4)), ⟨[], []⟩)
else
(bif (decide (A = 9)) then
 some ((.t (.int .i64 4)), ⟨[], []⟩)
else
(bif (decide (A = 10)) then
 some ((.t (.int .i64 5)), ⟨[], []⟩)
else
(bif (decide (A = 35)) then
 some ((.t (.int .i64 6)), ⟨[], []⟩)
else
 some ((.t (.int .i64 0)), ⟨[], []⟩)))))))
else
 callK (vr 66 0 [.t (.str ⟨#[43, 45, 42, 40, 41, 91, 93, 44, 61, 58]⟩), .t (.int .u8 A)] ⟨[], []⟩) fun a b => asT a fun c => asI .i64 c fun a => endB b <|
(bif (decide (0 ≤ a)) then
 some ((.t (.int .i64 3)), ⟨[], []⟩)
else
(bif (decide (A = 32)) then
 some ((.t (.int .i64 4)), ⟨[], []⟩)
else
(bif (decide (A = 9)) then
 some ((.t (.int .i64 4)), ⟨[], []⟩)
else
(bif (decide (A = 10)) then
 some ((.t (.int .i64 5)), ⟨[], []⟩)
else
(bif (decide (A = 35)) then
 some ((.t (.int .i64 6)), ⟨[], []⟩)
else
 some ((.t (.int .i64 0)), ⟨[], []⟩))))))))
else
(bif (decide (48 ≤ A)) then
(bif (decide (A ≤ 57)) then
 some ((.t (.int .i64 2)), ⟨[], []⟩)
else
 callK (vr 66 0 [.t (.str ⟨#[43, 45, 42, 40, 41, 91, 93, 44, 61, 58]⟩), .t (.int .u8 A)] ⟨[], []⟩) fun a b => asT a fun c => asI .i64 c fun a => endB b <|
(bif (decide (0 ≤ a)) then
 some ((.t (.int .i64 3)), ⟨[], []⟩)
else
(bif (decide (A = 32)) then
 some ((.t (.int .i64 4)), ⟨[], []⟩)
else
(bif (decide (A = 9)) then
 some ((.t (.int .i64 4)), ⟨[], []⟩)
else
(bif (decide (A = 10)) then
 some ((.t (.int .i64 5)), ⟨[], []⟩)
else
(bif (decide (A = 35)) then
 some ((.t (.int .i64 6)), ⟨[], []⟩)
else
 some ((.t (.int .i64 0)), ⟨[], []⟩)))))))
else
 callK (vr 66 0 [.t (.str ⟨#[43, 45, 42, 40, 41, 91, 93, 44, 61, 58]⟩), .t (.int .u8 A)] ⟨[], []⟩) fun a b => asT a fun c => asI .i64 c fun a => endB b <|
(bif (decide (0 ≤ a)) then
 some ((.t (.int .i64 3)), ⟨[], []⟩)
else
(bif (decide (A = 32)) then
 some ((.t (.int .i64 4)), ⟨[], []⟩)
else
(bif (decide (A = 9)) then
 some ((.t (.int .i64 4)), ⟨[], []⟩)
else
(bif (decide (A = 10)) then
 some ((.t (.int .i64 5)), ⟨[], []⟩)
else
(bif (decide (A = 35)) then
 some ((.t (.int .i64 6)), ⟨[], []⟩)
else
 some ((.t (.int .i64 0)), ⟨[], []⟩))))))))
theorem eq65g  (A : Int) : gE 65 0 36 Try.f65 [] [.t (.int .u8 A)] ⟨[], []⟩ = R65  A := by kernel_rfl
theorem eq65 (A : Int) : vr 65 0 [.t (.int .u8 A)] ⟨[], []⟩ = R65  A :=
 Eq.trans (call_eq Try.prog hint (fn := Try.f65) (nt := 36) (T := []) [] rfl _ _ rfl rfl rfl rfl rfl) (eq65g  A)
noncomputable def R67 (L67_2 : YL67_2) (A : ByteArray) : Option Res := L67_2 (A) (0)
theorem eq67g (KL67_2 : Env → St → Option Res) (A : ByteArray) : gE 67 0 25 Try.f67 (Ta67 KL67_2) [.t (.str A)] ⟨[], []⟩ = R67 (WL67_2 KL67_2) A := by kernel_rfl
theorem eq67 (A : ByteArray) : vr 67 0 [.t (.str A)] ⟨[], []⟩ = R67 L67_2 A :=
 Eq.trans (call_eq Try.prog hint (fn := Try.f67) (nt := 25) (T := (Ta67 VL67_2)) [PaL67_2] rfl _ _ rfl rfl rfl rfl rfl) (eq67g VL67_2 A)
noncomputable def RL67_2 (L67_2 : YL67_2) (s0 : ByteArray) (n3 : Int) : Option Res :=
(bif (decide (n3 < (s0.size : Int))) then
 needC (decide (0 ≤ n3) && decide (n3 < (s0.size : Int))) fun _ => callK (vr 65 0 [.t (.int .u8 (((s0 : ByteArray)[(n3).toNat]!).toNat : Int))] ⟨[], []⟩) fun a b => asT a fun c => asI .i64 c fun a => endB b <|
(bif (decide (a = 1)) then
 L67_2 (s0) ((IntKind.i64.wrap (n3 + 1)))
else
 needC (decide (0 ≤ n3) && decide (n3 < (s0.size : Int))) fun _ => callK (vr 65 0 [.t (.int .u8 (((s0 : ByteArray)[(n3).toNat]!).toNat : Int))] ⟨[], []⟩) fun a b => asT a fun c => asI .i64 c fun a => endB b <|
(bif (decide (a = 2)) then
 L67_2 (s0) ((IntKind.i64.wrap (n3 + 1)))
else
 some ((.t (.int .i64 n3)), ⟨[], []⟩)))
else
 some ((.t (.int .i64 n3)), ⟨[], []⟩))
theorem L67_2g (KL67_2 : Env → St → Option Res) (s0 : ByteArray) (n3 : Int) : WL67_2 (fun e st => gP 67 0 25 Try.f67 (Ta67 KL67_2) (.lp :: PaL67_2) e st) s0 n3 = RL67_2 (WL67_2 KL67_2) s0 n3 := by kernel_rfl
theorem L67_2_eq (s0 : ByteArray) (n3 : Int) : L67_2 s0 n3 = RL67_2 L67_2 s0 n3 :=
 (congrArg (fun k => WL67_2 k s0 n3) (funext fun e => funext fun st => round_eq Try.prog hint (b := (nav (List.reverse (.lp :: PaL67_2)) (bodyOf Try.f67))) (fn := Try.f67) (nt := 25) (T := (Ta67 VL67_2)) [PaL67_2] rfl PaL67_2 e st rfl rfl rfl)).trans (L67_2g VL67_2 s0 n3)
noncomputable def R80  (A : ByteArray) : Option Res :=
(bif (!decide ((A : ByteArray) = ⟨#[]⟩)) then
(bif (decide ((A.size : Int) ≤ 16)) then
 needC (decide (0 ≤ 0) && decide ((0 : Int) < (A.size : Int))) fun _ => callK (vr 65 0 [.t (.int .u8 (((A : ByteArray)[((0 : Int)).toNat]!).toNat : Int))] ⟨[], []⟩) fun a b => asT a fun c => asI .i64 c fun a => endB b <|
(bif (decide (a = 1)) then
 callK (vr 67 0 [.t (.str A)] ⟨[], []⟩) fun a b => asT a fun c => asI .i64 c fun a => endB b <| some ((.t (.bool (decide (a = (A.size : Int))))), ⟨[], []⟩)
else
 some ((.t (.bool false)), ⟨[], []⟩))
else
 some ((.t (.bool false)), ⟨[], []⟩))
else
 some ((.t (.bool false)), ⟨[], []⟩))
theorem eq80g  (A : ByteArray) : gE 80 0 23 Try.f80 [] [.t (.str A)] ⟨[], []⟩ = R80  A := by kernel_rfl
theorem eq80 (A : ByteArray) : vr 80 0 [.t (.str A)] ⟨[], []⟩ = R80  A :=
 Eq.trans (call_eq Try.prog hint (fn := Try.f80) (nt := 23) (T := []) [] rfl _ _ rfl rfl rfl rfl rfl) (eq80g  A)
noncomputable def R81 (L81_4 : YL81_4) (A : ByteArray) : Option Res :=
(bif (decide ((A : ByteArray) = ⟨#[]⟩)) then
 some ((.tup [.t (.int .i64 0), .t (.bool false)]), ⟨[], []⟩)
else
(bif (decide (18 < (A.size : Int))) then
 some ((.tup [.t (.int .i64 0), .t (.bool false)]), ⟨[], []⟩)
else
(bif (decide (1 < (A.size : Int))) then
 needC (decide (0 ≤ 0) && decide ((0 : Int) < (A.size : Int))) fun _ =>
(bif (decide ((((A : ByteArray)[((0 : Int)).toNat]!).toNat : Int) = 48)) then
 some ((.tup [.t (.int .i64 0), .t (.bool false)]), ⟨[], []⟩)
else
 L81_4 (A) (0) ((A.size : Int)) (0))
else
 L81_4 (A) (0) ((A.size : Int)) (0))))
theorem eq81g (KL81_4 : Env → St → Option Res) (A : ByteArray) : gE 81 0 42 Try.f81 (Ta81 KL81_4) [.t (.str A)] ⟨[], []⟩ = R81 (WL81_4 KL81_4) A := by kernel_rfl
theorem eq81 (A : ByteArray) : vr 81 0 [.t (.str A)] ⟨[], []⟩ = R81 L81_4 A :=
 Eq.trans (call_eq Try.prog hint (fn := Try.f81) (nt := 42) (T := (Ta81 VL81_4)) [PaL81_4] rfl _ _ rfl rfl rfl rfl rfl) (eq81g VL81_4 A)
noncomputable def RL81_4 (L81_4 : YL81_4) (s0 : ByteArray) (n2 A B : Int) : Option Res :=
(bif (decide (B < A)) then
 needC (decide (0 ≤ B) && decide (B < (s0.size : Int))) fun _ => callK (vr 65 0 [.t (.int .u8 (((s0 : ByteArray)[(B).toNat]!).toNat : Int))] ⟨[], []⟩) fun a b => asT a fun c => asI .i64 c fun a => endB b <|
(bif (!decide (a = 2)) then
 some ((.tup [.t (.int .i64 0), .t (.bool false)]), ⟨[], []⟩)
else
 needC (decide (0 ≤ B) && decide (B < (s0.size : Int))) fun _ => L81_4 (s0) ((IntKind.i64.wrap ((IntKind.i64.wrap ((10 : Int) * n2)) + (IntKind.i64.wrap (IntKind.u8.wrap ((((s0 : ByteArray)[(B).toNat]!).toNat : Int) - 48)))))) (A) ((IntKind.i64.wrap (B + 1))))
else
 some ((.tup [.t (.int .i64 n2), .t (.bool true)]), ⟨[], []⟩))
theorem L81_4g (KL81_4 : Env → St → Option Res) (s0 : ByteArray) (n2 A B : Int) : WL81_4 (fun e st => gP 81 0 42 Try.f81 (Ta81 KL81_4) (.lp :: PaL81_4) e st) s0 n2 A B = RL81_4 (WL81_4 KL81_4) s0 n2 A B := by kernel_rfl
theorem L81_4_eq (s0 : ByteArray) (n2 A B : Int) : L81_4 s0 n2 A B = RL81_4 L81_4 s0 n2 A B :=
 (congrArg (fun k => WL81_4 k s0 n2 A B) (funext fun e => funext fun st => round_eq Try.prog hint (b := (nav (List.reverse (.lp :: PaL81_4)) (bodyOf Try.f81))) (fn := Try.f81) (nt := 42) (T := (Ta81 VL81_4)) [PaL81_4] rfl PaL81_4 e st rfl rfl rfl)).trans (L81_4g VL81_4 s0 n2 A B)
noncomputable def R68  (A : ByteArray) : Option Res := callK (vr 80 0 [.t (.str A)] ⟨[], []⟩) fun a b => asT a fun c => asB c fun a => endB b <|
(bif a then
 some ((.tup [.t (.agg [.int .i64 1, .str A, .int .i64 0]), .t (.bool true)]), ⟨[], []⟩)
else
(bif (decide ((A.size : Int) = 1)) then
 needC (decide (0 ≤ 0) && decide ((0 : Int) < (A.size : Int))) fun _ => callK (vr 65 0 [.t (.int .u8 (((A : ByteArray)[((0 : Int)).toNat]!).toNat : Int))] ⟨[], []⟩) fun a b => asT a fun c => asI .i64 c fun a => endB b <|
(bif (decide (a = 3)) then
 some ((.tup [.t (.agg [.int .i64 3, .str A, .int .i64 0]), .t (.bool true)]), ⟨[], []⟩)
else
 callK (vr 81 0 [.t (.str A)] ⟨[], []⟩) fun a b => asTup a fun c => consV c fun a d => asT a fun c => asI .i64 c fun a => consV d fun c f => asT c fun d => asB d fun c => endV f <| endB b <| some ((.tup [.t (.agg [.int .i64 2, .str A, .int .i64 a]), .t (.bool c)]), ⟨[], []⟩))
else
 callK (vr 81 0 [.t (.str A)] ⟨[], []⟩) fun a b => asTup a fun c => consV c fun a d => asT a fun c => asI .i64 c fun a => consV d fun c f => asT c fun d => asB d fun c => endV f <| endB b <| some ((.tup [.t (.agg [.int .i64 2, .str A, .int .i64 a]), .t (.bool c)]), ⟨[], []⟩)))
theorem eq68g  (A : ByteArray) : gE 68 0 31 Try.f68 [] [.t (.str A)] ⟨[], []⟩ = R68  A := by kernel_rfl
theorem eq68 (A : ByteArray) : vr 68 0 [.t (.str A)] ⟨[], []⟩ = R68  A :=
 Eq.trans (call_eq Try.prog hint (fn := Try.f68) (nt := 31) (T := []) [] rfl _ _ rfl rfl rfl rfl rfl) (eq68g  A)
noncomputable def R52 (L52_6 : YL52_6) (J52_28 : YJ52_28) (J52_21 : YJ52_21) (J52_26 : YJ52_26) (A : ByteArray) : Option Res :=
(bif (decide (65536 < (A.size : Int))) then
 some ((.tup [.t (.list 3 false []), .t (.int .i64 0), .t (.int .i64 2)]), ⟨[], []⟩)
else
 L52_6 (A) (false) (0) (false) ([]))
theorem eq52g (KL52_6 KJ52_28 KJ52_21 KJ52_26 : Env → St → Option Res) (A : ByteArray) : gE 52 0 82 Try.f52 (Ta52 KL52_6 KJ52_28 KJ52_21 KJ52_26) [.t (.str A)] ⟨[], []⟩ = R52 (WL52_6 KL52_6) (WJ52_28 KJ52_28) (WJ52_21 KJ52_21) (WJ52_26 KJ52_26) A := by kernel_rfl
theorem eq52 (A : ByteArray) : vr 52 0 [.t (.str A)] ⟨[], []⟩ = R52 L52_6 J52_28 J52_21 J52_26 A :=
 Eq.trans (call_eq Try.prog hint (fn := Try.f52) (nt := 82) (T := (Ta52 VL52_6 VJ52_28 VJ52_21 VJ52_26)) [PaL52_6, PaJ52_28, PaJ52_21, PaJ52_26] rfl _ _ rfl rfl rfl rfl rfl) (eq52g VL52_6 VJ52_28 VJ52_21 VJ52_26 A)
noncomputable def RL52_6 (L52_6 : YL52_6) (J52_28 : YJ52_28) (J52_21 : YJ52_21) (J52_26 : YJ52_26) (s0 : ByteArray) (ends6 : Bool) (at7 : Int) (A : Bool) (B : List T) : Option Res :=
(bif (decide (at7 < (s0.size : Int))) then
 needC (decide (0 ≤ at7) && decide (at7 < (s0.size : Int))) fun _ => callK (vr 65 0 [.t (.int .u8 (((s0 : ByteArray)[(at7).toNat]!).toNat : Int))] ⟨[], []⟩) fun a b => asT a fun c => asI .i64 c fun a => endB b <|
(bif (decide (a = 5)) then
 L52_6 (s0) ((decide (0 < (B.length : Int)))) ((IntKind.i64.wrap (at7 + 1))) (A) (B)
else
(bif (decide (a = 4)) then
 L52_6 (s0) (ends6) ((IntKind.i64.wrap (at7 + 1))) (A) (B)
else
(bif (decide (a = 6)) then
 subS s0 (some at7) none fun b => callK (vr 66 0 [.t (.str b), .t (.int .u8 10)] ⟨[], []⟩) fun c d => asT c fun b => asI .i64 b fun c => endB d <|
(bif (decide (c < 0)) then
 J52_28 (s0) (A) (B)
else
 L52_6 (s0) (ends6) ((IntKind.i64.wrap (at7 + c))) (A) (B))
else
(bif (decide (a = 1)) then
 subS s0 (some at7) none fun b => callK (vr 67 0 [.t (.str b)] ⟨[], []⟩) fun c d => asT c fun b => asI .i64 b fun c => endB d <| J52_21 (s0) (ends6) (at7) (c) (A) (B)
else
(bif (decide (a = 2)) then
 subS s0 (some at7) none fun a => callK (vr 67 0 [.t (.str a)] ⟨[], []⟩) fun b c => asT b fun a => asI .i64 a fun b => endB c <| J52_21 (s0) (ends6) (at7) (b) (A) (B)
else
 J52_21 (s0) (ends6) (at7) (1) (A) (B))))))
else
 J52_28 (s0) (A) (B))
theorem L52_6g (KL52_6 KJ52_28 KJ52_21 KJ52_26 : Env → St → Option Res) (s0 : ByteArray) (ends6 : Bool) (at7 : Int) (A : Bool) (B : List T) : WL52_6 (fun e st => gP 52 0 82 Try.f52 (Ta52 KL52_6 KJ52_28 KJ52_21 KJ52_26) (.lp :: PaL52_6) e st) s0 ends6 at7 A B = RL52_6 (WL52_6 KL52_6) (WJ52_28 KJ52_28) (WJ52_21 KJ52_21) (WJ52_26 KJ52_26) s0 ends6 at7 A B := by kernel_rfl
theorem L52_6_eq (s0 : ByteArray) (ends6 : Bool) (at7 : Int) (A : Bool) (B : List T) : L52_6 s0 ends6 at7 A B = RL52_6 L52_6 J52_28 J52_21 J52_26 s0 ends6 at7 A B :=
 (congrArg (fun k => WL52_6 k s0 ends6 at7 A B) (funext fun e => funext fun st => round_eq Try.prog hint (b := (nav (List.reverse (.lp :: PaL52_6)) (bodyOf Try.f52))) (fn := Try.f52) (nt := 82) (T := (Ta52 VL52_6 VJ52_28 VJ52_21 VJ52_26)) [PaL52_6, PaJ52_28, PaJ52_21, PaJ52_26] rfl PaL52_6 e st rfl rfl rfl)).trans (L52_6g VL52_6 VJ52_28 VJ52_21 VJ52_26 s0 ends6 at7 A B)
noncomputable def RJ52_28 (L52_6 : YL52_6) (J52_28 : YJ52_28) (J52_21 : YJ52_21) (J52_26 : YJ52_26) (s0 : ByteArray) (A : Bool) (B : List T) : Option Res :=
(bif (decide (4096 < (B.length : Int))) then
 some ((.tup [.t (.list 3 false []), .t (.int .i64 0), .t (.int .i64 2)]), ⟨[], []⟩)
else
 some ((.tup [.t (.list 3 A B), .t (.int .i64 (s0.size : Int)), .t (.int .i64 0)]), ⟨[], []⟩))
theorem J52_28g (KL52_6 KJ52_28 KJ52_21 KJ52_26 : Env → St → Option Res) (s0 : ByteArray) (A : Bool) (B : List T) : WJ52_28 (fun e st => gP 52 0 82 Try.f52 (Ta52 KL52_6 KJ52_28 KJ52_21 KJ52_26) PaJ52_28 e st) s0 A B = RJ52_28 (WL52_6 KL52_6) (WJ52_28 KJ52_28) (WJ52_21 KJ52_21) (WJ52_26 KJ52_26) s0 A B := by kernel_rfl
theorem J52_28_eq (s0 : ByteArray) (A : Bool) (B : List T) : J52_28 s0 A B = RJ52_28 L52_6 J52_28 J52_21 J52_26 s0 A B :=
 (congrArg (fun k => WJ52_28 k s0 A B) (funext fun e => funext fun st => join_eq Try.prog hint (fn := Try.f52) (nt := 82) (T := (Ta52 VL52_6 VJ52_28 VJ52_21 VJ52_26)) [PaL52_6, PaJ52_28, PaJ52_21, PaJ52_26] rfl PaJ52_28 e st rfl)).trans (J52_28g VL52_6 VJ52_28 VJ52_21 VJ52_26 s0 A B)
noncomputable def RJ52_21 (L52_6 : YL52_6) (J52_28 : YJ52_28) (J52_21 : YJ52_21) (J52_26 : YJ52_26) (s0 : ByteArray) (ends6 : Bool) (at7 n8 : Int) (A : Bool) (B : List T) : Option Res := subS s0 (some at7) (some (IntKind.i64.wrap (at7 + n8))) fun a => callK (vr 68 0 [.t (.str a)] ⟨[], []⟩) fun b c => asTup b fun a => consV a fun b d => asT b fun a => asA a fun b => consT b fun a f => asI .i64 a fun b => consT f fun a g => asS a fun f => consT g fun a h => asI .i64 a fun g => endT h <| consV d fun a h => asT a fun d => asB d fun a => endV h <| endB c <|
(bif (!a) then
 some ((.tup [.t (.list 3 false []), .t (.int .i64 at7), .t (.int .i64 6)]), ⟨[], []⟩)
else
(bif ends6 then
 needC (decide ((B.length + 1) * (32 + 1) ≤ 70368744177664) && decide (32 ≤ 1048576)) fun _ => J52_26 (s0) (at7) (n8) ((A || true)) ((B ++ ([.agg [.int .i64 4, .str ByteArray.empty, .int .i64 0]] : List T))) (b) (f) (g)
else
 J52_26 (s0) (at7) (n8) (A) (B) (b) (f) (g)))
theorem J52_21g (KL52_6 KJ52_28 KJ52_21 KJ52_26 : Env → St → Option Res) (s0 : ByteArray) (ends6 : Bool) (at7 n8 : Int) (A : Bool) (B : List T) : WJ52_21 (fun e st => gP 52 0 82 Try.f52 (Ta52 KL52_6 KJ52_28 KJ52_21 KJ52_26) PaJ52_21 e st) s0 ends6 at7 n8 A B = RJ52_21 (WL52_6 KL52_6) (WJ52_28 KJ52_28) (WJ52_21 KJ52_21) (WJ52_26 KJ52_26) s0 ends6 at7 n8 A B := by kernel_rfl
theorem J52_21_eq (s0 : ByteArray) (ends6 : Bool) (at7 n8 : Int) (A : Bool) (B : List T) : J52_21 s0 ends6 at7 n8 A B = RJ52_21 L52_6 J52_28 J52_21 J52_26 s0 ends6 at7 n8 A B :=
 (congrArg (fun k => WJ52_21 k s0 ends6 at7 n8 A B) (funext fun e => funext fun st => join_eq Try.prog hint (fn := Try.f52) (nt := 82) (T := (Ta52 VL52_6 VJ52_28 VJ52_21 VJ52_26)) [PaL52_6, PaJ52_28, PaJ52_21, PaJ52_26] rfl PaJ52_21 e st rfl)).trans (J52_21g VL52_6 VJ52_28 VJ52_21 VJ52_26 s0 ends6 at7 n8 A B)
noncomputable def RJ52_26 (L52_6 : YL52_6) (J52_28 : YJ52_28) (J52_21 : YJ52_21) (J52_26 : YJ52_26) (s0 : ByteArray) (at7 n8 : Int) (A : Bool) (B : List T) (C : Int) (D : ByteArray) (E : Int) : Option Res := needC (decide ((B.length + 1) * (32 + 1) ≤ 70368744177664) && decide (32 ≤ 1048576)) fun _ => L52_6 (s0) (false) ((IntKind.i64.wrap (at7 + n8))) ((A || true)) ((B ++ ([.agg [.int .i64 C, .str D, .int .i64 E]] : List T)))
theorem J52_26g (KL52_6 KJ52_28 KJ52_21 KJ52_26 : Env → St → Option Res) (s0 : ByteArray) (at7 n8 : Int) (A : Bool) (B : List T) (C : Int) (D : ByteArray) (E : Int) : WJ52_26 (fun e st => gP 52 0 82 Try.f52 (Ta52 KL52_6 KJ52_28 KJ52_21 KJ52_26) PaJ52_26 e st) s0 at7 n8 A B C D E = RJ52_26 (WL52_6 KL52_6) (WJ52_28 KJ52_28) (WJ52_21 KJ52_21) (WJ52_26 KJ52_26) s0 at7 n8 A B C D E := by kernel_rfl
theorem J52_26_eq (s0 : ByteArray) (at7 n8 : Int) (A : Bool) (B : List T) (C : Int) (D : ByteArray) (E : Int) : J52_26 s0 at7 n8 A B C D E = RJ52_26 L52_6 J52_28 J52_21 J52_26 s0 at7 n8 A B C D E :=
 (congrArg (fun k => WJ52_26 k s0 at7 n8 A B C D E) (funext fun e => funext fun st => join_eq Try.prog hint (fn := Try.f52) (nt := 82) (T := (Ta52 VL52_6 VJ52_28 VJ52_21 VJ52_26)) [PaL52_6, PaJ52_28, PaJ52_21, PaJ52_26] rfl PaJ52_26 e st rfl)).trans (J52_26g VL52_6 VJ52_28 VJ52_21 VJ52_26 s0 at7 n8 A B C D E)
noncomputable def R70  (A : Int) (B : ByteArray) (C : Int) : Option Res := some ((.t (.bool (decide (A = 4)))), ⟨[], []⟩)
theorem eq70g  (A : Int) (B : ByteArray) (C : Int) : gE 70 0 6 Try.f70 [] [.t (.agg [.int .i64 A, .str B, .int .i64 C])] ⟨[], []⟩ = R70  A B C := by kernel_rfl
theorem eq70 (A : Int) (B : ByteArray) (C : Int) : vr 70 0 [.t (.agg [.int .i64 A, .str B, .int .i64 C])] ⟨[], []⟩ = R70  A B C :=
 Eq.trans (call_eq Try.prog hint (fn := Try.f70) (nt := 6) (T := []) [] rfl _ _ rfl rfl rfl rfl rfl) (eq70g  A B C)
noncomputable def R69 (L69_2 : YL69_2) (A : Bool) (B : List T) : Option Res := L69_2 (A) (B) ((B.length : Int)) (0)
theorem eq69g (KL69_2 : Env → St → Option Res) (A : Bool) (B : List T) : gE 69 0 19 Try.f69 (Ta69 KL69_2) [.t (.list 3 A B), .fn 70 [] []] ⟨[], []⟩ = R69 (WL69_2 KL69_2) A B := by kernel_rfl
theorem eq69 (A : Bool) (B : List T) : vr 69 0 [.t (.list 3 A B), .fn 70 [] []] ⟨[], []⟩ = R69 L69_2 A B :=
 Eq.trans (call_eq Try.prog hint (fn := Try.f69) (nt := 19) (T := (Ta69 VL69_2)) [PaL69_2] rfl _ _ rfl rfl rfl rfl rfl) (eq69g VL69_2 A B)
noncomputable def RL69_2 (L69_2 : YL69_2) (s0z : Bool) (s0 : List T) (A B : Int) : Option Res :=
(bif (decide (B < A)) then
 needC (decide (0 ≤ B)) fun _ => getT s0 (B).toNat fun a => asA a fun b => consT b fun a c => asI .i64 a fun b => consT c fun a d => asS a fun c => consT d fun a f => asI .i64 a fun d => endT f <| callK (vr 70 0 [.t (.agg [.int .i64 b, .str c, .int .i64 d])] ⟨[], []⟩) fun a f => asT a fun b => asB b fun a => endB f <|
(bif a then
 some ((.t (.int .i64 B)), ⟨[], []⟩)
else
 L69_2 (s0z) (s0) (A) ((IntKind.i64.wrap (B + 1))))
else
 some ((.t (.int .i64 (-1))), ⟨[], []⟩))
theorem L69_2g (KL69_2 : Env → St → Option Res) (s0z : Bool) (s0 : List T) (A B : Int) : WL69_2 (fun e st => gP 69 0 19 Try.f69 (Ta69 KL69_2) (.lp :: PaL69_2) e st) s0z s0 A B = RL69_2 (WL69_2 KL69_2) s0z s0 A B := by kernel_rfl
theorem L69_2_eq (s0z : Bool) (s0 : List T) (A B : Int) : L69_2 s0z s0 A B = RL69_2 L69_2 s0z s0 A B :=
 (congrArg (fun k => WL69_2 k s0z s0 A B) (funext fun e => funext fun st => round_eq Try.prog hint (b := (nav (List.reverse (.lp :: PaL69_2)) (bodyOf Try.f69))) (fn := Try.f69) (nt := 19) (T := (Ta69 VL69_2)) [PaL69_2] rfl PaL69_2 e st rfl rfl rfl)).trans (L69_2g VL69_2 s0z s0 A B)
noncomputable def R71  (A : Bool) (B : List T) : Option Res :=
(bif (!A) then
 some ((.t (.list 3 false [])), ⟨[], []⟩)
else
 needC (decide ((0 + B.length) * (32 + 1) ≤ 70368744177664) && decide (32 ≤ 1048576)) fun _ => some ((.t (.list 3 true (([] : List T) ++ B))), ⟨[], []⟩))
theorem eq71g  (A : Bool) (B : List T) : gE 71 0 8 Try.f71 [] [.t (.list 3 A B)] ⟨[], []⟩ = R71  A B := by kernel_rfl
theorem eq71 (A : Bool) (B : List T) : vr 71 0 [.t (.list 3 A B)] ⟨[], []⟩ = R71  A B :=
 Eq.trans (call_eq Try.prog hint (fn := Try.f71) (nt := 8) (T := []) [] rfl _ _ rfl rfl rfl rfl rfl) (eq71g  A B)
noncomputable def R53 (L53_2 : YL53_2) (A : Bool) (B : List T) : Option Res := L53_2 (A) (B) (false) ([])
theorem eq53g (KL53_2 : Env → St → Option Res) (A : Bool) (B : List T) : gE 53 0 35 Try.f53 (Ta53 KL53_2) [.t (.list 3 A B)] ⟨[], []⟩ = R53 (WL53_2 KL53_2) A B := by kernel_rfl
theorem eq53 (A : Bool) (B : List T) : vr 53 0 [.t (.list 3 A B)] ⟨[], []⟩ = R53 L53_2 A B :=
 Eq.trans (call_eq Try.prog hint (fn := Try.f53) (nt := 35) (T := (Ta53 VL53_2)) [PaL53_2] rfl _ _ rfl rfl rfl rfl rfl) (eq53g VL53_2 A B)
noncomputable def RL53_2 (L53_2 : YL53_2) (l0z : Bool) (l0 : List T) (A : Bool) (B : List T) : Option Res :=
(bif (decide (0 < (l0.length : Int))) then
 callK (vr 69 0 [.t (.list 3 l0z l0), .fn 70 [] []] ⟨[], []⟩) fun a b => asT a fun c => asI .i64 c fun a => endB b <|
(bif (decide (a < 0)) then
 callK (vr 71 0 [.t (.list 3 l0z l0)] ⟨[], []⟩) fun b c => asT b fun d => asL 3 d fun b f => endB c <| needC (decide ((B.length + 1) * (24 + 1) ≤ 70368744177664) && decide (24 ≤ 1048576)) fun _ => some ((.t (.list 1 (A || true) (B ++ ([.list 3 b f] : List T)))), ⟨[], []⟩)
else
 cutL l0 none (some a) fun b => callK (vr 71 0 [.t (.list 3 l0z b)] ⟨[], []⟩) fun c d => asT c fun b => asL 3 b fun c f => endB d <| needC (decide ((B.length + 1) * (24 + 1) ≤ 70368744177664) && decide (24 ≤ 1048576)) fun _ => cutL l0 (some (IntKind.i64.wrap (a + 1))) none fun b =>
(bif (decide ((b.length : Int) = 0)) then
 needC (decide ((((B ++ ([.list 3 c f] : List T))).length + 1) * (24 + 1) ≤ 70368744177664) && decide (24 ≤ 1048576)) fun _ => L53_2 (l0z) (b) (((A || true) || true)) (((B ++ ([.list 3 c f] : List T)) ++ ([.list 3 false []] : List T)))
else
 L53_2 (l0z) (b) ((A || true)) ((B ++ ([.list 3 c f] : List T)))))
else
 some ((.t (.list 1 A B)), ⟨[], []⟩))
theorem L53_2g (KL53_2 : Env → St → Option Res) (l0z : Bool) (l0 : List T) (A : Bool) (B : List T) : WL53_2 (fun e st => gP 53 0 35 Try.f53 (Ta53 KL53_2) (.lp :: PaL53_2) e st) l0z l0 A B = RL53_2 (WL53_2 KL53_2) l0z l0 A B := by kernel_rfl
theorem L53_2_eq (l0z : Bool) (l0 : List T) (A : Bool) (B : List T) : L53_2 l0z l0 A B = RL53_2 L53_2 l0z l0 A B :=
 (congrArg (fun k => WL53_2 k l0z l0 A B) (funext fun e => funext fun st => round_eq Try.prog hint (b := (nav (List.reverse (.lp :: PaL53_2)) (bodyOf Try.f53))) (fn := Try.f53) (nt := 35) (T := (Ta53 VL53_2)) [PaL53_2] rfl PaL53_2 e st rfl rfl rfl)).trans (L53_2g VL53_2 l0z l0 A B)
noncomputable def R54  (A : Int) (B : Bool) (C : List T) (D : Bool) : Option Res :=
(bif D then
 some ((.t (.agg [.int .i64 0, .str ByteArray.empty, .int .i64 0])), ⟨[(0, .var [.t (.list 3 B C), .t (.bool true)])], [500]⟩)
else
(bif (decide ((C.length : Int) = 0)) then
 some ((.t (.agg [.int .i64 0, .str ByteArray.empty, .int .i64 0])), ⟨[(0, .var [.t (.list 3 B C), .t (.bool true)])], [500]⟩)
else
 needC (decide (0 ≤ 0)) fun _ => getT C ((0 : Int)).toNat fun a => asA a fun b => consT b fun a c => asI .i64 a fun b => consT c fun a d => asS a fun c => consT d fun a c => asI .i64 a fun d => endT c <|
(bif (!decide (b = A)) then
 some ((.t (.agg [.int .i64 0, .str ByteArray.empty, .int .i64 0])), ⟨[(0, .var [.t (.list 3 B C), .t (.bool true)])], [500]⟩)
else
 needC (decide (0 ≤ 0)) fun _ => getT C ((0 : Int)).toNat fun a => asA a fun b => consT b fun a c => asI .i64 a fun b => consT c fun a d => asS a fun c => consT d fun a f => asI .i64 a fun d => endT f <| cutL C (some 1) none fun a => some ((.t (.agg [.int .i64 b, .str c, .int .i64 d])), ⟨[(0, .var [.t (.list 3 B a), .t (.bool D)])], [500]⟩))))
theorem eq54g  (A : Int) (B : Bool) (C : List T) (D : Bool) : gE 54 0 47 Try.f54 [] [.ptr 0 0 0, .t (.int .i64 A)] ⟨[(0, .var [.t (.list 3 B C), .t (.bool D)])], []⟩ = R54  A B C D := by kernel_rfl
theorem eq54 (A : Int) (B : Bool) (C : List T) (D : Bool) : vr 54 0 [.ptr 0 0 0, .t (.int .i64 A)] ⟨[(0, .var [.t (.list 3 B C), .t (.bool D)])], []⟩ = R54  A B C D :=
 Eq.trans (call_eq Try.prog hint (fn := Try.f54) (nt := 47) (T := []) [] rfl _ _ rfl rfl rfl rfl rfl) (eq54g  A B C D)
noncomputable def R58   : Option Res := some ((.t (.list 4 true [.agg [.str ⟨#[104, 97, 108, 116]⟩, .int .i64 0, .int .i64 0, .int .i64 0], .agg [.str ⟨#[115, 101, 116]⟩, .int .i64 1, .int .i64 5, .int .i64 0], .agg [.str ⟨#[109, 111, 118, 101]⟩, .int .i64 1, .int .i64 2, .int .i64 0], .agg [.str ⟨#[97, 100, 100]⟩, .int .i64 1, .int .i64 2, .int .i64 2], .agg [.str ⟨#[115, 117, 98]⟩, .int .i64 1, .int .i64 2, .int .i64 2], .agg [.str ⟨#[109, 117, 108]⟩, .int .i64 1, .int .i64 2, .int .i64 2], .agg [.str ⟨#[108, 111, 97, 100]⟩, .int .i64 1, .int .i64 3, .int .i64 2], .agg [.str ⟨#[115, 116, 111, 114, 101]⟩, .int .i64 3, .int .i64 2, .int .i64 2], .agg [.str ⟨#[108, 101, 110]⟩, .int .i64 1, .int .i64 3, .int .i64 0], .agg [.str ⟨#[112, 117, 115, 104]⟩, .int .i64 3, .int .i64 2, .int .i64 0], .agg [.str ⟨#[106, 117, 109, 112]⟩, .int .i64 4, .int .i64 0, .int .i64 0], .agg [.str ⟨#[108, 101, 115, 115]⟩, .int .i64 2, .int .i64 2, .int .i64 4], .agg [.str ⟨#[115, 97, 109, 101]⟩, .int .i64 2, .int .i64 2, .int .i64 4]])), ⟨[], []⟩)
theorem eq58g   : gE 58 0 30 Try.f58 [] [] ⟨[], []⟩ = R58   := by kernel_rfl
theorem eq58  : vr 58 0 [] ⟨[], []⟩ = R58   :=
 Eq.trans (call_eq Try.prog hint (fn := Try.f58) (nt := 30) (T := []) [] rfl _ _ rfl rfl rfl rfl rfl) (eq58g  )
noncomputable def R73  (A : ByteArray) (B C D : Int) (E : ByteArray) : Option Res := some ((.t (.bool (decide ((A : ByteArray) = E)))), ⟨[(0, .var [.t (.str E)])], [500]⟩)
theorem eq73g  (A : ByteArray) (B C D : Int) (E : ByteArray) : gE 73 0 8 Try.f73 [] [.t (.agg [.str A, .int .i64 B, .int .i64 C, .int .i64 D]), .ptr 0 0 0] ⟨[(0, .var [.t (.str E)])], []⟩ = R73  A B C D E := by kernel_rfl
theorem eq73 (A : ByteArray) (B C D : Int) (E : ByteArray) : vr 73 0 [.t (.agg [.str A, .int .i64 B, .int .i64 C, .int .i64 D]), .ptr 0 0 0] ⟨[(0, .var [.t (.str E)])], []⟩ = R73  A B C D E :=
 Eq.trans (call_eq Try.prog hint (fn := Try.f73) (nt := 8) (T := []) [] rfl _ _ rfl rfl rfl rfl rfl) (eq73g  A B C D E)
noncomputable def R72 (L72_2 : YL72_2) (A : Bool) (B : List T) (C : ByteArray) : Option Res := L72_2 (A) (B) ((B.length : Int)) (0) (C)
theorem eq72g (KL72_2 : Env → St → Option Res) (A : Bool) (B : List T) (C : ByteArray) : gE 72 0 19 Try.f72 (Ta72 KL72_2) [.t (.list 4 A B), .fn 73 [] [.ptr 0 0 0]] ⟨[(0, .var [.t (.str C)])], []⟩ = R72 (WL72_2 KL72_2) A B C := by kernel_rfl
theorem eq72 (A : Bool) (B : List T) (C : ByteArray) : vr 72 0 [.t (.list 4 A B), .fn 73 [] [.ptr 0 0 0]] ⟨[(0, .var [.t (.str C)])], []⟩ = R72 L72_2 A B C :=
 Eq.trans (call_eq Try.prog hint (fn := Try.f72) (nt := 19) (T := (Ta72 VL72_2)) [PaL72_2] rfl _ _ rfl rfl rfl rfl rfl) (eq72g VL72_2 A B C)
noncomputable def RL72_2 (L72_2 : YL72_2) (s0z : Bool) (s0 : List T) (A B : Int) (C : ByteArray) : Option Res :=
(bif (decide (B < A)) then
 needC (decide (0 ≤ B)) fun _ => getT s0 (B).toNat fun a => asA a fun b => consT b fun a c => asS a fun b => consT c fun a d => asI .i64 a fun c => consT d fun a f => asI .i64 a fun d => consT f fun a g => asI .i64 a fun f => endT g <| callK (vr 73 0 [.t (.agg [.str b, .int .i64 c, .int .i64 d, .int .i64 f]), .ptr 0 0 0] ⟨[(0, .var [.t (.str C)])], []⟩) fun a g => asT a fun b => asB b fun a => consB 0 g fun b c => asVar b fun d => consV d fun b f => asT b fun d => asS d fun b => endV f <| endB c <|
(bif a then
 some ((.t (.int .i64 B)), ⟨[(0, .var [.t (.str b)])], [500]⟩)
else
 L72_2 (s0z) (s0) (A) ((IntKind.i64.wrap (B + 1))) (b))
else
 some ((.t (.int .i64 (-1))), ⟨[(0, .var [.t (.str C)])], [500]⟩))
theorem L72_2g (KL72_2 : Env → St → Option Res) (s0z : Bool) (s0 : List T) (A B : Int) (C : ByteArray) : WL72_2 (fun e st => gP 72 0 19 Try.f72 (Ta72 KL72_2) (.lp :: PaL72_2) e st) s0z s0 A B C = RL72_2 (WL72_2 KL72_2) s0z s0 A B C := by kernel_rfl
theorem L72_2_eq (s0z : Bool) (s0 : List T) (A B : Int) (C : ByteArray) : L72_2 s0z s0 A B C = RL72_2 L72_2 s0z s0 A B C :=
 (congrArg (fun k => WL72_2 k s0z s0 A B C) (funext fun e => funext fun st => round_eq Try.prog hint (b := (nav (List.reverse (.lp :: PaL72_2)) (bodyOf Try.f72))) (fn := Try.f72) (nt := 19) (T := (Ta72 VL72_2)) [PaL72_2] rfl PaL72_2 e st rfl rfl rfl)).trans (L72_2g VL72_2 s0z s0 A B C)
noncomputable def R38  (A : Int) : Option Res := callK (vr 58 0 [] ⟨[], []⟩) fun a b => asT a fun c => asL 4 c fun a d => endB b <|
(bif (decide (A < 0)) then
 some ((.tup [.t (.agg [.str ByteArray.empty, .int .i64 0, .int .i64 0, .int .i64 0]), .t (.bool false)]), ⟨[], []⟩)
else
(bif (decide ((d.length : Int) ≤ A)) then
 some ((.tup [.t (.agg [.str ByteArray.empty, .int .i64 0, .int .i64 0, .int .i64 0]), .t (.bool false)]), ⟨[], []⟩)
else
 needC (decide (0 ≤ A)) fun _ => getT d (A).toNat fun a => asA a fun b => consT b fun a c => asS a fun b => consT c fun a d => asI .i64 a fun c => consT d fun a f => asI .i64 a fun d => consT f fun a g => asI .i64 a fun f => endT g <| some ((.tup [.t (.agg [.str b, .int .i64 c, .int .i64 d, .int .i64 f]), .t (.bool true)]), ⟨[], []⟩)))
theorem eq38g  (A : Int) : gE 38 0 19 Try.f38 [] [.t (.int .i64 A)] ⟨[], []⟩ = R38  A := by kernel_rfl
theorem eq38 (A : Int) : vr 38 0 [.t (.int .i64 A)] ⟨[], []⟩ = R38  A :=
 Eq.trans (call_eq Try.prog hint (fn := Try.f38) (nt := 19) (T := []) [] rfl _ _ rfl rfl rfl rfl rfl) (eq38g  A)
noncomputable def R42  (A B C D E : Int) : Option Res := some ((.agg [.ptr 0 0 1, .ptr 0 0 2, .ptr 0 0 3]), ⟨[(0, .var [.t (.int .i64 A), .t (.int .i64 B), .t (.int .i64 C), .t (.int .i64 D), .t (.int .i64 E)])], [500]⟩)
theorem eq42g  (A B C D E : Int) : gE 42 0 13 Try.f42 [] [.ptr 0 0 0] ⟨[(0, .var [.t (.int .i64 A), .t (.int .i64 B), .t (.int .i64 C), .t (.int .i64 D), .t (.int .i64 E)])], []⟩ = R42  A B C D E := by kernel_rfl
theorem eq42 (A B C D E : Int) : vr 42 0 [.ptr 0 0 0] ⟨[(0, .var [.t (.int .i64 A), .t (.int .i64 B), .t (.int .i64 C), .t (.int .i64 D), .t (.int .i64 E)])], []⟩ = R42  A B C D E :=
 Eq.trans (call_eq Try.prog hint (fn := Try.f42) (nt := 13) (T := []) [] rfl _ _ rfl rfl rfl rfl rfl) (eq42g  A B C D E)
noncomputable def R85  (A B : ByteArray) : Option Res :=
(bif (decide ((B.size : Int) ≤ (A.size : Int))) then
 subS A none (some (B.size : Int)) fun a => some ((.t (.bool (decide ((a : ByteArray) = B)))), ⟨[], []⟩)
else
 some ((.t (.bool false)), ⟨[], []⟩))
theorem eq85g  (A B : ByteArray) : gE 85 0 18 Try.f85 [] [.t (.str A), .t (.str B)] ⟨[], []⟩ = R85  A B := by kernel_rfl
theorem eq85 (A B : ByteArray) : vr 85 0 [.t (.str A), .t (.str B)] ⟨[], []⟩ = R85  A B :=
 Eq.trans (call_eq Try.prog hint (fn := Try.f85) (nt := 18) (T := []) [] rfl _ _ rfl rfl rfl rfl rfl) (eq85g  A B)
noncomputable def R84  (A B : ByteArray) : Option Res := callK (vr 85 0 [.t (.str A), .t (.str B)] ⟨[], []⟩) fun a b => asT a fun c => asB c fun a => endB b <|
(bif (!a) then
 some ((.tup [.t (.str A), .t (.bool false)]), ⟨[], []⟩)
else
 subS A (some (B.size : Int)) none fun a => some ((.tup [.t (.str a), .t (.bool true)]), ⟨[], []⟩))
theorem eq84g  (A B : ByteArray) : gE 84 0 15 Try.f84 [] [.t (.str A), .t (.str B)] ⟨[], []⟩ = R84  A B := by kernel_rfl
theorem eq84 (A B : ByteArray) : vr 84 0 [.t (.str A), .t (.str B)] ⟨[], []⟩ = R84  A B :=
 Eq.trans (call_eq Try.prog hint (fn := Try.f84) (nt := 15) (T := []) [] rfl _ _ rfl rfl rfl rfl rfl) (eq84g  A B)
noncomputable def R82  (A B : ByteArray) : Option Res := callK (vr 84 0 [.t (.str A), .t (.str B)] ⟨[], []⟩) fun a b => asTup a fun c => consV c fun a d => asT a fun c => asS c fun a => consV d fun c f => asT c fun d => asB d fun c => endV f <| endB b <| some ((.tup [.t (.str a), .t (.bool c)]), ⟨[], []⟩)
theorem eq82g  (A B : ByteArray) : gE 82 0 11 Try.f82 [] [.t (.str A), .t (.str B)] ⟨[], []⟩ = R82  A B := by kernel_rfl
theorem eq82 (A B : ByteArray) : vr 82 0 [.t (.str A), .t (.str B)] ⟨[], []⟩ = R82  A B :=
 Eq.trans (call_eq Try.prog hint (fn := Try.f82) (nt := 11) (T := []) [] rfl _ _ rfl rfl rfl rfl rfl) (eq82g  A B)
noncomputable def R74  (A : ByteArray) (B : Bool) (C : List T) (D : Bool) : Option Res := callK (vr 54 0 [.ptr 0 0 0, .t (.int .i64 1)] (Z0 B C D)) fun a b => asT a fun c => asA c fun a => consT a fun c d => asI .i64 c fun a => consT d fun a c => asS a fun d => consT c fun a f => asI .i64 a fun c => endT f <| consB 0 b fun a c => asVar a fun b => consV b fun a f => asT a fun b => asL 3 b fun a g => consV f fun b h => asT b fun f => asB f fun b => endV h <| endB c <| callK (vr 82 0 [.t (.str d), .t (.str A)] ⟨[], []⟩) fun c f => asTup c fun d => consV d fun c h => asT c fun d => asS d fun c => consV h fun d i =>
 asT d fun h => asB h fun d => endV i <| endB f <| callK (vr 81 0 [.t (.str c)] ⟨[], []⟩) fun f h => asTup f fun c => consV c fun f i => asT f fun c => asI .i64 c fun f => consV i fun c j => asT c fun i => asB i fun c => endV j <| endB h <|
(bif (!d) then
 some ((.t (.int .i64 f)), ⟨[(0, .var [.t (.list 3 a g), .t (.bool true)])], [500]⟩)
else
(bif (!c) then
 some ((.t (.int .i64 f)), ⟨[(0, .var [.t (.list 3 a g), .t (.bool true)])], [500]⟩)
else
 some ((.t (.int .i64 f)), ⟨[(0, .var [.t (.list 3 a g), .t (.bool b)])], [500]⟩)))
theorem eq74g  (A : ByteArray) (B : Bool) (C : List T) (D : Bool) : gE 74 0 32 Try.f74 [] [.ptr 0 0 0, .t (.str A)] ⟨[(0, .var [.t (.list 3 B C), .t (.bool D)])], []⟩ = R74  A B C D := by kernel_rfl
theorem eq74 (A : ByteArray) (B : Bool) (C : List T) (D : Bool) : vr 74 0 [.ptr 0 0 0, .t (.str A)] ⟨[(0, .var [.t (.list 3 B C), .t (.bool D)])], []⟩ = R74  A B C D :=
 Eq.trans (call_eq Try.prog hint (fn := Try.f74) (nt := 32) (T := []) [] rfl _ _ rfl rfl rfl rfl rfl) (eq74g  A B C D)
noncomputable def R75  (A : Bool) (B : List T) (C : Bool) : Option Res :=
(bif (decide ((B.length : Int) = 0)) then
 callK (vr 54 0 [.ptr 0 0 0, .t (.int .i64 2)] (Z0 A B C)) fun a b => asT a fun c => asA c fun a => consT a fun c d => asI .i64 c fun a => consT d fun a c => asS a fun d => consT c fun a d => asI .i64 a fun c => endT d <| consB 0 b fun a d => asVar a fun b => consV b fun a f => asT a fun b => asL 3 b fun a g => consV f fun b h => asT b fun f => asB f fun b => endV h <| endB d <| some ((.t (.int .i64 c)), ⟨[(0, .var [.t (.list 3 a g), .t (.bool b)])], [500]⟩)
else
 needC (decide (0 ≤ 0)) fun _ => getT B ((0 : Int)).toNat fun a => asA a fun b => consT b fun a c => asI .i64 a fun b => consT c fun a b => asS a fun c => consT b fun a d => asI .i64 a fun b => endT d <|
(bif (!decide ((c : ByteArray) = ⟨#[45]⟩)) then
 callK (vr 54 0 [.ptr 0 0 0, .t (.int .i64 2)] (Z0 A B C)) fun a b => asT a fun c => asA c fun a => consT a fun c d => asI .i64 c fun a => consT d fun a c => asS a fun d => consT c fun a d => asI .i64 a fun c => endT d <| consB 0 b fun a d => asVar a fun b => consV b fun a f => asT a fun b => asL 3 b fun a g => consV f fun b h => asT b fun f => asB f fun b => endV h <| endB d <| some ((.t (.int .i64 c)), ⟨[(0, .var [.t (.list 3 a g), .t (.bool b)])], [500]⟩)
else
 callK (vr 54 0 [.ptr 0 0 0, .t (.int .i64 3)] (Z0 A B C)) fun a b => asT a fun c => asA c fun a => consT a fun c d => asI .i64 c fun a => consT d fun a c => asS a fun d => consT c fun a d => asI .i64 a fun c => endT d <| consB 0 b fun a c => asVar a fun b => consV b fun a d => asT a fun b => asL 3 b fun a f => consV d fun b g => asT b fun d => asB d fun b => endV g <| endB c <| callK (vr 54 0 [.ptr 0 0 0, .t (.int .i64 2)] (Z0 a f b)) fun c d => asT c fun a => asA a fun b => consT b fun a c => asI .i64 a fun b => consT c fun a b => asS a fun c => consT b fun a c => asI .i64 a fun b => endT c <|
 consB 0 d fun a c => asVar a fun d => consV d fun a f => asT a fun d => asL 3 d fun a g => consV f fun d h => asT d fun f => asB f fun d => endV h <| endB c <|
(bif (decide (b = 0)) then
 some ((.t (.int .i64 (IntKind.i64.wrap (0 - b)))), ⟨[(0, .var [.t (.list 3 a g), .t (.bool true)])], [500]⟩)
else
 some ((.t (.int .i64 (IntKind.i64.wrap (0 - b)))), ⟨[(0, .var [.t (.list 3 a g), .t (.bool d)])], [500]⟩))))
theorem eq75g  (A : Bool) (B : List T) (C : Bool) : gE 75 0 35 Try.f75 [] [.ptr 0 0 0] ⟨[(0, .var [.t (.list 3 A B), .t (.bool C)])], []⟩ = R75  A B C := by kernel_rfl
theorem eq75 (A : Bool) (B : List T) (C : Bool) : vr 75 0 [.ptr 0 0 0] ⟨[(0, .var [.t (.list 3 A B), .t (.bool C)])], []⟩ = R75  A B C :=
 Eq.trans (call_eq Try.prog hint (fn := Try.f75) (nt := 35) (T := []) [] rfl _ _ rfl rfl rfl rfl rfl) (eq75g  A B C)
noncomputable def RH55_7_1 (J55_6 : YJ55_6) (A : Bool) (B : List T) (C : Bool) (D E F G H : Int) (I : ByteArray) (J K L : Int) : Option Res := some ((.t (.agg [.int .i64 D, .int .i64 E, .int .i64 F, .int .i64 G, .int .i64 H])), ⟨[(0, .var [.t (.list 3 A B), .t (.bool C)])], [500]⟩)
noncomputable def RH55_7_2 (J55_6 : YJ55_6) (A : Bool) (B : List T) (C : Bool) (D E F G H : Int) (I : ByteArray) (J K L : Int) : Option Res :=
(bif (decide (L = 1)) then
 callK (vr 74 0 [.ptr 0 0 0, .t (.str ⟨#[114]⟩)] (Z0 A B C)) fun a b => asT a fun c => asI .i64 c fun a => consB 0 b fun c d => asVar c fun b => consV b fun c f => asT c fun b => asL 3 b fun c g => consV f fun b h => asT b fun f => asB f fun b => endV h <| endB d <| RH55_7_1 J55_6 (c) (g) (b) (D) (E) (F) (a) (H) (I) (J) (K) (L)
else
(bif (decide (L = 2)) then
 callK (vr 74 0 [.ptr 0 0 0, .t (.str ⟨#[114]⟩)] (Z0 A B C)) fun a b => asT a fun c => asI .i64 c fun a => consB 0 b fun c d => asVar c fun b => consV b fun c f => asT c fun b => asL 3 b fun c g => consV f fun b h => asT b fun f => asB f fun b => endV h <| endB d <| RH55_7_1 J55_6 (c) (g) (b) (D) (E) (F) (a) (H) (I) (J) (K) (L)
else
(bif (decide (L = 3)) then
 callK (vr 74 0 [.ptr 0 0 0, .t (.str ⟨#[97]⟩)] (Z0 A B C)) fun a b => asT a fun c => asI .i64 c fun a => consB 0 b fun c d => asVar c fun b => consV b fun c f => asT c fun b => asL 3 b fun c g => consV f fun b h => asT b fun f => asB f fun b => endV h <| endB d <| RH55_7_1 J55_6 (c) (g) (b) (D) (E) (F) (a) (H) (I) (J) (K) (L)
else
(bif (decide (L = 4)) then
 callK (vr 54 0 [.ptr 0 0 0, .t (.int .i64 2)] (Z0 A B C)) fun a b => asT a fun c => asA c fun a => consT a fun c d => asI .i64 c fun a => consT d fun a c => asS a fun d => consT c fun a d => asI .i64 a fun c => endT d <| consB 0 b fun a d => asVar a fun b => consV b fun a f => asT a fun b => asL 3 b fun a g => consV f fun b h => asT b fun f => asB f fun b => endV h <| endB d <| RH55_7_1 J55_6 (a) (g) (b) (D) (E) (F) (c) (H) (I) (J) (K) (L)
else
(bif (decide (L = 5)) then
 callK (vr 75 0 [.ptr 0 0 0] (Z0 A B C)) fun a b => asT a fun c => asI .i64 c fun a => consB 0 b fun c d => asVar c fun b => consV b fun c f => asT c fun b => asL 3 b fun c g => consV f fun b h => asT b fun f => asB f fun b => endV h <| endB d <| RH55_7_1 J55_6 (c) (g) (b) (D) (E) (F) (G) (a) (I) (J) (K) (L)
else
 RH55_7_1 J55_6 (A) (B) (C) (D) (E) (F) (G) (H) (I) (J) (K) (L))))))
noncomputable def RH55_7_3 (J55_6 : YJ55_6) (A : Bool) (B : List T) (C : Bool) (D E F G H : Int) (I : ByteArray) (J K L : Int) : Option Res :=
(bif (decide (K = 1)) then
 callK (vr 74 0 [.ptr 0 0 0, .t (.str ⟨#[114]⟩)] (Z0 A B C)) fun a b => asT a fun c => asI .i64 c fun a => consB 0 b fun c d => asVar c fun b => consV b fun c f => asT c fun b => asL 3 b fun c g => consV f fun b h => asT b fun f => asB f fun b => endV h <| endB d <| RH55_7_2 J55_6 (c) (g) (b) (D) (E) (a) (G) (H) (I) (J) (K) (L)
else
(bif (decide (K = 2)) then
 callK (vr 74 0 [.ptr 0 0 0, .t (.str ⟨#[114]⟩)] (Z0 A B C)) fun a b => asT a fun c => asI .i64 c fun a => consB 0 b fun c d => asVar c fun b => consV b fun c f => asT c fun b => asL 3 b fun c g => consV f fun b h => asT b fun f => asB f fun b => endV h <| endB d <| RH55_7_2 J55_6 (c) (g) (b) (D) (E) (a) (G) (H) (I) (J) (K) (L)
else
(bif (decide (K = 3)) then
 callK (vr 74 0 [.ptr 0 0 0, .t (.str ⟨#[97]⟩)] (Z0 A B C)) fun a b => asT a fun c => asI .i64 c fun a => consB 0 b fun c d => asVar c fun b => consV b fun c f => asT c fun b => asL 3 b fun c g => consV f fun b h => asT b fun f => asB f fun b => endV h <| endB d <| RH55_7_2 J55_6 (c) (g) (b) (D) (E) (a) (G) (H) (I) (J) (K) (L)
else
(bif (decide (K = 4)) then
 callK (vr 54 0 [.ptr 0 0 0, .t (.int .i64 2)] (Z0 A B C)) fun a b => asT a fun c => asA c fun a => consT a fun c d => asI .i64 c fun a => consT d fun a c => asS a fun d => consT c fun a d => asI .i64 a fun c => endT d <| consB 0 b fun a d => asVar a fun b => consV b fun a f => asT a fun b => asL 3 b fun a g => consV f fun b h => asT b fun f => asB f fun b => endV h <| endB d <| RH55_7_2 J55_6 (a) (g) (b) (D) (E) (c) (G) (H) (I) (J) (K) (L)
else
(bif (decide (K = 5)) then
 callK (vr 75 0 [.ptr 0 0 0] (Z0 A B C)) fun a b => asT a fun c => asI .i64 c fun a => consB 0 b fun c d => asVar c fun b => consV b fun c f => asT c fun b => asL 3 b fun c g => consV f fun b h => asT b fun f => asB f fun b => endV h <| endB d <| RH55_7_2 J55_6 (c) (g) (b) (D) (E) (F) (G) (a) (I) (J) (K) (L)
else
 RH55_7_2 J55_6 (A) (B) (C) (D) (E) (F) (G) (H) (I) (J) (K) (L))))))
noncomputable def RH55_7_4 (J55_6 : YJ55_6) (A : Bool) (B : List T) (C : Bool) (D E F G H : Int) (I : ByteArray) (J K L : Int) : Option Res :=
(bif (decide (J = 1)) then
 callK (vr 74 0 [.ptr 0 0 0, .t (.str ⟨#[114]⟩)] (Z0 A B C)) fun a b => asT a fun c => asI .i64 c fun a => consB 0 b fun c d => asVar c fun b => consV b fun c f => asT c fun b => asL 3 b fun c g => consV f fun b h => asT b fun f => asB f fun b => endV h <| endB d <| RH55_7_3 J55_6 (c) (g) (b) (D) (a) (F) (G) (H) (I) (J) (K) (L)
else
(bif (decide (J = 2)) then
 callK (vr 74 0 [.ptr 0 0 0, .t (.str ⟨#[114]⟩)] (Z0 A B C)) fun a b => asT a fun c => asI .i64 c fun a => consB 0 b fun c d => asVar c fun b => consV b fun c f => asT c fun b => asL 3 b fun c g => consV f fun b h => asT b fun f => asB f fun b => endV h <| endB d <| RH55_7_3 J55_6 (c) (g) (b) (D) (a) (F) (G) (H) (I) (J) (K) (L)
else
(bif (decide (J = 3)) then
 callK (vr 74 0 [.ptr 0 0 0, .t (.str ⟨#[97]⟩)] (Z0 A B C)) fun a b => asT a fun c => asI .i64 c fun a => consB 0 b fun c d => asVar c fun b => consV b fun c f => asT c fun b => asL 3 b fun c g => consV f fun b h => asT b fun f => asB f fun b => endV h <| endB d <| RH55_7_3 J55_6 (c) (g) (b) (D) (a) (F) (G) (H) (I) (J) (K) (L)
else
(bif (decide (J = 4)) then
 callK (vr 54 0 [.ptr 0 0 0, .t (.int .i64 2)] (Z0 A B C)) fun a b => asT a fun c => asA c fun a => consT a fun c d => asI .i64 c fun a => consT d fun a c => asS a fun d => consT c fun a d => asI .i64 a fun c => endT d <| consB 0 b fun a d => asVar a fun b => consV b fun a f => asT a fun b => asL 3 b fun a g => consV f fun b h => asT b fun f => asB f fun b => endV h <| endB d <| RH55_7_3 J55_6 (a) (g) (b) (D) (c) (F) (G) (H) (I) (J) (K) (L)
else
(bif (decide (J = 5)) then
 callK (vr 75 0 [.ptr 0 0 0] (Z0 A B C)) fun a b => asT a fun c => asI .i64 c fun a => consB 0 b fun c d => asVar c fun b => consV b fun c f => asT c fun b => asL 3 b fun c g => consV f fun b h => asT b fun f => asB f fun b => endV h <| endB d <| RH55_7_3 J55_6 (c) (g) (b) (D) (E) (F) (G) (a) (I) (J) (K) (L)
else
 RH55_7_3 J55_6 (A) (B) (C) (D) (E) (F) (G) (H) (I) (J) (K) (L))))))
noncomputable def R55 (J55_6 : YJ55_6) (A : Bool) (B : List T) (C : Bool) : Option Res := callK (vr 54 0 [.ptr 0 0 0, .t (.int .i64 1)] (Z0 A B C)) fun a b => asT a fun c => asA c fun a => consT a fun c d => asI .i64 c fun a => consT d fun a c => asS a fun d => consT c fun a f => asI .i64 a fun c => endT f <| consB 0 b fun a c => asVar a fun b => consV b fun a f => asT a fun b => asL 3 b fun a g => consV f fun b h => asT b fun f => asB f fun b => endV h <| endB c <| callK (vr 58 0 [] ⟨[], []⟩) fun c f => asT c fun h => asL 4 h fun c i => endB f <| callK (vr 72 0 [.t (.list 4 c i), .fn 73 [] [.ptr 0 0 0]] ⟨[(0, .var [.t (.str d)])], []⟩) fun f h =>
 asT f fun c => asI .i64 c fun d => consB 0 h fun c f => asVar c fun h => consV h fun c i => asT c fun h => asS h fun c => endV i <| endB f <| callK (vr 38 0 [.t (.int .i64 d)] ⟨[], []⟩) fun c f => asTup c fun h => consV h fun c i => asT c fun h => asA h fun c => consT c fun h j => asS h fun c => consT j fun h k => asI .i64 h fun j => consT k fun h l => asI .i64 h fun k => consT l fun h m => asI .i64 h fun l => endT m <| consV i fun h m => asT h fun i => asB i fun h => endV m <| endB f <|
(bif (!h) then
 J55_6 (a) (g) (true) (d) (0) (0) (0) (0) (c) (j) (k) (l)
else
 J55_6 (a) (g) (b) (d) (0) (0) (0) (0) (c) (j) (k) (l))
theorem eq55g (KJ55_6 : Env → St → Option Res) (A : Bool) (B : List T) (C : Bool) : gE 55 0 62 Try.f55 (Ta55 KJ55_6) [.ptr 0 0 0] ⟨[(0, .var [.t (.list 3 A B), .t (.bool C)])], []⟩ = R55 (WJ55_6 KJ55_6) A B C := by kernel_rfl
theorem eq55 (A : Bool) (B : List T) (C : Bool) : vr 55 0 [.ptr 0 0 0] ⟨[(0, .var [.t (.list 3 A B), .t (.bool C)])], []⟩ = R55 J55_6 A B C :=
 Eq.trans (call_eq Try.prog hint (fn := Try.f55) (nt := 62) (T := (Ta55 VJ55_6)) [PaJ55_6] rfl _ _ rfl rfl rfl rfl rfl) (eq55g VJ55_6 A B C)
noncomputable def RJ55_6 (J55_6 : YJ55_6) (A : Bool) (B : List T) (C : Bool) (D E F G H : Int) (I : ByteArray) (J K L : Int) : Option Res := callK (vr 42 0 [.ptr 0 0 0] ⟨[(0, .var [.t (.int .i64 D), .t (.int .i64 E), .t (.int .i64 F), .t (.int .i64 G), .t (.int .i64 H)])], []⟩) fun a b => asG a fun c => consV c fun a d => isPtr 0 0 1 a <| consV d fun a c => isPtr 0 0 2 a <| consV c fun a d => isPtr 0 0 3 a <| endV d <| consB 0 b fun a c => asVar a fun b => consV b fun a d => asT a fun b => asI .i64 b fun a => consV d fun b f => asT b fun d => asI .i64 d fun b => consV f fun d g => asT d fun f =>
 asI .i64 f fun d => consV g fun f h => asT f fun g => asI .i64 g fun f => consV h fun g i => asT g fun h => asI .i64 h fun g => endV i <| endB c <| RH55_7_4 J55_6 (A) (B) (C) (a) (b) (d) (f) (g) (I) (J) (K) (L)
theorem J55_6g (KJ55_6 : Env → St → Option Res) (A : Bool) (B : List T) (C : Bool) (D E F G H : Int) (I : ByteArray) (J K L : Int) : WJ55_6 (fun e st => gP 55 0 62 Try.f55 (Ta55 KJ55_6) PaJ55_6 e st) A B C D E F G H I J K L = RJ55_6 (WJ55_6 KJ55_6) A B C D E F G H I J K L := by kernel_rfl
theorem J55_6_eq (A : Bool) (B : List T) (C : Bool) (D E F G H : Int) (I : ByteArray) (J K L : Int) : J55_6 A B C D E F G H I J K L = RJ55_6 J55_6 A B C D E F G H I J K L :=
 (congrArg (fun k => WJ55_6 k A B C D E F G H I J K L) (funext fun e => funext fun st => join_eq Try.prog hint (fn := Try.f55) (nt := 62) (T := (Ta55 VJ55_6)) [PaJ55_6] rfl PaJ55_6 e st rfl)).trans (J55_6g VJ55_6 A B C D E F G H I J K L)
noncomputable def R44  (A B C D E F G H : Int) (I : Bool) (J : List T) : Option Res := callK (vr 38 0 [.t (.int .i64 A)] ⟨[], []⟩) fun a b => asTup a fun c => consV c fun a d => asT a fun c => asA c fun a => consT a fun c f => asS c fun a => consT f fun a c => asI .i64 a fun f => consT c fun a g => asI .i64 a fun c => consT g fun a h => asI .i64 a fun g => endT h <| consV d fun a h => asT a fun d => asB d fun a => endV h <| endB b <| callK (vr 42 0 [.ptr 0 0 0] ⟨[(0, .var [.t (.int .i64 A), .t (.int .i64 B), .t (.int .i64 C), .t (.int .i64 D), .t (.int .i64 E)])], []⟩) fun b d => asG b fun h =>
 consV h fun b i => isPtr 0 0 1 b <| consV i fun b h => isPtr 0 0 2 b <| consV h fun b i => isPtr 0 0 3 b <| endV i <| consB 0 d fun b h => asVar b fun d => consV d fun b i => asT b fun d => asI .i64 d fun b => consV i fun b d => asT b fun i => asI .i64 i fun b => consV d fun i j => asT i fun d => asI .i64 d fun i => consV j fun d k => asT d fun j => asI .i64 j fun d => consV k fun j l => asT j fun k => asI .i64 k fun j => endV l <| endB h <|
(bif a then
(bif (decide (0 ≤ b)) then
 needC (decide (0 ≤ f) && decide (f < (6 : Int))) fun _ => getT ([.int .i64 1, .int .i64 F, .int .i64 F, .int .i64 G, .int .i64 (J.length : Int), .int .i64 1]) ((0 + (f).toNat * 1)) fun a => asI .i64 a fun f =>
(bif (decide (b < f)) then
(bif (decide (0 ≤ i)) then
 needC (decide (0 ≤ c) && decide (c < (6 : Int))) fun _ => getT ([.int .i64 1, .int .i64 F, .int .i64 F, .int .i64 G, .int .i64 (J.length : Int), .int .i64 1]) ((0 + (c).toNat * 1)) fun a => asI .i64 a fun b =>
(bif (decide (i < b)) then
(bif (decide (0 ≤ d)) then
 needC (decide (0 ≤ g) && decide (g < (6 : Int))) fun _ => getT ([.int .i64 1, .int .i64 F, .int .i64 F, .int .i64 G, .int .i64 (J.length : Int), .int .i64 1]) ((0 + (g).toNat * 1)) fun a => asI .i64 a fun b =>
(bif (!decide (c = 5)) then
(bif (decide (d < b)) then
 some ((.t (.bool (decide (j = 0)))), ⟨[], []⟩)
else
 some ((.t (.bool false)), ⟨[], []⟩))
else
(bif (decide (d < b)) then
(bif (decide ((-1000000000000000000) < j)) then
 some ((.t (.bool (decide (j < 1000000000000000000)))), ⟨[], []⟩)
else
 some ((.t (.bool false)), ⟨[], []⟩))
else
 some ((.t (.bool false)), ⟨[], []⟩)))
else
(bif (!decide (c = 5)) then
 some ((.t (.bool false)), ⟨[], []⟩)
else
 some ((.t (.bool false)), ⟨[], []⟩)))
else
(bif (!decide (c = 5)) then
 some ((.t (.bool false)), ⟨[], []⟩)
else
 some ((.t (.bool false)), ⟨[], []⟩)))
else
(bif (!decide (c = 5)) then
 some ((.t (.bool false)), ⟨[], []⟩)
else
 some ((.t (.bool false)), ⟨[], []⟩)))
else
(bif (!decide (c = 5)) then
 some ((.t (.bool false)), ⟨[], []⟩)
else
 some ((.t (.bool false)), ⟨[], []⟩)))
else
(bif (!decide (c = 5)) then
 some ((.t (.bool false)), ⟨[], []⟩)
else
 some ((.t (.bool false)), ⟨[], []⟩)))
else
(bif (!decide (c = 5)) then
 some ((.t (.bool false)), ⟨[], []⟩)
else
 some ((.t (.bool false)), ⟨[], []⟩)))
theorem eq44g  (A B C D E F G H : Int) (I : Bool) (J : List T) : gE 44 0 72 Try.f44 [] [.t (.agg [.int .i64 A, .int .i64 B, .int .i64 C, .int .i64 D, .int .i64 E]), .t (.agg [.int .i64 F, .int .i64 G, .int .i64 H, .list 5 I J])] ⟨[], []⟩ = R44  A B C D E F G H I J := by kernel_rfl
theorem eq44 (A B C D E F G H : Int) (I : Bool) (J : List T) : vr 44 0 [.t (.agg [.int .i64 A, .int .i64 B, .int .i64 C, .int .i64 D, .int .i64 E]), .t (.agg [.int .i64 F, .int .i64 G, .int .i64 H, .list 5 I J])] ⟨[], []⟩ = R44  A B C D E F G H I J :=
 Eq.trans (call_eq Try.prog hint (fn := Try.f44) (nt := 72) (T := []) [] rfl _ _ rfl rfl rfl rfl rfl) (eq44g  A B C D E F G H I J)
noncomputable def R43  (A B C D E F G H : Int) (I : Bool) (J : List T) : Option Res := callK (vr 44 0 [.t (.agg [.int .i64 A, .int .i64 B, .int .i64 C, .int .i64 D, .int .i64 E]), .t (.agg [.int .i64 F, .int .i64 G, .int .i64 H, .list 5 I J])] ⟨[], []⟩) fun a b => asT a fun c => asB c fun a => endB b <| some ((.t (.bool (!a))), (Z1 F G H I J))
theorem eq43g  (A B C D E F G H : Int) (I : Bool) (J : List T) : gE 43 0 8 Try.f43 [] [.t (.agg [.int .i64 A, .int .i64 B, .int .i64 C, .int .i64 D, .int .i64 E]), .ptr 0 0 0] ⟨[(0, .var [.t (.int .i64 F), .t (.int .i64 G), .t (.int .i64 H), .t (.list 5 I J)])], []⟩ = R43  A B C D E F G H I J := by kernel_rfl
theorem eq43 (A B C D E F G H : Int) (I : Bool) (J : List T) : vr 43 0 [.t (.agg [.int .i64 A, .int .i64 B, .int .i64 C, .int .i64 D, .int .i64 E]), .ptr 0 0 0] ⟨[(0, .var [.t (.int .i64 F), .t (.int .i64 G), .t (.int .i64 H), .t (.list 5 I J)])], []⟩ = R43  A B C D E F G H I J :=
 Eq.trans (call_eq Try.prog hint (fn := Try.f43) (nt := 8) (T := []) [] rfl _ _ rfl rfl rfl rfl rfl) (eq43g  A B C D E F G H I J)
noncomputable def R59 (L59_2 : YL59_2) (A : Bool) (B : List T) (C D E : Int) (F : Bool) (G : List T) : Option Res := L59_2 (A) (B) ((B.length : Int)) (0) (C) (D) (E) (F) (G)
theorem eq59g (KL59_2 : Env → St → Option Res) (A : Bool) (B : List T) (C D E : Int) (F : Bool) (G : List T) : gE 59 0 19 Try.f59 (Ta59 KL59_2) [.t (.list 5 A B), .fn 43 [] [.ptr 0 0 0]] ⟨[(0, .var [.t (.int .i64 C), .t (.int .i64 D), .t (.int .i64 E), .t (.list 5 F G)])], []⟩ = R59 (WL59_2 KL59_2) A B C D E F G := by kernel_rfl
theorem eq59 (A : Bool) (B : List T) (C D E : Int) (F : Bool) (G : List T) : vr 59 0 [.t (.list 5 A B), .fn 43 [] [.ptr 0 0 0]] ⟨[(0, .var [.t (.int .i64 C), .t (.int .i64 D), .t (.int .i64 E), .t (.list 5 F G)])], []⟩ = R59 L59_2 A B C D E F G :=
 Eq.trans (call_eq Try.prog hint (fn := Try.f59) (nt := 19) (T := (Ta59 VL59_2)) [PaL59_2] rfl _ _ rfl rfl rfl rfl rfl) (eq59g VL59_2 A B C D E F G)
noncomputable def RL59_2 (L59_2 : YL59_2) (s0z : Bool) (s0 : List T) (A B C D E : Int) (F : Bool) (G : List T) : Option Res :=
(bif (decide (B < A)) then
 needC (decide (0 ≤ B)) fun _ => getT s0 (B).toNat fun a => asA a fun b => consT b fun a c => asI .i64 a fun b => consT c fun a d => asI .i64 a fun c => consT d fun a f => asI .i64 a fun d => consT f fun a g => asI .i64 a fun f => consT g fun a h => asI .i64 a fun g => endT h <| callK (vr 43 0 [.t (.agg [.int .i64 b, .int .i64 c, .int .i64 d, .int .i64 f, .int .i64 g]), .ptr 0 0 0] (Z2 C D E F G)) fun a h => asT a fun b => asB b fun a => consB 0 h fun b c => asVar b fun d => consV d fun b f => asT b fun d => asI .i64 d fun b => consV f fun d g => asT d fun f => asI .i64 f fun d => consV g fun f h =>
 asT f fun g => asI .i64 g fun f => consV h fun g i => asT g fun h => asL 5 h fun g j => endV i <| endB c <|
(bif a then
 some ((.t (.int .i64 B)), (Z1 b d f g j))
else
 L59_2 (s0z) (s0) (A) ((IntKind.i64.wrap (B + 1))) (b) (d) (f) (g) (j))
else
 some ((.t (.int .i64 (-1))), (Z1 C D E F G)))
theorem L59_2g (KL59_2 : Env → St → Option Res) (s0z : Bool) (s0 : List T) (A B C D E : Int) (F : Bool) (G : List T) : WL59_2 (fun e st => gP 59 0 19 Try.f59 (Ta59 KL59_2) (.lp :: PaL59_2) e st) s0z s0 A B C D E F G = RL59_2 (WL59_2 KL59_2) s0z s0 A B C D E F G := by kernel_rfl
theorem L59_2_eq (s0z : Bool) (s0 : List T) (A B C D E : Int) (F : Bool) (G : List T) : L59_2 s0z s0 A B C D E F G = RL59_2 L59_2 s0z s0 A B C D E F G :=
 (congrArg (fun k => WL59_2 k s0z s0 A B C D E F G) (funext fun e => funext fun st => round_eq Try.prog hint (b := (nav (List.reverse (.lp :: PaL59_2)) (bodyOf Try.f59))) (fn := Try.f59) (nt := 19) (T := (Ta59 VL59_2)) [PaL59_2] rfl PaL59_2 e st rfl rfl rfl)).trans (L59_2g VL59_2 s0z s0 A B C D E F G)
noncomputable def R40  (A : Bool) (B : List T) (C D E : Int) (F : Bool) (G : List T) : Option Res := callK (vr 59 0 [.t (.list 5 A B), .fn 43 [] [.ptr 0 0 0]] (Z2 C D E F G)) fun a b => asT a fun c => asI .i64 c fun a => consB 0 b fun c d => asVar c fun b => consV b fun c f => asT c fun b => asI .i64 b fun c => consV f fun b g => asT b fun f => asI .i64 f fun b => consV g fun f h => asT f fun g => asI .i64 g fun f => consV h fun g i => asT g fun h => asL 5 h fun g j => endV i <| endB d <| some ((.t (.bool (decide (0 ≤ a)))), (Z1 c b f g j))
theorem eq40g  (A : Bool) (B : List T) (C D E : Int) (F : Bool) (G : List T) : gE 40 0 9 Try.f40 [] [.t (.list 5 A B), .fn 43 [] [.ptr 0 0 0]] ⟨[(0, .var [.t (.int .i64 C), .t (.int .i64 D), .t (.int .i64 E), .t (.list 5 F G)])], []⟩ = R40  A B C D E F G := by kernel_rfl
theorem eq40 (A : Bool) (B : List T) (C D E : Int) (F : Bool) (G : List T) : vr 40 0 [.t (.list 5 A B), .fn 43 [] [.ptr 0 0 0]] ⟨[(0, .var [.t (.int .i64 C), .t (.int .i64 D), .t (.int .i64 E), .t (.list 5 F G)])], []⟩ = R40  A B C D E F G :=
 Eq.trans (call_eq Try.prog hint (fn := Try.f40) (nt := 9) (T := []) [] rfl _ _ rfl rfl rfl rfl rfl) (eq40g  A B C D E F G)
noncomputable def R18  (A B C : Int) (D : Bool) (E : List T) : Option Res :=
(bif (decide (0 ≤ A)) then
(bif (decide (A ≤ 128)) then
(bif (decide (0 ≤ B)) then
(bif (decide (B ≤ 128)) then
(bif (decide (0 ≤ C)) then
(bif (!(decide (C ≤ B))) then
 some ((.t (.int .i64 1)), ⟨[], []⟩)
else
(bif (decide ((E.length : Int) = 0)) then
 some ((.t (.int .i64 1)), ⟨[], []⟩)
else
(bif (decide (4096 < (E.length : Int))) then
 some ((.t (.int .i64 1)), ⟨[], []⟩)
else
 callK (vr 40 0 [.t (.list 5 D E), .fn 43 [] [.ptr 0 0 0]] (Z2 A B C D E)) fun a b => asT a fun c => asB c fun a => consB 0 b fun c d => asVar c fun b => consV b fun c f => asT c fun b => asI .i64 b fun c => consV f fun b c => asT b fun f => asI .i64 f fun b => consV c fun b f => asT b fun c => asI .i64 c fun b => consV f fun b c => asT b fun f => asL 5 f fun b g => endV c <| endB d <|
(bif a then
 some ((.t (.int .i64 1)), ⟨[], []⟩)
else
 needC (decide (0 ≤ (IntKind.i64.wrap ((g.length : Int) - 1)))) fun _ => getT g ((IntKind.i64.wrap ((g.length : Int) - 1))).toNat fun a => asA a fun b => consT b fun a c => asI .i64 a fun b => consT c fun a d => asI .i64 a fun c => consT d fun a c => asI .i64 a fun d => consT c fun a d => asI .i64 a fun c => consT d fun a c => asI .i64 a fun d => endT c <|
(bif (!decide (b = 0)) then
(bif (!decide (b = 10)) then
 some ((.t (.int .i64 1)), ⟨[], []⟩)
else
 some ((.t (.int .i64 0)), ⟨[], []⟩))
else
 some ((.t (.int .i64 0)), ⟨[], []⟩))))))
else
 some ((.t (.int .i64 1)), ⟨[], []⟩))
else
 some ((.t (.int .i64 1)), ⟨[], []⟩))
else
 some ((.t (.int .i64 1)), ⟨[], []⟩))
else
 some ((.t (.int .i64 1)), ⟨[], []⟩))
else
 some ((.t (.int .i64 1)), ⟨[], []⟩))
theorem eq18g  (A B C : Int) (D : Bool) (E : List T) : gE 18 0 70 Try.f18 [] [.t (.agg [.int .i64 A, .int .i64 B, .int .i64 C, .list 5 D E])] ⟨[], []⟩ = R18  A B C D E := by kernel_rfl
theorem eq18 (A B C : Int) (D : Bool) (E : List T) : vr 18 0 [.t (.agg [.int .i64 A, .int .i64 B, .int .i64 C, .list 5 D E])] ⟨[], []⟩ = R18  A B C D E :=
 Eq.trans (call_eq Try.prog hint (fn := Try.f18) (nt := 70) (T := []) [] rfl _ _ rfl rfl rfl rfl rfl) (eq18g  A B C D E)
noncomputable def R32 (L32_8 : YL32_8) (J32_17 : YJ32_17) (A : ByteArray) : Option Res := callK (vr 52 0 [.t (.str A)] ⟨[], []⟩) fun a b => asTup a fun c => consV c fun a d => asT a fun c => asL 3 c fun a f => consV d fun c g => asT c fun d => asI .i64 d fun c => consV g fun d h => asT d fun g => asI .i64 g fun d => endV h <| endB b <|
(bif (!decide (d = 0)) then
 some ((.tup [.t (.agg [.int .i64 0, .int .i64 0, .int .i64 0, .list 5 false []]), .t (.int .i64 c), .t (.int .i64 d)]), ⟨[], []⟩)
else
 callK (vr 53 0 [.t (.list 3 a f)] ⟨[], []⟩) fun b c => asT b fun a => asL 1 a fun b d => endB c <|
(bif (decide ((d.length : Int) = 0)) then
 some ((.tup [.t (.agg [.int .i64 0, .int .i64 0, .int .i64 0, .list 5 false []]), .t (.int .i64 0), .t (.int .i64 6)]), ⟨[], []⟩)
else
 L32_8 (b) (d) (b) (d) ((d.length : Int)) (0) (0) (0) (0) (false) ([])))
theorem eq32g (KL32_8 KJ32_17 : Env → St → Option Res) (A : ByteArray) : gE 32 0 92 Try.f32 (Ta32 KL32_8 KJ32_17) [.t (.str A)] ⟨[], []⟩ = R32 (WL32_8 KL32_8) (WJ32_17 KJ32_17) A := by kernel_rfl
theorem eq32 (A : ByteArray) : vr 32 0 [.t (.str A)] ⟨[], []⟩ = R32 L32_8 J32_17 A :=
 Eq.trans (call_eq Try.prog hint (fn := Try.f32) (nt := 92) (T := (Ta32 VL32_8 VJ32_17)) [PaL32_8, PaJ32_17] rfl _ _ rfl rfl rfl rfl rfl) (eq32g VL32_8 VJ32_17 A)
noncomputable def RL32_8 (L32_8 : YL32_8) (J32_17 : YJ32_17) (lines8z : Bool) (lines8 : List T) (A : Bool) (B : List T) (C D E F G : Int) (H : Bool) (I : List T) : Option Res :=
(bif (decide (D < C)) then
 needC (decide (0 ≤ D)) fun _ => getT B (D).toNat fun a => asL 3 a fun b c =>
(bif (decide (D = 0)) then
 callK (vr 54 0 [.ptr 0 0 0, .t (.int .i64 1)] ⟨[(0, .var [.t (.list 3 b c), .t (.bool false)])], []⟩) fun a d => asT a fun f => asA f fun a => consT a fun f g => asI .i64 f fun a => consT g fun a f => asS a fun g => consT f fun a h => asI .i64 a fun f => endT h <| consB 0 d fun a f => asVar a fun d => consV d fun a h => asT a fun d => asL 3 d fun a i => consV h fun d j => asT d fun h => asB h fun d => endV j <| endB f <| callK (vr 54 0 [.ptr 0 0 0, .t (.int .i64 2)] ⟨[(0, .var [.t (.list 3 a i), .t (.bool (!decide ((g : ByteArray) = ⟨#[99, 111, 100, 101]⟩)))])], []⟩) fun d f => asT d fun a =>
 asA a fun d => consT d fun a g => asI .i64 a fun d => consT g fun a d => asS a fun g => consT d fun a g => asI .i64 a fun d => endT g <| consB 0 f fun a g => asVar a fun f => consV f fun a h => asT a fun f => asL 3 f fun a i => consV h fun f j => asT f fun h => asB h fun f => endV j <| endB g <| callK (vr 54 0 [.ptr 0 0 0, .t (.int .i64 2)] (Z0 a i f)) fun g h => asT g fun a => asA a fun f => consT f fun a g => asI .i64 a fun f => consT g fun a f => asS a fun g => consT f fun a g => asI .i64 a fun f => endT g <| consB 0 h fun a g => asVar a fun h => consV h fun a i => asT a fun h => asL 3 h fun a j =>
 consV i fun h k => asT h fun i => asB i fun h => endV k <| endB g <| callK (vr 54 0 [.ptr 0 0 0, .t (.int .i64 2)] (Z0 a j h)) fun g i => asT g fun a => asA a fun g => consT g fun a h => asI .i64 a fun g => consT h fun a g => asS a fun h => consT g fun a h => asI .i64 a fun g => endT h <| consB 0 i fun a h => asVar a fun i => consV i fun a j => asT a fun i => asL 3 i fun a k => consV j fun i l => asT i fun j => asB j fun i => endV l <| endB h <| J32_17 (lines8z) (lines8) (D) (A) (B) (C) (D) (d) (f) (g) (H) (I) (a) (k) (i)
else
 callK (vr 55 0 [.ptr 0 0 0] ⟨[(0, .var [.t (.list 3 b c), .t (.bool false)])], []⟩) fun a d => asT a fun b => asA b fun a => consT a fun b c => asI .i64 b fun a => consT c fun b f => asI .i64 b fun c => consT f fun b g => asI .i64 b fun f => consT g fun b h => asI .i64 b fun g => consT h fun b i => asI .i64 b fun h => endT i <| consB 0 d fun b i => asVar b fun d => consV d fun b j => asT b fun d => asL 3 d fun b k => consV j fun d l => asT d fun j => asB j fun d => endV l <| endB i <| needC (decide ((I.length + 1) * (40 + 1) ≤ 70368744177664) && decide (40 ≤ 1048576)) fun _ => J32_17 (lines8z) (lines8) (D) (A) (B) (C) (D) (E) (F) (G) ((H || true)) ((I ++ ([.agg [.int .i64 a, .int .i64 c, .int .i64 f, .int .i64 g, .int .i64 h]] : List T))) (b) (k) (d))
else
 callK (vr 18 0 [.t (.agg [.int .i64 E, .int .i64 F, .int .i64 G, .list 5 H I])] ⟨[], []⟩) fun a b => asT a fun c => asI .i64 c fun a => endB b <|
(bif (!decide (a = 0)) then
 some ((.tup [.t (.agg [.int .i64 0, .int .i64 0, .int .i64 0, .list 5 false []]), .t (.int .i64 0), .t (.int .i64 a)]), ⟨[], []⟩)
else
 some ((.tup [.t (.agg [.int .i64 E, .int .i64 F, .int .i64 G, .list 5 H I]), .t (.int .i64 (lines8.length : Int)), .t (.int .i64 0)]), ⟨[], []⟩)))
theorem L32_8g (KL32_8 KJ32_17 : Env → St → Option Res) (lines8z : Bool) (lines8 : List T) (A : Bool) (B : List T) (C D E F G : Int) (H : Bool) (I : List T) : WL32_8 (fun e st => gP 32 0 92 Try.f32 (Ta32 KL32_8 KJ32_17) (.lp :: PaL32_8) e st) lines8z lines8 A B C D E F G H I = RL32_8 (WL32_8 KL32_8) (WJ32_17 KJ32_17) lines8z lines8 A B C D E F G H I := by kernel_rfl
theorem L32_8_eq (lines8z : Bool) (lines8 : List T) (A : Bool) (B : List T) (C D E F G : Int) (H : Bool) (I : List T) : L32_8 lines8z lines8 A B C D E F G H I = RL32_8 L32_8 J32_17 lines8z lines8 A B C D E F G H I :=
 (congrArg (fun k => WL32_8 k lines8z lines8 A B C D E F G H I) (funext fun e => funext fun st => round_eq Try.prog hint (b := (nav (List.reverse (.lp :: PaL32_8)) (bodyOf Try.f32))) (fn := Try.f32) (nt := 92) (T := (Ta32 VL32_8 VJ32_17)) [PaL32_8, PaJ32_17] rfl PaL32_8 e st rfl rfl rfl)).trans (L32_8g VL32_8 VJ32_17 lines8z lines8 A B C D E F G H I)
noncomputable def RJ32_17 (L32_8 : YL32_8) (J32_17 : YJ32_17) (lines8z : Bool) (lines8 : List T) (i9 : Int) (A : Bool) (B : List T) (C D E F G : Int) (H : Bool) (I : List T) (J : Bool) (K : List T) (L : Bool) : Option Res :=
(bif L then
 some ((.tup [.t (.agg [.int .i64 0, .int .i64 0, .int .i64 0, .list 5 false []]), .t (.int .i64 i9), .t (.int .i64 6)]), ⟨[], []⟩)
else
(bif (decide (0 < (K.length : Int))) then
 some ((.tup [.t (.agg [.int .i64 0, .int .i64 0, .int .i64 0, .list 5 false []]), .t (.int .i64 i9), .t (.int .i64 6)]), ⟨[], []⟩)
else
 L32_8 (lines8z) (lines8) (A) (B) (C) ((IntKind.i64.wrap (D + 1))) (E) (F) (G) (H) (I)))
theorem J32_17g (KL32_8 KJ32_17 : Env → St → Option Res) (lines8z : Bool) (lines8 : List T) (i9 : Int) (A : Bool) (B : List T) (C D E F G : Int) (H : Bool) (I : List T) (J : Bool) (K : List T) (L : Bool) : WJ32_17 (fun e st => gP 32 0 92 Try.f32 (Ta32 KL32_8 KJ32_17) PaJ32_17 e st) lines8z lines8 i9 A B C D E F G H I J K L = RJ32_17 (WL32_8 KL32_8) (WJ32_17 KJ32_17) lines8z lines8 i9 A B C D E F G H I J K L := by kernel_rfl
theorem J32_17_eq (lines8z : Bool) (lines8 : List T) (i9 : Int) (A : Bool) (B : List T) (C D E F G : Int) (H : Bool) (I : List T) (J : Bool) (K : List T) (L : Bool) : J32_17 lines8z lines8 i9 A B C D E F G H I J K L = RJ32_17 L32_8 J32_17 lines8z lines8 i9 A B C D E F G H I J K L :=
 (congrArg (fun k => WJ32_17 k lines8z lines8 i9 A B C D E F G H I J K L) (funext fun e => funext fun st => join_eq Try.prog hint (fn := Try.f32) (nt := 92) (T := (Ta32 VL32_8 VJ32_17)) [PaL32_8, PaJ32_17] rfl PaJ32_17 e st rfl)).trans (J32_17g VL32_8 VJ32_17 lines8z lines8 i9 A B C D E F G H I J K L)
noncomputable def R16  (A B C D E : Int) : Option Res := callK (vr 38 0 [.t (.int .i64 A)] ⟨[], []⟩) fun a b => asTup a fun c => consV c fun a d => asT a fun c => asA c fun a => consT a fun c f => asS c fun a => consT f fun a c => asI .i64 a fun f => consT c fun a g => asI .i64 a fun c => consT g fun a c => asI .i64 a fun g => endT c <| consV d fun a c => asT a fun d => asB d fun a => endV c <| endB b <|
(bif (!decide (f = 1)) then
 some ((.tup [.t (.int .i64 0), .t (.bool false)]), ⟨[], []⟩)
else
 some ((.tup [.t (.int .i64 B), .t (.bool true)]), ⟨[], []⟩))
theorem eq16g  (A B C D E : Int) : gE 16 0 18 Try.f16 [] [.t (.agg [.int .i64 A, .int .i64 B, .int .i64 C, .int .i64 D, .int .i64 E])] ⟨[], []⟩ = R16  A B C D E := by kernel_rfl
theorem eq16 (A B C D E : Int) : vr 16 0 [.t (.agg [.int .i64 A, .int .i64 B, .int .i64 C, .int .i64 D, .int .i64 E])] ⟨[], []⟩ = R16  A B C D E :=
 Eq.trans (call_eq Try.prog hint (fn := Try.f16) (nt := 18) (T := []) [] rfl _ _ rfl rfl rfl rfl rfl) (eq16g  A B C D E)
noncomputable def R78  (A B C : Int) : Option Res := needC (decide (0 ≤ (shrI .i64 C 6)) && decide ((shrI .i64 C 6) < (2 : Int))) fun _ => getT ([.int .u64 A, .int .u64 B]) ((0 + ((shrI .i64 C 6)).toNat * 1)) fun a => asI .u64 a fun b => needC (decide (0 ≤ (bitsI .and .i64 C 63))) fun _ => needC (decide (0 ≤ (shrI .i64 C 6)) && decide ((shrI .i64 C 6) < (2 : Int))) fun _ => setT ([.int .u64 A, .int .u64 B]) ((0 + ((shrI .i64 C 6)).toNat * 1)) (.int .u64 (bitsI .or .u64 b (shlI .u64 1 (bitsI .and .i64 C 63)))) fun a => consT (((a.drop 0).take 2)) fun b c => asI .u64 b fun a => consT c fun b d =>
 asI .u64 b fun c => endT d <| some ((.t (.agg [.int .u64 a, .int .u64 c])), ⟨[], []⟩)
theorem eq78g  (A B C : Int) : gE 78 0 15 Try.f78 [] [.t (.agg [.int .u64 A, .int .u64 B]), .t (.int .i64 C)] ⟨[], []⟩ = R78  A B C := by kernel_rfl
theorem eq78 (A B C : Int) : vr 78 0 [.t (.agg [.int .u64 A, .int .u64 B]), .t (.int .i64 C)] ⟨[], []⟩ = R78  A B C :=
 Eq.trans (call_eq Try.prog hint (fn := Try.f78) (nt := 15) (T := []) [] rfl _ _ rfl rfl rfl rfl rfl) (eq78g  A B C)
noncomputable def R11  (A B C D E F : Int) : Option Res := callK (vr 38 0 [.t (.int .i64 A)] ⟨[], []⟩) fun a b => asTup a fun c => consV c fun a d => asT a fun c => asA c fun a => consT a fun c f => asS c fun a => consT f fun a c => asI .i64 a fun f => consT c fun a f => asI .i64 a fun c => consT f fun a c => asI .i64 a fun f => endT c <| consV d fun a c => asT a fun d => asB d fun a => endV c <| endB b <|
(bif (!a) then
 some ((.t (.list 1 false [])), ⟨[], []⟩)
else
(bif (decide (A = 0)) then
 some ((.t (.list 1 false [])), ⟨[], []⟩)
else
(bif (decide (A = 10)) then
 some ((.t (.list 1 true [.int .i64 B])), ⟨[], []⟩)
else
(bif (decide (A = 11)) then
 some ((.t (.list 1 true [.int .i64 (IntKind.i64.wrap (F + 1)), .int .i64 D])), ⟨[], []⟩)
else
(bif (decide (A = 12)) then
 some ((.t (.list 1 true [.int .i64 (IntKind.i64.wrap (F + 1)), .int .i64 D])), ⟨[], []⟩)
else
 some ((.t (.list 1 true [.int .i64 (IntKind.i64.wrap (F + 1))])), ⟨[], []⟩))))))
theorem eq11g  (A B C D E F : Int) : gE 11 0 45 Try.f11 [] [.t (.agg [.int .i64 A, .int .i64 B, .int .i64 C, .int .i64 D, .int .i64 E]), .t (.int .i64 F)] ⟨[], []⟩ = R11  A B C D E F := by kernel_rfl
theorem eq11 (A B C D E F : Int) : vr 11 0 [.t (.agg [.int .i64 A, .int .i64 B, .int .i64 C, .int .i64 D, .int .i64 E]), .t (.int .i64 F)] ⟨[], []⟩ = R11  A B C D E F :=
 Eq.trans (call_eq Try.prog hint (fn := Try.f11) (nt := 45) (T := []) [] rfl _ _ rfl rfl rfl rfl rfl) (eq11g  A B C D E F)
noncomputable def R77  (A B C D : Int) : Option Res := some ((.t (.agg [.int .u64 (bitsI .and .u64 A C), .int .u64 (bitsI .and .u64 B D)])), ⟨[], []⟩)
theorem eq77g  (A B C D : Int) : gE 77 0 16 Try.f77 [] [.t (.agg [.int .u64 A, .int .u64 B]), .t (.agg [.int .u64 C, .int .u64 D])] ⟨[], []⟩ = R77  A B C D := by kernel_rfl
theorem eq77 (A B C D : Int) : vr 77 0 [.t (.agg [.int .u64 A, .int .u64 B]), .t (.agg [.int .u64 C, .int .u64 D])] ⟨[], []⟩ = R77  A B C D :=
 Eq.trans (call_eq Try.prog hint (fn := Try.f77) (nt := 16) (T := []) [] rfl _ _ rfl rfl rfl rfl rfl) (eq77g  A B C D)
noncomputable def R76 (J76_4 : YJ76_4) (A B C D E F : Int) (G : Bool) (H : List T) (I : Bool) (J : List T) (K : Bool) (L : List T) (M : Bool) (N : List T) : Option Res := needC (decide (0 ≤ A) && decide (A < (L.length : Int))) fun _ => getT L ((A).toNat) fun a => asB a fun b =>
(bif b then
 needC (decide (0 ≤ A) && decide (A < (J.length : Int))) fun _ => getT J ((A).toNat) fun a => asA a fun b => consT b fun a c => asI .u64 a fun b => consT c fun a d => asI .u64 a fun c => endT d <| callK (vr 77 0 [.t (.agg [.int .u64 B, .int .u64 C]), .t (.agg [.int .u64 b, .int .u64 c])] ⟨[], []⟩) fun a d => asT a fun b => asA b fun a => consT a fun b c => asI .u64 b fun a => consT c fun b f => asI .u64 b fun c => endT f <| endB d <| needC (decide (0 ≤ A) && decide (A < (J.length : Int))) fun _ => getT J ((A).toNat) fun b => asA b fun d => consT d fun b f => asI .u64 b fun d => consT f fun b g =>
 asI .u64 b fun f => endT g <|
(bif (decide (a = d) && (decide (c = f) && true)) then
 some ((.tup []), ⟨[(0, .var [.ptr 1 0 0]), (1, .var [.t (.int .i64 D), .t (.int .i64 E), .t (.int .i64 F), .t (.list 5 G H), .buf 2, .buf 3]), (2, .arr true 2 I J), (3, .arr true 1 K L), (4, .var [.buf 5]), (5, .arr true 1 M N)], [500, 501, 502, 503, 504, 505]⟩)
else
 J76_4 (A) (D) (E) (F) (G) (H) (I) (J) (K) (L) (M) (N) ([.int .u64 a, .int .u64 c]))
else
 J76_4 (A) (D) (E) (F) (G) (H) (I) (J) (K) (L) (M) (N) ([.int .u64 B, .int .u64 C]))
theorem eq76g (KJ76_4 : Env → St → Option Res) (A B C D E F : Int) (G : Bool) (H : List T) (I : Bool) (J : List T) (K : Bool) (L : List T) (M : Bool) (N : List T) : gE 76 0 48 Try.f76 (Ta76 KJ76_4) [.t (.int .i64 A), .t (.agg [.int .u64 B, .int .u64 C]), .ptr 0 0 0, .ptr 4 0 0] ⟨[(0, .var [.ptr 1 0 0]), (1, .var [.t (.int .i64 D), .t (.int .i64 E), .t (.int .i64 F), .t (.list 5 G H), .buf 2, .buf 3]), (2, .arr true 2 I J), (3, .arr true 1 K L), (4, .var [.buf 5]), (5, .arr true 1 M N)], []⟩ = R76 (WJ76_4 KJ76_4) A B C D E F G H I J K L M N := by kernel_rfl
theorem eq76 (A B C D E F : Int) (G : Bool) (H : List T) (I : Bool) (J : List T) (K : Bool) (L : List T) (M : Bool) (N : List T) : vr 76 0 [.t (.int .i64 A), .t (.agg [.int .u64 B, .int .u64 C]), .ptr 0 0 0, .ptr 4 0 0] ⟨[(0, .var [.ptr 1 0 0]), (1, .var [.t (.int .i64 D), .t (.int .i64 E), .t (.int .i64 F), .t (.list 5 G H), .buf 2, .buf 3]), (2, .arr true 2 I J), (3, .arr true 1 K L), (4, .var [.buf 5]), (5, .arr true 1 M N)], []⟩ = R76 J76_4 A B C D E F G H I J K L M N :=
 Eq.trans (call_eq Try.prog hint (fn := Try.f76) (nt := 48) (T := (Ta76 VJ76_4)) [PaJ76_4] rfl _ _ rfl rfl rfl rfl rfl) (eq76g VJ76_4 A B C D E F G H I J K L M N)
noncomputable def RJ76_4 (J76_4 : YJ76_4) (k0 A B C : Int) (D : Bool) (E : List T) (F : Bool) (G : List T) (H : Bool) (I : List T) (J : Bool) (K L : List T) : Option Res := consT (((L.drop 0).take 2)) fun a b => asI .u64 a fun c => consT b fun a d => asI .u64 a fun b => endT d <| needC (decide (0 ≤ k0) && decide (k0 < (I.length : Int))) fun _ => needC (H && true) fun _ => setT I ((k0).toNat) (.bool true) fun a => needC (decide (0 ≤ k0) && decide (k0 < (G.length : Int))) fun _ => needC (F && true) fun _ => setT G ((k0).toNat) (.agg [.int .u64 c, .int .u64 b]) fun d => needC (decide ((K.length + 1) * (8 + 1) ≤ 70368744177664) && decide (8 ≤ 1048576)) fun _ =>
 some ((.tup []), ⟨[(0, .var [.ptr 1 0 0]), (1, .var [.t (.int .i64 A), .t (.int .i64 B), .t (.int .i64 C), .t (.list 5 D E), .buf 2, .buf 3]), (2, .arr true 2 F d), (3, .arr true 1 H a), (4, .var [.buf 500]), (500, .arr true 1 (J || true) (K ++ ([.int .i64 k0] : List T)))], [500, 501, 502, 503, 504, 505]⟩)
theorem J76_4g (KJ76_4 : Env → St → Option Res) (k0 A B C : Int) (D : Bool) (E : List T) (F : Bool) (G : List T) (H : Bool) (I : List T) (J : Bool) (K L : List T) : WJ76_4 (fun e st => gP 76 0 48 Try.f76 (Ta76 KJ76_4) PaJ76_4 e st) k0 A B C D E F G H I J K L = RJ76_4 (WJ76_4 KJ76_4) k0 A B C D E F G H I J K L := by kernel_rfl
theorem J76_4_eq (k0 A B C : Int) (D : Bool) (E : List T) (F : Bool) (G : List T) (H : Bool) (I : List T) (J : Bool) (K L : List T) : J76_4 k0 A B C D E F G H I J K L = RJ76_4 J76_4 k0 A B C D E F G H I J K L :=
 (congrArg (fun k => WJ76_4 k k0 A B C D E F G H I J K L) (funext fun e => funext fun st => join_eq Try.prog hint (fn := Try.f76) (nt := 48) (T := (Ta76 VJ76_4)) [PaJ76_4] rfl PaJ76_4 e st rfl)).trans (J76_4g VJ76_4 k0 A B C D E F G H I J K L)
noncomputable def R56 (L56_5 : YL56_5) (J56_12 : YJ56_12) (L56_13 : YL56_13) (A B C : Int) (D : Bool) (E : List T) : Option Res := needC (decide (0 ≤ (E.length : Int)) && decide ((E.length : Int) ≤ (E.length : Int)) && decide ((E.length : Int) * (16 + 1) ≤ 70368744177664)) fun _ => needC (decide (0 ≤ (E.length : Int)) && decide ((E.length : Int) ≤ (E.length : Int)) && decide ((E.length : Int) * (1 + 1) ≤ 70368744177664)) fun _ => needC (decide (0 ≤ 0) && decide ((0 : Int) < (((List.replicate ((E.length : Int)).toNat ((.bool false) : T))).length : Int))) fun _ => setT ((List.replicate ((E.length : Int)).toNat ((.bool false) : T))) (((0 : Int)).toNat) (.bool true) fun a =>
 L56_5 (A) (B) (C) (D) (E) (A) (B) (C) (D) (E) (true) ((List.replicate ((E.length : Int)).toNat ((.agg [.int .u64 0, .int .u64 0]) : T))) (true) (a) (true) ([.int .i64 0])
theorem eq56g (KL56_5 KJ56_12 KL56_13 : Env → St → Option Res) (A B C : Int) (D : Bool) (E : List T) : gE 56 0 82 Try.f56 (Ta56 KL56_5 KJ56_12 KL56_13) [.t (.agg [.int .i64 A, .int .i64 B, .int .i64 C, .list 5 D E])] ⟨[], []⟩ = R56 (WL56_5 KL56_5) (WJ56_12 KJ56_12) (WL56_13 KL56_13) A B C D E := by kernel_rfl
theorem eq56 (A B C : Int) (D : Bool) (E : List T) : vr 56 0 [.t (.agg [.int .i64 A, .int .i64 B, .int .i64 C, .list 5 D E])] ⟨[], []⟩ = R56 L56_5 J56_12 L56_13 A B C D E :=
 Eq.trans (call_eq Try.prog hint (fn := Try.f56) (nt := 82) (T := (Ta56 VL56_5 VJ56_12 VL56_13)) [PaL56_5, PaJ56_12, PaL56_13] rfl _ _ rfl rfl rfl rfl rfl) (eq56g VL56_5 VJ56_12 VL56_13 A B C D E)
noncomputable def RL56_5 (L56_5 : YL56_5) (J56_12 : YJ56_12) (L56_13 : YL56_13) (A B C : Int) (D : Bool) (E : List T) (F G H : Int) (I : Bool) (J : List T) (K : Bool) (L : List T) (M : Bool) (N : List T) (O : Bool) (P : List T) : Option Res :=
(bif (decide (0 < (P.length : Int))) then
 needC (decide (0 ≤ (IntKind.i64.wrap ((P.length : Int) - 1))) && decide ((IntKind.i64.wrap ((P.length : Int) - 1)) < (P.length : Int))) fun _ => getT P (((IntKind.i64.wrap ((P.length : Int) - 1))).toNat) fun a => asI .i64 a fun b => cutN 1 O P none (some (IntKind.i64.wrap ((P.length : Int) - 1))) fun a => needC (decide (0 ≤ b) && decide (b < (L.length : Int))) fun _ => getT L ((b).toNat) fun c => asA c fun d => consT d fun c f => asI .u64 c fun d => consT f fun c g => asI .u64 c fun f => endT g <| needC (decide (0 ≤ b)) fun _ => getT E (b).toNat fun c => asA c fun g => consT g fun c h => asI .i64 c fun g =>
 consT h fun c i => asI .i64 c fun h => consT i fun c j => asI .i64 c fun i => consT j fun c k => asI .i64 c fun j => consT k fun c l => asI .i64 c fun k => endT l <| callK (vr 16 0 [.t (.agg [.int .i64 g, .int .i64 h, .int .i64 i, .int .i64 j, .int .i64 k])] ⟨[], []⟩) fun c l => asTup c fun g => consV g fun c h => asT c fun g => asI .i64 g fun c => consV h fun g i => asT g fun h => asB h fun g => endV i <| endB l <|
(bif g then
 callK (vr 78 0 [.t (.agg [.int .u64 d, .int .u64 f]), .t (.int .i64 c)] ⟨[], []⟩) fun g h => asT g fun c => asA c fun g => consT g fun c i => asI .u64 c fun g => consT i fun c j => asI .u64 c fun i => endT j <| endB h <| J56_12 (b) (A) (B) (C) (D) (E) (F) (G) (H) (I) (J) (K) (L) (M) (N) (true) (a) ([.int .u64 g, .int .u64 i])
else
 J56_12 (b) (A) (B) (C) (D) (E) (F) (G) (H) (I) (J) (K) (L) (M) (N) (true) (a) ([.int .u64 d, .int .u64 f]))
else
 some ((.ptr 500 0 0), ⟨[(500, .var [.t (.int .i64 F), .t (.int .i64 G), .t (.int .i64 H), .t (.list 5 I J), .buf 501, .buf 502]), (501, .arr true 2 K L), (502, .arr true 1 M N)], [500, 501, 502]⟩))
theorem L56_5g (KL56_5 KJ56_12 KL56_13 : Env → St → Option Res) (A B C : Int) (D : Bool) (E : List T) (F G H : Int) (I : Bool) (J : List T) (K : Bool) (L : List T) (M : Bool) (N : List T) (O : Bool) (P : List T) : WL56_5 (fun e st => gP 56 0 82 Try.f56 (Ta56 KL56_5 KJ56_12 KL56_13) (.lp :: PaL56_5) e st) A B C D E F G H I J K L M N O P = RL56_5 (WL56_5 KL56_5) (WJ56_12 KJ56_12) (WL56_13 KL56_13) A B C D E F G H I J K L M N O P := by kernel_rfl
theorem L56_5_eq (A B C : Int) (D : Bool) (E : List T) (F G H : Int) (I : Bool) (J : List T) (K : Bool) (L : List T) (M : Bool) (N : List T) (O : Bool) (P : List T) : L56_5 A B C D E F G H I J K L M N O P = RL56_5 L56_5 J56_12 L56_13 A B C D E F G H I J K L M N O P :=
 (congrArg (fun k => WL56_5 k A B C D E F G H I J K L M N O P) (funext fun e => funext fun st => round_eq Try.prog hint (b := (nav (List.reverse (.lp :: PaL56_5)) (bodyOf Try.f56))) (fn := Try.f56) (nt := 82) (T := (Ta56 VL56_5 VJ56_12 VL56_13)) [PaL56_5, PaJ56_12, PaL56_13] rfl PaL56_5 e st rfl rfl rfl)).trans (L56_5g VL56_5 VJ56_12 VL56_13 A B C D E F G H I J K L M N O P)
noncomputable def RJ56_12 (L56_5 : YL56_5) (J56_12 : YJ56_12) (L56_13 : YL56_13) (i6 A B C : Int) (D : Bool) (E : List T) (F G H : Int) (I : Bool) (J : List T) (K : Bool) (L : List T) (M : Bool) (N : List T) (O : Bool) (P Q : List T) : Option Res := needC (decide (0 ≤ i6)) fun _ => getT E (i6).toNat fun a => asA a fun b => consT b fun a c => asI .i64 a fun b => consT c fun a d => asI .i64 a fun c => consT d fun a f => asI .i64 a fun d => consT f fun a g => asI .i64 a fun f => consT g fun a h => asI .i64 a fun g => endT h <| callK (vr 11 0 [.t (.agg [.int .i64 b, .int .i64 c, .int .i64 d, .int .i64 f, .int .i64 g]), .t (.int .i64 i6)] ⟨[], []⟩) fun a h =>
 asT a fun b => asL 1 b fun a c => endB h <| L56_13 (a) (c) ((c.length : Int)) (0) (A) (B) (C) (D) (E) (F) (G) (H) (I) (J) (K) (L) (M) (N) (O) (P) (Q)
theorem J56_12g (KL56_5 KJ56_12 KL56_13 : Env → St → Option Res) (i6 A B C : Int) (D : Bool) (E : List T) (F G H : Int) (I : Bool) (J : List T) (K : Bool) (L : List T) (M : Bool) (N : List T) (O : Bool) (P Q : List T) : WJ56_12 (fun e st => gP 56 0 82 Try.f56 (Ta56 KL56_5 KJ56_12 KL56_13) PaJ56_12 e st) i6 A B C D E F G H I J K L M N O P Q = RJ56_12 (WL56_5 KL56_5) (WJ56_12 KJ56_12) (WL56_13 KL56_13) i6 A B C D E F G H I J K L M N O P Q := by kernel_rfl
theorem J56_12_eq (i6 A B C : Int) (D : Bool) (E : List T) (F G H : Int) (I : Bool) (J : List T) (K : Bool) (L : List T) (M : Bool) (N : List T) (O : Bool) (P Q : List T) : J56_12 i6 A B C D E F G H I J K L M N O P Q = RJ56_12 L56_5 J56_12 L56_13 i6 A B C D E F G H I J K L M N O P Q :=
 (congrArg (fun k => WJ56_12 k i6 A B C D E F G H I J K L M N O P Q) (funext fun e => funext fun st => join_eq Try.prog hint (fn := Try.f56) (nt := 82) (T := (Ta56 VL56_5 VJ56_12 VL56_13)) [PaL56_5, PaJ56_12, PaL56_13] rfl PaJ56_12 e st rfl)).trans (J56_12g VL56_5 VJ56_12 VL56_13 i6 A B C D E F G H I J K L M N O P Q)
noncomputable def RL56_13 (L56_5 : YL56_5) (J56_12 : YJ56_12) (L56_13 : YL56_13) (A : Bool) (B : List T) (C D E F G : Int) (H : Bool) (I : List T) (J K L : Int) (M : Bool) (N : List T) (O : Bool) (P : List T) (Q : Bool) (R : List T) (S : Bool) (U V : List T) : Option Res :=
(bif (decide (D < C)) then
 needC (decide (0 ≤ D)) fun _ => getT B (D).toNat fun a => asI .i64 a fun b => consT (((V.drop 0).take 2)) fun a c => asI .u64 a fun d => consT c fun a f => asI .u64 a fun c => endT f <| callK (vr 76 0 [.t (.int .i64 b), .t (.agg [.int .u64 d, .int .u64 c]), .ptr 0 0 0, .ptr 4 0 0] ⟨[(0, .var [.ptr 1 0 0]), (1, .var [.t (.int .i64 J), .t (.int .i64 K), .t (.int .i64 L), .t (.list 5 M N), .buf 2, .buf 3]), (2, .arr true 2 O P), (3, .arr true 1 Q R), (4, .var [.buf 5]), (5, .arr true 1 S U)], []⟩) fun a f =>
(bif fitsH (.tup []) [(0, .var [.ptr 1 0 0]), (1, .var [.t (.int .i64), .t (.int .i64), .t (.int .i64), .t (.list 5), .buf 2, .buf 3]), (2, .arr 2), (3, .arr 1), (4, .var [.buf 5]), (5, .arr 1)] a f then
 asTup a fun b => endV b <| consB 0 f fun b c => asVar b fun d => consV d fun b g => isPtr 1 0 0 b <| endV g <| consB 1 c fun b d => asVar b fun c => consV c fun b g => asT b fun c => asI .i64 c fun b => consV g fun c h => asT c fun g => asI .i64 g fun c => consV h fun g i => asT g fun h => asI .i64 h fun g => consV i fun h j => asT h fun i => asL 5 i fun h k => consV j fun i l => isBuf 2 i <| consV l fun i j => isBuf 3 i <| endV j <| consB 2 d fun i j => asArr 2 i fun d l => consB 3 j fun i m => asArr 1 i fun j n => consB 4 m fun i o => asVar i fun m => consV m fun i p => isBuf 5 i <| endV p <|
 consB 5 o fun i m => asArr 1 i fun o p => endB m <| L56_13 (A) (B) (C) ((IntKind.i64.wrap (D + 1))) (E) (F) (G) (H) (I) (b) (c) (g) (h) (k) (d) (l) (j) (n) (o) (p) (V)
else
 asTup a fun b => endV b <| consB 0 f fun a b => asVar a fun c => consV c fun a d => isPtr 1 0 0 a <| endV d <| consB 1 b fun a c => asVar a fun b => consV b fun a d => asT a fun b => asI .i64 b fun a => consV d fun b f => asT b fun d => asI .i64 d fun b => consV f fun d g => asT d fun f => asI .i64 f fun d => consV g fun f h => asT f fun g => asL 5 g fun f i => consV h fun g j => isBuf 2 g <| consV j fun g h => isBuf 3 g <| endV h <| consB 2 c fun g h => asArr 2 g fun c j => consB 3 h fun g k => asArr 1 g fun h l => consB 4 k fun g m => asVar g fun k => consV k fun g n => isBuf 500 g <| endV n <|
 consB 500 m fun g k => asArr 1 g fun m n => endB k <| L56_13 (A) (B) (C) ((IntKind.i64.wrap (D + 1))) (E) (F) (G) (H) (I) (a) (b) (d) (f) (i) (c) (j) (h) (l) (m) (n) (V))
else
 L56_5 (E) (F) (G) (H) (I) (J) (K) (L) (M) (N) (O) (P) (Q) (R) (S) (U))
theorem L56_13g (KL56_5 KJ56_12 KL56_13 : Env → St → Option Res) (A : Bool) (B : List T) (C D E F G : Int) (H : Bool) (I : List T) (J K L : Int) (M : Bool) (N : List T) (O : Bool) (P : List T) (Q : Bool) (R : List T) (S : Bool) (U V : List T) : WL56_13 (fun e st => gP 56 0 82 Try.f56 (Ta56 KL56_5 KJ56_12 KL56_13) (.lp :: PaL56_13) e st) A B C D E F G H I J K L M N O P Q R S U V = RL56_13 (WL56_5 KL56_5) (WJ56_12 KJ56_12) (WL56_13 KL56_13) A B C D E F G H I J K L M N O P Q R S U V := by kernel_rfl
theorem L56_13_eq (A : Bool) (B : List T) (C D E F G : Int) (H : Bool) (I : List T) (J K L : Int) (M : Bool) (N : List T) (O : Bool) (P : List T) (Q : Bool) (R : List T) (S : Bool) (U V : List T) : L56_13 A B C D E F G H I J K L M N O P Q R S U V = RL56_13 L56_5 J56_12 L56_13 A B C D E F G H I J K L M N O P Q R S U V :=
 (congrArg (fun k => WL56_13 k A B C D E F G H I J K L M N O P Q R S U V) (funext fun e => funext fun st => round_eq Try.prog hint (b := (nav (List.reverse (.lp :: PaL56_13)) (bodyOf Try.f56))) (fn := Try.f56) (nt := 82) (T := (Ta56 VL56_5 VJ56_12 VL56_13)) [PaL56_5, PaJ56_12, PaL56_13] rfl PaL56_13 e st rfl rfl rfl)).trans (L56_13g VL56_5 VJ56_12 VL56_13 A B C D E F G H I J K L M N O P Q R S U V)
noncomputable def R33  (A B C : Int) (D : Bool) (E : List T) : Option Res := callK (vr 18 0 [.t (.agg [.int .i64 A, .int .i64 B, .int .i64 C, .list 5 D E])] ⟨[], []⟩) fun a b => asT a fun c => asI .i64 c fun a => endB b <|
(bif (!decide (a = 0)) then
 some ((.tup [.con (.pointer none), .t (.int .i64 a)]), ⟨[], []⟩)
else
 callK (vr 56 0 [.t (.agg [.int .i64 A, .int .i64 B, .int .i64 C, .list 5 D E])] ⟨[], []⟩) fun a b => isPtr 500 0 0 a <| consB 500 b fun a c => asVar a fun b => consV b fun a d => asT a fun b => asI .i64 b fun a => consV d fun b f => asT b fun d => asI .i64 d fun b => consV f fun d g => asT d fun f => asI .i64 f fun d => consV g fun f h => asT f fun g => asL 5 g fun f i => consV h fun g j => isBuf 501 g <| consV j fun g h => isBuf 502 g <| endV h <| consB 501 c fun g h => asArr 2 g fun c j => consB 502 h fun g k => asArr 1 g fun h l => endB k <| some ((.tup [.ptr 500 0 0, .t (.int .i64 0)]), ⟨[(500, .var [.t (.int .i64 a), .t (.int .i64 b), .t (.int .i64 d), .t (.list 5 f i), .buf 501, .buf 502]), (501, .arr true 2 c j), (502, .arr true 1 h l)], [500, 501, 502]⟩))
theorem eq33g  (A B C : Int) (D : Bool) (E : List T) : gE 33 0 12 Try.f33 [] [.t (.agg [.int .i64 A, .int .i64 B, .int .i64 C, .list 5 D E])] ⟨[], []⟩ = R33  A B C D E := by kernel_rfl
theorem eq33 (A B C : Int) (D : Bool) (E : List T) : vr 33 0 [.t (.agg [.int .i64 A, .int .i64 B, .int .i64 C, .list 5 D E])] ⟨[], []⟩ = R33  A B C D E :=
 Eq.trans (call_eq Try.prog hint (fn := Try.f33) (nt := 12) (T := []) [] rfl _ _ rfl rfl rfl rfl rfl) (eq33g  A B C D E)
noncomputable def R15  (A B C D E : Int) : Option Res := callK (vr 38 0 [.t (.int .i64 A)] ⟨[], []⟩) fun a b => asTup a fun c => consV c fun a d => asT a fun c => asA c fun a => consT a fun c f => asS c fun a => consT f fun a c => asI .i64 a fun f => consT c fun a g => asI .i64 a fun c => consT g fun a h => asI .i64 a fun g => endT h <| consV d fun a h => asT a fun d => asB d fun a => endV h <| endB b <| callK (vr 42 0 [.ptr 0 0 0] ⟨[(0, .var [.t (.int .i64 A), .t (.int .i64 B), .t (.int .i64 C), .t (.int .i64 D), .t (.int .i64 E)])], []⟩) fun a b => asG a fun d => consV d fun a h => isPtr 0 0 1 a <|
 consV h fun a d => isPtr 0 0 2 a <| consV d fun a h => isPtr 0 0 3 a <| endV h <| consB 0 b fun a d => asVar a fun b => consV b fun a h => asT a fun b => asI .i64 b fun a => consV h fun a b => asT a fun h => asI .i64 h fun a => consV b fun h i => asT h fun b => asI .i64 b fun h => consV i fun b j => asT b fun i => asI .i64 i fun b => consV j fun i k => asT i fun j => asI .i64 j fun i => endV k <| endB d <|
(bif (decide (f = 2)) then
(bif (decide (c = 2)) then
(bif (decide (g = 2)) then
 some ((.t (.list 1 true [.int .i64 a, .int .i64 h, .int .i64 b])), ⟨[], []⟩)
else
 some ((.t (.list 1 true [.int .i64 a, .int .i64 h])), ⟨[], []⟩))
else
(bif (decide (g = 2)) then
 some ((.t (.list 1 true [.int .i64 a, .int .i64 b])), ⟨[], []⟩)
else
 some ((.t (.list 1 true [.int .i64 a])), ⟨[], []⟩)))
else
(bif (decide (c = 2)) then
(bif (decide (g = 2)) then
 some ((.t (.list 1 true [.int .i64 h, .int .i64 b])), ⟨[], []⟩)
else
 some ((.t (.list 1 true [.int .i64 h])), ⟨[], []⟩))
else
(bif (decide (g = 2)) then
 some ((.t (.list 1 true [.int .i64 b])), ⟨[], []⟩)
else
 some ((.t (.list 1 false [])), ⟨[], []⟩))))
theorem eq15g  (A B C D E : Int) : gE 15 0 31 Try.f15 [] [.t (.agg [.int .i64 A, .int .i64 B, .int .i64 C, .int .i64 D, .int .i64 E])] ⟨[], []⟩ = R15  A B C D E := by kernel_rfl
theorem eq15 (A B C D E : Int) : vr 15 0 [.t (.agg [.int .i64 A, .int .i64 B, .int .i64 C, .int .i64 D, .int .i64 E])] ⟨[], []⟩ = R15  A B C D E :=
 Eq.trans (call_eq Try.prog hint (fn := Try.f15) (nt := 31) (T := []) [] rfl _ _ rfl rfl rfl rfl rfl) (eq15g  A B C D E)
noncomputable def R39  (A B C : Int) : Option Res := needC (decide (0 ≤ (shrI .i64 C 6)) && decide ((shrI .i64 C 6) < (2 : Int))) fun _ => getT ([.int .u64 A, .int .u64 B]) ((0 + ((shrI .i64 C 6)).toNat * 1)) fun a => asI .u64 a fun b => needC (decide (0 ≤ (bitsI .and .i64 C 63))) fun _ => some ((.t (.bool (decide ((bitsI .and .u64 (shrI .u64 b (bitsI .and .i64 C 63)) 1) = 1)))), ⟨[], []⟩)
theorem eq39g  (A B C : Int) : gE 39 0 14 Try.f39 [] [.t (.agg [.int .u64 A, .int .u64 B]), .t (.int .i64 C)] ⟨[], []⟩ = R39  A B C := by kernel_rfl
theorem eq39 (A B C : Int) : vr 39 0 [.t (.agg [.int .u64 A, .int .u64 B]), .t (.int .i64 C)] ⟨[], []⟩ = R39  A B C :=
 Eq.trans (call_eq Try.prog hint (fn := Try.f39) (nt := 14) (T := []) [] rfl _ _ rfl rfl rfl rfl rfl) (eq39g  A B C)
noncomputable def R62  (A B C D : Int) (E : Bool) (F : List T) (G : Bool) (H : List T) (I : Bool) (J : List T) (K : Int) : Option Res := needC (decide (0 ≤ K) && decide (K < (H.length : Int))) fun _ => getT H ((K).toNat) fun a => asA a fun b => consT b fun a c => asI .u64 a fun b => consT c fun a d => asI .u64 a fun c => endT d <| callK (vr 39 0 [.t (.agg [.int .u64 b, .int .u64 c]), .t (.int .i64 A)] ⟨[], []⟩) fun a d => asT a fun b => asB b fun a => endB d <| some ((.t (.bool (!a))), (Z3 B C D E F G H I J K))
theorem eq62g  (A B C D : Int) (E : Bool) (F : List T) (G : Bool) (H : List T) (I : Bool) (J : List T) (K : Int) : gE 62 0 15 Try.f62 [] [.t (.int .i64 A), .ptr 0 0 0, .ptr 4 0 0] ⟨[(0, .var [.ptr 1 0 0]), (1, .var [.t (.int .i64 B), .t (.int .i64 C), .t (.int .i64 D), .t (.list 5 E F), .buf 2, .buf 3]), (2, .arr true 2 G H), (3, .arr true 1 I J), (4, .var [.t (.int .i64 K)])], []⟩ = R62  A B C D E F G H I J K := by kernel_rfl
theorem eq62 (A B C D : Int) (E : Bool) (F : List T) (G : Bool) (H : List T) (I : Bool) (J : List T) (K : Int) : vr 62 0 [.t (.int .i64 A), .ptr 0 0 0, .ptr 4 0 0] ⟨[(0, .var [.ptr 1 0 0]), (1, .var [.t (.int .i64 B), .t (.int .i64 C), .t (.int .i64 D), .t (.list 5 E F), .buf 2, .buf 3]), (2, .arr true 2 G H), (3, .arr true 1 I J), (4, .var [.t (.int .i64 K)])], []⟩ = R62  A B C D E F G H I J K :=
 Eq.trans (call_eq Try.prog hint (fn := Try.f62) (nt := 15) (T := []) [] rfl _ _ rfl rfl rfl rfl rfl) (eq62g  A B C D E F G H I J K)
noncomputable def R57 (L57_2 : YL57_2) (A : Bool) (B : List T) (C D E : Int) (F : Bool) (G : List T) (H : Bool) (I : List T) (J : Bool) (K : List T) (L : Int) : Option Res := L57_2 (A) (B) ((B.length : Int)) (0) (C) (D) (E) (F) (G) (H) (I) (J) (K) (L)
theorem eq57g (KL57_2 : Env → St → Option Res) (A : Bool) (B : List T) (C D E : Int) (F : Bool) (G : List T) (H : Bool) (I : List T) (J : Bool) (K : List T) (L : Int) : gE 57 0 19 Try.f57 (Ta57 KL57_2) [.t (.list 1 A B), .fn 62 [] [.ptr 0 0 0, .ptr 4 0 0]] ⟨[(0, .var [.ptr 1 0 0]), (1, .var [.t (.int .i64 C), .t (.int .i64 D), .t (.int .i64 E), .t (.list 5 F G), .buf 2, .buf 3]), (2, .arr true 2 H I), (3, .arr true 1 J K), (4, .var [.t (.int .i64 L)])], []⟩ = R57 (WL57_2 KL57_2) A B C D E F G H I J K L := by kernel_rfl
theorem eq57 (A : Bool) (B : List T) (C D E : Int) (F : Bool) (G : List T) (H : Bool) (I : List T) (J : Bool) (K : List T) (L : Int) : vr 57 0 [.t (.list 1 A B), .fn 62 [] [.ptr 0 0 0, .ptr 4 0 0]] ⟨[(0, .var [.ptr 1 0 0]), (1, .var [.t (.int .i64 C), .t (.int .i64 D), .t (.int .i64 E), .t (.list 5 F G), .buf 2, .buf 3]), (2, .arr true 2 H I), (3, .arr true 1 J K), (4, .var [.t (.int .i64 L)])], []⟩ = R57 L57_2 A B C D E F G H I J K L :=
 Eq.trans (call_eq Try.prog hint (fn := Try.f57) (nt := 19) (T := (Ta57 VL57_2)) [PaL57_2] rfl _ _ rfl rfl rfl rfl rfl) (eq57g VL57_2 A B C D E F G H I J K L)
noncomputable def RL57_2 (L57_2 : YL57_2) (s0z : Bool) (s0 : List T) (A B C D E : Int) (F : Bool) (G : List T) (H : Bool) (I : List T) (J : Bool) (K : List T) (L : Int) : Option Res :=
(bif (decide (B < A)) then
 needC (decide (0 ≤ B)) fun _ => getT s0 (B).toNat fun a => asI .i64 a fun b => callK (vr 62 0 [.t (.int .i64 b), .ptr 0 0 0, .ptr 4 0 0] (Z4 C D E F G H I J K L)) fun a c => asT a fun b => asB b fun a => consB 0 c fun b d => asVar b fun c => consV c fun b f => isPtr 1 0 0 b <| endV f <| consB 1 d fun b c => asVar b fun d => consV d fun b f => asT b fun d => asI .i64 d fun b => consV f fun d g => asT d fun f => asI .i64 f fun d => consV g fun f h => asT f fun g => asI .i64 g fun f => consV h fun g i => asT g fun h => asL 5 h fun g j => consV i fun h k => isBuf 2 h <| consV k fun h i => isBuf 3 h <|
 endV i <| consB 2 c fun h i => asArr 2 h fun c k => consB 3 i fun h l => asArr 1 h fun i m => consB 4 l fun h n => asVar h fun l => consV l fun h o => asT h fun l => asI .i64 l fun h => endV o <| endB n <|
(bif a then
 some ((.t (.int .i64 B)), (Z3 b d f g j c k i m h))
else
 L57_2 (s0z) (s0) (A) ((IntKind.i64.wrap (B + 1))) (b) (d) (f) (g) (j) (c) (k) (i) (m) (h))
else
 some ((.t (.int .i64 (-1))), (Z3 C D E F G H I J K L)))
theorem L57_2g (KL57_2 : Env → St → Option Res) (s0z : Bool) (s0 : List T) (A B C D E : Int) (F : Bool) (G : List T) (H : Bool) (I : List T) (J : Bool) (K : List T) (L : Int) : WL57_2 (fun e st => gP 57 0 19 Try.f57 (Ta57 KL57_2) (.lp :: PaL57_2) e st) s0z s0 A B C D E F G H I J K L = RL57_2 (WL57_2 KL57_2) s0z s0 A B C D E F G H I J K L := by kernel_rfl
theorem L57_2_eq (s0z : Bool) (s0 : List T) (A B C D E : Int) (F : Bool) (G : List T) (H : Bool) (I : List T) (J : Bool) (K : List T) (L : Int) : L57_2 s0z s0 A B C D E F G H I J K L = RL57_2 L57_2 s0z s0 A B C D E F G H I J K L :=
 (congrArg (fun k => WL57_2 k s0z s0 A B C D E F G H I J K L) (funext fun e => funext fun st => round_eq Try.prog hint (b := (nav (List.reverse (.lp :: PaL57_2)) (bodyOf Try.f57))) (fn := Try.f57) (nt := 19) (T := (Ta57 VL57_2)) [PaL57_2] rfl PaL57_2 e st rfl rfl rfl)).trans (L57_2g VL57_2 s0z s0 A B C D E F G H I J K L)
noncomputable def R36  (A : Bool) (B : List T) (C D E : Int) (F : Bool) (G : List T) (H : Bool) (I : List T) (J : Bool) (K : List T) (L : Int) : Option Res := callK (vr 57 0 [.t (.list 1 A B), .fn 62 [] [.ptr 0 0 0, .ptr 4 0 0]] (Z4 C D E F G H I J K L)) fun a b => asT a fun c => asI .i64 c fun a => consB 0 b fun c d => asVar c fun b => consV b fun c f => isPtr 1 0 0 c <| endV f <| consB 1 d fun b c => asVar b fun d => consV d fun b f => asT b fun d => asI .i64 d fun b => consV f fun d g => asT d fun f => asI .i64 f fun d => consV g fun f h => asT f fun g => asI .i64 g fun f => consV h fun g i =>
 asT g fun h => asL 5 h fun g j => consV i fun h k => isBuf 2 h <| consV k fun h i => isBuf 3 h <| endV i <| consB 2 c fun h i => asArr 2 h fun c k => consB 3 i fun h l => asArr 1 h fun i m => consB 4 l fun h n => asVar h fun l => consV l fun h o => asT h fun l => asI .i64 l fun h => endV o <| endB n <| some ((.t (.bool (decide (0 ≤ a)))), (Z3 b d f g j c k i m h))
theorem eq36g  (A : Bool) (B : List T) (C D E : Int) (F : Bool) (G : List T) (H : Bool) (I : List T) (J : Bool) (K : List T) (L : Int) : gE 36 0 9 Try.f36 [] [.t (.list 1 A B), .fn 62 [] [.ptr 0 0 0, .ptr 4 0 0]] ⟨[(0, .var [.ptr 1 0 0]), (1, .var [.t (.int .i64 C), .t (.int .i64 D), .t (.int .i64 E), .t (.list 5 F G), .buf 2, .buf 3]), (2, .arr true 2 H I), (3, .arr true 1 J K), (4, .var [.t (.int .i64 L)])], []⟩ = R36  A B C D E F G H I J K L := by kernel_rfl
theorem eq36 (A : Bool) (B : List T) (C D E : Int) (F : Bool) (G : List T) (H : Bool) (I : List T) (J : Bool) (K : List T) (L : Int) : vr 36 0 [.t (.list 1 A B), .fn 62 [] [.ptr 0 0 0, .ptr 4 0 0]] ⟨[(0, .var [.ptr 1 0 0]), (1, .var [.t (.int .i64 C), .t (.int .i64 D), .t (.int .i64 E), .t (.list 5 F G), .buf 2, .buf 3]), (2, .arr true 2 H I), (3, .arr true 1 J K), (4, .var [.t (.int .i64 L)])], []⟩ = R36  A B C D E F G H I J K L :=
 Eq.trans (call_eq Try.prog hint (fn := Try.f36) (nt := 9) (T := []) [] rfl _ _ rfl rfl rfl rfl rfl) (eq36g  A B C D E F G H I J K L)
noncomputable def R48  (A B C D E F G H I : Int) (J : Bool) (K : List T) (L : Bool) (M : List T) (N : Bool) (O : List T) : Option Res := callK (vr 15 0 [.t (.agg [.int .i64 B, .int .i64 C, .int .i64 D, .int .i64 E, .int .i64 F])] ⟨[], []⟩) fun a b => asT a fun c => asL 1 c fun a d => endB b <| callK (vr 36 0 [.t (.list 1 a d), .fn 62 [] [.ptr 0 0 0, .ptr 4 0 0]] (Z4 G H I J K L M N O A)) fun b c => asT b fun a => asB a fun b => consB 0 c fun a d => asVar a fun c => consV c fun a f => isPtr 1 0 0 a <| endV f <| consB 1 d fun a c => asVar a fun d => consV d fun a f => asT a fun d => asI .i64 d fun a =>
 consV f fun d g => asT d fun f => asI .i64 f fun d => consV g fun f h => asT f fun g => asI .i64 g fun f => consV h fun g i => asT g fun h => asL 5 h fun g j => consV i fun h k => isBuf 2 h <| consV k fun h i => isBuf 3 h <| endV i <| consB 2 c fun h i => asArr 2 h fun c k => consB 3 i fun h l => asArr 1 h fun i m => consB 4 l fun h n => asVar h fun l => consV l fun h o => asT h fun l => asI .i64 l fun h => endV o <| endB n <| some ((.t (.bool b)), (Z5 a d f g j c k i m))
theorem eq48g  (A B C D E F G H I : Int) (J : Bool) (K : List T) (L : Bool) (M : List T) (N : Bool) (O : List T) : gE 48 0 11 Try.f48 [] [.ptr 0 0 0, .t (.int .i64 A), .t (.agg [.int .i64 B, .int .i64 C, .int .i64 D, .int .i64 E, .int .i64 F])] ⟨[(0, .var [.t (.int .i64 G), .t (.int .i64 H), .t (.int .i64 I), .t (.list 5 J K), .buf 1, .buf 2]), (1, .arr true 2 L M), (2, .arr true 1 N O)], []⟩ = R48  A B C D E F G H I J K L M N O := by kernel_rfl
theorem eq48 (A B C D E F G H I : Int) (J : Bool) (K : List T) (L : Bool) (M : List T) (N : Bool) (O : List T) : vr 48 0 [.ptr 0 0 0, .t (.int .i64 A), .t (.agg [.int .i64 B, .int .i64 C, .int .i64 D, .int .i64 E, .int .i64 F])] ⟨[(0, .var [.t (.int .i64 G), .t (.int .i64 H), .t (.int .i64 I), .t (.list 5 J K), .buf 1, .buf 2]), (1, .arr true 2 L M), (2, .arr true 1 N O)], []⟩ = R48  A B C D E F G H I J K L M N O :=
 Eq.trans (call_eq Try.prog hint (fn := Try.f48) (nt := 11) (T := []) [] rfl _ _ rfl rfl rfl rfl rfl) (eq48g  A B C D E F G H I J K L M N O)
noncomputable def R34 (L34_2 : YL34_2) (A B C : Int) (D : Bool) (E : List T) (F : Bool) (G : List T) (H : Bool) (I : List T) : Option Res := L34_2 (D) (E) ((E.length : Int)) (0) (A) (B) (C) (D) (E) (F) (G) (H) (I) (false) ([])
theorem eq34g (KL34_2 : Env → St → Option Res) (A B C : Int) (D : Bool) (E : List T) (F : Bool) (G : List T) (H : Bool) (I : List T) : gE 34 0 37 Try.f34 (Ta34 KL34_2) [.ptr 0 0 0, .fn 48 [.ptr 0 0 0] []] ⟨[(0, .var [.t (.int .i64 A), .t (.int .i64 B), .t (.int .i64 C), .t (.list 5 D E), .buf 1, .buf 2]), (1, .arr true 2 F G), (2, .arr true 1 H I)], []⟩ = R34 (WL34_2 KL34_2) A B C D E F G H I := by kernel_rfl
theorem eq34 (A B C : Int) (D : Bool) (E : List T) (F : Bool) (G : List T) (H : Bool) (I : List T) : vr 34 0 [.ptr 0 0 0, .fn 48 [.ptr 0 0 0] []] ⟨[(0, .var [.t (.int .i64 A), .t (.int .i64 B), .t (.int .i64 C), .t (.list 5 D E), .buf 1, .buf 2]), (1, .arr true 2 F G), (2, .arr true 1 H I)], []⟩ = R34 L34_2 A B C D E F G H I :=
 Eq.trans (call_eq Try.prog hint (fn := Try.f34) (nt := 37) (T := (Ta34 VL34_2)) [PaL34_2] rfl _ _ rfl rfl rfl rfl rfl) (eq34g VL34_2 A B C D E F G H I)
noncomputable def RL34_2 (L34_2 : YL34_2) (A : Bool) (B : List T) (C D E F G : Int) (H : Bool) (I : List T) (J : Bool) (K : List T) (L : Bool) (M : List T) (N : Bool) (O : List T) : Option Res :=
(bif (decide (D < C)) then
 needC (decide (0 ≤ D)) fun _ => getT B (D).toNat fun a => asA a fun b => consT b fun a c => asI .i64 a fun b => consT c fun a d => asI .i64 a fun c => consT d fun a f => asI .i64 a fun d => consT f fun a g => asI .i64 a fun f => consT g fun a h => asI .i64 a fun g => endT h <| needC (decide (0 ≤ D) && decide (D < (M.length : Int))) fun _ => getT M ((D).toNat) fun a => asB a fun h =>
(bif h then
 callK (vr 48 0 [.ptr 0 0 0, .t (.int .i64 D), .t (.agg [.int .i64 b, .int .i64 c, .int .i64 d, .int .i64 f, .int .i64 g])] ⟨[(0, .var [.t (.int .i64 E), .t (.int .i64 F), .t (.int .i64 G), .t (.list 5 H I), .buf 1, .buf 2]), (1, .arr true 2 J K), (2, .arr true 1 L M)], []⟩) fun a h => asT a fun b => asB b fun a => consB 0 h fun b c => asVar b fun d => consV d fun b f => asT b fun d => asI .i64 d fun b => consV f fun d g => asT d fun f => asI .i64 f fun d => consV g fun f h => asT f fun g => asI .i64 g fun f => consV h fun g i => asT g fun h => asL 5 h fun g j => consV i fun h k => isBuf 1 h <|
 consV k fun h i => isBuf 2 h <| endV i <| consB 1 c fun h i => asArr 2 h fun c k => consB 2 i fun h l => asArr 1 h fun i m => endB l <|
(bif a then
 needC (decide ((O.length + 1) * (8 + 1) ≤ 70368744177664) && decide (8 ≤ 1048576)) fun _ => L34_2 (A) (B) (C) ((IntKind.i64.wrap (D + 1))) (b) (d) (f) (g) (j) (c) (k) (i) (m) ((N || true)) ((O ++ ([.int .i64 D] : List T)))
else
 L34_2 (A) (B) (C) ((IntKind.i64.wrap (D + 1))) (b) (d) (f) (g) (j) (c) (k) (i) (m) (N) (O))
else
 L34_2 (A) (B) (C) ((IntKind.i64.wrap (D + 1))) (E) (F) (G) (H) (I) (J) (K) (L) (M) (N) (O))
else
 some ((.t (.list 1 N O)), (Z5 E F G H I J K L M)))
theorem L34_2g (KL34_2 : Env → St → Option Res) (A : Bool) (B : List T) (C D E F G : Int) (H : Bool) (I : List T) (J : Bool) (K : List T) (L : Bool) (M : List T) (N : Bool) (O : List T) : WL34_2 (fun e st => gP 34 0 37 Try.f34 (Ta34 KL34_2) (.lp :: PaL34_2) e st) A B C D E F G H I J K L M N O = RL34_2 (WL34_2 KL34_2) A B C D E F G H I J K L M N O := by kernel_rfl
theorem L34_2_eq (A : Bool) (B : List T) (C D E F G : Int) (H : Bool) (I : List T) (J : Bool) (K : List T) (L : Bool) (M : List T) (N : Bool) (O : List T) : L34_2 A B C D E F G H I J K L M N O = RL34_2 L34_2 A B C D E F G H I J K L M N O :=
 (congrArg (fun k => WL34_2 k A B C D E F G H I J K L M N O) (funext fun e => funext fun st => round_eq Try.prog hint (b := (nav (List.reverse (.lp :: PaL34_2)) (bodyOf Try.f34))) (fn := Try.f34) (nt := 37) (T := (Ta34 VL34_2)) [PaL34_2] rfl PaL34_2 e st rfl rfl rfl)).trans (L34_2g VL34_2 A B C D E F G H I J K L M N O)
noncomputable def R25  (A B C : Int) (D : Bool) (E : List T) : Option Res := callK (vr 33 0 [.t (.agg [.int .i64 A, .int .i64 B, .int .i64 C, .list 5 D E])] ⟨[], []⟩) fun a b =>
(bif fitsH (.tup [.nilp, .t (.one (.int .i64))]) [] a b then
 asTup a fun c => consV c fun d f => isNil d <| consV f fun c d => asT c fun f => asI .i64 f fun c => endV d <| endB b <|
(bif (!decide (c = 0)) then
 some ((.tup [.t (.list 1 false []), .t (.int .i64 c)]), ⟨[], []⟩)
else
 callK (vr 34 0 [.con (.pointer none), .fn 48 [.con (.pointer none)] []] ⟨[], []⟩) fun c d => asT c fun f => asL 1 f fun c g => consB 0 d fun f h => asVar f fun d => consV d fun f i => asT f fun d => asI .i64 d fun f => consV i fun d f => asT d fun i => asI .i64 i fun d => consV f fun d i => asT d fun f => asI .i64 f fun d => consV i fun d f => asT d fun i => asL 5 i fun d j => consV f fun d i => isBuf 1 d <| consV i fun d f => isBuf 2 d <| endV f <| consB 1 h fun d f => asArr 2 d fun h i => consB 2 f fun d h => asArr 1 d fun f i => endB h <| some ((.tup [.t (.list 1 c g), .t (.int .i64 0)]), ⟨[], []⟩))
else
 asTup a fun c => consV c fun a d => isPtr 500 0 0 a <| consV d fun a c => asT a fun d => asI .i64 d fun a => endV c <| consB 500 b fun c d => asVar c fun b => consV b fun c f => asT c fun b => asI .i64 b fun c => consV f fun b g => asT b fun f => asI .i64 f fun b => consV g fun f h => asT f fun g => asI .i64 g fun f => consV h fun g i => asT g fun h => asL 5 h fun g j => consV i fun h k => isBuf 501 h <| consV k fun h i => isBuf 502 h <| endV i <| consB 501 d fun h i => asArr 2 h fun d k => consB 502 i fun h l => asArr 1 h fun i m => endB l <|
(bif (!decide (a = 0)) then
 some ((.tup [.t (.list 1 false []), .t (.int .i64 a)]), ⟨[], []⟩)
else
 callK (vr 34 0 [.ptr 0 0 0, .fn 48 [.ptr 0 0 0] []] ⟨[(0, .var [.t (.int .i64 c), .t (.int .i64 b), .t (.int .i64 f), .t (.list 5 g j), .buf 1, .buf 2]), (1, .arr true 2 d k), (2, .arr true 1 i m)], []⟩) fun a h => asT a fun b => asL 1 b fun a c => consB 0 h fun b d => asVar b fun f => consV f fun b g => asT b fun f => asI .i64 f fun b => consV g fun b f => asT b fun g => asI .i64 g fun b => consV f fun b g => asT b fun f => asI .i64 f fun b => consV g fun b f => asT b fun g => asL 5 g fun b h => consV f fun b g => isBuf 1 b <| consV g fun b f => isBuf 2 b <| endV f <| consB 1 d fun b f => asArr 2 b fun d g =>
 consB 2 f fun b d => asArr 1 b fun f g => endB d <| some ((.tup [.t (.list 1 a c), .t (.int .i64 0)]), ⟨[], []⟩)))
theorem eq25g  (A B C : Int) (D : Bool) (E : List T) : gE 25 0 18 Try.f25 [] [.t (.agg [.int .i64 A, .int .i64 B, .int .i64 C, .list 5 D E])] ⟨[], []⟩ = R25  A B C D E := by kernel_rfl
theorem eq25 (A B C : Int) (D : Bool) (E : List T) : vr 25 0 [.t (.agg [.int .i64 A, .int .i64 B, .int .i64 C, .list 5 D E])] ⟨[], []⟩ = R25  A B C D E :=
 Eq.trans (call_eq Try.prog hint (fn := Try.f25) (nt := 18) (T := []) [] rfl _ _ rfl rfl rfl rfl rfl) (eq25g  A B C D E)
noncomputable def R20 (L20_4 : YL20_4) (A : Bool) (B : List T) (C : Bool) (D : List T) : Option Res :=
(bif (!decide ((B.length : Int) = (D.length : Int))) then
 some ((.t (.bool false)), ⟨[], []⟩)
else
 L20_4 (A) (B) (C) (D) ((B.length : Int)) (0))
theorem eq20g (KL20_4 : Env → St → Option Res) (A : Bool) (B : List T) (C : Bool) (D : List T) : gE 20 0 26 Try.f20 (Ta20 KL20_4) [.t (.list 1 A B), .t (.list 1 C D)] ⟨[], []⟩ = R20 (WL20_4 KL20_4) A B C D := by kernel_rfl
theorem eq20 (A : Bool) (B : List T) (C : Bool) (D : List T) : vr 20 0 [.t (.list 1 A B), .t (.list 1 C D)] ⟨[], []⟩ = R20 L20_4 A B C D :=
 Eq.trans (call_eq Try.prog hint (fn := Try.f20) (nt := 26) (T := (Ta20 VL20_4)) [PaL20_4] rfl _ _ rfl rfl rfl rfl rfl) (eq20g VL20_4 A B C D)
noncomputable def RL20_4 (L20_4 : YL20_4) (A : Bool) (B : List T) (b1z : Bool) (b1 : List T) (C D : Int) : Option Res :=
(bif (decide (D < C)) then
 needC (decide (0 ≤ D)) fun _ => getT B (D).toNat fun a => asI .i64 a fun b => needC (decide (0 ≤ D)) fun _ => getT b1 (D).toNat fun a => asI .i64 a fun c =>
(bif (!decide (b = c)) then
 some ((.t (.bool false)), ⟨[], []⟩)
else
 L20_4 (A) (B) (b1z) (b1) (C) ((IntKind.i64.wrap (D + 1))))
else
 some ((.t (.bool true)), ⟨[], []⟩))
theorem L20_4g (KL20_4 : Env → St → Option Res) (A : Bool) (B : List T) (b1z : Bool) (b1 : List T) (C D : Int) : WL20_4 (fun e st => gP 20 0 26 Try.f20 (Ta20 KL20_4) (.lp :: PaL20_4) e st) A B b1z b1 C D = RL20_4 (WL20_4 KL20_4) A B b1z b1 C D := by kernel_rfl
theorem L20_4_eq (A : Bool) (B : List T) (b1z : Bool) (b1 : List T) (C D : Int) : L20_4 A B b1z b1 C D = RL20_4 L20_4 A B b1z b1 C D :=
 (congrArg (fun k => WL20_4 k A B b1z b1 C D) (funext fun e => funext fun st => round_eq Try.prog hint (b := (nav (List.reverse (.lp :: PaL20_4)) (bodyOf Try.f20))) (fn := Try.f20) (nt := 26) (T := (Ta20 VL20_4)) [PaL20_4] rfl PaL20_4 e st rfl rfl rfl)).trans (L20_4g VL20_4 A B b1z b1 C D)
noncomputable def R41  (A B C D E F G H : Int) (I : Bool) (J : List T) : Option Res :=
(bif (decide (A = 7)) then
 some ((.t (.bool (decide (B < H)))), (Z1 F G H I J))
else
(bif (decide (A = 9)) then
 some ((.t (.bool (decide (B < H)))), (Z1 F G H I J))
else
 some ((.t (.bool false)), (Z1 F G H I J))))
theorem eq41g  (A B C D E F G H : Int) (I : Bool) (J : List T) : gE 41 0 19 Try.f41 [] [.t (.agg [.int .i64 A, .int .i64 B, .int .i64 C, .int .i64 D, .int .i64 E]), .ptr 0 0 0] ⟨[(0, .var [.t (.int .i64 F), .t (.int .i64 G), .t (.int .i64 H), .t (.list 5 I J)])], []⟩ = R41  A B C D E F G H I J := by kernel_rfl
theorem eq41 (A B C D E F G H : Int) (I : Bool) (J : List T) : vr 41 0 [.t (.agg [.int .i64 A, .int .i64 B, .int .i64 C, .int .i64 D, .int .i64 E]), .ptr 0 0 0] ⟨[(0, .var [.t (.int .i64 F), .t (.int .i64 G), .t (.int .i64 H), .t (.list 5 I J)])], []⟩ = R41  A B C D E F G H I J :=
 Eq.trans (call_eq Try.prog hint (fn := Try.f41) (nt := 19) (T := []) [] rfl _ _ rfl rfl rfl rfl rfl) (eq41g  A B C D E F G H I J)
noncomputable def R59v1 (L59v1_2 : YL59v1_2) (A : Bool) (B : List T) (C D E : Int) (F : Bool) (G : List T) : Option Res := L59v1_2 (A) (B) ((B.length : Int)) (0) (C) (D) (E) (F) (G)
theorem eq59v1g (KL59v1_2 : Env → St → Option Res) (A : Bool) (B : List T) (C D E : Int) (F : Bool) (G : List T) : gE 59 1 19 Try.f59 (Ta59v1 KL59v1_2) [.t (.list 5 A B), .fn 41 [] [.ptr 0 0 0]] ⟨[(0, .var [.t (.int .i64 C), .t (.int .i64 D), .t (.int .i64 E), .t (.list 5 F G)])], []⟩ = R59v1 (WL59v1_2 KL59v1_2) A B C D E F G := by kernel_rfl
theorem eq59v1 (A : Bool) (B : List T) (C D E : Int) (F : Bool) (G : List T) : vr 59 1 [.t (.list 5 A B), .fn 41 [] [.ptr 0 0 0]] ⟨[(0, .var [.t (.int .i64 C), .t (.int .i64 D), .t (.int .i64 E), .t (.list 5 F G)])], []⟩ = R59v1 L59v1_2 A B C D E F G :=
 Eq.trans (call_eq Try.prog hint (fn := Try.f59) (nt := 19) (T := (Ta59v1 VL59v1_2)) [PaL59v1_2] rfl _ _ rfl rfl rfl rfl rfl) (eq59v1g VL59v1_2 A B C D E F G)
noncomputable def RL59v1_2 (L59v1_2 : YL59v1_2) (s0z : Bool) (s0 : List T) (A B C D E : Int) (F : Bool) (G : List T) : Option Res :=
(bif (decide (B < A)) then
 needC (decide (0 ≤ B)) fun _ => getT s0 (B).toNat fun a => asA a fun b => consT b fun a c => asI .i64 a fun b => consT c fun a d => asI .i64 a fun c => consT d fun a f => asI .i64 a fun d => consT f fun a g => asI .i64 a fun f => consT g fun a h => asI .i64 a fun g => endT h <| callK (vr 41 0 [.t (.agg [.int .i64 b, .int .i64 c, .int .i64 d, .int .i64 f, .int .i64 g]), .ptr 0 0 0] (Z2 C D E F G)) fun a h => asT a fun b => asB b fun a => consB 0 h fun b c => asVar b fun d => consV d fun b f => asT b fun d => asI .i64 d fun b => consV f fun d g => asT d fun f => asI .i64 f fun d => consV g fun f h =>
 asT f fun g => asI .i64 g fun f => consV h fun g i => asT g fun h => asL 5 h fun g j => endV i <| endB c <|
(bif a then
 some ((.t (.int .i64 B)), (Z1 b d f g j))
else
 L59v1_2 (s0z) (s0) (A) ((IntKind.i64.wrap (B + 1))) (b) (d) (f) (g) (j))
else
 some ((.t (.int .i64 (-1))), (Z1 C D E F G)))
theorem L59v1_2g (KL59v1_2 : Env → St → Option Res) (s0z : Bool) (s0 : List T) (A B C D E : Int) (F : Bool) (G : List T) : WL59v1_2 (fun e st => gP 59 1 19 Try.f59 (Ta59v1 KL59v1_2) (.lp :: PaL59v1_2) e st) s0z s0 A B C D E F G = RL59v1_2 (WL59v1_2 KL59v1_2) s0z s0 A B C D E F G := by kernel_rfl
theorem L59v1_2_eq (s0z : Bool) (s0 : List T) (A B C D E : Int) (F : Bool) (G : List T) : L59v1_2 s0z s0 A B C D E F G = RL59v1_2 L59v1_2 s0z s0 A B C D E F G :=
 (congrArg (fun k => WL59v1_2 k s0z s0 A B C D E F G) (funext fun e => funext fun st => round_eq Try.prog hint (b := (nav (List.reverse (.lp :: PaL59v1_2)) (bodyOf Try.f59))) (fn := Try.f59) (nt := 19) (T := (Ta59v1 VL59v1_2)) [PaL59v1_2] rfl PaL59v1_2 e st rfl rfl rfl)).trans (L59v1_2g VL59v1_2 s0z s0 A B C D E F G)
noncomputable def R40v1  (A : Bool) (B : List T) (C D E : Int) (F : Bool) (G : List T) : Option Res := callK (vr 59 1 [.t (.list 5 A B), .fn 41 [] [.ptr 0 0 0]] (Z2 C D E F G)) fun a b => asT a fun c => asI .i64 c fun a => consB 0 b fun c d => asVar c fun b => consV b fun c f => asT c fun b => asI .i64 b fun c => consV f fun b g => asT b fun f => asI .i64 f fun b => consV g fun f h => asT f fun g => asI .i64 g fun f => consV h fun g i => asT g fun h => asL 5 h fun g j => endV i <| endB d <| some ((.t (.bool (decide (0 ≤ a)))), (Z1 c b f g j))
theorem eq40v1g  (A : Bool) (B : List T) (C D E : Int) (F : Bool) (G : List T) : gE 40 1 9 Try.f40 [] [.t (.list 5 A B), .fn 41 [] [.ptr 0 0 0]] ⟨[(0, .var [.t (.int .i64 C), .t (.int .i64 D), .t (.int .i64 E), .t (.list 5 F G)])], []⟩ = R40v1  A B C D E F G := by kernel_rfl
theorem eq40v1 (A : Bool) (B : List T) (C D E : Int) (F : Bool) (G : List T) : vr 40 1 [.t (.list 5 A B), .fn 41 [] [.ptr 0 0 0]] ⟨[(0, .var [.t (.int .i64 C), .t (.int .i64 D), .t (.int .i64 E), .t (.list 5 F G)])], []⟩ = R40v1  A B C D E F G :=
 Eq.trans (call_eq Try.prog hint (fn := Try.f40) (nt := 9) (T := []) [] rfl _ _ rfl rfl rfl rfl rfl) (eq40v1g  A B C D E F G)
noncomputable def R14  (A B C : Int) (D : Bool) (E : List T) : Option Res := callK (vr 25 0 [.t (.agg [.int .i64 A, .int .i64 B, .int .i64 C, .list 5 D E])] ⟨[], []⟩) fun a b => asTup a fun c => consV c fun a d => asT a fun c => asL 1 c fun a f => consV d fun a c => asT a fun d => asI .i64 d fun a => endV c <| endB b <|
(bif (!decide (a = 0)) then
 some ((.t (.int .i64 a)), ⟨[], []⟩)
else
(bif (decide (0 < (f.length : Int))) then
 some ((.t (.int .i64 7)), ⟨[], []⟩)
else
 callK (vr 40 1 [.t (.list 5 D E), .fn 41 [] [.ptr 0 0 0]] (Z2 A B C D E)) fun a b => asT a fun c => asB c fun a => consB 0 b fun c d => asVar c fun b => consV b fun c f => asT c fun b => asI .i64 b fun c => consV f fun b c => asT b fun f => asI .i64 f fun b => consV c fun b f => asT b fun c => asI .i64 c fun b => consV f fun b c => asT b fun f => asL 5 f fun b g => endV c <| endB d <|
(bif a then
 some ((.t (.int .i64 3)), ⟨[], []⟩)
else
 some ((.t (.int .i64 0)), ⟨[], []⟩))))
theorem eq14g  (A B C : Int) (D : Bool) (E : List T) : gE 14 0 23 Try.f14 [] [.t (.agg [.int .i64 A, .int .i64 B, .int .i64 C, .list 5 D E])] ⟨[], []⟩ = R14  A B C D E := by kernel_rfl
theorem eq14 (A B C : Int) (D : Bool) (E : List T) : vr 14 0 [.t (.agg [.int .i64 A, .int .i64 B, .int .i64 C, .list 5 D E])] ⟨[], []⟩ = R14  A B C D E :=
 Eq.trans (call_eq Try.prog hint (fn := Try.f14) (nt := 23) (T := []) [] rfl _ _ rfl rfl rfl rfl rfl) (eq14g  A B C D E)
noncomputable def R8   : Option Res := callK (vr 32 0 [.t (.str ⟨#[99, 111, 100, 101, 32, 50, 32, 48, 32, 48, 10, 115, 101, 116, 32, 114, 48, 32, 49, 10, 97, 100, 100, 32, 114, 48, 32, 114, 48, 32, 114, 49, 10, 104, 97, 108, 116]⟩)] ⟨[], []⟩) fun a b => asTup a fun c => consV c fun a d => asT a fun c => asA c fun a => consT a fun c f => asI .i64 c fun a => consT f fun c g => asI .i64 c fun f => consT g fun c h => asI .i64 c fun g => consT h fun c i => asL 5 c fun h j => endT i <| consV d fun c i => asT c fun d => asI .i64 d fun c => consV i fun c d => asT c fun i => asI .i64 i fun c => endV d <|
 endB b <| callK (vr 25 0 [.t (.agg [.int .i64 a, .int .i64 f, .int .i64 g, .list 5 h j])] ⟨[], []⟩) fun b d => asTup b fun i => consV i fun b k => asT b fun i => asL 1 i fun b l => consV k fun i m => asT i fun k => asI .i64 k fun i => endV m <| endB d <|
(bif (decide (c = 0)) then
(bif (decide (i = 0)) then
 callK (vr 20 0 [.t (.list 1 b l), .t (.list 1 true [.int .i64 1])] ⟨[], []⟩) fun c d => asT c fun b => asB b fun c => endB d <|
(bif c then
 callK (vr 14 0 [.t (.agg [.int .i64 a, .int .i64 f, .int .i64 g, .list 5 h j])] ⟨[], []⟩) fun b c => asT b fun a => asI .i64 a fun b => endB c <| some ((.t (.bool (decide (b = 7)))), ⟨[], []⟩)
else
 some ((.t (.bool false)), ⟨[], []⟩))
else
 some ((.t (.bool false)), ⟨[], []⟩))
else
 some ((.t (.bool false)), ⟨[], []⟩))
theorem eq8g   : gE 8 0 32 Try.f8 [] [] ⟨[], []⟩ = R8   := by kernel_rfl
theorem eq8  : vr 8 0 [] ⟨[], []⟩ = R8   :=
 Eq.trans (call_eq Try.prog hint (fn := Try.f8) (nt := 32) (T := []) [] rfl _ _ rfl rfl rfl rfl rfl) (eq8g  )
noncomputable def R9  (A B C : Int) (D : Bool) (E : List T) : Option Res := some ((.t (.bool (decide ((E.length : Int) ≤ 300)))), ⟨[], []⟩)
theorem eq9g  (A B C : Int) (D : Bool) (E : List T) : gE 9 0 7 Try.f9 [] [.t (.agg [.int .i64 A, .int .i64 B, .int .i64 C, .list 5 D E])] ⟨[], []⟩ = R9  A B C D E := by kernel_rfl
theorem eq9 (A B C : Int) (D : Bool) (E : List T) : vr 9 0 [.t (.agg [.int .i64 A, .int .i64 B, .int .i64 C, .list 5 D E])] ⟨[], []⟩ = R9  A B C D E :=
 Eq.trans (call_eq Try.prog hint (fn := Try.f9) (nt := 7) (T := []) [] rfl _ _ rfl rfl rfl rfl rfl) (eq9g  A B C D E)
noncomputable def R12 (L12_6 : YL12_6) (L12_9 : YL12_9) (A B C : Int) (D : Bool) (E : List T) : Option Res := callK (vr 33 0 [.t (.agg [.int .i64 A, .int .i64 B, .int .i64 C, .list 5 D E])] ⟨[], []⟩) fun a b =>
(bif fitsH (.tup [.nilp, .t (.one (.int .i64))]) [] a b then
 asTup a fun c => consV c fun d f => isNil d <| consV f fun c d => asT c fun f => asI .i64 f fun c => endV d <| endB b <|
(bif (!decide (c = 0)) then
 some ((.tup [.t (.list 1 false []), .t (.int .i64 c)]), ⟨[], []⟩)
else
 needC (decide (0 ≤ (E.length : Int)) && decide ((E.length : Int) ≤ (E.length : Int)) && decide ((E.length : Int) * (24 + 1) ≤ 70368744177664)) fun _ => none)
else
 asTup a fun c => consV c fun a d => isPtr 500 0 0 a <| consV d fun a c => asT a fun d => asI .i64 d fun a => endV c <| consB 500 b fun c d => asVar c fun b => consV b fun c f => asT c fun b => asI .i64 b fun c => consV f fun b g => asT b fun f => asI .i64 f fun b => consV g fun f h => asT f fun g => asI .i64 g fun f => consV h fun g i => asT g fun h => asL 5 h fun g j => consV i fun h k => isBuf 501 h <| consV k fun h i => isBuf 502 h <| endV i <| consB 501 d fun h i => asArr 2 h fun d k => consB 502 i fun h l => asArr 1 h fun i m => endB l <|
(bif (!decide (a = 0)) then
 some ((.tup [.t (.list 1 false []), .t (.int .i64 a)]), ⟨[], []⟩)
else
 needC (decide (0 ≤ (E.length : Int)) && decide ((E.length : Int) ≤ (E.length : Int)) && decide ((E.length : Int) * (24 + 1) ≤ 70368744177664)) fun _ => L12_6 ((k.length : Int)) (0) (A) (B) (C) (D) (E) (c) (b) (f) (g) (j) (d) (k) (i) (m) (((List.replicate ((E.length : Int)).toNat ((.list 1 false []) : T)).map rowOf))))
theorem eq12g (KL12_6 KL12_9 : Env → St → Option Res) (A B C : Int) (D : Bool) (E : List T) : gE 12 0 62 Try.f12 (Ta12 KL12_6 KL12_9) [.t (.agg [.int .i64 A, .int .i64 B, .int .i64 C, .list 5 D E])] ⟨[], []⟩ = R12 (WL12_6 KL12_6) (WL12_9 KL12_9) A B C D E := by kernel_rfl
theorem eq12 (A B C : Int) (D : Bool) (E : List T) : vr 12 0 [.t (.agg [.int .i64 A, .int .i64 B, .int .i64 C, .list 5 D E])] ⟨[], []⟩ = R12 L12_6 L12_9 A B C D E :=
 Eq.trans (call_eq Try.prog hint (fn := Try.f12) (nt := 62) (T := (Ta12 VL12_6 VL12_9)) [PaL12_6, PaL12_9] rfl _ _ rfl rfl rfl rfl rfl) (eq12g VL12_6 VL12_9 A B C D E)
noncomputable def RL12_6 (L12_6 : YL12_6) (L12_9 : YL12_9) (A B C D E : Int) (F : Bool) (G : List T) (H I J : Int) (K : Bool) (L : List T) (M : Bool) (N : List T) (O : Bool) (P : List T) (Q : List RowV) : Option Res :=
(bif (decide (B < A)) then
 needC (decide (0 ≤ B) && decide (B < (N.length : Int))) fun _ => getT N ((B).toNat) fun a => asA a fun b => consT b fun a c => asI .u64 a fun b => consT c fun a d => asI .u64 a fun c => endT d <| L12_9 (B) (0) (A) (B) (C) (D) (E) (F) (G) (H) (I) (J) (K) (L) (M) (N) (O) (P) (Q) ([.int .u64 b, .int .u64 c])
else
 treesC 1 Q fun ts_9 => some ((.tup [.t (.list 1 true ts_9), .t (.int .i64 0)]), ⟨[], []⟩))
theorem L12_6g (KL12_6 KL12_9 : Env → St → Option Res) (A B C D E : Int) (F : Bool) (G : List T) (H I J : Int) (K : Bool) (L : List T) (M : Bool) (N : List T) (O : Bool) (P : List T) (Q : List RowV) : WL12_6 (fun e st => gP 12 0 62 Try.f12 (Ta12 KL12_6 KL12_9) (.lp :: PaL12_6) e st) A B C D E F G H I J K L M N O P Q = RL12_6 (WL12_6 KL12_6) (WL12_9 KL12_9) A B C D E F G H I J K L M N O P Q := by kernel_rfl
theorem L12_6_eq (A B C D E : Int) (F : Bool) (G : List T) (H I J : Int) (K : Bool) (L : List T) (M : Bool) (N : List T) (O : Bool) (P : List T) (Q : List RowV) : L12_6 A B C D E F G H I J K L M N O P Q = RL12_6 L12_6 L12_9 A B C D E F G H I J K L M N O P Q :=
 (congrArg (fun k => WL12_6 k A B C D E F G H I J K L M N O P Q) (funext fun e => funext fun st => round_eq Try.prog hint (b := (nav (List.reverse (.lp :: PaL12_6)) (bodyOf Try.f12))) (fn := Try.f12) (nt := 62) (T := (Ta12 VL12_6 VL12_9)) [PaL12_6, PaL12_9] rfl PaL12_6 e st rfl rfl rfl)).trans (L12_6g VL12_6 VL12_9 A B C D E F G H I J K L M N O P Q)
noncomputable def RL12_9 (L12_6 : YL12_6) (L12_9 : YL12_9) (i7 n9 A B C D E : Int) (F : Bool) (G : List T) (H I J : Int) (K : Bool) (L : List T) (M : Bool) (N : List T) (O : Bool) (P : List T) (Q : List RowV) (R : List T) : Option Res :=
(bif (decide (n9 < C)) then
 needC (decide (0 ≤ i7) && decide (i7 < (P.length : Int))) fun _ => getT P ((i7).toNat) fun a => asB a fun b =>
(bif b then
 consT (((R.drop 0).take 2)) fun a b => asI .u64 a fun c => consT b fun a d => asI .u64 a fun b => endT d <| callK (vr 39 0 [.t (.agg [.int .u64 c, .int .u64 b]), .t (.int .i64 n9)] ⟨[], []⟩) fun a d => asT a fun b => asB b fun a => endB d <|
(bif a then
 needC (decide (0 ≤ i7) && decide (i7 < (Q.length : Int))) fun _ => rowC Q ((i7).toNat) fun a b => needC (decide ((b.length + 1) * (8 + 1) ≤ 70368744177664) && decide (8 ≤ 1048576)) fun _ => needC (decide (0 ≤ i7) && decide (i7 < (((Q.set ((i7).toNat) .gone)).length : Int))) fun _ => needC (decide ((i7).toNat < ((Q.set ((i7).toNat) .gone)).length)) fun _ => L12_9 (i7) ((IntKind.i64.wrap (n9 + 1))) (A) (B) (C) (D) (E) (F) (G) (H) (I) (J) (K) (L) (M) (N) (O) (P) ((((Q.set ((i7).toNat) .gone)).set ((i7).toNat) (.own ((a || true)) ((b ++ ([.int .i64 n9] : List T)))))) (R)
else
 L12_9 (i7) ((IntKind.i64.wrap (n9 + 1))) (A) (B) (C) (D) (E) (F) (G) (H) (I) (J) (K) (L) (M) (N) (O) (P) (Q) (R))
else
 L12_6 (A) ((IntKind.i64.wrap (B + 1))) (C) (D) (E) (F) (G) (H) (I) (J) (K) (L) (M) (N) (O) (P) (Q))
else
 L12_6 (A) ((IntKind.i64.wrap (B + 1))) (C) (D) (E) (F) (G) (H) (I) (J) (K) (L) (M) (N) (O) (P) (Q))
theorem L12_9g (KL12_6 KL12_9 : Env → St → Option Res) (i7 n9 A B C D E : Int) (F : Bool) (G : List T) (H I J : Int) (K : Bool) (L : List T) (M : Bool) (N : List T) (O : Bool) (P : List T) (Q : List RowV) (R : List T) : WL12_9 (fun e st => gP 12 0 62 Try.f12 (Ta12 KL12_6 KL12_9) (.lp :: PaL12_9) e st) i7 n9 A B C D E F G H I J K L M N O P Q R = RL12_9 (WL12_6 KL12_6) (WL12_9 KL12_9) i7 n9 A B C D E F G H I J K L M N O P Q R := by kernel_rfl
theorem L12_9_eq (i7 n9 A B C D E : Int) (F : Bool) (G : List T) (H I J : Int) (K : Bool) (L : List T) (M : Bool) (N : List T) (O : Bool) (P : List T) (Q : List RowV) (R : List T) : L12_9 i7 n9 A B C D E F G H I J K L M N O P Q R = RL12_9 L12_6 L12_9 i7 n9 A B C D E F G H I J K L M N O P Q R :=
 (congrArg (fun k => WL12_9 k i7 n9 A B C D E F G H I J K L M N O P Q R) (funext fun e => funext fun st => round_eq Try.prog hint (b := (nav (List.reverse (.lp :: PaL12_9)) (bodyOf Try.f12))) (fn := Try.f12) (nt := 62) (T := (Ta12 VL12_6 VL12_9)) [PaL12_6, PaL12_9] rfl PaL12_9 e st rfl rfl rfl)).trans (L12_9g VL12_6 VL12_9 i7 n9 A B C D E F G H I J K L M N O P Q R)
noncomputable def R13  (A B C : Int) (D : Bool) (E : List T) : Option Res := callK (vr 33 0 [.t (.agg [.int .i64 A, .int .i64 B, .int .i64 C, .list 5 D E])] ⟨[], []⟩) fun a b =>
(bif fitsH (.tup [.nilp, .t (.one (.int .i64))]) [] a b then
 asTup a fun c => consV c fun d f => isNil d <| consV f fun c d => asT c fun f => asI .i64 f fun c => endV d <| endB b <|
(bif (!decide (c = 0)) then
 some ((.tup [.t (.list 1 false []), .t (.int .i64 c)]), ⟨[], []⟩)
else
 none)
else
 asTup a fun c => consV c fun a d => isPtr 500 0 0 a <| consV d fun a c => asT a fun d => asI .i64 d fun a => endV c <| consB 500 b fun c d => asVar c fun b => consV b fun c f => asT c fun b => asI .i64 b fun c => consV f fun b c => asT b fun f => asI .i64 f fun b => consV c fun b f => asT b fun c => asI .i64 c fun b => consV f fun b c => asT b fun f => asL 5 f fun b g => consV c fun b f => isBuf 501 b <| consV f fun b c => isBuf 502 b <| endV c <| consB 501 d fun b c => asArr 2 b fun d f => consB 502 c fun b d => asArr 1 b fun c f => endB d <|
(bif (!decide (a = 0)) then
 some ((.tup [.t (.list 1 false []), .t (.int .i64 a)]), ⟨[], []⟩)
else
 some ((.tup [.t (.list 1 c f), .t (.int .i64 0)]), ⟨[], []⟩)))
theorem eq13g  (A B C : Int) (D : Bool) (E : List T) : gE 13 0 18 Try.f13 [] [.t (.agg [.int .i64 A, .int .i64 B, .int .i64 C, .list 5 D E])] ⟨[], []⟩ = R13  A B C D E := by kernel_rfl
theorem eq13 (A B C : Int) (D : Bool) (E : List T) : vr 13 0 [.t (.agg [.int .i64 A, .int .i64 B, .int .i64 C, .list 5 D E])] ⟨[], []⟩ = R13  A B C D E :=
 Eq.trans (call_eq Try.prog hint (fn := Try.f13) (nt := 18) (T := []) [] rfl _ _ rfl rfl rfl rfl rfl) (eq13g  A B C D E)
noncomputable def R4 (L4_12 : YL4_12) (L4_18 : YL4_18) (L4_24 : YL4_24) (J4_34 : YJ4_34) (A B C : Int) (D : Bool) (E : List T) (F : Bool) (G : List T) : Option Res := callK (vr 8 0 [] ⟨[], []⟩) fun a b => asT a fun c => asB c fun a => endB b <| callK (vr 9 0 [.t (.agg [.int .i64 A, .int .i64 B, .int .i64 C, .list 5 D E])] ⟨[], []⟩) fun b c => asT b fun d => asB d fun b => endB c <|
(bif (!b) then
 some ((.t (.bool a)), ⟨[], []⟩)
else
(bif (decide (500 < (G.length : Int))) then
 some ((.t (.bool a)), ⟨[], []⟩)
else
 callK (vr 12 0 [.t (.agg [.int .i64 A, .int .i64 B, .int .i64 C, .list 5 D E])] ⟨[], []⟩) fun b c => asTup b fun d => consV d fun b f => asT b fun d => asL 1 d fun b g => consV f fun d h => asT d fun f => asI .i64 f fun d => endV h <| endB c <| callK (vr 13 0 [.t (.agg [.int .i64 A, .int .i64 B, .int .i64 C, .list 5 D E])] ⟨[], []⟩) fun c f => asTup c fun h => consV h fun c i => asT c fun h => asL 1 h fun c j => consV i fun h k => asT h fun i => asI .i64 i fun h => endV k <| endB f <|
(bif (!decide (d = 0)) then
(bif a then
 some ((.t (.bool (decide (d = h)))), ⟨[], []⟩)
else
 some ((.t (.bool false)), ⟨[], []⟩))
else
(bif (!decide (h = 0)) then
(bif a then
 some ((.t (.bool (decide (d = h)))), ⟨[], []⟩)
else
 some ((.t (.bool false)), ⟨[], []⟩))
else
 callK (vr 14 0 [.t (.agg [.int .i64 A, .int .i64 B, .int .i64 C, .list 5 D E])] ⟨[], []⟩) fun d f => asT d fun h => asI .i64 h fun d => endB f <| needC (decide (0 ≤ A) && decide (A ≤ A) && decide (A * (1 + 1) ≤ 70368744177664)) fun _ => L4_12 (a) (b) (g) (c) (j) ((decide (d = 0))) (0) (F) (G) ((G.length : Int)) (0) (A) (B) (C) (D) (E) (true) ((List.replicate (A).toNat ((.bool false) : T)))))))
theorem eq4g (KL4_12 KL4_18 KL4_24 KJ4_34 : Env → St → Option Res) (A B C : Int) (D : Bool) (E : List T) (F : Bool) (G : List T) : gE 4 0 189 Try.f4 (Ta4 KL4_12 KL4_18 KL4_24 KJ4_34) [.t (.agg [.int .i64 A, .int .i64 B, .int .i64 C, .list 5 D E]), .t (.list 1 F G)] ⟨[], []⟩ = R4 (WL4_12 KL4_12) (WL4_18 KL4_18) (WL4_24 KL4_24) (WJ4_34 KJ4_34) A B C D E F G := by kernel_rfl
theorem eq4 (A B C : Int) (D : Bool) (E : List T) (F : Bool) (G : List T) : vr 4 0 [.t (.agg [.int .i64 A, .int .i64 B, .int .i64 C, .list 5 D E]), .t (.list 1 F G)] ⟨[], []⟩ = R4 L4_12 L4_18 L4_24 J4_34 A B C D E F G :=
 Eq.trans (call_eq Try.prog hint (fn := Try.f4) (nt := 189) (T := (Ta4 VL4_12 VL4_18 VL4_24 VJ4_34)) [PaL4_12, PaL4_18, PaL4_24, PaJ4_34] rfl _ _ rfl rfl rfl rfl rfl) (eq4g VL4_12 VL4_18 VL4_24 VJ4_34 A B C D E F G)
noncomputable def RL4_12 (L4_12 : YL4_12) (L4_18 : YL4_18) (L4_24 : YL4_24) (J4_34 : YJ4_34) (up5 set6z : Bool) (set6 : List T) (reach8z : Bool) (reach8 : List T) (fine10 : Bool) (at12 : Int) (A : Bool) (B : List T) (C D E F G : Int) (H : Bool) (I : List T) (J : Bool) (K : List T) : Option Res :=
(bif (decide (D < C)) then
 needC (decide (0 ≤ D)) fun _ => getT B (D).toNat fun a => asB a fun b =>
(bif (decide (at12 < 0)) then
 some ((.t (.bool false)), ⟨[], []⟩)
else
(bif (decide ((I.length : Int) ≤ at12)) then
 some ((.t (.bool false)), ⟨[], []⟩)
else
(bif (decide ((reach8.length : Int) ≤ at12)) then
 some ((.t (.bool false)), ⟨[], []⟩)
else
(bif (decide ((set6.length : Int) ≤ at12)) then
 some ((.t (.bool false)), ⟨[], []⟩)
else
 needC (decide (0 ≤ at12)) fun _ => getT reach8 (at12).toNat fun a => asB a fun c =>
(bif (!c) then
 some ((.t (.bool false)), ⟨[], []⟩)
else
 needC (decide (0 ≤ at12)) fun _ => getT I (at12).toNat fun a => asA a fun c => consT c fun a d => asI .i64 a fun c => consT d fun a f => asI .i64 a fun d => consT f fun a g => asI .i64 a fun f => consT g fun a h => asI .i64 a fun g => consT h fun a i => asI .i64 a fun h => endT i <| needC (decide (0 ≤ at12)) fun _ => getT set6 (at12).toNat fun a => asL 1 a fun i j => L4_18 (up5) (set6z) (set6) (reach8z) (reach8) (fine10) (at12) (b) (A) (B) (C) (D) (i) (j) ((j.length : Int)) (0) (E) (F) (G) (H) (I) (J) (K) (c) (d) (f) (g) (h))))))
else
 some ((.t (.bool up5)), ⟨[], []⟩))
theorem L4_12g (KL4_12 KL4_18 KL4_24 KJ4_34 : Env → St → Option Res) (up5 set6z : Bool) (set6 : List T) (reach8z : Bool) (reach8 : List T) (fine10 : Bool) (at12 : Int) (A : Bool) (B : List T) (C D E F G : Int) (H : Bool) (I : List T) (J : Bool) (K : List T) : WL4_12 (fun e st => gP 4 0 189 Try.f4 (Ta4 KL4_12 KL4_18 KL4_24 KJ4_34) (.lp :: PaL4_12) e st) up5 set6z set6 reach8z reach8 fine10 at12 A B C D E F G H I J K = RL4_12 (WL4_12 KL4_12) (WL4_18 KL4_18) (WL4_24 KL4_24) (WJ4_34 KJ4_34) up5 set6z set6 reach8z reach8 fine10 at12 A B C D E F G H I J K := by kernel_rfl
theorem L4_12_eq (up5 set6z : Bool) (set6 : List T) (reach8z : Bool) (reach8 : List T) (fine10 : Bool) (at12 : Int) (A : Bool) (B : List T) (C D E F G : Int) (H : Bool) (I : List T) (J : Bool) (K : List T) : L4_12 up5 set6z set6 reach8z reach8 fine10 at12 A B C D E F G H I J K = RL4_12 L4_12 L4_18 L4_24 J4_34 up5 set6z set6 reach8z reach8 fine10 at12 A B C D E F G H I J K :=
 (congrArg (fun k => WL4_12 k up5 set6z set6 reach8z reach8 fine10 at12 A B C D E F G H I J K) (funext fun e => funext fun st => round_eq Try.prog hint (b := (nav (List.reverse (.lp :: PaL4_12)) (bodyOf Try.f4))) (fn := Try.f4) (nt := 189) (T := (Ta4 VL4_12 VL4_18 VL4_24 VJ4_34)) [PaL4_12, PaL4_18, PaL4_24, PaJ4_34] rfl PaL4_12 e st rfl rfl rfl)).trans (L4_12g VL4_12 VL4_18 VL4_24 VJ4_34 up5 set6z set6 reach8z reach8 fine10 at12 A B C D E F G H I J K)
noncomputable def RL4_18 (L4_12 : YL4_12) (L4_18 : YL4_18) (L4_24 : YL4_24) (J4_34 : YJ4_34) (up5 set6z : Bool) (set6 : List T) (reach8z : Bool) (reach8 : List T) (fine10 : Bool) (at12 : Int) (pick14 A : Bool) (B : List T) (C D : Int) (E : Bool) (F : List T) (G H I J K : Int) (L : Bool) (M : List T) (N : Bool) (O : List T) (P Q R S U : Int) : Option Res :=
(bif (decide (H < G)) then
 needC (decide (0 ≤ H)) fun _ => getT F (H).toNat fun a => asI .i64 a fun b =>
(bif (decide (b < 0)) then
 some ((.t (.bool false)), ⟨[], []⟩)
else
(bif (decide ((O.length : Int) ≤ b)) then
 some ((.t (.bool false)), ⟨[], []⟩)
else
 needC (decide (0 ≤ b) && decide (b < (O.length : Int))) fun _ => getT O ((b).toNat) fun a => asB a fun b =>
(bif (!b) then
 some ((.t (.bool false)), ⟨[], []⟩)
else
 L4_18 (up5) (set6z) (set6) (reach8z) (reach8) (fine10) (at12) (pick14) (A) (B) (C) (D) (E) (F) (G) ((IntKind.i64.wrap (H + 1))) (I) (J) (K) (L) (M) (N) (O) (P) (Q) (R) (S) (U))))
else
 callK (vr 15 0 [.t (.agg [.int .i64 P, .int .i64 Q, .int .i64 R, .int .i64 S, .int .i64 U])] ⟨[], []⟩) fun a b => asT a fun c => asL 1 c fun a d => endB b <| L4_24 (up5) (set6z) (set6) (reach8z) (reach8) (fine10) (at12) (pick14) (A) (B) (C) (D) (a) (d) ((d.length : Int)) (0) (I) (J) (K) (L) (M) (N) (O) (P) (Q) (R) (S) (U))
theorem L4_18g (KL4_12 KL4_18 KL4_24 KJ4_34 : Env → St → Option Res) (up5 set6z : Bool) (set6 : List T) (reach8z : Bool) (reach8 : List T) (fine10 : Bool) (at12 : Int) (pick14 A : Bool) (B : List T) (C D : Int) (E : Bool) (F : List T) (G H I J K : Int) (L : Bool) (M : List T) (N : Bool) (O : List T) (P Q R S U : Int) : WL4_18 (fun e st => gP 4 0 189 Try.f4 (Ta4 KL4_12 KL4_18 KL4_24 KJ4_34) (.lp :: PaL4_18) e st) up5 set6z set6 reach8z reach8 fine10 at12 pick14 A B C D E F G H I J K L M N O P Q R S U = RL4_18 (WL4_12 KL4_12) (WL4_18 KL4_18) (WL4_24 KL4_24) (WJ4_34 KJ4_34) up5 set6z set6 reach8z reach8 fine10 at12 pick14 A B C D E F G H I J K L M N O P Q R S U := by kernel_rfl
theorem L4_18_eq (up5 set6z : Bool) (set6 : List T) (reach8z : Bool) (reach8 : List T) (fine10 : Bool) (at12 : Int) (pick14 A : Bool) (B : List T) (C D : Int) (E : Bool) (F : List T) (G H I J K : Int) (L : Bool) (M : List T) (N : Bool) (O : List T) (P Q R S U : Int) : L4_18 up5 set6z set6 reach8z reach8 fine10 at12 pick14 A B C D E F G H I J K L M N O P Q R S U = RL4_18 L4_12 L4_18 L4_24 J4_34 up5 set6z set6 reach8z reach8 fine10 at12 pick14 A B C D E F G H I J K L M N O P Q R S U :=
 (congrArg (fun k => WL4_18 k up5 set6z set6 reach8z reach8 fine10 at12 pick14 A B C D E F G H I J K L M N O P Q R S U) (funext fun e => funext fun st => round_eq Try.prog hint (b := (nav (List.reverse (.lp :: PaL4_18)) (bodyOf Try.f4))) (fn := Try.f4) (nt := 189) (T := (Ta4 VL4_12 VL4_18 VL4_24 VJ4_34)) [PaL4_12, PaL4_18, PaL4_24, PaJ4_34] rfl PaL4_18 e st rfl rfl rfl)).trans (L4_18g VL4_12 VL4_18 VL4_24 VJ4_34 up5 set6z set6 reach8z reach8 fine10 at12 pick14 A B C D E F G H I J K L M N O P Q R S U)
noncomputable def RL4_24 (L4_12 : YL4_12) (L4_18 : YL4_18) (L4_24 : YL4_24) (J4_34 : YJ4_34) (up5 set6z : Bool) (set6 : List T) (reach8z : Bool) (reach8 : List T) (fine10 : Bool) (at12 : Int) (pick14 A : Bool) (B : List T) (C D : Int) (E : Bool) (F : List T) (G H I J K : Int) (L : Bool) (M : List T) (N : Bool) (O : List T) (P Q R S U : Int) : Option Res :=
(bif (decide (H < G)) then
 needC (decide (0 ≤ H)) fun _ => getT F (H).toNat fun a => asI .i64 a fun b =>
(bif fine10 then
(bif (decide (b < 0)) then
 some ((.t (.bool false)), ⟨[], []⟩)
else
(bif (decide ((O.length : Int) ≤ b)) then
 some ((.t (.bool false)), ⟨[], []⟩)
else
 needC (decide (0 ≤ b) && decide (b < (O.length : Int))) fun _ => getT O ((b).toNat) fun a => asB a fun b =>
(bif (!b) then
 some ((.t (.bool false)), ⟨[], []⟩)
else
 L4_24 (up5) (set6z) (set6) (reach8z) (reach8) (fine10) (at12) (pick14) (A) (B) (C) (D) (E) (F) (G) ((IntKind.i64.wrap (H + 1))) (I) (J) (K) (L) (M) (N) (O) (P) (Q) (R) (S) (U))))
else
 L4_24 (up5) (set6z) (set6) (reach8z) (reach8) (fine10) (at12) (pick14) (A) (B) (C) (D) (E) (F) (G) ((IntKind.i64.wrap (H + 1))) (I) (J) (K) (L) (M) (N) (O) (P) (Q) (R) (S) (U))
else
 callK (vr 16 0 [.t (.agg [.int .i64 P, .int .i64 Q, .int .i64 R, .int .i64 S, .int .i64 U])] ⟨[], []⟩) fun a b => asTup a fun c => consV c fun a d => asT a fun c => asI .i64 c fun a => consV d fun c f => asT c fun d => asB d fun c => endV f <| endB b <|
(bif c then
(bif (decide (a < 0)) then
 some ((.t (.bool false)), ⟨[], []⟩)
else
(bif (decide ((O.length : Int) ≤ a)) then
 some ((.t (.bool false)), ⟨[], []⟩)
else
 needC (decide (0 ≤ a) && decide (a < (O.length : Int))) fun _ => needC (N && true) fun _ => setT O ((a).toNat) (.bool true) fun b => J4_34 (up5) (set6z) (set6) (reach8z) (reach8) (fine10) (at12) (pick14) (A) (B) (C) (D) (I) (J) (K) (L) (M) (N) (b) (P) (Q) (R) (S) (U)))
else
 J4_34 (up5) (set6z) (set6) (reach8z) (reach8) (fine10) (at12) (pick14) (A) (B) (C) (D) (I) (J) (K) (L) (M) (N) (O) (P) (Q) (R) (S) (U)))
theorem L4_24g (KL4_12 KL4_18 KL4_24 KJ4_34 : Env → St → Option Res) (up5 set6z : Bool) (set6 : List T) (reach8z : Bool) (reach8 : List T) (fine10 : Bool) (at12 : Int) (pick14 A : Bool) (B : List T) (C D : Int) (E : Bool) (F : List T) (G H I J K : Int) (L : Bool) (M : List T) (N : Bool) (O : List T) (P Q R S U : Int) : WL4_24 (fun e st => gP 4 0 189 Try.f4 (Ta4 KL4_12 KL4_18 KL4_24 KJ4_34) (.lp :: PaL4_24) e st) up5 set6z set6 reach8z reach8 fine10 at12 pick14 A B C D E F G H I J K L M N O P Q R S U = RL4_24 (WL4_12 KL4_12) (WL4_18 KL4_18) (WL4_24 KL4_24) (WJ4_34 KJ4_34) up5 set6z set6 reach8z reach8 fine10 at12 pick14 A B C D E F G H I J K L M N O P Q R S U := by kernel_rfl
theorem L4_24_eq (up5 set6z : Bool) (set6 : List T) (reach8z : Bool) (reach8 : List T) (fine10 : Bool) (at12 : Int) (pick14 A : Bool) (B : List T) (C D : Int) (E : Bool) (F : List T) (G H I J K : Int) (L : Bool) (M : List T) (N : Bool) (O : List T) (P Q R S U : Int) : L4_24 up5 set6z set6 reach8z reach8 fine10 at12 pick14 A B C D E F G H I J K L M N O P Q R S U = RL4_24 L4_12 L4_18 L4_24 J4_34 up5 set6z set6 reach8z reach8 fine10 at12 pick14 A B C D E F G H I J K L M N O P Q R S U :=
 (congrArg (fun k => WL4_24 k up5 set6z set6 reach8z reach8 fine10 at12 pick14 A B C D E F G H I J K L M N O P Q R S U) (funext fun e => funext fun st => round_eq Try.prog hint (b := (nav (List.reverse (.lp :: PaL4_24)) (bodyOf Try.f4))) (fn := Try.f4) (nt := 189) (T := (Ta4 VL4_12 VL4_18 VL4_24 VJ4_34)) [PaL4_12, PaL4_18, PaL4_24, PaJ4_34] rfl PaL4_24 e st rfl rfl rfl)).trans (L4_24g VL4_12 VL4_18 VL4_24 VJ4_34 up5 set6z set6 reach8z reach8 fine10 at12 pick14 A B C D E F G H I J K L M N O P Q R S U)
noncomputable def RJ4_34 (L4_12 : YL4_12) (L4_18 : YL4_18) (L4_24 : YL4_24) (J4_34 : YJ4_34) (up5 set6z : Bool) (set6 : List T) (reach8z : Bool) (reach8 : List T) (fine10 : Bool) (at12 : Int) (pick14 A : Bool) (B : List T) (C D E F G : Int) (H : Bool) (I : List T) (J : Bool) (K : List T) (L M N O P : Int) : Option Res := callK (vr 11 0 [.t (.agg [.int .i64 L, .int .i64 M, .int .i64 N, .int .i64 O, .int .i64 P]), .t (.int .i64 at12)] ⟨[], []⟩) fun a b => asT a fun c => asL 1 c fun a d => endB b <|
(bif (decide ((d.length : Int) = 0)) then
 some ((.t (.bool up5)), ⟨[], []⟩)
else
 needC (decide (0 ≤ 0)) fun _ => getT d ((0 : Int)).toNat fun a => asI .i64 a fun b =>
(bif pick14 then
(bif (decide (1 < (d.length : Int))) then
 needC (decide (0 ≤ 1)) fun _ => getT d ((1 : Int)).toNat fun a => asI .i64 a fun c => L4_12 (up5) (set6z) (set6) (reach8z) (reach8) (fine10) (c) (A) (B) (C) ((IntKind.i64.wrap (D + 1))) (E) (F) (G) (H) (I) (J) (K)
else
 L4_12 (up5) (set6z) (set6) (reach8z) (reach8) (fine10) (b) (A) (B) (C) ((IntKind.i64.wrap (D + 1))) (E) (F) (G) (H) (I) (J) (K))
else
 L4_12 (up5) (set6z) (set6) (reach8z) (reach8) (fine10) (b) (A) (B) (C) ((IntKind.i64.wrap (D + 1))) (E) (F) (G) (H) (I) (J) (K)))
theorem J4_34g (KL4_12 KL4_18 KL4_24 KJ4_34 : Env → St → Option Res) (up5 set6z : Bool) (set6 : List T) (reach8z : Bool) (reach8 : List T) (fine10 : Bool) (at12 : Int) (pick14 A : Bool) (B : List T) (C D E F G : Int) (H : Bool) (I : List T) (J : Bool) (K : List T) (L M N O P : Int) : WJ4_34 (fun e st => gP 4 0 189 Try.f4 (Ta4 KL4_12 KL4_18 KL4_24 KJ4_34) PaJ4_34 e st) up5 set6z set6 reach8z reach8 fine10 at12 pick14 A B C D E F G H I J K L M N O P = RJ4_34 (WL4_12 KL4_12) (WL4_18 KL4_18) (WL4_24 KL4_24) (WJ4_34 KJ4_34) up5 set6z set6 reach8z reach8 fine10 at12 pick14 A B C D E F G H I J K L M N O P := by kernel_rfl
theorem J4_34_eq (up5 set6z : Bool) (set6 : List T) (reach8z : Bool) (reach8 : List T) (fine10 : Bool) (at12 : Int) (pick14 A : Bool) (B : List T) (C D E F G : Int) (H : Bool) (I : List T) (J : Bool) (K : List T) (L M N O P : Int) : J4_34 up5 set6z set6 reach8z reach8 fine10 at12 pick14 A B C D E F G H I J K L M N O P = RJ4_34 L4_12 L4_18 L4_24 J4_34 up5 set6z set6 reach8z reach8 fine10 at12 pick14 A B C D E F G H I J K L M N O P :=
 (congrArg (fun k => WJ4_34 k up5 set6z set6 reach8z reach8 fine10 at12 pick14 A B C D E F G H I J K L M N O P) (funext fun e => funext fun st => join_eq Try.prog hint (fn := Try.f4) (nt := 189) (T := (Ta4 VL4_12 VL4_18 VL4_24 VJ4_34)) [PaL4_12, PaL4_18, PaL4_24, PaJ4_34] rfl PaJ4_34 e st rfl)).trans (J4_34g VL4_12 VL4_18 VL4_24 VJ4_34 up5 set6z set6 reach8z reach8 fine10 at12 pick14 A B C D E F G H I J K L M N O P)
noncomputable def R21 (L21_7 : YL21_7) (L21_12 : YL21_12) (A B C : Int) (D : Bool) (E : List T) (F : Int) : Option Res := callK (vr 18 0 [.t (.agg [.int .i64 A, .int .i64 B, .int .i64 C, .list 5 D E])] ⟨[], []⟩) fun a b => asT a fun c => asI .i64 c fun a => endB b <|
(bif (!decide (a = 0)) then
 some ((.tup [.t (.agg [.int .i64 0, .int .i64 0, .int .i64 0, .list 5 false []]), .t (.int .i64 1)]), ⟨[], []⟩)
else
(bif (decide (F < 0)) then
 some ((.tup [.t (.agg [.int .i64 0, .int .i64 0, .int .i64 0, .list 5 false []]), .t (.int .i64 1)]), ⟨[], []⟩)
else
(bif (decide (4096 < F)) then
 some ((.tup [.t (.agg [.int .i64 0, .int .i64 0, .int .i64 0, .list 5 false []]), .t (.int .i64 1)]), ⟨[], []⟩)
else
(bif (decide (4096 < (IntKind.i64.wrap ((E.length : Int) + F)))) then
 some ((.tup [.t (.agg [.int .i64 0, .int .i64 0, .int .i64 0, .list 5 false []]), .t (.int .i64 2)]), ⟨[], []⟩)
else
 needC (decide (0 ≤ F) && decide (F ≤ (IntKind.i64.wrap (F + (E.length : Int)))) && decide ((IntKind.i64.wrap (F + (E.length : Int))) * (40 + 1) ≤ 70368744177664)) fun _ => L21_7 (F) ((((List.replicate (F).toNat ((.agg [.int .i64 0, .int .i64 0, .int .i64 0, .int .i64 0, .int .i64 0]) : T))).length : Int)) (0) (A) (B) (C) (D) (E) (0) (0) (0) (false) ([]) (true) ((List.replicate (F).toNat ((.agg [.int .i64 0, .int .i64 0, .int .i64 0, .int .i64 0, .int .i64 0]) : T)))))))
theorem eq21g (KL21_7 KL21_12 : Env → St → Option Res) (A B C : Int) (D : Bool) (E : List T) (F : Int) : gE 21 0 92 Try.f21 (Ta21 KL21_7 KL21_12) [.t (.agg [.int .i64 A, .int .i64 B, .int .i64 C, .list 5 D E]), .t (.int .i64 F)] ⟨[], []⟩ = R21 (WL21_7 KL21_7) (WL21_12 KL21_12) A B C D E F := by kernel_rfl
theorem eq21 (A B C : Int) (D : Bool) (E : List T) (F : Int) : vr 21 0 [.t (.agg [.int .i64 A, .int .i64 B, .int .i64 C, .list 5 D E]), .t (.int .i64 F)] ⟨[], []⟩ = R21 L21_7 L21_12 A B C D E F :=
 Eq.trans (call_eq Try.prog hint (fn := Try.f21) (nt := 92) (T := (Ta21 VL21_7 VL21_12)) [PaL21_7, PaL21_12] rfl _ _ rfl rfl rfl rfl rfl) (eq21g VL21_7 VL21_12 A B C D E F)
noncomputable def RL21_7 (L21_7 : YL21_7) (L21_12 : YL21_12) (by1 A B C D E : Int) (F : Bool) (G : List T) (H I J : Int) (K : Bool) (L : List T) (M : Bool) (N : List T) : Option Res :=
(bif (decide (B < A)) then
 needC (decide (0 ≤ B) && decide (B < (N.length : Int))) fun _ => needC (M && true) fun _ => setT N ((B).toNat) (.agg [.int .i64 10, .int .i64 (IntKind.i64.wrap (B + 1)), .int .i64 0, .int .i64 0, .int .i64 0]) fun a => L21_7 (by1) (A) ((IntKind.i64.wrap (B + 1))) (C) (D) (E) (F) (G) (H) (I) (J) (K) (L) (M) (a)
else
 L21_12 (by1) (F) (G) ((G.length : Int)) (0) (C) (D) (E) (F) (G) (H) (I) (J) (K) (L) (M) (N))
theorem L21_7g (KL21_7 KL21_12 : Env → St → Option Res) (by1 A B C D E : Int) (F : Bool) (G : List T) (H I J : Int) (K : Bool) (L : List T) (M : Bool) (N : List T) : WL21_7 (fun e st => gP 21 0 92 Try.f21 (Ta21 KL21_7 KL21_12) (.lp :: PaL21_7) e st) by1 A B C D E F G H I J K L M N = RL21_7 (WL21_7 KL21_7) (WL21_12 KL21_12) by1 A B C D E F G H I J K L M N := by kernel_rfl
theorem L21_7_eq (by1 A B C D E : Int) (F : Bool) (G : List T) (H I J : Int) (K : Bool) (L : List T) (M : Bool) (N : List T) : L21_7 by1 A B C D E F G H I J K L M N = RL21_7 L21_7 L21_12 by1 A B C D E F G H I J K L M N :=
 (congrArg (fun k => WL21_7 k by1 A B C D E F G H I J K L M N) (funext fun e => funext fun st => round_eq Try.prog hint (b := (nav (List.reverse (.lp :: PaL21_7)) (bodyOf Try.f21))) (fn := Try.f21) (nt := 92) (T := (Ta21 VL21_7 VL21_12)) [PaL21_7, PaL21_12] rfl PaL21_7 e st rfl rfl rfl)).trans (L21_7g VL21_7 VL21_12 by1 A B C D E F G H I J K L M N)
noncomputable def RL21_12 (L21_7 : YL21_7) (L21_12 : YL21_12) (by1 : Int) (A : Bool) (B : List T) (C D E F G : Int) (H : Bool) (I : List T) (J K L : Int) (M : Bool) (N : List T) (O : Bool) (P : List T) : Option Res :=
(bif (decide (D < C)) then
 needC (decide (0 ≤ D)) fun _ => getT B (D).toNat fun a => asA a fun b => consT b fun a c => asI .i64 a fun b => consT c fun a d => asI .i64 a fun c => consT d fun a f => asI .i64 a fun d => consT f fun a g => asI .i64 a fun f => consT g fun a h => asI .i64 a fun g => endT h <| callK (vr 38 0 [.t (.int .i64 b)] ⟨[], []⟩) fun a h => asTup a fun i => consV i fun a j => asT a fun i => asA i fun a => consT a fun i k => asS i fun a => consT k fun a i => asI .i64 a fun k => consT i fun a l => asI .i64 a fun i => consT l fun a m => asI .i64 a fun l => endT m <| consV j fun a m => asT a fun j => asB j fun a =>
 endV m <| endB h <| callK (vr 42 0 [.ptr 0 0 0] ⟨[(0, .var [.t (.int .i64 b), .t (.int .i64 c), .t (.int .i64 d), .t (.int .i64 f), .t (.int .i64 g)])], []⟩) fun a h => asG a fun b => consV b fun a c => isPtr 0 0 1 a <| consV c fun a b => isPtr 0 0 2 a <| consV b fun a c => isPtr 0 0 3 a <| endV c <| consB 0 h fun a b => asVar a fun c => consV c fun a d => asT a fun c => asI .i64 c fun a => consV d fun c f => asT c fun d => asI .i64 d fun c => consV f fun d g => asT d fun f => asI .i64 f fun d => consV g fun f h => asT f fun g => asI .i64 g fun f => consV h fun g j => asT g fun h => asI .i64 h fun g =>
 endV j <| endB b <|
(bif (decide (k = 4)) then
(bif (decide (i = 4)) then
(bif (decide (l = 4)) then
 needC (decide ((P.length + 1) * (40 + 1) ≤ 70368744177664) && decide (40 ≤ 1048576)) fun _ => L21_12 (by1) (A) (B) (C) ((IntKind.i64.wrap (D + 1))) (E) (F) (G) (H) (I) (J) (K) (L) (M) (N) ((O || true)) ((P ++ ([.agg [.int .i64 a, .int .i64 (IntKind.i64.wrap (c + by1)), .int .i64 (IntKind.i64.wrap (d + by1)), .int .i64 (IntKind.i64.wrap (f + by1)), .int .i64 g]] : List T)))
else
 needC (decide ((P.length + 1) * (40 + 1) ≤ 70368744177664) && decide (40 ≤ 1048576)) fun _ => L21_12 (by1) (A) (B) (C) ((IntKind.i64.wrap (D + 1))) (E) (F) (G) (H) (I) (J) (K) (L) (M) (N) ((O || true)) ((P ++ ([.agg [.int .i64 a, .int .i64 (IntKind.i64.wrap (c + by1)), .int .i64 (IntKind.i64.wrap (d + by1)), .int .i64 f, .int .i64 g]] : List T))))
else
(bif (decide (l = 4)) then
 needC (decide ((P.length + 1) * (40 + 1) ≤ 70368744177664) && decide (40 ≤ 1048576)) fun _ => L21_12 (by1) (A) (B) (C) ((IntKind.i64.wrap (D + 1))) (E) (F) (G) (H) (I) (J) (K) (L) (M) (N) ((O || true)) ((P ++ ([.agg [.int .i64 a, .int .i64 (IntKind.i64.wrap (c + by1)), .int .i64 d, .int .i64 (IntKind.i64.wrap (f + by1)), .int .i64 g]] : List T)))
else
 needC (decide ((P.length + 1) * (40 + 1) ≤ 70368744177664) && decide (40 ≤ 1048576)) fun _ => L21_12 (by1) (A) (B) (C) ((IntKind.i64.wrap (D + 1))) (E) (F) (G) (H) (I) (J) (K) (L) (M) (N) ((O || true)) ((P ++ ([.agg [.int .i64 a, .int .i64 (IntKind.i64.wrap (c + by1)), .int .i64 d, .int .i64 f, .int .i64 g]] : List T)))))
else
(bif (decide (i = 4)) then
(bif (decide (l = 4)) then
 needC (decide ((P.length + 1) * (40 + 1) ≤ 70368744177664) && decide (40 ≤ 1048576)) fun _ => L21_12 (by1) (A) (B) (C) ((IntKind.i64.wrap (D + 1))) (E) (F) (G) (H) (I) (J) (K) (L) (M) (N) ((O || true)) ((P ++ ([.agg [.int .i64 a, .int .i64 c, .int .i64 (IntKind.i64.wrap (d + by1)), .int .i64 (IntKind.i64.wrap (f + by1)), .int .i64 g]] : List T)))
else
 needC (decide ((P.length + 1) * (40 + 1) ≤ 70368744177664) && decide (40 ≤ 1048576)) fun _ => L21_12 (by1) (A) (B) (C) ((IntKind.i64.wrap (D + 1))) (E) (F) (G) (H) (I) (J) (K) (L) (M) (N) ((O || true)) ((P ++ ([.agg [.int .i64 a, .int .i64 c, .int .i64 (IntKind.i64.wrap (d + by1)), .int .i64 f, .int .i64 g]] : List T))))
else
(bif (decide (l = 4)) then
 needC (decide ((P.length + 1) * (40 + 1) ≤ 70368744177664) && decide (40 ≤ 1048576)) fun _ => L21_12 (by1) (A) (B) (C) ((IntKind.i64.wrap (D + 1))) (E) (F) (G) (H) (I) (J) (K) (L) (M) (N) ((O || true)) ((P ++ ([.agg [.int .i64 a, .int .i64 c, .int .i64 d, .int .i64 (IntKind.i64.wrap (f + by1)), .int .i64 g]] : List T)))
else
 needC (decide ((P.length + 1) * (40 + 1) ≤ 70368744177664) && decide (40 ≤ 1048576)) fun _ => L21_12 (by1) (A) (B) (C) ((IntKind.i64.wrap (D + 1))) (E) (F) (G) (H) (I) (J) (K) (L) (M) (N) ((O || true)) ((P ++ ([.agg [.int .i64 a, .int .i64 c, .int .i64 d, .int .i64 f, .int .i64 g]] : List T))))))
else
 some ((.tup [.t (.agg [.int .i64 E, .int .i64 F, .int .i64 G, .list 5 O P]), .t (.int .i64 0)]), ⟨[], []⟩))
theorem L21_12g (KL21_7 KL21_12 : Env → St → Option Res) (by1 : Int) (A : Bool) (B : List T) (C D E F G : Int) (H : Bool) (I : List T) (J K L : Int) (M : Bool) (N : List T) (O : Bool) (P : List T) : WL21_12 (fun e st => gP 21 0 92 Try.f21 (Ta21 KL21_7 KL21_12) (.lp :: PaL21_12) e st) by1 A B C D E F G H I J K L M N O P = RL21_12 (WL21_7 KL21_7) (WL21_12 KL21_12) by1 A B C D E F G H I J K L M N O P := by kernel_rfl
theorem L21_12_eq (by1 : Int) (A : Bool) (B : List T) (C D E F G : Int) (H : Bool) (I : List T) (J K L : Int) (M : Bool) (N : List T) (O : Bool) (P : List T) : L21_12 by1 A B C D E F G H I J K L M N O P = RL21_12 L21_7 L21_12 by1 A B C D E F G H I J K L M N O P :=
 (congrArg (fun k => WL21_12 k by1 A B C D E F G H I J K L M N O P) (funext fun e => funext fun st => round_eq Try.prog hint (b := (nav (List.reverse (.lp :: PaL21_12)) (bodyOf Try.f21))) (fn := Try.f21) (nt := 92) (T := (Ta21 VL21_7 VL21_12)) [PaL21_7, PaL21_12] rfl PaL21_12 e st rfl rfl rfl)).trans (L21_12g VL21_7 VL21_12 by1 A B C D E F G H I J K L M N O P)
noncomputable def R37  (A B : Int) : Option Res := some ((.t (.bool (decide (A ≤ B)))), ⟨[(0, .var [.t (.int .i64 B)])], [500]⟩)
theorem eq37g  (A B : Int) : gE 37 0 7 Try.f37 [] [.t (.int .i64 A), .ptr 0 0 0] ⟨[(0, .var [.t (.int .i64 B)])], []⟩ = R37  A B := by kernel_rfl
theorem eq37 (A B : Int) : vr 37 0 [.t (.int .i64 A), .ptr 0 0 0] ⟨[(0, .var [.t (.int .i64 B)])], []⟩ = R37  A B :=
 Eq.trans (call_eq Try.prog hint (fn := Try.f37) (nt := 7) (T := []) [] rfl _ _ rfl rfl rfl rfl rfl) (eq37g  A B)
noncomputable def R57v1 (L57v1_2 : YL57v1_2) (A : Bool) (B : List T) (C : Int) : Option Res := L57v1_2 (A) (B) ((B.length : Int)) (0) (C)
theorem eq57v1g (KL57v1_2 : Env → St → Option Res) (A : Bool) (B : List T) (C : Int) : gE 57 1 19 Try.f57 (Ta57v1 KL57v1_2) [.t (.list 1 A B), .fn 37 [] [.ptr 0 0 0]] ⟨[(0, .var [.t (.int .i64 C)])], []⟩ = R57v1 (WL57v1_2 KL57v1_2) A B C := by kernel_rfl
theorem eq57v1 (A : Bool) (B : List T) (C : Int) : vr 57 1 [.t (.list 1 A B), .fn 37 [] [.ptr 0 0 0]] ⟨[(0, .var [.t (.int .i64 C)])], []⟩ = R57v1 L57v1_2 A B C :=
 Eq.trans (call_eq Try.prog hint (fn := Try.f57) (nt := 19) (T := (Ta57v1 VL57v1_2)) [PaL57v1_2] rfl _ _ rfl rfl rfl rfl rfl) (eq57v1g VL57v1_2 A B C)
noncomputable def RL57v1_2 (L57v1_2 : YL57v1_2) (s0z : Bool) (s0 : List T) (A B C : Int) : Option Res :=
(bif (decide (B < A)) then
 needC (decide (0 ≤ B)) fun _ => getT s0 (B).toNat fun a => asI .i64 a fun b => callK (vr 37 0 [.t (.int .i64 b), .ptr 0 0 0] ⟨[(0, .var [.t (.int .i64 C)])], []⟩) fun a c => asT a fun b => asB b fun a => consB 0 c fun b d => asVar b fun c => consV c fun b f => asT b fun c => asI .i64 c fun b => endV f <| endB d <|
(bif a then
 some ((.t (.int .i64 B)), ⟨[(0, .var [.t (.int .i64 b)])], [500]⟩)
else
 L57v1_2 (s0z) (s0) (A) ((IntKind.i64.wrap (B + 1))) (b))
else
 some ((.t (.int .i64 (-1))), ⟨[(0, .var [.t (.int .i64 C)])], [500]⟩))
theorem L57v1_2g (KL57v1_2 : Env → St → Option Res) (s0z : Bool) (s0 : List T) (A B C : Int) : WL57v1_2 (fun e st => gP 57 1 19 Try.f57 (Ta57v1 KL57v1_2) (.lp :: PaL57v1_2) e st) s0z s0 A B C = RL57v1_2 (WL57v1_2 KL57v1_2) s0z s0 A B C := by kernel_rfl
theorem L57v1_2_eq (s0z : Bool) (s0 : List T) (A B C : Int) : L57v1_2 s0z s0 A B C = RL57v1_2 L57v1_2 s0z s0 A B C :=
 (congrArg (fun k => WL57v1_2 k s0z s0 A B C) (funext fun e => funext fun st => round_eq Try.prog hint (b := (nav (List.reverse (.lp :: PaL57v1_2)) (bodyOf Try.f57))) (fn := Try.f57) (nt := 19) (T := (Ta57v1 VL57v1_2)) [PaL57v1_2] rfl PaL57v1_2 e st rfl rfl rfl)).trans (L57v1_2g VL57v1_2 s0z s0 A B C)
noncomputable def R36v1  (A : Bool) (B : List T) (C : Int) : Option Res := callK (vr 57 1 [.t (.list 1 A B), .fn 37 [] [.ptr 0 0 0]] ⟨[(0, .var [.t (.int .i64 C)])], []⟩) fun a b => asT a fun c => asI .i64 c fun a => consB 0 b fun c d => asVar c fun b => consV b fun c f => asT c fun b => asI .i64 b fun c => endV f <| endB d <| some ((.t (.bool (decide (0 ≤ a)))), ⟨[(0, .var [.t (.int .i64 c)])], [500]⟩)
theorem eq36v1g  (A : Bool) (B : List T) (C : Int) : gE 36 1 9 Try.f36 [] [.t (.list 1 A B), .fn 37 [] [.ptr 0 0 0]] ⟨[(0, .var [.t (.int .i64 C)])], []⟩ = R36v1  A B C := by kernel_rfl
theorem eq36v1 (A : Bool) (B : List T) (C : Int) : vr 36 1 [.t (.list 1 A B), .fn 37 [] [.ptr 0 0 0]] ⟨[(0, .var [.t (.int .i64 C)])], []⟩ = R36v1  A B C :=
 Eq.trans (call_eq Try.prog hint (fn := Try.f36) (nt := 9) (T := []) [] rfl _ _ rfl rfl rfl rfl rfl) (eq36v1g  A B C)
noncomputable def R35  (A B C D E F : Int) : Option Res := callK (vr 11 0 [.t (.agg [.int .i64 B, .int .i64 C, .int .i64 D, .int .i64 E, .int .i64 F]), .t (.int .i64 A)] ⟨[], []⟩) fun a b => asT a fun c => asL 1 c fun a d => endB b <| callK (vr 36 1 [.t (.list 1 a d), .fn 37 [] [.ptr 0 0 0]] ⟨[(0, .var [.t (.int .i64 A)])], []⟩) fun b c => asT b fun a => asB a fun b => consB 0 c fun a d => asVar a fun c => consV c fun a f => asT a fun c => asI .i64 c fun a => endV f <| endB d <| some ((.t (.bool b)), ⟨[], []⟩)
theorem eq35g  (A B C D E F : Int) : gE 35 0 10 Try.f35 [] [.t (.int .i64 A), .t (.agg [.int .i64 B, .int .i64 C, .int .i64 D, .int .i64 E, .int .i64 F])] ⟨[], []⟩ = R35  A B C D E F := by kernel_rfl
theorem eq35 (A B C D E F : Int) : vr 35 0 [.t (.int .i64 A), .t (.agg [.int .i64 B, .int .i64 C, .int .i64 D, .int .i64 E, .int .i64 F])] ⟨[], []⟩ = R35  A B C D E F :=
 Eq.trans (call_eq Try.prog hint (fn := Try.f35) (nt := 10) (T := []) [] rfl _ _ rfl rfl rfl rfl rfl) (eq35g  A B C D E F)
noncomputable def R34v1 (L34v1_2 : YL34v1_2) (A B C : Int) (D : Bool) (E : List T) (F : Bool) (G : List T) (H : Bool) (I : List T) : Option Res := L34v1_2 (D) (E) ((E.length : Int)) (0) (A) (B) (C) (D) (E) (F) (G) (H) (I) (false) ([])
theorem eq34v1g (KL34v1_2 : Env → St → Option Res) (A B C : Int) (D : Bool) (E : List T) (F : Bool) (G : List T) (H : Bool) (I : List T) : gE 34 1 37 Try.f34 (Ta34v1 KL34v1_2) [.ptr 0 0 0, .fn 35 [] []] ⟨[(0, .var [.t (.int .i64 A), .t (.int .i64 B), .t (.int .i64 C), .t (.list 5 D E), .buf 1, .buf 2]), (1, .arr true 2 F G), (2, .arr true 1 H I)], []⟩ = R34v1 (WL34v1_2 KL34v1_2) A B C D E F G H I := by kernel_rfl
theorem eq34v1 (A B C : Int) (D : Bool) (E : List T) (F : Bool) (G : List T) (H : Bool) (I : List T) : vr 34 1 [.ptr 0 0 0, .fn 35 [] []] ⟨[(0, .var [.t (.int .i64 A), .t (.int .i64 B), .t (.int .i64 C), .t (.list 5 D E), .buf 1, .buf 2]), (1, .arr true 2 F G), (2, .arr true 1 H I)], []⟩ = R34v1 L34v1_2 A B C D E F G H I :=
 Eq.trans (call_eq Try.prog hint (fn := Try.f34) (nt := 37) (T := (Ta34v1 VL34v1_2)) [PaL34v1_2] rfl _ _ rfl rfl rfl rfl rfl) (eq34v1g VL34v1_2 A B C D E F G H I)
noncomputable def RL34v1_2 (L34v1_2 : YL34v1_2) (A : Bool) (B : List T) (C D E F G : Int) (H : Bool) (I : List T) (J : Bool) (K : List T) (L : Bool) (M : List T) (N : Bool) (O : List T) : Option Res :=
(bif (decide (D < C)) then
 needC (decide (0 ≤ D)) fun _ => getT B (D).toNat fun a => asA a fun b => consT b fun a c => asI .i64 a fun b => consT c fun a d => asI .i64 a fun c => consT d fun a f => asI .i64 a fun d => consT f fun a g => asI .i64 a fun f => consT g fun a h => asI .i64 a fun g => endT h <| needC (decide (0 ≤ D) && decide (D < (M.length : Int))) fun _ => getT M ((D).toNat) fun a => asB a fun h =>
(bif h then
 callK (vr 35 0 [.t (.int .i64 D), .t (.agg [.int .i64 b, .int .i64 c, .int .i64 d, .int .i64 f, .int .i64 g])] ⟨[], []⟩) fun a h => asT a fun b => asB b fun a => endB h <|
(bif a then
 needC (decide ((O.length + 1) * (8 + 1) ≤ 70368744177664) && decide (8 ≤ 1048576)) fun _ => L34v1_2 (A) (B) (C) ((IntKind.i64.wrap (D + 1))) (E) (F) (G) (H) (I) (J) (K) (L) (M) ((N || true)) ((O ++ ([.int .i64 D] : List T)))
else
 L34v1_2 (A) (B) (C) ((IntKind.i64.wrap (D + 1))) (E) (F) (G) (H) (I) (J) (K) (L) (M) (N) (O))
else
 L34v1_2 (A) (B) (C) ((IntKind.i64.wrap (D + 1))) (E) (F) (G) (H) (I) (J) (K) (L) (M) (N) (O))
else
 some ((.t (.list 1 N O)), (Z5 E F G H I J K L M)))
theorem L34v1_2g (KL34v1_2 : Env → St → Option Res) (A : Bool) (B : List T) (C D E F G : Int) (H : Bool) (I : List T) (J : Bool) (K : List T) (L : Bool) (M : List T) (N : Bool) (O : List T) : WL34v1_2 (fun e st => gP 34 1 37 Try.f34 (Ta34v1 KL34v1_2) (.lp :: PaL34v1_2) e st) A B C D E F G H I J K L M N O = RL34v1_2 (WL34v1_2 KL34v1_2) A B C D E F G H I J K L M N O := by kernel_rfl
theorem L34v1_2_eq (A : Bool) (B : List T) (C D E F G : Int) (H : Bool) (I : List T) (J : Bool) (K : List T) (L : Bool) (M : List T) (N : Bool) (O : List T) : L34v1_2 A B C D E F G H I J K L M N O = RL34v1_2 L34v1_2 A B C D E F G H I J K L M N O :=
 (congrArg (fun k => WL34v1_2 k A B C D E F G H I J K L M N O) (funext fun e => funext fun st => round_eq Try.prog hint (b := (nav (List.reverse (.lp :: PaL34v1_2)) (bodyOf Try.f34))) (fn := Try.f34) (nt := 37) (T := (Ta34v1 VL34v1_2)) [PaL34v1_2] rfl PaL34v1_2 e st rfl rfl rfl)).trans (L34v1_2g VL34v1_2 A B C D E F G H I J K L M N O)
noncomputable def R10  (A B C : Int) (D : Bool) (E : List T) : Option Res := callK (vr 33 0 [.t (.agg [.int .i64 A, .int .i64 B, .int .i64 C, .list 5 D E])] ⟨[], []⟩) fun a b =>
(bif fitsH (.tup [.nilp, .t (.one (.int .i64))]) [] a b then
 asTup a fun c => consV c fun d f => isNil d <| consV f fun c d => asT c fun f => asI .i64 f fun c => endV d <| endB b <|
(bif (!decide (c = 0)) then
 some ((.tup [.t (.list 1 false []), .t (.int .i64 c)]), ⟨[], []⟩)
else
 callK (vr 34 1 [.con (.pointer none), .fn 35 [] []] ⟨[], []⟩) fun c d => asT c fun f => asL 1 f fun c g => consB 0 d fun f h => asVar f fun d => consV d fun f i => asT f fun d => asI .i64 d fun f => consV i fun d f => asT d fun i => asI .i64 i fun d => consV f fun d i => asT d fun f => asI .i64 f fun d => consV i fun d f => asT d fun i => asL 5 i fun d j => consV f fun d i => isBuf 1 d <| consV i fun d f => isBuf 2 d <| endV f <| consB 1 h fun d f => asArr 2 d fun h i => consB 2 f fun d h => asArr 1 d fun f i => endB h <| some ((.tup [.t (.list 1 c g), .t (.int .i64 0)]), ⟨[], []⟩))
else
 asTup a fun c => consV c fun a d => isPtr 500 0 0 a <| consV d fun a c => asT a fun d => asI .i64 d fun a => endV c <| consB 500 b fun c d => asVar c fun b => consV b fun c f => asT c fun b => asI .i64 b fun c => consV f fun b g => asT b fun f => asI .i64 f fun b => consV g fun f h => asT f fun g => asI .i64 g fun f => consV h fun g i => asT g fun h => asL 5 h fun g j => consV i fun h k => isBuf 501 h <| consV k fun h i => isBuf 502 h <| endV i <| consB 501 d fun h i => asArr 2 h fun d k => consB 502 i fun h l => asArr 1 h fun i m => endB l <|
(bif (!decide (a = 0)) then
 some ((.tup [.t (.list 1 false []), .t (.int .i64 a)]), ⟨[], []⟩)
else
 callK (vr 34 1 [.ptr 0 0 0, .fn 35 [] []] ⟨[(0, .var [.t (.int .i64 c), .t (.int .i64 b), .t (.int .i64 f), .t (.list 5 g j), .buf 1, .buf 2]), (1, .arr true 2 d k), (2, .arr true 1 i m)], []⟩) fun a h => asT a fun b => asL 1 b fun a c => consB 0 h fun b d => asVar b fun f => consV f fun b g => asT b fun f => asI .i64 f fun b => consV g fun b f => asT b fun g => asI .i64 g fun b => consV f fun b g => asT b fun f => asI .i64 f fun b => consV g fun b f => asT b fun g => asL 5 g fun b h => consV f fun b g => isBuf 1 b <| consV g fun b f => isBuf 2 b <| endV f <| consB 1 d fun b f => asArr 2 b fun d g =>
 consB 2 f fun b d => asArr 1 b fun f g => endB d <| some ((.tup [.t (.list 1 a c), .t (.int .i64 0)]), ⟨[], []⟩)))
theorem eq10g  (A B C : Int) (D : Bool) (E : List T) : gE 10 0 16 Try.f10 [] [.t (.agg [.int .i64 A, .int .i64 B, .int .i64 C, .list 5 D E])] ⟨[], []⟩ = R10  A B C D E := by kernel_rfl
theorem eq10 (A B C : Int) (D : Bool) (E : List T) : vr 10 0 [.t (.agg [.int .i64 A, .int .i64 B, .int .i64 C, .list 5 D E])] ⟨[], []⟩ = R10  A B C D E :=
 Eq.trans (call_eq Try.prog hint (fn := Try.f10) (nt := 16) (T := []) [] rfl _ _ rfl rfl rfl rfl rfl) (eq10g  A B C D E)
noncomputable def R22 (L22_4 : YL22_4) (L22_9 : YL22_9) (A : Bool) (B : List T) (C : Bool) (D : List T) : Option Res :=
(bif (!decide ((B.length : Int) = (D.length : Int))) then
 some ((.t (.bool false)), ⟨[], []⟩)
else
 L22_4 (A) (B) (C) (D) ((B.length : Int)) (0))
theorem eq22g (KL22_4 KL22_9 : Env → St → Option Res) (A : Bool) (B : List T) (C : Bool) (D : List T) : gE 22 0 53 Try.f22 (Ta22 KL22_4 KL22_9) [.t (.list 1 A B), .t (.list 1 C D)] ⟨[], []⟩ = R22 (WL22_4 KL22_4) (WL22_9 KL22_9) A B C D := by kernel_rfl
theorem eq22 (A : Bool) (B : List T) (C : Bool) (D : List T) : vr 22 0 [.t (.list 1 A B), .t (.list 1 C D)] ⟨[], []⟩ = R22 L22_4 L22_9 A B C D :=
 Eq.trans (call_eq Try.prog hint (fn := Try.f22) (nt := 53) (T := (Ta22 VL22_4 VL22_9)) [PaL22_4, PaL22_9] rfl _ _ rfl rfl rfl rfl rfl) (eq22g VL22_4 VL22_9 A B C D)
noncomputable def RL22_4 (L22_4 : YL22_4) (L22_9 : YL22_9) (A : Bool) (B : List T) (b1z : Bool) (b1 : List T) (C D : Int) : Option Res :=
(bif (decide (D < C)) then
 needC (decide (0 ≤ D)) fun _ => getT B (D).toNat fun a => asL 1 a fun b c => needC (decide (0 ≤ D)) fun _ => getT b1 (D).toNat fun a => asL 1 a fun b d =>
(bif (!decide ((c.length : Int) = (d.length : Int))) then
 some ((.t (.bool false)), ⟨[], []⟩)
else
 needC (decide (0 ≤ D)) fun _ => getT B (D).toNat fun a => asL 1 a fun b c => L22_9 (A) (B) (b1z) (b1) (D) (C) (D) ((c.length : Int)) (0))
else
 some ((.t (.bool true)), ⟨[], []⟩))
theorem L22_4g (KL22_4 KL22_9 : Env → St → Option Res) (A : Bool) (B : List T) (b1z : Bool) (b1 : List T) (C D : Int) : WL22_4 (fun e st => gP 22 0 53 Try.f22 (Ta22 KL22_4 KL22_9) (.lp :: PaL22_4) e st) A B b1z b1 C D = RL22_4 (WL22_4 KL22_4) (WL22_9 KL22_9) A B b1z b1 C D := by kernel_rfl
theorem L22_4_eq (A : Bool) (B : List T) (b1z : Bool) (b1 : List T) (C D : Int) : L22_4 A B b1z b1 C D = RL22_4 L22_4 L22_9 A B b1z b1 C D :=
 (congrArg (fun k => WL22_4 k A B b1z b1 C D) (funext fun e => funext fun st => round_eq Try.prog hint (b := (nav (List.reverse (.lp :: PaL22_4)) (bodyOf Try.f22))) (fn := Try.f22) (nt := 53) (T := (Ta22 VL22_4 VL22_9)) [PaL22_4, PaL22_9] rfl PaL22_4 e st rfl rfl rfl)).trans (L22_4g VL22_4 VL22_9 A B b1z b1 C D)
noncomputable def RL22_9 (L22_4 : YL22_4) (L22_9 : YL22_9) (A : Bool) (B : List T) (b1z : Bool) (b1 : List T) (i5 C D E F : Int) : Option Res :=
(bif (decide (F < E)) then
 needC (decide (0 ≤ i5)) fun _ => getT B (i5).toNat fun a => asL 1 a fun b c => needC (decide (0 ≤ F)) fun _ => getT c (F).toNat fun a => asI .i64 a fun b => needC (decide (0 ≤ i5)) fun _ => getT b1 (i5).toNat fun a => asL 1 a fun c d => needC (decide (0 ≤ F)) fun _ => getT d (F).toNat fun a => asI .i64 a fun c =>
(bif (!decide (b = c)) then
 some ((.t (.bool false)), ⟨[], []⟩)
else
 L22_9 (A) (B) (b1z) (b1) (i5) (C) (D) (E) ((IntKind.i64.wrap (F + 1))))
else
 L22_4 (A) (B) (b1z) (b1) (C) ((IntKind.i64.wrap (D + 1))))
theorem L22_9g (KL22_4 KL22_9 : Env → St → Option Res) (A : Bool) (B : List T) (b1z : Bool) (b1 : List T) (i5 C D E F : Int) : WL22_9 (fun e st => gP 22 0 53 Try.f22 (Ta22 KL22_4 KL22_9) (.lp :: PaL22_9) e st) A B b1z b1 i5 C D E F = RL22_9 (WL22_4 KL22_4) (WL22_9 KL22_9) A B b1z b1 i5 C D E F := by kernel_rfl
theorem L22_9_eq (A : Bool) (B : List T) (b1z : Bool) (b1 : List T) (i5 C D E F : Int) : L22_9 A B b1z b1 i5 C D E F = RL22_9 L22_4 L22_9 A B b1z b1 i5 C D E F :=
 (congrArg (fun k => WL22_9 k A B b1z b1 i5 C D E F) (funext fun e => funext fun st => round_eq Try.prog hint (b := (nav (List.reverse (.lp :: PaL22_9)) (bodyOf Try.f22))) (fn := Try.f22) (nt := 53) (T := (Ta22 VL22_4 VL22_9)) [PaL22_4, PaL22_9] rfl PaL22_9 e st rfl rfl rfl)).trans (L22_9g VL22_4 VL22_9 A B b1z b1 i5 C D E F)
noncomputable def R6 (L6_15 : YL6_15) (A B C : Int) (D : Bool) (E : List T) (F : Int) : Option Res := callK (vr 8 0 [] ⟨[], []⟩) fun a b => asT a fun c => asB c fun a => endB b <| callK (vr 9 0 [.t (.agg [.int .i64 A, .int .i64 B, .int .i64 C, .list 5 D E])] ⟨[], []⟩) fun b c => asT b fun d => asB d fun b => endB c <|
(bif (!b) then
 some ((.t (.bool a)), ⟨[], []⟩)
else
 callK (vr 18 0 [.t (.agg [.int .i64 A, .int .i64 B, .int .i64 C, .list 5 D E])] ⟨[], []⟩) fun b c => asT b fun d => asI .i64 d fun b => endB c <|
(bif (!decide (b = 0)) then
 some ((.t (.bool a)), ⟨[], []⟩)
else
 callK (vr 21 0 [.t (.agg [.int .i64 A, .int .i64 B, .int .i64 C, .list 5 D E]), .t (.int .i64 (Int.tmod (IntKind.i64.wrap ((Int.tmod F 40) + 40)) 40))] ⟨[], []⟩) fun b c => asTup b fun d => consV d fun b f => asT b fun d => asA d fun b => consT b fun d g => asI .i64 d fun b => consT g fun d h => asI .i64 d fun g => consT h fun d i => asI .i64 d fun h => consT i fun d j => asL 5 d fun i k => endT j <| consV f fun d j => asT d fun f => asI .i64 f fun d => endV j <| endB c <|
(bif (!decide (d = 0)) then
 some ((.t (.bool false)), ⟨[], []⟩)
else
 callK (vr 14 0 [.t (.agg [.int .i64 b, .int .i64 g, .int .i64 h, .list 5 i k])] ⟨[], []⟩) fun c d => asT c fun f => asI .i64 f fun c => endB d <| callK (vr 14 0 [.t (.agg [.int .i64 A, .int .i64 B, .int .i64 C, .list 5 D E])] ⟨[], []⟩) fun d f => asT d fun j => asI .i64 j fun d => endB f <|
(bif (!decide (c = d)) then
 some ((.t (.bool false)), ⟨[], []⟩)
else
 callK (vr 12 0 [.t (.agg [.int .i64 A, .int .i64 B, .int .i64 C, .list 5 D E])] ⟨[], []⟩) fun c d => asTup c fun f => consV f fun c j => asT c fun f => asL 1 f fun c l => consV j fun f m => asT f fun j => asI .i64 j fun f => endV m <| endB d <| callK (vr 12 0 [.t (.agg [.int .i64 b, .int .i64 g, .int .i64 h, .list 5 i k])] ⟨[], []⟩) fun d j => asTup d fun m => consV m fun d n => asT d fun m => asL 1 m fun d o => consV n fun m p => asT m fun n => asI .i64 n fun m => endV p <| endB j <| callK (vr 10 0 [.t (.agg [.int .i64 A, .int .i64 B, .int .i64 C, .list 5 D E])] ⟨[], []⟩) fun j n => asTup j fun p =>
 consV p fun j q => asT j fun p => asL 1 p fun j r => consV q fun p s => asT p fun q => asI .i64 q fun p => endV s <| endB n <| callK (vr 10 0 [.t (.agg [.int .i64 b, .int .i64 g, .int .i64 h, .list 5 i k])] ⟨[], []⟩) fun n q => asTup n fun b => consV b fun g h => asT g fun b => asL 1 b fun g i => consV h fun b k => asT b fun h => asI .i64 h fun b => endV k <| endB q <|
(bif (!decide (f = 0)) then
 some ((.t (.bool false)), ⟨[], []⟩)
else
(bif (!decide (m = 0)) then
 some ((.t (.bool false)), ⟨[], []⟩)
else
(bif (!decide (p = 0)) then
 some ((.t (.bool false)), ⟨[], []⟩)
else
(bif (!decide (b = 0)) then
 some ((.t (.bool false)), ⟨[], []⟩)
else
(bif (!decide ((o.length : Int) = (IntKind.i64.wrap ((l.length : Int) + (Int.tmod (IntKind.i64.wrap ((Int.tmod F 40) + 40)) 40))))) then
 some ((.t (.bool false)), ⟨[], []⟩)
else
(bif (!decide ((r.length : Int) = (i.length : Int))) then
 some ((.t (.bool false)), ⟨[], []⟩)
else
 cutL o (some (Int.tmod (IntKind.i64.wrap ((Int.tmod F 40) + 40)) 40)) none fun b => callK (vr 22 0 [.t (.list 1 c l), .t (.list 1 d b)] ⟨[], []⟩) fun f h => asT f fun b => asB b fun c => endB h <|
(bif (!c) then
 some ((.t (.bool false)), ⟨[], []⟩)
else
 L6_15 ((Int.tmod (IntKind.i64.wrap ((Int.tmod F 40) + 40)) 40)) (a) (j) (r) (g) (i) ((r.length : Int)) (0))))))))))))
theorem eq6g (KL6_15 : Env → St → Option Res) (A B C : Int) (D : Bool) (E : List T) (F : Int) : gE 6 0 122 Try.f6 (Ta6 KL6_15) [.t (.agg [.int .i64 A, .int .i64 B, .int .i64 C, .list 5 D E]), .t (.int .i64 F)] ⟨[], []⟩ = R6 (WL6_15 KL6_15) A B C D E F := by kernel_rfl
theorem eq6 (A B C : Int) (D : Bool) (E : List T) (F : Int) : vr 6 0 [.t (.agg [.int .i64 A, .int .i64 B, .int .i64 C, .list 5 D E]), .t (.int .i64 F)] ⟨[], []⟩ = R6 L6_15 A B C D E F :=
 Eq.trans (call_eq Try.prog hint (fn := Try.f6) (nt := 122) (T := (Ta6 VL6_15)) [PaL6_15] rfl _ _ rfl rfl rfl rfl rfl) (eq6g VL6_15 A B C D E F)
noncomputable def RL6_15 (L6_15 : YL6_15) (by1 : Int) (up5 l12z : Bool) (l12 : List T) (A : Bool) (B : List T) (C D : Int) : Option Res :=
(bif (decide (D < C)) then
 needC (decide (0 ≤ D)) fun _ => getT B (D).toNat fun a => asI .i64 a fun b => needC (decide (0 ≤ D)) fun _ => getT l12 (D).toNat fun a => asI .i64 a fun c =>
(bif (!decide (b = (IntKind.i64.wrap (c + by1)))) then
 some ((.t (.bool false)), ⟨[], []⟩)
else
 L6_15 (by1) (up5) (l12z) (l12) (A) (B) (C) ((IntKind.i64.wrap (D + 1))))
else
 some ((.t (.bool up5)), ⟨[], []⟩))
theorem L6_15g (KL6_15 : Env → St → Option Res) (by1 : Int) (up5 l12z : Bool) (l12 : List T) (A : Bool) (B : List T) (C D : Int) : WL6_15 (fun e st => gP 6 0 122 Try.f6 (Ta6 KL6_15) (.lp :: PaL6_15) e st) by1 up5 l12z l12 A B C D = RL6_15 (WL6_15 KL6_15) by1 up5 l12z l12 A B C D := by kernel_rfl
theorem L6_15_eq (by1 : Int) (up5 l12z : Bool) (l12 : List T) (A : Bool) (B : List T) (C D : Int) : L6_15 by1 up5 l12z l12 A B C D = RL6_15 L6_15 by1 up5 l12z l12 A B C D :=
 (congrArg (fun k => WL6_15 k by1 up5 l12z l12 A B C D) (funext fun e => funext fun st => round_eq Try.prog hint (b := (nav (List.reverse (.lp :: PaL6_15)) (bodyOf Try.f6))) (fn := Try.f6) (nt := 122) (T := (Ta6 VL6_15)) [PaL6_15] rfl PaL6_15 e st rfl rfl rfl)).trans (L6_15g VL6_15 by1 up5 l12z l12 A B C D)
end Go.Proofs.Ytgkdkjjohknfpaa.VM
