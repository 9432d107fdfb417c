/- The equations of the functions, as the small evaluator gives them (printed by vgen.py). Conditions: none. -/
import Derived.Test.YtgkdkjjohknfpaaVmD
import Derived.Test.YtgkdkjjohknfpaaProg
set_option linter.all false
set_option linter.all false
namespace Go.Proofs.Ytgkdkjjohknfpaa.VM
open Go AM
def normTab : List (Nat × Nat × List (Nat × Norm)) := [
  (67, 0, [(2, { slots := [(0, 0), (3, 0)], cells := [] })]),
  (81, 0, [(4, { slots := [(0, 0), (2, 0), (23, 0), (24, 0)], cells := [] })]),
  (52, 0, [(6, { slots := [(0, 0), (5, 5), (6, 0), (7, 0)], cells := [] }), (21, { slots := [(0, 0), (5, 0), (6, 0), (7, 0), (8, 0)], cells := [] }), (26, { slots := [(0, 0), (5, 0), (7, 0), (8, 0), (9, 0)], cells := [] }), (28, { slots := [(0, 0), (5, 0)], cells := [] })]),
  (69, 0, [(2, { slots := [(0, 0), (1, 0), (7, 0), (8, 0)], cells := [] })]),
  (53, 0, [(2, { slots := [(0, 0), (3, 3)], cells := [] })]),
  (72, 0, [(2, { slots := [(0, 0), (1, 0), (7, 0), (8, 0)], cells := [] })]),
  (55, 0, [(6, { slots := [(0, 0), (2, 0), (4, 0)], cells := [] }), (7, { slots := [(0, 0), (2, 0), (4, 0), (26, 0), (27, 0)], cells := [] })]),
  (44, 0, [(4, { slots := [(2, 0), (5, 0), (6, 0), (7, 0), (26, 0), (27, 0)], cells := [] })]),
  (59, 0, [(2, { slots := [(0, 0), (1, 0), (7, 0), (8, 0)], cells := [] })]),
  (32, 0, [(8, { slots := [(2, 0), (8, 0), (30, 0), (31, 0), (32, 0)], cells := [(2, 3, 7)] }), (17, { slots := [(2, 0), (8, 0), (9, 0), (11, 0), (30, 0), (31, 0), (32, 0)], cells := [] })]),
  (76, 0, [(4, { slots := [(0, 0), (2, 0), (3, 0), (5, 0)], cells := [] })]),
  (56, 0, [(5, { slots := [(1, 0), (3, 0), (4, 0), (5, 0)], cells := [] }), (12, { slots := [(1, 0), (3, 0), (4, 0), (5, 0), (6, 0), (7, 0)], cells := [] }), (13, { slots := [(1, 0), (3, 0), (4, 0), (5, 0), (7, 0), (70, 0), (71, 0), (72, 0)], cells := [] })]),
  (15, 0, [(3, { slots := [(2, 0), (3, 0), (13, 0), (14, 0)], cells := [] })]),
  (57, 0, [(2, { slots := [(0, 0), (1, 0), (7, 0), (8, 0)], cells := [] })]),
  (34, 0, [(2, { slots := [(0, 0), (1, 0), (4, 3), (11, 0), (12, 0), (13, 0)], cells := [] })]),
  (20, 0, [(4, { slots := [(0, 0), (1, 0), (12, 0), (13, 0)], cells := [] })]),
  (59, 1, [(2, { slots := [(0, 0), (1, 0), (7, 0), (8, 0)], cells := [] })]),
  (57, 1, [(2, { slots := [(0, 0), (1, 0), (7, 0), (8, 0)], cells := [] })]),
  (34, 1, [(2, { slots := [(0, 0), (1, 0), (4, 3), (11, 0), (12, 0), (13, 0)], cells := [] })]),
  (3, 0, [(9, { slots := [(1, 0), (2, 0), (5, 0), (8, 0), (31, 0), (32, 0)], cells := [] })])]
def callTab : List (Nat × Nat × List (Nat × Nat × CallH)) := [
  (10, 0, [(1, 1, { w := 0, own := [], pre := [], out := (.tup [.nilp, .t (.one (.int .i64))]), blks := [], alt := [((.tup [.ptr 500 0 0, .t (.one (.int .i64))]), [(500, .var [.t (.int .i64), .t (.int .i64), .t (.int .i64), .t (.list 5), .buf 501, .buf 502]), (501, .arr 2), (502, .arr 1)])] }), (4, 1, { w := 1, own := [], pre := [], out := (.one (.t (.one (.list 1)))), blks := [(0, .var [.t (.int .i64), .t (.int .i64), .t (.int .i64), .t (.list 5), .buf 1, .buf 2]), (1, .arr 2), (2, .arr 1)] })]),
  (14, 0, [(6, 3, { w := 1, own := [], pre := [], out := (.one (.t (.one .bool))), blks := [(0, .var [.t (.int .i64), .t (.int .i64), .t (.int .i64), .t (.list 5)])] })]),
  (15, 0, [(2, 0, { w := 0, own := [], pre := [], out := (.one (.agg [.ptr 0 0 1, .ptr 0 0 2, .ptr 0 0 3])), blks := [(0, .var [.t (.int .i64), .t (.int .i64), .t (.int .i64), .t (.int .i64), .t (.int .i64)])] })]),
  (18, 0, [(2, 18, { w := 0, own := [], pre := [], out := (.one (.t (.one .bool))), blks := [(0, .var [.t (.int .i64), .t (.int .i64), .t (.int .i64), .t (.list 5)])] })]),
  (25, 0, [(1, 1, { w := 0, own := [], pre := [], out := (.tup [.nilp, .t (.one (.int .i64))]), blks := [], alt := [((.tup [.ptr 500 0 0, .t (.one (.int .i64))]), [(500, .var [.t (.int .i64), .t (.int .i64), .t (.int .i64), .t (.list 5), .buf 501, .buf 502]), (501, .arr 2), (502, .arr 1)])] }), (4, 3, { w := 0, own := [], pre := [], out := (.one (.t (.one (.list 1)))), blks := [(0, .var [.t (.int .i64), .t (.int .i64), .t (.int .i64), .t (.list 5), .buf 1, .buf 2]), (1, .arr 2), (2, .arr 1)] })]),
  (32, 0, [(12, 2, { w := 0, own := [], pre := [], out := (.one (.t (.agg [.int .i64, .str, .int .i64]))), blks := [(0, .var [.t (.list 3), .t .bool])] }), (13, 1, { w := 0, own := [], pre := [], out := (.one (.t (.agg [.int .i64, .str, .int .i64]))), blks := [(0, .var [.t (.list 3), .t .bool])] }), (14, 1, { w := 0, own := [], pre := [], out := (.one (.t (.agg [.int .i64, .str, .int .i64]))), blks := [(0, .var [.t (.list 3), .t .bool])] }), (15, 1, { w := 0, own := [], pre := [], out := (.one (.t (.agg [.int .i64, .str, .int .i64]))), blks := [(0, .var [.t (.list 3), .t .bool])] }), (16, 3, { w := 0, own := [], pre := [], out := (.one (.t (.agg [.int .i64, .int .i64, .int .i64, .int .i64, .int .i64]))), blks := [(0, .var [.t (.list 3), .t .bool])] })]),
  (33, 0, [(4, 1, { w := 0, own := [], pre := [], out := (.one (.ptr 500 0 0)), blks := [(500, .var [.t (.int .i64), .t (.int .i64), .t (.int .i64), .t (.list 5), .buf 501, .buf 502]), (501, .arr 2), (502, .arr 1)] })]),
  (34, 0, [(4, 11, { w := 0, own := [], pre := [], out := (.one (.t (.one .bool))), blks := [(0, .var [.t (.int .i64), .t (.int .i64), .t (.int .i64), .t (.list 5), .buf 1, .buf 2]), (1, .arr 2), (2, .arr 1)] })]),
  (35, 0, [(1, 4, { w := 1, own := [], pre := [], out := (.one (.t (.one .bool))), blks := [(0, .var [.t (.int .i64)])] })]),
  (36, 0, [(1, 2, { w := 0, own := [], pre := [], out := (.one (.t (.one (.int .i64)))), blks := [(0, .var [.ptr 1 0 0]), (1, .var [.t (.int .i64), .t (.int .i64), .t (.int .i64), .t (.list 5), .buf 2, .buf 3]), (2, .arr 2), (3, .arr 1), (4, .var [.t (.int .i64)])] })]),
  (36, 1, [(1, 2, { w := 1, own := [], pre := [], out := (.one (.t (.one (.int .i64)))), blks := [(0, .var [.t (.int .i64)])] })]),
  (40, 0, [(1, 2, { w := 0, own := [], pre := [], out := (.one (.t (.one (.int .i64)))), blks := [(0, .var [.t (.int .i64), .t (.int .i64), .t (.int .i64), .t (.list 5)])] })]),
  (40, 1, [(1, 2, { w := 1, own := [], pre := [], out := (.one (.t (.one (.int .i64)))), blks := [(0, .var [.t (.int .i64), .t (.int .i64), .t (.int .i64), .t (.list 5)])] })]),
  (44, 0, [(3, 0, { w := 0, own := [], pre := [], out := (.one (.agg [.ptr 0 0 1, .ptr 0 0 2, .ptr 0 0 3])), blks := [(0, .var [.t (.int .i64), .t (.int .i64), .t (.int .i64), .t (.int .i64), .t (.int .i64)])] })]),
  (48, 0, [(1, 3, { w := 0, own := [], pre := [], out := (.one (.t (.one .bool))), blks := [(0, .var [.ptr 1 0 0]), (1, .var [.t (.int .i64), .t (.int .i64), .t (.int .i64), .t (.list 5), .buf 2, .buf 3]), (2, .arr 2), (3, .arr 1), (4, .var [.t (.int .i64)])] })]),
  (55, 0, [(1, 1, { w := 0, own := [], pre := [], out := (.one (.t (.agg [.int .i64, .str, .int .i64]))), blks := [(0, .var [.t (.list 3), .t .bool])] }), (2, 2, { w := 0, own := [], pre := [], out := (.one (.t (.one (.int .i64)))), blks := [(0, .var [.t .str])] }), (6, 0, { w := 0, own := [], pre := [], out := (.one (.agg [.ptr 0 0 1, .ptr 0 0 2, .ptr 0 0 3])), blks := [(0, .var [.t (.int .i64), .t (.int .i64), .t (.int .i64), .t (.int .i64), .t (.int .i64)])] }), (12, 2, { w := 0, own := [], pre := [], out := (.one (.t (.one (.int .i64)))), blks := [(0, .var [.t (.list 3), .t .bool])] }), (14, 2, { w := 0, own := [], pre := [], out := (.one (.t (.one (.int .i64)))), blks := [(0, .var [.t (.list 3), .t .bool])] }), (16, 2, { w := 0, own := [], pre := [], out := (.one (.t (.agg [.int .i64, .str, .int .i64]))), blks := [(0, .var [.t (.list 3), .t .bool])] }), (18, 1, { w := 0, own := [], pre := [], out := (.one (.t (.one (.int .i64)))), blks := [(0, .var [.t (.list 3), .t .bool])] })]),
  (56, 0, [(15, 3, { w := 0, own := [], pre := [], out := (.tup []), blks := [(0, .var [.ptr 1 0 0]), (1, .var [.t (.int .i64), .t (.int .i64), .t (.int .i64), .t (.list 5), .buf 2, .buf 3]), (2, .arr 2), (3, .arr 1), (4, .var [.buf 5]), (5, .arr 1)], alt := [((.tup []), [(0, .var [.ptr 1 0 0]), (1, .var [.t (.int .i64), .t (.int .i64), .t (.int .i64), .t (.list 5), .buf 2, .buf 3]), (2, .arr 2), (3, .arr 1), (4, .var [.buf 500]), (500, .arr 1)])] })]),
  (57, 0, [(4, 5, { w := 0, own := [], pre := [], out := (.one (.t (.one .bool))), blks := [(0, .var [.ptr 1 0 0]), (1, .var [.t (.int .i64), .t (.int .i64), .t (.int .i64), .t (.list 5), .buf 2, .buf 3]), (2, .arr 2), (3, .arr 1), (4, .var [.t (.int .i64)])] })]),
  (57, 1, [(4, 5, { w := 0, own := [], pre := [], out := (.one (.t (.one .bool))), blks := [(0, .var [.t (.int .i64)])] })]),
  (59, 0, [(4, 5, { w := 0, own := [], pre := [], out := (.one (.t (.one .bool))), blks := [(0, .var [.t (.int .i64), .t (.int .i64), .t (.int .i64), .t (.list 5)])] })]),
  (59, 1, [(4, 5, { w := 0, own := [], pre := [], out := (.one (.t (.one .bool))), blks := [(0, .var [.t (.int .i64), .t (.int .i64), .t (.int .i64), .t (.list 5)])] })]),
  (72, 0, [(4, 5, { w := 0, own := [], pre := [], out := (.one (.t (.one .bool))), blks := [(0, .var [.t .str])] })]),
  (74, 0, [(1, 1, { w := 0, own := [], pre := [], out := (.one (.t (.agg [.int .i64, .str, .int .i64]))), blks := [(0, .var [.t (.list 3), .t .bool])] })]),
  (75, 0, [(2, 1, { w := 0, own := [], pre := [], out := (.one (.t (.agg [.int .i64, .str, .int .i64]))), blks := [(0, .var [.t (.list 3), .t .bool])] }), (3, 1, { w := 0, own := [], pre := [], out := (.one (.t (.agg [.int .i64, .str, .int .i64]))), blks := [(0, .var [.t (.list 3), .t .bool])] }), (4, 1, { w := 0, own := [], pre := [], out := (.one (.t (.agg [.int .i64, .str, .int .i64]))), blks := [(0, .var [.t (.list 3), .t .bool])] })])]
def unrollTab : List (Nat × Nat × Nat) := [(15, 3, 4), (21, 16, 4), (44, 4, 4), (55, 7, 4)]
def ownTab : List (Nat × Nat × List Nat) := []
def eqtTab : List (Nat × List Value) := [(72, [.int .u64 0, .int .u64 0])]
def ovSet : List Nat := [79]
def cutTab : List (Nat × Nat × Nat) := [(56, 7, 4)]
def hint : Hint := mkHint eqtTab normTab callTab ownTab unrollTab ovSet cutTab
noncomputable abbrev gE (f w nt : Nat) (fn : Func) (T : Tab) (args : List V) (st : St) : Option Res := codeT Try.prog hint f w nt T [] (resKV Try.prog fn (hint.own f w)) (nrm hint f w (bodyOf fn) (envV args 0) st).1 (nrm hint f w (bodyOf fn) (envV args 0) st).2 (bodyOf fn)
noncomputable abbrev gP (f w nt : Nat) (fn : Func) (T : Tab) (p : List Stp) (e : Env) (st : St) : Option Res := codeT Try.prog hint f w nt T p (ctxT Try.prog hint f w nt T [] (List.reverse p) (bodyOf fn) (resKV Try.prog fn (hint.own f w))) e st (nav (List.reverse p) (bodyOf fn))
noncomputable def vr (f w : Nat) (args : List V) (st : St) : Option (V × St) := vrun Try.prog hint f w args st
abbrev YL67_2 := ByteArray → Int → Option Res
def PaL67_2 : List Stp := [.blk, .fst, .snd, .snd]
def Ta67 (KL67_2 : Env → St → Option Res) : Tab := [(PaL67_2, KL67_2)]
def WL67_2 (k : Env → St → Option Res) (s0 : ByteArray) (n3 : Int) : Option Res := k [(0, .t (.str s0)), (3, .t (.int .i64 n3))] ⟨[], []⟩
noncomputable def VL67_2 : Env → St → Option Res := fun e st => atV Try.prog hint 67 0 Try.f67 25 (List.reverse PaL67_2) e st
noncomputable def L67_2 (s0 : ByteArray) (n3 : Int) : Option Res := WL67_2 VL67_2 s0 n3
abbrev YL81_4 := ByteArray → Int → Int → Int → Option Res
def PaL81_4 : List Stp := [.blk, .snd, .fst, .snd, .snd]
def Ta81 (KL81_4 : Env → St → Option Res) : Tab := [(PaL81_4, KL81_4)]
def WL81_4 (k : Env → St → Option Res) (s0 : ByteArray) (n2 t23 t24 : Int) : Option Res := k [(0, .t (.str s0)), (2, .t (.int .i64 n2)), (23, .t (.int .i64 t23)), (24, .t (.int .i64 t24))] ⟨[], []⟩
noncomputable def VL81_4 : Env → St → Option Res := fun e st => atV Try.prog hint 81 0 Try.f81 42 (List.reverse PaL81_4) e st
noncomputable def L81_4 (s0 : ByteArray) (n2 t23 t24 : Int) : Option Res := WL81_4 VL81_4 s0 n2 t23 t24
abbrev YL52_6 := ByteArray → Bool → Int → Bool → (List T) → Option Res
abbrev YJ52_28 := ByteArray → Bool → (List T) → Option Res
abbrev YJ52_21 := ByteArray → Bool → Int → Int → Bool → (List T) → Option Res
abbrev YJ52_26 := ByteArray → Int → Int → Bool → (List T) → Int → ByteArray → Int → Option Res
def PaL52_6 : List Stp := [.blk, .fst, .snd, .snd, .snd, .snd, .snd, .blk, .snd]
def PaJ52_28 : List Stp := [.snd, .snd, .snd, .snd, .snd, .snd, .blk, .snd]
def PaJ52_21 : List Stp := [.snd, .snd, .blk, .snd, .lp, .blk, .fst, .snd, .snd, .snd, .snd, .snd, .blk, .snd]
def PaJ52_26 : List Stp := [.snd, .snd, .snd, .snd, .snd, .blk, .snd, .lp, .blk, .fst, .snd, .snd, .snd, .snd, .snd, .blk, .snd]
def Ta52 (KL52_6 KJ52_28 KJ52_21 KJ52_26 : Env → St → Option Res) : Tab := [(PaL52_6, KL52_6), (PaJ52_28, KJ52_28), (PaJ52_21, KJ52_21), (PaJ52_26, KJ52_26)]
def WL52_6 (k : Env → St → Option Res) (s0 : ByteArray) (ends6 : Bool) (at7 : Int) (m8z : Bool) (m8 : List T) : Option Res := k [(0, .t (.str s0)), (5, .buf 8), (6, .t (.bool ends6)), (7, .t (.int .i64 at7))] ⟨[(8, .arr true 3 m8z m8)], []⟩
noncomputable def VL52_6 : Env → St → Option Res := fun e st => atV Try.prog hint 52 0 Try.f52 82 (List.reverse PaL52_6) e st
noncomputable def L52_6 (s0 : ByteArray) (ends6 : Bool) (at7 : Int) (m8z : Bool) (m8 : List T) : Option Res := WL52_6 VL52_6 s0 ends6 at7 m8z m8
def WJ52_28 (k : Env → St → Option Res) (s0 : ByteArray) (m8z : Bool) (m8 : List T) : Option Res := k [(0, .t (.str s0)), (5, .buf 8)] ⟨[(8, .arr true 3 m8z m8)], []⟩
noncomputable def VJ52_28 : Env → St → Option Res := fun e st => atV Try.prog hint 52 0 Try.f52 82 (List.reverse PaJ52_28) e st
noncomputable def J52_28 (s0 : ByteArray) (m8z : Bool) (m8 : List T) : Option Res := WJ52_28 VJ52_28 s0 m8z m8
def WJ52_21 (k : Env → St → Option Res) (s0 : ByteArray) (ends6 : Bool) (at7 n8 : Int) (m8z : Bool) (m8 : List T) : Option Res := k [(0, .t (.str s0)), (5, .buf 8), (6, .t (.bool ends6)), (7, .t (.int .i64 at7)), (8, .t (.int .i64 n8))] ⟨[(8, .arr true 3 m8z m8)], []⟩
noncomputable def VJ52_21 : Env → St → Option Res := fun e st => atV Try.prog hint 52 0 Try.f52 82 (List.reverse PaJ52_21) e st
noncomputable def J52_21 (s0 : ByteArray) (ends6 : Bool) (at7 n8 : Int) (m8z : Bool) (m8 : List T) : Option Res := WJ52_21 VJ52_21 s0 ends6 at7 n8 m8z m8
def WJ52_26 (k : Env → St → Option Res) (s0 : ByteArray) (at7 n8 : Int) (m8z : Bool) (m8 : List T) (m9_0 : Int) (m9_1 : ByteArray) (m9_2 : Int) : Option Res := k [(0, .t (.str s0)), (5, .buf 8), (7, .t (.int .i64 at7)), (8, .t (.int .i64 n8)), (9, .ptr 9 0 0)] ⟨[(8, .arr true 3 m8z m8), (9, .var [.t (.int .i64 m9_0), .t (.str m9_1), .t (.int .i64 m9_2)])], []⟩
noncomputable def VJ52_26 : Env → St → Option Res := fun e st => atV Try.prog hint 52 0 Try.f52 82 (List.reverse PaJ52_26) e st
noncomputable def J52_26 (s0 : ByteArray) (at7 n8 : Int) (m8z : Bool) (m8 : List T) (m9_0 : Int) (m9_1 : ByteArray) (m9_2 : Int) : Option Res := WJ52_26 VJ52_26 s0 at7 n8 m8z m8 m9_0 m9_1 m9_2
abbrev YL69_2 := Bool → (List T) → Int → Int → Option Res
def PaL69_2 : List Stp := [.blk, .snd, .fst, .snd]
def Ta69 (KL69_2 : Env → St → Option Res) : Tab := [(PaL69_2, KL69_2)]
def WL69_2 (k : Env → St → Option Res) (s0z : Bool) (s0 : List T) (t7 t8 : Int) : Option Res := k [(0, .t (.list 3 s0z s0)), (1, .fn 70 [] []), (7, .t (.int .i64 t7)), (8, .t (.int .i64 t8))] ⟨[], []⟩
noncomputable def VL69_2 : Env → St → Option Res := fun e st => atV Try.prog hint 69 0 Try.f69 19 (List.reverse PaL69_2) e st
noncomputable def L69_2 (s0z : Bool) (s0 : List T) (t7 t8 : Int) : Option Res := WL69_2 VL69_2 s0z s0 t7 t8
abbrev YL53_2 := Bool → (List T) → Bool → (List T) → Option Res
def PaL53_2 : List Stp := [.blk, .fst, .snd, .snd]
def Ta53 (KL53_2 : Env → St → Option Res) : Tab := [(PaL53_2, KL53_2)]
def WL53_2 (k : Env → St → Option Res) (l0z : Bool) (l0 : List T) (m8z : Bool) (m8 : List T) : Option Res := k [(0, .t (.list 3 l0z l0)), (3, .buf 8)] ⟨[(8, .arr true 1 m8z m8)], []⟩
noncomputable def VL53_2 : Env → St → Option Res := fun e st => atV Try.prog hint 53 0 Try.f53 35 (List.reverse PaL53_2) e st
noncomputable def L53_2 (l0z : Bool) (l0 : List T) (m8z : Bool) (m8 : List T) : Option Res := WL53_2 VL53_2 l0z l0 m8z m8
abbrev YL72_2 := Bool → (List T) → Int → Int → ByteArray → Option Res
def PaL72_2 : List Stp := [.blk, .snd, .fst, .snd]
def Ta72 (KL72_2 : Env → St → Option Res) : Tab := [(PaL72_2, KL72_2)]
def WL72_2 (k : Env → St → Option Res) (s0z : Bool) (s0 : List T) (t7 t8 : Int) (m0_0 : ByteArray) : Option Res := k [(0, .t (.list 4 s0z s0)), (1, .fn 73 [] [.ptr 0 0 0]), (7, .t (.int .i64 t7)), (8, .t (.int .i64 t8))] ⟨[(0, .var [.t (.str m0_0)])], []⟩
noncomputable def VL72_2 : Env → St → Option Res := fun e st => atV Try.prog hint 72 0 Try.f72 19 (List.reverse PaL72_2) e st
noncomputable def L72_2 (s0z : Bool) (s0 : List T) (t7 t8 : Int) (m0_0 : ByteArray) : Option Res := WL72_2 VL72_2 s0z s0 t7 t8 m0_0
abbrev YJ55_6 := Bool → (List T) → Bool → Int → Int → Int → Int → Int → ByteArray → Int → Int → Int → Option Res
def PaJ55_6 : List Stp := [.snd, .snd, .snd, .snd, .snd]
def Ta55 (KJ55_6 : Env → St → Option Res) : Tab := [(PaJ55_6, KJ55_6)]
def WJ55_6 (k : Env → St → Option Res) (m0_0z : Bool) (m0_0 : List T) (m0_1 : Bool) (m8_0 m8_1 m8_2 m8_3 m8_4 : Int) (m9_0 : ByteArray) (m9_1 m9_2 m9_3 : Int) : Option Res := k [(0, .ptr 0 0 0), (2, .ptr 8 0 0), (4, .ptr 9 0 0)] ⟨[(0, .var [.t (.list 3 m0_0z m0_0), .t (.bool m0_1)]), (8, .var [.t (.int .i64 m8_0), .t (.int .i64 m8_1), .t (.int .i64 m8_2), .t (.int .i64 m8_3), .t (.int .i64 m8_4)]), (9, .var [.t (.str m9_0), .t (.int .i64 m9_1), .t (.int .i64 m9_2), .t (.int .i64 m9_3)])], []⟩
noncomputable def VJ55_6 : Env → St → Option Res := fun e st => atV Try.prog hint 55 0 Try.f55 62 (List.reverse PaJ55_6) e st
noncomputable def J55_6 (m0_0z : Bool) (m0_0 : List T) (m0_1 : Bool) (m8_0 m8_1 m8_2 m8_3 m8_4 : Int) (m9_0 : ByteArray) (m9_1 m9_2 m9_3 : Int) : Option Res := WJ55_6 VJ55_6 m0_0z m0_0 m0_1 m8_0 m8_1 m8_2 m8_3 m8_4 m9_0 m9_1 m9_2 m9_3
abbrev YL59_2 := Bool → (List T) → Int → Int → Int → Int → Int → Bool → (List T) → Option Res
def PaL59_2 : List Stp := [.blk, .snd, .fst, .snd]
def Ta59 (KL59_2 : Env → St → Option Res) : Tab := [(PaL59_2, KL59_2)]
def WL59_2 (k : Env → St → Option Res) (s0z : Bool) (s0 : List T) (t7 t8 m0_0 m0_1 m0_2 : Int) (m0_3z : Bool) (m0_3 : List T) : Option Res := k [(0, .t (.list 5 s0z s0)), (1, .fn 43 [] [.ptr 0 0 0]), (7, .t (.int .i64 t7)), (8, .t (.int .i64 t8))] ⟨[(0, .var [.t (.int .i64 m0_0), .t (.int .i64 m0_1), .t (.int .i64 m0_2), .t (.list 5 m0_3z m0_3)])], []⟩
noncomputable def VL59_2 : Env → St → Option Res := fun e st => atV Try.prog hint 59 0 Try.f59 19 (List.reverse PaL59_2) e st
noncomputable def L59_2 (s0z : Bool) (s0 : List T) (t7 t8 m0_0 m0_1 m0_2 : Int) (m0_3z : Bool) (m0_3 : List T) : Option Res := WL59_2 VL59_2 s0z s0 t7 t8 m0_0 m0_1 m0_2 m0_3z m0_3
abbrev YL32_8 := Bool → (List T) → Bool → (List T) → Int → Int → Int → Int → Int → Bool → (List T) → Option Res
abbrev YJ32_17 := Bool → (List T) → Int → Bool → (List T) → Int → Int → Int → Int → Int → Bool → (List T) → Bool → (List T) → Bool → Option Res
def PaL32_8 : List Stp := [.blk, .snd, .fst, .snd, .snd, .snd, .snd, .snd]
def PaJ32_17 : List Stp := [.snd, .snd, .snd, .blk, .fst, .snd, .snd, .lp, .blk, .snd, .fst, .snd, .snd, .snd, .snd, .snd]
def Ta32 (KL32_8 KJ32_17 : Env → St → Option Res) : Tab := [(PaL32_8, KL32_8), (PaJ32_17, KJ32_17)]
def WL32_8 (k : Env → St → Option Res) (lines8z : Bool) (lines8 : List T) (t30z : Bool) (t30 : List T) (t31 t32 m8_0 m8_1 m8_2 : Int) (m9z : Bool) (m9 : List T) : Option Res := k [(2, .ptr 8 0 0), (8, .t (.list 1 lines8z lines8)), (30, .t (.list 1 t30z t30)), (31, .t (.int .i64 t31)), (32, .t (.int .i64 t32))] ⟨[(8, .var [.t (.int .i64 m8_0), .t (.int .i64 m8_1), .t (.int .i64 m8_2), .buf 9]), (9, .arr true 5 m9z m9)], []⟩
noncomputable def VL32_8 : Env → St → Option Res := fun e st => atV Try.prog hint 32 0 Try.f32 92 (List.reverse PaL32_8) e st
noncomputable def L32_8 (lines8z : Bool) (lines8 : List T) (t30z : Bool) (t30 : List T) (t31 t32 m8_0 m8_1 m8_2 : Int) (m9z : Bool) (m9 : List T) : Option Res := WL32_8 VL32_8 lines8z lines8 t30z t30 t31 t32 m8_0 m8_1 m8_2 m9z m9
def WJ32_17 (k : Env → St → Option Res) (lines8z : Bool) (lines8 : List T) (i9 : Int) (t30z : Bool) (t30 : List T) (t31 t32 m8_0 m8_1 m8_2 : Int) (m9z : Bool) (m9 : List T) (m10_0z : Bool) (m10_0 : List T) (m10_1 : Bool) : Option Res := k [(2, .ptr 8 0 0), (8, .t (.list 1 lines8z lines8)), (9, .t (.int .i64 i9)), (11, .ptr 10 0 0), (30, .t (.list 1 t30z t30)), (31, .t (.int .i64 t31)), (32, .t (.int .i64 t32))] ⟨[(8, .var [.t (.int .i64 m8_0), .t (.int .i64 m8_1), .t (.int .i64 m8_2), .buf 9]), (9, .arr true 5 m9z m9), (10, .var [.t (.list 3 m10_0z m10_0), .t (.bool m10_1)])], []⟩
noncomputable def VJ32_17 : Env → St → Option Res := fun e st => atV Try.prog hint 32 0 Try.f32 92 (List.reverse PaJ32_17) e st
noncomputable def J32_17 (lines8z : Bool) (lines8 : List T) (i9 : Int) (t30z : Bool) (t30 : List T) (t31 t32 m8_0 m8_1 m8_2 : Int) (m9z : Bool) (m9 : List T) (m10_0z : Bool) (m10_0 : List T) (m10_1 : Bool) : Option Res := WJ32_17 VJ32_17 lines8z lines8 i9 t30z t30 t31 t32 m8_0 m8_1 m8_2 m9z m9 m10_0z m10_0 m10_1
abbrev YJ76_4 := Int → Int → Int → Int → Bool → (List T) → Bool → (List T) → Bool → (List T) → Bool → (List T) → (List T) → Option Res
def PaJ76_4 : List Stp := [.snd, .snd]
def Ta76 (KJ76_4 : Env → St → Option Res) : Tab := [(PaJ76_4, KJ76_4)]
def WJ76_4 (k : Env → St → Option Res) (k0 m1_0 m1_1 m1_2 : Int) (m1_3z : Bool) (m1_3 : List T) (m2z : Bool) (m2 : List T) (m3z : Bool) (m3 : List T) (m5z : Bool) (m5 m8 : List T) : Option Res := k [(0, .t (.int .i64 k0)), (2, .ptr 0 0 0), (3, .ptr 4 0 0), (5, .ptr 8 0 0)] ⟨[(0, .var [.ptr 1 0 0]), (1, .var [.t (.int .i64 m1_0), .t (.int .i64 m1_1), .t (.int .i64 m1_2), .t (.list 5 m1_3z m1_3), .buf 2, .buf 3]), (2, .arr true 2 m2z m2), (3, .arr true 1 m3z m3), (4, .var [.buf 5]), (5, .arr true 1 m5z m5), (8, .av m8)], []⟩
noncomputable def VJ76_4 : Env → St → Option Res := fun e st => atV Try.prog hint 76 0 Try.f76 48 (List.reverse PaJ76_4) e st
noncomputable def J76_4 (k0 m1_0 m1_1 m1_2 : Int) (m1_3z : Bool) (m1_3 : List T) (m2z : Bool) (m2 : List T) (m3z : Bool) (m3 : List T) (m5z : Bool) (m5 m8 : List T) : Option Res := WJ76_4 VJ76_4 k0 m1_0 m1_1 m1_2 m1_3z m1_3 m2z m2 m3z m3 m5z m5 m8
abbrev YL56_5 := Int → Int → Int → Bool → (List T) → Int → Int → Int → Bool → (List T) → Bool → (List T) → Bool → (List T) → Bool → (List T) → Option Res
abbrev YJ56_12 := Int → Int → Int → Int → Bool → (List T) → Int → Int → Int → Bool → (List T) → Bool → (List T) → Bool → (List T) → Bool → (List T) → (List T) → Option Res
abbrev YL56_13 := Bool → (List T) → Int → Int → Int → Int → Int → Bool → (List T) → Int → Int → Int → Bool → (List T) → Bool → (List T) → Bool → (List T) → Bool → (List T) → (List T) → Option Res
def PaL56_5 : List Stp := [.blk, .fst, .snd, .snd, .snd, .snd, .snd]
def PaJ56_12 : List Stp := [.snd, .snd, .snd, .snd, .blk, .snd, .lp, .blk, .fst, .snd, .snd, .snd, .snd, .snd]
def PaL56_13 : List Stp := [.blk, .snd, .snd, .snd, .snd, .snd, .blk, .snd, .lp, .blk, .fst, .snd, .snd, .snd, .snd, .snd]
def Ta56 (KL56_5 KJ56_12 KL56_13 : Env → St → Option Res) : Tab := [(PaL56_5, KL56_5), (PaJ56_12, KJ56_12), (PaL56_13, KL56_13)]
def WL56_5 (k : Env → St → Option Res) (m8_0 m8_1 m8_2 : Int) (m8_3z : Bool) (m8_3 : List T) (m10_0 m10_1 m10_2 : Int) (m10_3z : Bool) (m10_3 : List T) (m11z : Bool) (m11 : List T) (m12z : Bool) (m12 : List T) (m14z : Bool) (m14 : List T) : Option Res := k [(1, .ptr 8 0 0), (3, .ptr 9 0 0), (4, .ptr 13 0 0), (5, .fn 76 [] [.ptr 9 0 0, .ptr 13 0 0])] ⟨[(8, .var [.t (.int .i64 m8_0), .t (.int .i64 m8_1), .t (.int .i64 m8_2), .t (.list 5 m8_3z m8_3)]), (9, .var [.ptr 10 0 0]), (10, .var [.t (.int .i64 m10_0), .t (.int .i64 m10_1), .t (.int .i64 m10_2), .t (.list 5 m10_3z m10_3), .buf 11, .buf 12]), (11, .arr true 2 m11z m11), (12, .arr true 1 m12z m12), (13, .var [.buf 14]), (14, .arr true 1 m14z m14)], []⟩
noncomputable def VL56_5 : Env → St → Option Res := fun e st => atV Try.prog hint 56 0 Try.f56 82 (List.reverse PaL56_5) e st
noncomputable def L56_5 (m8_0 m8_1 m8_2 : Int) (m8_3z : Bool) (m8_3 : List T) (m10_0 m10_1 m10_2 : Int) (m10_3z : Bool) (m10_3 : List T) (m11z : Bool) (m11 : List T) (m12z : Bool) (m12 : List T) (m14z : Bool) (m14 : List T) : Option Res := WL56_5 VL56_5 m8_0 m8_1 m8_2 m8_3z m8_3 m10_0 m10_1 m10_2 m10_3z m10_3 m11z m11 m12z m12 m14z m14
def WJ56_12 (k : Env → St → Option Res) (i6 m8_0 m8_1 m8_2 : Int) (m8_3z : Bool) (m8_3 : List T) (m10_0 m10_1 m10_2 : Int) (m10_3z : Bool) (m10_3 : List T) (m11z : Bool) (m11 : List T) (m12z : Bool) (m12 : List T) (m14z : Bool) (m14 m15 : List T) : Option Res := k [(1, .ptr 8 0 0), (3, .ptr 9 0 0), (4, .ptr 13 0 0), (5, .fn 76 [] [.ptr 9 0 0, .ptr 13 0 0]), (6, .t (.int .i64 i6)), (7, .ptr 15 0 0)] ⟨[(8, .var [.t (.int .i64 m8_0), .t (.int .i64 m8_1), .t (.int .i64 m8_2), .t (.list 5 m8_3z m8_3)]), (9, .var [.ptr 10 0 0]), (10, .var [.t (.int .i64 m10_0), .t (.int .i64 m10_1), .t (.int .i64 m10_2), .t (.list 5 m10_3z m10_3), .buf 11, .buf 12]), (11, .arr true 2 m11z m11), (12, .arr true 1 m12z m12), (13, .var [.buf 14]), (14, .arr true 1 m14z m14), (15, .av m15)], []⟩
noncomputable def VJ56_12 : Env → St → Option Res := fun e st => atV Try.prog hint 56 0 Try.f56 82 (List.reverse PaJ56_12) e st
noncomputable def J56_12 (i6 m8_0 m8_1 m8_2 : Int) (m8_3z : Bool) (m8_3 : List T) (m10_0 m10_1 m10_2 : Int) (m10_3z : Bool) (m10_3 : List T) (m11z : Bool) (m11 : List T) (m12z : Bool) (m12 : List T) (m14z : Bool) (m14 m15 : List T) : Option Res := WJ56_12 VJ56_12 i6 m8_0 m8_1 m8_2 m8_3z m8_3 m10_0 m10_1 m10_2 m10_3z m10_3 m11z m11 m12z m12 m14z m14 m15
def WL56_13 (k : Env → St → Option Res) (t70z : Bool) (t70 : List T) (t71 t72 m8_0 m8_1 m8_2 : Int) (m8_3z : Bool) (m8_3 : List T) (m10_0 m10_1 m10_2 : Int) (m10_3z : Bool) (m10_3 : List T) (m11z : Bool) (m11 : List T) (m12z : Bool) (m12 : List T) (m14z : Bool) (m14 m15 : List T) : Option Res := k [(1, .ptr 8 0 0), (3, .ptr 9 0 0), (4, .ptr 13 0 0), (5, .fn 76 [] [.ptr 9 0 0, .ptr 13 0 0]), (7, .ptr 15 0 0), (70, .t (.list 1 t70z t70)), (71, .t (.int .i64 t71)), (72, .t (.int .i64 t72))] ⟨[(8, .var [.t (.int .i64 m8_0), .t (.int .i64 m8_1), .t (.int .i64 m8_2), .t (.list 5 m8_3z m8_3)]), (9, .var [.ptr 10 0 0]), (10, .var [.t (.int .i64 m10_0), .t (.int .i64 m10_1), .t (.int .i64 m10_2), .t (.list 5 m10_3z m10_3), .buf 11, .buf 12]), (11, .arr true 2 m11z m11), (12, .arr true 1 m12z m12), (13, .var [.buf 14]), (14, .arr true 1 m14z m14), (15, .av m15)], []⟩
noncomputable def VL56_13 : Env → St → Option Res := fun e st => atV Try.prog hint 56 0 Try.f56 82 (List.reverse PaL56_13) e st
noncomputable def L56_13 (t70z : Bool) (t70 : List T) (t71 t72 m8_0 m8_1 m8_2 : Int) (m8_3z : Bool) (m8_3 : List T) (m10_0 m10_1 m10_2 : Int) (m10_3z : Bool) (m10_3 : List T) (m11z : Bool) (m11 : List T) (m12z : Bool) (m12 : List T) (m14z : Bool) (m14 m15 : List T) : Option Res := WL56_13 VL56_13 t70z t70 t71 t72 m8_0 m8_1 m8_2 m8_3z m8_3 m10_0 m10_1 m10_2 m10_3z m10_3 m11z m11 m12z m12 m14z m14 m15
abbrev YL57_2 := Bool → (List T) → Int → Int → Int → Int → Int → Bool → (List T) → Bool → (List T) → Bool → (List T) → Int → Option Res
def PaL57_2 : List Stp := [.blk, .snd, .fst, .snd]
def Ta57 (KL57_2 : Env → St → Option Res) : Tab := [(PaL57_2, KL57_2)]
def WL57_2 (k : Env → St → Option Res) (s0z : Bool) (s0 : List T) (t7 t8 m1_0 m1_1 m1_2 : Int) (m1_3z : Bool) (m1_3 : List T) (m2z : Bool) (m2 : List T) (m3z : Bool) (m3 : List T) (m4_0 : Int) : Option Res := k [(0, .t (.list 1 s0z s0)), (1, .fn 62 [] [.ptr 0 0 0, .ptr 4 0 0]), (7, .t (.int .i64 t7)), (8, .t (.int .i64 t8))] ⟨[(0, .var [.ptr 1 0 0]), (1, .var [.t (.int .i64 m1_0), .t (.int .i64 m1_1), .t (.int .i64 m1_2), .t (.list 5 m1_3z m1_3), .buf 2, .buf 3]), (2, .arr true 2 m2z m2), (3, .arr true 1 m3z m3), (4, .var [.t (.int .i64 m4_0)])], []⟩
noncomputable def VL57_2 : Env → St → Option Res := fun e st => atV Try.prog hint 57 0 Try.f57 19 (List.reverse PaL57_2) e st
noncomputable def L57_2 (s0z : Bool) (s0 : List T) (t7 t8 m1_0 m1_1 m1_2 : Int) (m1_3z : Bool) (m1_3 : List T) (m2z : Bool) (m2 : List T) (m3z : Bool) (m3 : List T) (m4_0 : Int) : Option Res := WL57_2 VL57_2 s0z s0 t7 t8 m1_0 m1_1 m1_2 m1_3z m1_3 m2z m2 m3z m3 m4_0
abbrev YL34_2 := Bool → (List T) → Int → Int → Int → Int → Int → Bool → (List T) → Bool → (List T) → Bool → (List T) → Bool → (List T) → Option Res
def PaL34_2 : List Stp := [.blk, .snd, .fst, .snd]
def Ta34 (KL34_2 : Env → St → Option Res) : Tab := [(PaL34_2, KL34_2)]
def WL34_2 (k : Env → St → Option Res) (t11z : Bool) (t11 : List T) (t12 t13 m0_0 m0_1 m0_2 : Int) (m0_3z : Bool) (m0_3 : List T) (m1z : Bool) (m1 : List T) (m2z : Bool) (m2 : List T) (m8z : Bool) (m8 : List T) : Option Res := k [(0, .ptr 0 0 0), (1, .fn 48 [.ptr 0 0 0] []), (4, .buf 8), (11, .t (.list 5 t11z t11)), (12, .t (.int .i64 t12)), (13, .t (.int .i64 t13))] ⟨[(0, .var [.t (.int .i64 m0_0), .t (.int .i64 m0_1), .t (.int .i64 m0_2), .t (.list 5 m0_3z m0_3), .buf 1, .buf 2]), (1, .arr true 2 m1z m1), (2, .arr true 1 m2z m2), (8, .arr true 1 m8z m8)], []⟩
noncomputable def VL34_2 : Env → St → Option Res := fun e st => atV Try.prog hint 34 0 Try.f34 37 (List.reverse PaL34_2) e st
noncomputable def L34_2 (t11z : Bool) (t11 : List T) (t12 t13 m0_0 m0_1 m0_2 : Int) (m0_3z : Bool) (m0_3 : List T) (m1z : Bool) (m1 : List T) (m2z : Bool) (m2 : List T) (m8z : Bool) (m8 : List T) : Option Res := WL34_2 VL34_2 t11z t11 t12 t13 m0_0 m0_1 m0_2 m0_3z m0_3 m1z m1 m2z m2 m8z m8
abbrev YL20_4 := Bool → (List T) → Bool → (List T) → Int → Int → Option Res
def PaL20_4 : List Stp := [.blk, .snd, .fst, .snd, .snd]
def Ta20 (KL20_4 : Env → St → Option Res) : Tab := [(PaL20_4, KL20_4)]
def WL20_4 (k : Env → St → Option Res) (a0z : Bool) (a0 : List T) (b1z : Bool) (b1 : List T) (t12 t13 : Int) : Option Res := k [(0, .t (.list 1 a0z a0)), (1, .t (.list 1 b1z b1)), (12, .t (.int .i64 t12)), (13, .t (.int .i64 t13))] ⟨[], []⟩
noncomputable def VL20_4 : Env → St → Option Res := fun e st => atV Try.prog hint 20 0 Try.f20 26 (List.reverse PaL20_4) e st
noncomputable def L20_4 (a0z : Bool) (a0 : List T) (b1z : Bool) (b1 : List T) (t12 t13 : Int) : Option Res := WL20_4 VL20_4 a0z a0 b1z b1 t12 t13
abbrev YL59v1_2 := Bool → (List T) → Int → Int → Int → Int → Int → Bool → (List T) → Option Res
def PaL59v1_2 : List Stp := [.blk, .snd, .fst, .snd]
def Ta59v1 (KL59v1_2 : Env → St → Option Res) : Tab := [(PaL59v1_2, KL59v1_2)]
def WL59v1_2 (k : Env → St → Option Res) (s0z : Bool) (s0 : List T) (t7 t8 m0_0 m0_1 m0_2 : Int) (m0_3z : Bool) (m0_3 : List T) : Option Res := k [(0, .t (.list 5 s0z s0)), (1, .fn 41 [] [.ptr 0 0 0]), (7, .t (.int .i64 t7)), (8, .t (.int .i64 t8))] ⟨[(0, .var [.t (.int .i64 m0_0), .t (.int .i64 m0_1), .t (.int .i64 m0_2), .t (.list 5 m0_3z m0_3)])], []⟩
noncomputable def VL59v1_2 : Env → St → Option Res := fun e st => atV Try.prog hint 59 1 Try.f59 19 (List.reverse PaL59v1_2) e st
noncomputable def L59v1_2 (s0z : Bool) (s0 : List T) (t7 t8 m0_0 m0_1 m0_2 : Int) (m0_3z : Bool) (m0_3 : List T) : Option Res := WL59v1_2 VL59v1_2 s0z s0 t7 t8 m0_0 m0_1 m0_2 m0_3z m0_3
abbrev YL57v1_2 := Bool → (List T) → Int → Int → Int → Option Res
def PaL57v1_2 : List Stp := [.blk, .snd, .fst, .snd]
def Ta57v1 (KL57v1_2 : Env → St → Option Res) : Tab := [(PaL57v1_2, KL57v1_2)]
def WL57v1_2 (k : Env → St → Option Res) (s0z : Bool) (s0 : List T) (t7 t8 m0_0 : Int) : Option Res := k [(0, .t (.list 1 s0z s0)), (1, .fn 37 [] [.ptr 0 0 0]), (7, .t (.int .i64 t7)), (8, .t (.int .i64 t8))] ⟨[(0, .var [.t (.int .i64 m0_0)])], []⟩
noncomputable def VL57v1_2 : Env → St → Option Res := fun e st => atV Try.prog hint 57 1 Try.f57 19 (List.reverse PaL57v1_2) e st
noncomputable def L57v1_2 (s0z : Bool) (s0 : List T) (t7 t8 m0_0 : Int) : Option Res := WL57v1_2 VL57v1_2 s0z s0 t7 t8 m0_0
abbrev YL34v1_2 := Bool → (List T) → Int → Int → Int → Int → Int → Bool → (List T) → Bool → (List T) → Bool → (List T) → Bool → (List T) → Option Res
def PaL34v1_2 : List Stp := [.blk, .snd, .fst, .snd]
def Ta34v1 (KL34v1_2 : Env → St → Option Res) : Tab := [(PaL34v1_2, KL34v1_2)]
def WL34v1_2 (k : Env → St → Option Res) (t11z : Bool) (t11 : List T) (t12 t13 m0_0 m0_1 m0_2 : Int) (m0_3z : Bool) (m0_3 : List T) (m1z : Bool) (m1 : List T) (m2z : Bool) (m2 : List T) (m8z : Bool) (m8 : List T) : Option Res := k [(0, .ptr 0 0 0), (1, .fn 35 [] []), (4, .buf 8), (11, .t (.list 5 t11z t11)), (12, .t (.int .i64 t12)), (13, .t (.int .i64 t13))] ⟨[(0, .var [.t (.int .i64 m0_0), .t (.int .i64 m0_1), .t (.int .i64 m0_2), .t (.list 5 m0_3z m0_3), .buf 1, .buf 2]), (1, .arr true 2 m1z m1), (2, .arr true 1 m2z m2), (8, .arr true 1 m8z m8)], []⟩
noncomputable def VL34v1_2 : Env → St → Option Res := fun e st => atV Try.prog hint 34 1 Try.f34 37 (List.reverse PaL34v1_2) e st
noncomputable def L34v1_2 (t11z : Bool) (t11 : List T) (t12 t13 m0_0 m0_1 m0_2 : Int) (m0_3z : Bool) (m0_3 : List T) (m1z : Bool) (m1 : List T) (m2z : Bool) (m2 : List T) (m8z : Bool) (m8 : List T) : Option Res := WL34v1_2 VL34v1_2 t11z t11 t12 t13 m0_0 m0_1 m0_2 m0_3z m0_3 m1z m1 m2z m2 m8z m8
abbrev YL3_9 := Bool → (List T) → Bool → Int → Int → Int → Int → Int → Int → Bool → (List T) → Option Res
def PaL3_9 : List Stp := [.blk, .snd, .fst, .snd, .snd, .snd, .snd, .snd, .snd]
def Ta3 (KL3_9 : Env → St → Option Res) : Tab := [(PaL3_9, KL3_9)]
def WL3_9 (k : Env → St → Option Res) (picks1z : Bool) (picks1 : List T) (up5 : Bool) (at8 t31 t32 m8_0 m8_1 m8_2 : Int) (m8_3z : Bool) (m8_3 : List T) : Option Res := k [(1, .t (.list 1 picks1z picks1)), (2, .ptr 8 0 0), (5, .t (.bool up5)), (8, .t (.int .i64 at8)), (31, .t (.int .i64 t31)), (32, .t (.int .i64 t32))] ⟨[(8, .var [.t (.int .i64 m8_0), .t (.int .i64 m8_1), .t (.int .i64 m8_2), .t (.list 5 m8_3z m8_3)])], []⟩
noncomputable def VL3_9 : Env → St → Option Res := fun e st => atV Try.prog hint 3 0 Try.f3 77 (List.reverse PaL3_9) e st
noncomputable def L3_9 (picks1z : Bool) (picks1 : List T) (up5 : Bool) (at8 t31 t32 m8_0 m8_1 m8_2 : Int) (m8_3z : Bool) (m8_3 : List T) : Option Res := WL3_9 VL3_9 picks1z picks1 up5 at8 t31 t32 m8_0 m8_1 m8_2 m8_3z m8_3
abbrev Z0 (v0 v1 v2 v3 v4 : Int) (v5 : Bool) (v6 : List T) (v7 : Bool) : Option Res := some ((.t (.agg [.int .i64 v0, .int .i64 v1, .int .i64 v2, .int .i64 v3, .int .i64 v4])), ⟨[(0, .var [.t (.list 3 v5 v6), .t (.bool v7)])], [500]⟩)
abbrev Z1 (v0 : Bool) (v1 : List T) (v2 : Bool) : St := ⟨[(0, .var [.t (.list 3 v0 v1), .t (.bool v2)])], [500]⟩
abbrev Z2 (v0 : Bool) (v1 : List T) (v2 : Bool) : St := ⟨[(0, .var [.t (.list 3 v0 v1), .t (.bool v2)])], []⟩
abbrev Z3 (v0 v1 v2 : Int) (v3 : Bool) (v4 : List T) : St := ⟨[(0, .var [.t (.int .i64 v0), .t (.int .i64 v1), .t (.int .i64 v2), .t (.list 5 v3 v4)])], [500]⟩
abbrev Z4 (v0 v1 v2 : Int) (v3 : Bool) (v4 : List T) : St := ⟨[(0, .var [.t (.int .i64 v0), .t (.int .i64 v1), .t (.int .i64 v2), .t (.list 5 v3 v4)])], []⟩
abbrev Z5 (v0 v1 v2 : Int) (v3 : Bool) (v4 : List T) (v5 : Bool) (v6 : List T) (v7 : Bool) (v8 : List T) (v9 : Int) : St := ⟨[(0, .var [.ptr 1 0 0]), (1, .var [.t (.int .i64 v0), .t (.int .i64 v1), .t (.int .i64 v2), .t (.list 5 v3 v4), .buf 2, .buf 3]), (2, .arr true 2 v5 v6), (3, .arr true 1 v7 v8), (4, .var [.t (.int .i64 v9)])], [500, 501, 502, 503, 504]⟩
abbrev Z6 (v0 v1 v2 : Int) (v3 : Bool) (v4 : List T) (v5 : Bool) (v6 : List T) (v7 : Bool) (v8 : List T) (v9 : Int) : St := ⟨[(0, .var [.ptr 1 0 0]), (1, .var [.t (.int .i64 v0), .t (.int .i64 v1), .t (.int .i64 v2), .t (.list 5 v3 v4), .buf 2, .buf 3]), (2, .arr true 2 v5 v6), (3, .arr true 1 v7 v8), (4, .var [.t (.int .i64 v9)])], []⟩
abbrev Z7 (v0 v1 v2 : Int) (v3 : Bool) (v4 : List T) (v5 : Bool) (v6 : List T) (v7 : Bool) (v8 : List T) : St := ⟨[(0, .var [.t (.int .i64 v0), .t (.int .i64 v1), .t (.int .i64 v2), .t (.list 5 v3 v4), .buf 1, .buf 2]), (1, .arr true 2 v5 v6), (2, .arr true 1 v7 v8)], [500, 501, 502]⟩
noncomputable def R66  (a0 : ByteArray) (a1 : Int) : Option Res :=
 callK (vr 79 0 [.t (.str a0), .t (.int .u8 a1)] ⟨[], []⟩) fun V1 B2 =>
 asT V1 fun X3 =>
 asI .i64 X3 fun X4 =>
 endB B2 <|
 some ((.t (.int .i64 X4)), ⟨[], []⟩)
theorem eq66g  (a0 : ByteArray) (a1 : Int) : gE 66 0 8 Try.f66 [] [.t (.str a0), .t (.int .u8 a1)] ⟨[], []⟩ = R66  a0 a1 := by kernel_rfl
theorem eq66 (a0 : ByteArray) (a1 : Int) : vr 66 0 [.t (.str a0), .t (.int .u8 a1)] ⟨[], []⟩ = R66  a0 a1 :=
  Eq.trans (call_eq Try.prog hint (fn := Try.f66) (nt := 8) (T := []) [] rfl _ _ rfl rfl rfl rfl rfl) (eq66g  a0 a1)
noncomputable def R65  (a0 : Int) : Option Res :=
(bif (decide (97 ≤ (bitsI .or .u8 a0 32))) then
(bif (decide ((bitsI .or .u8 a0 32) ≤ 122)) then
 some ((.t (.int .i64 1)), ⟨[], []⟩)
else
(bif (decide (48 ≤ a0)) then
(bif (decide (a0 ≤ 57)) then
 some ((.t (.int .i64 2)), ⟨[], []⟩)
else
 callK (vr 66 0 [.t (.str ⟨#[43, 45, 42, 40, 41, 91, 93, 44, 61, 58]⟩), .t (.int .u8 a0)] ⟨[], []⟩) fun V1 B2 =>
 asT V1 fun X3 =>
 asI .i64 X3 fun X4 =>
 endB B2 <|
(bif (decide (0 ≤ X4)) then
 some ((.t (.int .i64 3)), ⟨[], []⟩)
else
(bif (decide (a0 = 32)) then
 some ((.t (.int .i64 4)), ⟨[], []⟩)
else
(bif (decide (a0 = 9)) then
 some ((.t (.int .i64 4)), ⟨[], []⟩)
else
(bif (decide (a0 = 10)) then
 some ((.t (.int .i64 5)), ⟨[], []⟩)
else
(bif (decide (a0 = 35)) then
 some ((.t (.int .i64 6)), ⟨[], []⟩)
else
 some ((.t (.int .i64 0)), ⟨[], []⟩)))))))
else
 callK (vr 66 0 [.t (.str ⟨#[43, 45, 42, 40, 41, 91, 93, 44, 61, 58]⟩), .t (.int .u8 a0)] ⟨[], []⟩) fun V5 B6 =>
 asT V5 fun X7 =>
 asI .i64 X7 fun X8 =>
 endB B6 <|
(bif (decide (0 ≤ X8)) then
 some ((.t (.int .i64 3)), ⟨[], []⟩)
else
(bif (decide (a0 = 32)) then
 some ((.t (.int .i64 4)), ⟨[], []⟩)
else
(bif (decide (a0 = 9)) then
 some ((.t (.int .i64 4)), ⟨[], []⟩)
else
(bif (decide (a0 = 10)) then
 some ((.t (.int .i64 5)), ⟨[], []⟩)
else
(bif (decide (a0 = 35)) then
 some ((.t (.int .i64 6)), ⟨[], []⟩)
else
 some ((.t (.int .i64 0)), ⟨[], []⟩))))))))
else
(bif (decide (48 ≤ a0)) then
(bif (decide (a0 ≤ 57)) then
 some ((.t (.int .i64 2)), ⟨[], []⟩)
else
 callK (vr 66 0 [.t (.str ⟨#[43, 45, 42, 40, 41, 91, 93, 44, 61, 58]⟩), .t (.int .u8 a0)] ⟨[], []⟩) fun V9 B10 =>
 asT V9 fun X11 =>
 asI .i64 X11 fun X12 =>
 endB B10 <|
(bif (decide (0 ≤ X12)) then
 some ((.t (.int .i64 3)), ⟨[], []⟩)
else
(bif (decide (a0 = 32)) then
 some ((.t (.int .i64 4)), ⟨[], []⟩)
else
(bif (decide (a0 = 9)) then
 some ((.t (.int .i64 4)), ⟨[], []⟩)
else
(bif (decide (a0 = 10)) then
 some ((.t (.int .i64 5)), ⟨[], []⟩)
else
(bif (decide (a0 = 35)) then
 some ((.t (.int .i64 6)), ⟨[], []⟩)
else
 some ((.t (.int .i64 0)), ⟨[], []⟩)))))))
else
 callK (vr 66 0 [.t (.str ⟨#[43, 45, 42, 40, 41, 91, 93, 44, 61, 58]⟩), .t (.int .u8 a0)] ⟨[], []⟩) fun V13 B14 =>
 asT V13 fun X15 =>
 asI .i64 X15 fun X16 =>
 endB B14 <|
(bif (decide (0 ≤ X16)) then
 some ((.t (.int .i64 3)), ⟨[], []⟩)
else
(bif (decide (a0 = 32)) then
 some ((.t (.int .i64 4)), ⟨[], []⟩)
else
(bif (decide (a0 = 9)) then
 some ((.t (.int .i64 4)), ⟨[], []⟩)
else
(bif (decide (a0 = 10)) then
 some ((.t (.int .i64 5)), ⟨[], []⟩)
else
(bif (decide (a0 = 35)) then
 some ((.t (.int .i64 6)), ⟨[], []⟩)
else
 some ((.t (.int .i64 0)), ⟨[], []⟩))))))))
theorem eq65g  (a0 : Int) : gE 65 0 36 Try.f65 [] [.t (.int .u8 a0)] ⟨[], []⟩ = R65  a0 := by kernel_rfl
theorem eq65 (a0 : Int) : vr 65 0 [.t (.int .u8 a0)] ⟨[], []⟩ = R65  a0 :=
  Eq.trans (call_eq Try.prog hint (fn := Try.f65) (nt := 36) (T := []) [] rfl _ _ rfl rfl rfl rfl rfl) (eq65g  a0)
noncomputable def R67 (L67_2 : YL67_2) (a0 : ByteArray) : Option Res :=
 L67_2 (a0) (0)
theorem eq67g (KL67_2 : Env → St → Option Res) (a0 : ByteArray) : gE 67 0 25 Try.f67 (Ta67 KL67_2) [.t (.str a0)] ⟨[], []⟩ = R67 (WL67_2 KL67_2) a0 := by kernel_rfl
theorem eq67 (a0 : ByteArray) : vr 67 0 [.t (.str a0)] ⟨[], []⟩ = R67 L67_2 a0 :=
  Eq.trans (call_eq Try.prog hint (fn := Try.f67) (nt := 25) (T := (Ta67 VL67_2)) [PaL67_2] rfl _ _ rfl rfl rfl rfl rfl) (eq67g VL67_2 a0)
noncomputable def RL67_2 (L67_2 : YL67_2) (s0 : ByteArray) (n3 : Int) : Option Res :=
(bif (decide (n3 < (s0.size : Int))) then
 needC (decide (0 ≤ n3) && decide (n3 < (s0.size : Int))) fun _ =>
 callK (vr 65 0 [.t (.int .u8 (((s0 : ByteArray)[(n3).toNat]!).toNat : Int))] ⟨[], []⟩) fun V1 B2 =>
 asT V1 fun X3 =>
 asI .i64 X3 fun X4 =>
 endB B2 <|
(bif (decide (X4 = 1)) then
 L67_2 (s0) ((IntKind.i64.wrap (n3 + 1)))
else
 needC (decide (0 ≤ n3) && decide (n3 < (s0.size : Int))) fun _ =>
 callK (vr 65 0 [.t (.int .u8 (((s0 : ByteArray)[(n3).toNat]!).toNat : Int))] ⟨[], []⟩) fun V5 B6 =>
 asT V5 fun X7 =>
 asI .i64 X7 fun X8 =>
 endB B6 <|
(bif (decide (X8 = 2)) then
 L67_2 (s0) ((IntKind.i64.wrap (n3 + 1)))
else
 some ((.t (.int .i64 n3)), ⟨[], []⟩)))
else
 some ((.t (.int .i64 n3)), ⟨[], []⟩))
theorem L67_2g (KL67_2 : Env → St → Option Res) (s0 : ByteArray) (n3 : Int) : WL67_2 (fun e st => gP 67 0 25 Try.f67 (Ta67 KL67_2) (.lp :: PaL67_2) e st) s0 n3 = RL67_2 (WL67_2 KL67_2) s0 n3 := by kernel_rfl
theorem L67_2_eq (s0 : ByteArray) (n3 : Int) : L67_2 s0 n3 = RL67_2 L67_2 s0 n3 :=
  (congrArg (fun k => WL67_2 k s0 n3) (funext fun e => funext fun st => round_eq Try.prog hint (b := (nav (List.reverse (.lp :: PaL67_2)) (bodyOf Try.f67))) (fn := Try.f67) (nt := 25) (T := (Ta67 VL67_2)) [PaL67_2] rfl PaL67_2 e st rfl rfl rfl)).trans (L67_2g VL67_2 s0 n3)
noncomputable def R80  (a0 : ByteArray) : Option Res :=
(bif (!decide ((a0 : ByteArray) = ⟨#[]⟩)) then
(bif (decide ((a0.size : Int) ≤ 16)) then
 needC (decide (0 ≤ 0) && decide ((0 : Int) < (a0.size : Int))) fun _ =>
 callK (vr 65 0 [.t (.int .u8 (((a0 : ByteArray)[((0 : Int)).toNat]!).toNat : Int))] ⟨[], []⟩) fun V1 B2 =>
 asT V1 fun X3 =>
 asI .i64 X3 fun X4 =>
 endB B2 <|
(bif (decide (X4 = 1)) then
 callK (vr 67 0 [.t (.str a0)] ⟨[], []⟩) fun V5 B6 =>
 asT V5 fun X7 =>
 asI .i64 X7 fun X8 =>
 endB B6 <|
 some ((.t (.bool (decide (X8 = (a0.size : Int))))), ⟨[], []⟩)
else
 some ((.t (.bool false)), ⟨[], []⟩))
else
 some ((.t (.bool false)), ⟨[], []⟩))
else
 some ((.t (.bool false)), ⟨[], []⟩))
theorem eq80g  (a0 : ByteArray) : gE 80 0 23 Try.f80 [] [.t (.str a0)] ⟨[], []⟩ = R80  a0 := by kernel_rfl
theorem eq80 (a0 : ByteArray) : vr 80 0 [.t (.str a0)] ⟨[], []⟩ = R80  a0 :=
  Eq.trans (call_eq Try.prog hint (fn := Try.f80) (nt := 23) (T := []) [] rfl _ _ rfl rfl rfl rfl rfl) (eq80g  a0)
noncomputable def R81 (L81_4 : YL81_4) (a0 : ByteArray) : Option Res :=
(bif (decide ((a0 : ByteArray) = ⟨#[]⟩)) then
 some ((.tup [.t (.int .i64 0), .t (.bool false)]), ⟨[], []⟩)
else
(bif (decide (18 < (a0.size : Int))) then
 some ((.tup [.t (.int .i64 0), .t (.bool false)]), ⟨[], []⟩)
else
(bif (decide (1 < (a0.size : Int))) then
 needC (decide (0 ≤ 0) && decide ((0 : Int) < (a0.size : Int))) fun _ =>
(bif (decide ((((a0 : ByteArray)[((0 : Int)).toNat]!).toNat : Int) = 48)) then
 some ((.tup [.t (.int .i64 0), .t (.bool false)]), ⟨[], []⟩)
else
 L81_4 (a0) (0) ((a0.size : Int)) (0))
else
 L81_4 (a0) (0) ((a0.size : Int)) (0))))
theorem eq81g (KL81_4 : Env → St → Option Res) (a0 : ByteArray) : gE 81 0 42 Try.f81 (Ta81 KL81_4) [.t (.str a0)] ⟨[], []⟩ = R81 (WL81_4 KL81_4) a0 := by kernel_rfl
theorem eq81 (a0 : ByteArray) : vr 81 0 [.t (.str a0)] ⟨[], []⟩ = R81 L81_4 a0 :=
  Eq.trans (call_eq Try.prog hint (fn := Try.f81) (nt := 42) (T := (Ta81 VL81_4)) [PaL81_4] rfl _ _ rfl rfl rfl rfl rfl) (eq81g VL81_4 a0)
noncomputable def RL81_4 (L81_4 : YL81_4) (s0 : ByteArray) (n2 t23 t24 : Int) : Option Res :=
(bif (decide (t24 < t23)) then
 needC (decide (0 ≤ t24) && decide (t24 < (s0.size : Int))) fun _ =>
 callK (vr 65 0 [.t (.int .u8 (((s0 : ByteArray)[(t24).toNat]!).toNat : Int))] ⟨[], []⟩) fun V1 B2 =>
 asT V1 fun X3 =>
 asI .i64 X3 fun X4 =>
 endB B2 <|
(bif (!decide (X4 = 2)) then
 some ((.tup [.t (.int .i64 0), .t (.bool false)]), ⟨[], []⟩)
else
 needC (decide (0 ≤ t24) && decide (t24 < (s0.size : Int))) fun _ =>
 L81_4 (s0) ((IntKind.i64.wrap ((IntKind.i64.wrap ((10 : Int) * n2)) + (IntKind.i64.wrap (IntKind.u8.wrap ((((s0 : ByteArray)[(t24).toNat]!).toNat : Int) - 48)))))) (t23) ((IntKind.i64.wrap (t24 + 1))))
else
 some ((.tup [.t (.int .i64 n2), .t (.bool true)]), ⟨[], []⟩))
theorem L81_4g (KL81_4 : Env → St → Option Res) (s0 : ByteArray) (n2 t23 t24 : Int) : WL81_4 (fun e st => gP 81 0 42 Try.f81 (Ta81 KL81_4) (.lp :: PaL81_4) e st) s0 n2 t23 t24 = RL81_4 (WL81_4 KL81_4) s0 n2 t23 t24 := by kernel_rfl
theorem L81_4_eq (s0 : ByteArray) (n2 t23 t24 : Int) : L81_4 s0 n2 t23 t24 = RL81_4 L81_4 s0 n2 t23 t24 :=
  (congrArg (fun k => WL81_4 k s0 n2 t23 t24) (funext fun e => funext fun st => round_eq Try.prog hint (b := (nav (List.reverse (.lp :: PaL81_4)) (bodyOf Try.f81))) (fn := Try.f81) (nt := 42) (T := (Ta81 VL81_4)) [PaL81_4] rfl PaL81_4 e st rfl rfl rfl)).trans (L81_4g VL81_4 s0 n2 t23 t24)
noncomputable def R68  (a0 : ByteArray) : Option Res :=
 callK (vr 80 0 [.t (.str a0)] ⟨[], []⟩) fun V1 B2 =>
 asT V1 fun X3 =>
 asB X3 fun B4 =>
 endB B2 <|
(bif B4 then
 some ((.tup [.t (.agg [.int .i64 1, .str a0, .int .i64 0]), .t (.bool true)]), ⟨[], []⟩)
else
(bif (decide ((a0.size : Int) = 1)) then
 needC (decide (0 ≤ 0) && decide ((0 : Int) < (a0.size : Int))) fun _ =>
 callK (vr 65 0 [.t (.int .u8 (((a0 : ByteArray)[((0 : Int)).toNat]!).toNat : Int))] ⟨[], []⟩) fun V5 B6 =>
 asT V5 fun X7 =>
 asI .i64 X7 fun X8 =>
 endB B6 <|
(bif (decide (X8 = 3)) then
 some ((.tup [.t (.agg [.int .i64 3, .str a0, .int .i64 0]), .t (.bool true)]), ⟨[], []⟩)
else
 callK (vr 81 0 [.t (.str a0)] ⟨[], []⟩) fun V9 B10 =>
 asTup V9 fun L11 =>
 consV L11 fun V12 L13 =>
 asT V12 fun X14 =>
 asI .i64 X14 fun X15 =>
 consV L13 fun V16 L17 =>
 asT V16 fun X18 =>
 asB X18 fun B19 =>
 endV L17 <|
 endB B10 <|
 some ((.tup [.t (.agg [.int .i64 2, .str a0, .int .i64 X15]), .t (.bool B19)]), ⟨[], []⟩))
else
 callK (vr 81 0 [.t (.str a0)] ⟨[], []⟩) fun V20 B21 =>
 asTup V20 fun L22 =>
 consV L22 fun V23 L24 =>
 asT V23 fun X25 =>
 asI .i64 X25 fun X26 =>
 consV L24 fun V27 L28 =>
 asT V27 fun X29 =>
 asB X29 fun B30 =>
 endV L28 <|
 endB B21 <|
 some ((.tup [.t (.agg [.int .i64 2, .str a0, .int .i64 X26]), .t (.bool B30)]), ⟨[], []⟩)))
theorem eq68g  (a0 : ByteArray) : gE 68 0 31 Try.f68 [] [.t (.str a0)] ⟨[], []⟩ = R68  a0 := by kernel_rfl
theorem eq68 (a0 : ByteArray) : vr 68 0 [.t (.str a0)] ⟨[], []⟩ = R68  a0 :=
  Eq.trans (call_eq Try.prog hint (fn := Try.f68) (nt := 31) (T := []) [] rfl _ _ rfl rfl rfl rfl rfl) (eq68g  a0)
noncomputable def R52 (L52_6 : YL52_6) (J52_28 : YJ52_28) (J52_21 : YJ52_21) (J52_26 : YJ52_26) (a0 : ByteArray) : Option Res :=
(bif (decide (65536 < (a0.size : Int))) then
 some ((.tup [.t (.list 3 false []), .t (.int .i64 0), .t (.int .i64 2)]), ⟨[], []⟩)
else
 L52_6 (a0) (false) (0) (false) ([]))
theorem eq52g (KL52_6 KJ52_28 KJ52_21 KJ52_26 : Env → St → Option Res) (a0 : ByteArray) : gE 52 0 82 Try.f52 (Ta52 KL52_6 KJ52_28 KJ52_21 KJ52_26) [.t (.str a0)] ⟨[], []⟩ = R52 (WL52_6 KL52_6) (WJ52_28 KJ52_28) (WJ52_21 KJ52_21) (WJ52_26 KJ52_26) a0 := by kernel_rfl
theorem eq52 (a0 : ByteArray) : vr 52 0 [.t (.str a0)] ⟨[], []⟩ = R52 L52_6 J52_28 J52_21 J52_26 a0 :=
  Eq.trans (call_eq Try.prog hint (fn := Try.f52) (nt := 82) (T := (Ta52 VL52_6 VJ52_28 VJ52_21 VJ52_26)) [PaL52_6, PaJ52_28, PaJ52_21, PaJ52_26] rfl _ _ rfl rfl rfl rfl rfl) (eq52g VL52_6 VJ52_28 VJ52_21 VJ52_26 a0)
noncomputable def RL52_6 (L52_6 : YL52_6) (J52_28 : YJ52_28) (J52_21 : YJ52_21) (J52_26 : YJ52_26) (s0 : ByteArray) (ends6 : Bool) (at7 : Int) (m8z : Bool) (m8 : List T) : Option Res :=
(bif (decide (at7 < (s0.size : Int))) then
 needC (decide (0 ≤ at7) && decide (at7 < (s0.size : Int))) fun _ =>
 callK (vr 65 0 [.t (.int .u8 (((s0 : ByteArray)[(at7).toNat]!).toNat : Int))] ⟨[], []⟩) fun V1 B2 =>
 asT V1 fun X3 =>
 asI .i64 X3 fun X4 =>
 endB B2 <|
(bif (decide (X4 = 5)) then
 L52_6 (s0) ((decide (0 < (m8.length : Int)))) ((IntKind.i64.wrap (at7 + 1))) (m8z) (m8)
else
(bif (decide (X4 = 4)) then
 L52_6 (s0) (ends6) ((IntKind.i64.wrap (at7 + 1))) (m8z) (m8)
else
(bif (decide (X4 = 6)) then
 subS s0 (some at7) none fun S5 =>
 callK (vr 66 0 [.t (.str S5), .t (.int .u8 10)] ⟨[], []⟩) fun V6 B7 =>
 asT V6 fun X8 =>
 asI .i64 X8 fun X9 =>
 endB B7 <|
(bif (decide (X9 < 0)) then
 J52_28 (s0) (m8z) (m8)
else
 L52_6 (s0) (ends6) ((IntKind.i64.wrap (at7 + X9))) (m8z) (m8))
else
(bif (decide (X4 = 1)) then
 subS s0 (some at7) none fun S10 =>
 callK (vr 67 0 [.t (.str S10)] ⟨[], []⟩) fun V11 B12 =>
 asT V11 fun X13 =>
 asI .i64 X13 fun X14 =>
 endB B12 <|
 J52_21 (s0) (ends6) (at7) (X14) (m8z) (m8)
else
(bif (decide (X4 = 2)) then
 subS s0 (some at7) none fun S15 =>
 callK (vr 67 0 [.t (.str S15)] ⟨[], []⟩) fun V16 B17 =>
 asT V16 fun X18 =>
 asI .i64 X18 fun X19 =>
 endB B17 <|
 J52_21 (s0) (ends6) (at7) (X19) (m8z) (m8)
else
 J52_21 (s0) (ends6) (at7) (1) (m8z) (m8))))))
else
 J52_28 (s0) (m8z) (m8))
theorem L52_6g (KL52_6 KJ52_28 KJ52_21 KJ52_26 : Env → St → Option Res) (s0 : ByteArray) (ends6 : Bool) (at7 : Int) (m8z : Bool) (m8 : List T) : WL52_6 (fun e st => gP 52 0 82 Try.f52 (Ta52 KL52_6 KJ52_28 KJ52_21 KJ52_26) (.lp :: PaL52_6) e st) s0 ends6 at7 m8z m8 = RL52_6 (WL52_6 KL52_6) (WJ52_28 KJ52_28) (WJ52_21 KJ52_21) (WJ52_26 KJ52_26) s0 ends6 at7 m8z m8 := by kernel_rfl
theorem L52_6_eq (s0 : ByteArray) (ends6 : Bool) (at7 : Int) (m8z : Bool) (m8 : List T) : L52_6 s0 ends6 at7 m8z m8 = RL52_6 L52_6 J52_28 J52_21 J52_26 s0 ends6 at7 m8z m8 :=
  (congrArg (fun k => WL52_6 k s0 ends6 at7 m8z m8) (funext fun e => funext fun st => round_eq Try.prog hint (b := (nav (List.reverse (.lp :: PaL52_6)) (bodyOf Try.f52))) (fn := Try.f52) (nt := 82) (T := (Ta52 VL52_6 VJ52_28 VJ52_21 VJ52_26)) [PaL52_6, PaJ52_28, PaJ52_21, PaJ52_26] rfl PaL52_6 e st rfl rfl rfl)).trans (L52_6g VL52_6 VJ52_28 VJ52_21 VJ52_26 s0 ends6 at7 m8z m8)
noncomputable def RJ52_28 (L52_6 : YL52_6) (J52_28 : YJ52_28) (J52_21 : YJ52_21) (J52_26 : YJ52_26) (s0 : ByteArray) (m8z : Bool) (m8 : List T) : Option Res :=
(bif (decide (4096 < (m8.length : Int))) then
 some ((.tup [.t (.list 3 false []), .t (.int .i64 0), .t (.int .i64 2)]), ⟨[], []⟩)
else
 some ((.tup [.t (.list 3 m8z m8), .t (.int .i64 (s0.size : Int)), .t (.int .i64 0)]), ⟨[], []⟩))
theorem J52_28g (KL52_6 KJ52_28 KJ52_21 KJ52_26 : Env → St → Option Res) (s0 : ByteArray) (m8z : Bool) (m8 : List T) : WJ52_28 (fun e st => gP 52 0 82 Try.f52 (Ta52 KL52_6 KJ52_28 KJ52_21 KJ52_26) PaJ52_28 e st) s0 m8z m8 = RJ52_28 (WL52_6 KL52_6) (WJ52_28 KJ52_28) (WJ52_21 KJ52_21) (WJ52_26 KJ52_26) s0 m8z m8 := by kernel_rfl
theorem J52_28_eq (s0 : ByteArray) (m8z : Bool) (m8 : List T) : J52_28 s0 m8z m8 = RJ52_28 L52_6 J52_28 J52_21 J52_26 s0 m8z m8 :=
  (congrArg (fun k => WJ52_28 k s0 m8z m8) (funext fun e => funext fun st => join_eq Try.prog hint (fn := Try.f52) (nt := 82) (T := (Ta52 VL52_6 VJ52_28 VJ52_21 VJ52_26)) [PaL52_6, PaJ52_28, PaJ52_21, PaJ52_26] rfl PaJ52_28 e st rfl)).trans (J52_28g VL52_6 VJ52_28 VJ52_21 VJ52_26 s0 m8z m8)
noncomputable def RJ52_21 (L52_6 : YL52_6) (J52_28 : YJ52_28) (J52_21 : YJ52_21) (J52_26 : YJ52_26) (s0 : ByteArray) (ends6 : Bool) (at7 n8 : Int) (m8z : Bool) (m8 : List T) : Option Res :=
 subS s0 (some at7) (some (IntKind.i64.wrap (at7 + n8))) fun S1 =>
 callK (vr 68 0 [.t (.str S1)] ⟨[], []⟩) fun V2 B3 =>
 asTup V2 fun L4 =>
 consV L4 fun V5 L6 =>
 asT V5 fun X7 =>
 asA X7 fun L8 =>
 consT L8 fun V9 L10 =>
 asI .i64 V9 fun X11 =>
 consT L10 fun V12 L13 =>
 asS V12 fun S14 =>
 consT L13 fun V15 L16 =>
 asI .i64 V15 fun X17 =>
 endT L16 <|
 consV L6 fun V18 L19 =>
 asT V18 fun X20 =>
 asB X20 fun B21 =>
 endV L19 <|
 endB B3 <|
(bif (!B21) then
 some ((.tup [.t (.list 3 false []), .t (.int .i64 at7), .t (.int .i64 6)]), ⟨[], []⟩)
else
(bif ends6 then
 needC (decide ((m8.length + 1) * (32 + 1) ≤ 70368744177664) && decide (32 ≤ 1048576)) fun _ =>
 J52_26 (s0) (at7) (n8) ((m8z || true)) ((m8 ++ ([.agg [.int .i64 4, .str ByteArray.empty, .int .i64 0]] : List T))) (X11) (S14) (X17)
else
 J52_26 (s0) (at7) (n8) (m8z) (m8) (X11) (S14) (X17)))
theorem J52_21g (KL52_6 KJ52_28 KJ52_21 KJ52_26 : Env → St → Option Res) (s0 : ByteArray) (ends6 : Bool) (at7 n8 : Int) (m8z : Bool) (m8 : List T) : WJ52_21 (fun e st => gP 52 0 82 Try.f52 (Ta52 KL52_6 KJ52_28 KJ52_21 KJ52_26) PaJ52_21 e st) s0 ends6 at7 n8 m8z m8 = RJ52_21 (WL52_6 KL52_6) (WJ52_28 KJ52_28) (WJ52_21 KJ52_21) (WJ52_26 KJ52_26) s0 ends6 at7 n8 m8z m8 := by kernel_rfl
theorem J52_21_eq (s0 : ByteArray) (ends6 : Bool) (at7 n8 : Int) (m8z : Bool) (m8 : List T) : J52_21 s0 ends6 at7 n8 m8z m8 = RJ52_21 L52_6 J52_28 J52_21 J52_26 s0 ends6 at7 n8 m8z m8 :=
  (congrArg (fun k => WJ52_21 k s0 ends6 at7 n8 m8z m8) (funext fun e => funext fun st => join_eq Try.prog hint (fn := Try.f52) (nt := 82) (T := (Ta52 VL52_6 VJ52_28 VJ52_21 VJ52_26)) [PaL52_6, PaJ52_28, PaJ52_21, PaJ52_26] rfl PaJ52_21 e st rfl)).trans (J52_21g VL52_6 VJ52_28 VJ52_21 VJ52_26 s0 ends6 at7 n8 m8z m8)
noncomputable def RJ52_26 (L52_6 : YL52_6) (J52_28 : YJ52_28) (J52_21 : YJ52_21) (J52_26 : YJ52_26) (s0 : ByteArray) (at7 n8 : Int) (m8z : Bool) (m8 : List T) (m9_0 : Int) (m9_1 : ByteArray) (m9_2 : Int) : Option Res :=
 needC (decide ((m8.length + 1) * (32 + 1) ≤ 70368744177664) && decide (32 ≤ 1048576)) fun _ =>
 L52_6 (s0) (false) ((IntKind.i64.wrap (at7 + n8))) ((m8z || true)) ((m8 ++ ([.agg [.int .i64 m9_0, .str m9_1, .int .i64 m9_2]] : List T)))
theorem J52_26g (KL52_6 KJ52_28 KJ52_21 KJ52_26 : Env → St → Option Res) (s0 : ByteArray) (at7 n8 : Int) (m8z : Bool) (m8 : List T) (m9_0 : Int) (m9_1 : ByteArray) (m9_2 : Int) : WJ52_26 (fun e st => gP 52 0 82 Try.f52 (Ta52 KL52_6 KJ52_28 KJ52_21 KJ52_26) PaJ52_26 e st) s0 at7 n8 m8z m8 m9_0 m9_1 m9_2 = RJ52_26 (WL52_6 KL52_6) (WJ52_28 KJ52_28) (WJ52_21 KJ52_21) (WJ52_26 KJ52_26) s0 at7 n8 m8z m8 m9_0 m9_1 m9_2 := by kernel_rfl
theorem J52_26_eq (s0 : ByteArray) (at7 n8 : Int) (m8z : Bool) (m8 : List T) (m9_0 : Int) (m9_1 : ByteArray) (m9_2 : Int) : J52_26 s0 at7 n8 m8z m8 m9_0 m9_1 m9_2 = RJ52_26 L52_6 J52_28 J52_21 J52_26 s0 at7 n8 m8z m8 m9_0 m9_1 m9_2 :=
  (congrArg (fun k => WJ52_26 k s0 at7 n8 m8z m8 m9_0 m9_1 m9_2) (funext fun e => funext fun st => join_eq Try.prog hint (fn := Try.f52) (nt := 82) (T := (Ta52 VL52_6 VJ52_28 VJ52_21 VJ52_26)) [PaL52_6, PaJ52_28, PaJ52_21, PaJ52_26] rfl PaJ52_26 e st rfl)).trans (J52_26g VL52_6 VJ52_28 VJ52_21 VJ52_26 s0 at7 n8 m8z m8 m9_0 m9_1 m9_2)
noncomputable def R70  (a0_0 : Int) (a0_1 : ByteArray) (a0_2 : Int) : Option Res :=
 some ((.t (.bool (decide (a0_0 = 4)))), ⟨[], []⟩)
theorem eq70g  (a0_0 : Int) (a0_1 : ByteArray) (a0_2 : Int) : gE 70 0 6 Try.f70 [] [.t (.agg [.int .i64 a0_0, .str a0_1, .int .i64 a0_2])] ⟨[], []⟩ = R70  a0_0 a0_1 a0_2 := by kernel_rfl
theorem eq70 (a0_0 : Int) (a0_1 : ByteArray) (a0_2 : Int) : vr 70 0 [.t (.agg [.int .i64 a0_0, .str a0_1, .int .i64 a0_2])] ⟨[], []⟩ = R70  a0_0 a0_1 a0_2 :=
  Eq.trans (call_eq Try.prog hint (fn := Try.f70) (nt := 6) (T := []) [] rfl _ _ rfl rfl rfl rfl rfl) (eq70g  a0_0 a0_1 a0_2)
noncomputable def R69 (L69_2 : YL69_2) (a0z : Bool) (a0 : List T) : Option Res :=
 L69_2 (a0z) (a0) ((a0.length : Int)) (0)
theorem eq69g (KL69_2 : Env → St → Option Res) (a0z : Bool) (a0 : List T) : gE 69 0 19 Try.f69 (Ta69 KL69_2) [.t (.list 3 a0z a0), .fn 70 [] []] ⟨[], []⟩ = R69 (WL69_2 KL69_2) a0z a0 := by kernel_rfl
theorem eq69 (a0z : Bool) (a0 : List T) : vr 69 0 [.t (.list 3 a0z a0), .fn 70 [] []] ⟨[], []⟩ = R69 L69_2 a0z a0 :=
  Eq.trans (call_eq Try.prog hint (fn := Try.f69) (nt := 19) (T := (Ta69 VL69_2)) [PaL69_2] rfl _ _ rfl rfl rfl rfl rfl) (eq69g VL69_2 a0z a0)
noncomputable def RL69_2 (L69_2 : YL69_2) (s0z : Bool) (s0 : List T) (t7 t8 : Int) : Option Res :=
(bif (decide (t8 < t7)) then
 needC (decide (0 ≤ t8)) fun _ =>
 getT s0 (t8).toNat fun E1 =>
 asA E1 fun L2 =>
 consT L2 fun V3 L4 =>
 asI .i64 V3 fun X5 =>
 consT L4 fun V6 L7 =>
 asS V6 fun S8 =>
 consT L7 fun V9 L10 =>
 asI .i64 V9 fun X11 =>
 endT L10 <|
 callK (vr 70 0 [.t (.agg [.int .i64 X5, .str S8, .int .i64 X11])] ⟨[], []⟩) fun V12 B13 =>
 asT V12 fun X14 =>
 asB X14 fun B15 =>
 endB B13 <|
(bif B15 then
 some ((.t (.int .i64 t8)), ⟨[], []⟩)
else
 L69_2 (s0z) (s0) (t7) ((IntKind.i64.wrap (t8 + 1))))
else
 some ((.t (.int .i64 (-1))), ⟨[], []⟩))
theorem L69_2g (KL69_2 : Env → St → Option Res) (s0z : Bool) (s0 : List T) (t7 t8 : Int) : WL69_2 (fun e st => gP 69 0 19 Try.f69 (Ta69 KL69_2) (.lp :: PaL69_2) e st) s0z s0 t7 t8 = RL69_2 (WL69_2 KL69_2) s0z s0 t7 t8 := by kernel_rfl
theorem L69_2_eq (s0z : Bool) (s0 : List T) (t7 t8 : Int) : L69_2 s0z s0 t7 t8 = RL69_2 L69_2 s0z s0 t7 t8 :=
  (congrArg (fun k => WL69_2 k s0z s0 t7 t8) (funext fun e => funext fun st => round_eq Try.prog hint (b := (nav (List.reverse (.lp :: PaL69_2)) (bodyOf Try.f69))) (fn := Try.f69) (nt := 19) (T := (Ta69 VL69_2)) [PaL69_2] rfl PaL69_2 e st rfl rfl rfl)).trans (L69_2g VL69_2 s0z s0 t7 t8)
noncomputable def R71  (a0z : Bool) (a0 : List T) : Option Res :=
(bif (!a0z) then
 some ((.t (.list 3 false [])), ⟨[], []⟩)
else
 needC (decide ((0 + a0.length) * (32 + 1) ≤ 70368744177664) && decide (32 ≤ 1048576)) fun _ =>
 some ((.t (.list 3 true (([] : List T) ++ a0))), ⟨[], []⟩))
theorem eq71g  (a0z : Bool) (a0 : List T) : gE 71 0 8 Try.f71 [] [.t (.list 3 a0z a0)] ⟨[], []⟩ = R71  a0z a0 := by kernel_rfl
theorem eq71 (a0z : Bool) (a0 : List T) : vr 71 0 [.t (.list 3 a0z a0)] ⟨[], []⟩ = R71  a0z a0 :=
  Eq.trans (call_eq Try.prog hint (fn := Try.f71) (nt := 8) (T := []) [] rfl _ _ rfl rfl rfl rfl rfl) (eq71g  a0z a0)
noncomputable def R53 (L53_2 : YL53_2) (a0z : Bool) (a0 : List T) : Option Res :=
 L53_2 (a0z) (a0) (false) ([])
theorem eq53g (KL53_2 : Env → St → Option Res) (a0z : Bool) (a0 : List T) : gE 53 0 35 Try.f53 (Ta53 KL53_2) [.t (.list 3 a0z a0)] ⟨[], []⟩ = R53 (WL53_2 KL53_2) a0z a0 := by kernel_rfl
theorem eq53 (a0z : Bool) (a0 : List T) : vr 53 0 [.t (.list 3 a0z a0)] ⟨[], []⟩ = R53 L53_2 a0z a0 :=
  Eq.trans (call_eq Try.prog hint (fn := Try.f53) (nt := 35) (T := (Ta53 VL53_2)) [PaL53_2] rfl _ _ rfl rfl rfl rfl rfl) (eq53g VL53_2 a0z a0)
noncomputable def RL53_2 (L53_2 : YL53_2) (l0z : Bool) (l0 : List T) (m8z : Bool) (m8 : List T) : Option Res :=
(bif (decide (0 < (l0.length : Int))) then
 callK (vr 69 0 [.t (.list 3 l0z l0), .fn 70 [] []] ⟨[], []⟩) fun V1 B2 =>
 asT V1 fun X3 =>
 asI .i64 X3 fun X4 =>
 endB B2 <|
(bif (decide (X4 < 0)) then
 callK (vr 71 0 [.t (.list 3 l0z l0)] ⟨[], []⟩) fun V5 B6 =>
 asT V5 fun X7 =>
 asL 3 X7 fun N8 L9 =>
 endB B6 <|
 needC (decide ((m8.length + 1) * (24 + 1) ≤ 70368744177664) && decide (24 ≤ 1048576)) fun _ =>
 some ((.t (.list 1 (m8z || true) (m8 ++ ([.list 3 N8 L9] : List T)))), ⟨[], []⟩)
else
 cutL l0 none (some X4) fun L10 =>
 callK (vr 71 0 [.t (.list 3 l0z L10)] ⟨[], []⟩) fun V11 B12 =>
 asT V11 fun X13 =>
 asL 3 X13 fun N14 L15 =>
 endB B12 <|
 needC (decide ((m8.length + 1) * (24 + 1) ≤ 70368744177664) && decide (24 ≤ 1048576)) fun _ =>
 cutL l0 (some (IntKind.i64.wrap (X4 + 1))) none fun L16 =>
(bif (decide ((L16.length : Int) = 0)) then
 needC (decide ((((m8 ++ ([.list 3 N14 L15] : List T))).length + 1) * (24 + 1) ≤ 70368744177664) && decide (24 ≤ 1048576)) fun _ =>
 L53_2 (l0z) (L16) (((m8z || true) || true)) (((m8 ++ ([.list 3 N14 L15] : List T)) ++ ([.list 3 false []] : List T)))
else
 L53_2 (l0z) (L16) ((m8z || true)) ((m8 ++ ([.list 3 N14 L15] : List T)))))
else
 some ((.t (.list 1 m8z m8)), ⟨[], []⟩))
theorem L53_2g (KL53_2 : Env → St → Option Res) (l0z : Bool) (l0 : List T) (m8z : Bool) (m8 : List T) : WL53_2 (fun e st => gP 53 0 35 Try.f53 (Ta53 KL53_2) (.lp :: PaL53_2) e st) l0z l0 m8z m8 = RL53_2 (WL53_2 KL53_2) l0z l0 m8z m8 := by kernel_rfl
theorem L53_2_eq (l0z : Bool) (l0 : List T) (m8z : Bool) (m8 : List T) : L53_2 l0z l0 m8z m8 = RL53_2 L53_2 l0z l0 m8z m8 :=
  (congrArg (fun k => WL53_2 k l0z l0 m8z m8) (funext fun e => funext fun st => round_eq Try.prog hint (b := (nav (List.reverse (.lp :: PaL53_2)) (bodyOf Try.f53))) (fn := Try.f53) (nt := 35) (T := (Ta53 VL53_2)) [PaL53_2] rfl PaL53_2 e st rfl rfl rfl)).trans (L53_2g VL53_2 l0z l0 m8z m8)
noncomputable def R54  (a1 : Int) (m0_0z : Bool) (m0_0 : List T) (m0_1 : Bool) : Option Res :=
(bif m0_1 then
 some ((.t (.agg [.int .i64 0, .str ByteArray.empty, .int .i64 0])), ⟨[(0, .var [.t (.list 3 m0_0z m0_0), .t (.bool true)])], [500]⟩)
else
(bif (decide ((m0_0.length : Int) = 0)) then
 some ((.t (.agg [.int .i64 0, .str ByteArray.empty, .int .i64 0])), ⟨[(0, .var [.t (.list 3 m0_0z m0_0), .t (.bool true)])], [500]⟩)
else
 needC (decide (0 ≤ 0)) fun _ =>
 getT m0_0 ((0 : Int)).toNat fun E1 =>
 asA E1 fun L2 =>
 consT L2 fun V3 L4 =>
 asI .i64 V3 fun X5 =>
 consT L4 fun V6 L7 =>
 asS V6 fun S8 =>
 consT L7 fun V9 L10 =>
 asI .i64 V9 fun X11 =>
 endT L10 <|
(bif (!decide (X5 = a1)) then
 some ((.t (.agg [.int .i64 0, .str ByteArray.empty, .int .i64 0])), ⟨[(0, .var [.t (.list 3 m0_0z m0_0), .t (.bool true)])], [500]⟩)
else
 needC (decide (0 ≤ 0)) fun _ =>
 getT m0_0 ((0 : Int)).toNat fun E12 =>
 asA E12 fun L13 =>
 consT L13 fun V14 L15 =>
 asI .i64 V14 fun X16 =>
 consT L15 fun V17 L18 =>
 asS V17 fun S19 =>
 consT L18 fun V20 L21 =>
 asI .i64 V20 fun X22 =>
 endT L21 <|
 cutL m0_0 (some 1) none fun L23 =>
 some ((.t (.agg [.int .i64 X16, .str S19, .int .i64 X22])), (Z1 m0_0z L23 m0_1)))))
theorem eq54g  (a1 : Int) (m0_0z : Bool) (m0_0 : List T) (m0_1 : Bool) : gE 54 0 47 Try.f54 [] [.ptr 0 0 0, .t (.int .i64 a1)] ⟨[(0, .var [.t (.list 3 m0_0z m0_0), .t (.bool m0_1)])], []⟩ = R54  a1 m0_0z m0_0 m0_1 := by kernel_rfl
theorem eq54 (a1 : Int) (m0_0z : Bool) (m0_0 : List T) (m0_1 : Bool) : vr 54 0 [.ptr 0 0 0, .t (.int .i64 a1)] ⟨[(0, .var [.t (.list 3 m0_0z m0_0), .t (.bool m0_1)])], []⟩ = R54  a1 m0_0z m0_0 m0_1 :=
  Eq.trans (call_eq Try.prog hint (fn := Try.f54) (nt := 47) (T := []) [] rfl _ _ rfl rfl rfl rfl rfl) (eq54g  a1 m0_0z m0_0 m0_1)
noncomputable def R58   : Option Res :=
 some ((.t (.list 4 true [.agg [.str ⟨#[104, 97, 108, 116]⟩, .int .i64 0, .int .i64 0, .int .i64 0], .agg [.str ⟨#[115, 101, 116]⟩, .int .i64 1, .int .i64 5, .int .i64 0], .agg [.str ⟨#[109, 111, 118, 101]⟩, .int .i64 1, .int .i64 2, .int .i64 0], .agg [.str ⟨#[97, 100, 100]⟩, .int .i64 1, .int .i64 2, .int .i64 2], .agg [.str ⟨#[115, 117, 98]⟩, .int .i64 1, .int .i64 2, .int .i64 2], .agg [.str ⟨#[109, 117, 108]⟩, .int .i64 1, .int .i64 2, .int .i64 2], .agg [.str ⟨#[108, 111, 97, 100]⟩, .int .i64 1, .int .i64 3, .int .i64 2], .agg [.str ⟨#[115, 116, 111, 114, 101]⟩, .int .i64 3, .int .i64 2, .int .i64 2], .agg [.str ⟨#[108, 101, 110]⟩, .int .i64 1, .int .i64 3, .int .i64 0], .agg [.str ⟨#[112, 117, 115, 104]⟩, .int .i64 3, .int .i64 2, .int .i64 0], .agg [.str ⟨#[106, 117, 109, 112]⟩, .int .i64 4, .int .i64 0, .int .i64 0], .agg [.str ⟨#[108, 101, 115, 115]⟩, .int .i64 2, .int .i64 2, .int .i64 4], .agg [.str ⟨#[115, 97, 109, 101]⟩, .int .i64 2, .int .i64 2, .int .i64 4]])), ⟨[], []⟩)
theorem eq58g   : gE 58 0 30 Try.f58 [] [] ⟨[], []⟩ = R58   := by kernel_rfl
theorem eq58  : vr 58 0 [] ⟨[], []⟩ = R58   :=
  Eq.trans (call_eq Try.prog hint (fn := Try.f58) (nt := 30) (T := []) [] rfl _ _ rfl rfl rfl rfl rfl) (eq58g  )
noncomputable def R73  (a0_0 : ByteArray) (a0_1 a0_2 a0_3 : Int) (m0_0 : ByteArray) : Option Res :=
 some ((.t (.bool (decide ((a0_0 : ByteArray) = m0_0)))), ⟨[(0, .var [.t (.str m0_0)])], [500]⟩)
theorem eq73g  (a0_0 : ByteArray) (a0_1 a0_2 a0_3 : Int) (m0_0 : ByteArray) : gE 73 0 8 Try.f73 [] [.t (.agg [.str a0_0, .int .i64 a0_1, .int .i64 a0_2, .int .i64 a0_3]), .ptr 0 0 0] ⟨[(0, .var [.t (.str m0_0)])], []⟩ = R73  a0_0 a0_1 a0_2 a0_3 m0_0 := by kernel_rfl
theorem eq73 (a0_0 : ByteArray) (a0_1 a0_2 a0_3 : Int) (m0_0 : ByteArray) : vr 73 0 [.t (.agg [.str a0_0, .int .i64 a0_1, .int .i64 a0_2, .int .i64 a0_3]), .ptr 0 0 0] ⟨[(0, .var [.t (.str m0_0)])], []⟩ = R73  a0_0 a0_1 a0_2 a0_3 m0_0 :=
  Eq.trans (call_eq Try.prog hint (fn := Try.f73) (nt := 8) (T := []) [] rfl _ _ rfl rfl rfl rfl rfl) (eq73g  a0_0 a0_1 a0_2 a0_3 m0_0)
noncomputable def R72 (L72_2 : YL72_2) (a0z : Bool) (a0 : List T) (m0_0 : ByteArray) : Option Res :=
 L72_2 (a0z) (a0) ((a0.length : Int)) (0) (m0_0)
theorem eq72g (KL72_2 : Env → St → Option Res) (a0z : Bool) (a0 : List T) (m0_0 : ByteArray) : gE 72 0 19 Try.f72 (Ta72 KL72_2) [.t (.list 4 a0z a0), .fn 73 [] [.ptr 0 0 0]] ⟨[(0, .var [.t (.str m0_0)])], []⟩ = R72 (WL72_2 KL72_2) a0z a0 m0_0 := by kernel_rfl
theorem eq72 (a0z : Bool) (a0 : List T) (m0_0 : ByteArray) : vr 72 0 [.t (.list 4 a0z a0), .fn 73 [] [.ptr 0 0 0]] ⟨[(0, .var [.t (.str m0_0)])], []⟩ = R72 L72_2 a0z a0 m0_0 :=
  Eq.trans (call_eq Try.prog hint (fn := Try.f72) (nt := 19) (T := (Ta72 VL72_2)) [PaL72_2] rfl _ _ rfl rfl rfl rfl rfl) (eq72g VL72_2 a0z a0 m0_0)
noncomputable def RL72_2 (L72_2 : YL72_2) (s0z : Bool) (s0 : List T) (t7 t8 : Int) (m0_0 : ByteArray) : Option Res :=
(bif (decide (t8 < t7)) then
 needC (decide (0 ≤ t8)) fun _ =>
 getT s0 (t8).toNat fun E1 =>
 asA E1 fun L2 =>
 consT L2 fun V3 L4 =>
 asS V3 fun S5 =>
 consT L4 fun V6 L7 =>
 asI .i64 V6 fun X8 =>
 consT L7 fun V9 L10 =>
 asI .i64 V9 fun X11 =>
 consT L10 fun V12 L13 =>
 asI .i64 V12 fun X14 =>
 endT L13 <|
 callK (vr 73 0 [.t (.agg [.str S5, .int .i64 X8, .int .i64 X11, .int .i64 X14]), .ptr 0 0 0] ⟨[(0, .var [.t (.str m0_0)])], []⟩) fun V15 B16 =>
 asT V15 fun X17 =>
 asB X17 fun B18 =>
 consB 0 B16 fun K19 B20 =>
 asVar K19 fun L21 =>
 consV L21 fun V22 L23 =>
 asT V22 fun X24 =>
 asS X24 fun S25 =>
 endV L23 <|
 endB B20 <|
(bif B18 then
 some ((.t (.int .i64 t8)), ⟨[(0, .var [.t (.str S25)])], [500]⟩)
else
 L72_2 (s0z) (s0) (t7) ((IntKind.i64.wrap (t8 + 1))) (S25))
else
 some ((.t (.int .i64 (-1))), ⟨[(0, .var [.t (.str m0_0)])], [500]⟩))
theorem L72_2g (KL72_2 : Env → St → Option Res) (s0z : Bool) (s0 : List T) (t7 t8 : Int) (m0_0 : ByteArray) : WL72_2 (fun e st => gP 72 0 19 Try.f72 (Ta72 KL72_2) (.lp :: PaL72_2) e st) s0z s0 t7 t8 m0_0 = RL72_2 (WL72_2 KL72_2) s0z s0 t7 t8 m0_0 := by kernel_rfl
theorem L72_2_eq (s0z : Bool) (s0 : List T) (t7 t8 : Int) (m0_0 : ByteArray) : L72_2 s0z s0 t7 t8 m0_0 = RL72_2 L72_2 s0z s0 t7 t8 m0_0 :=
  (congrArg (fun k => WL72_2 k s0z s0 t7 t8 m0_0) (funext fun e => funext fun st => round_eq Try.prog hint (b := (nav (List.reverse (.lp :: PaL72_2)) (bodyOf Try.f72))) (fn := Try.f72) (nt := 19) (T := (Ta72 VL72_2)) [PaL72_2] rfl PaL72_2 e st rfl rfl rfl)).trans (L72_2g VL72_2 s0z s0 t7 t8 m0_0)
noncomputable def R38  (a0 : Int) : Option Res :=
 callK (vr 58 0 [] ⟨[], []⟩) fun V1 B2 =>
 asT V1 fun X3 =>
 asL 4 X3 fun N4 L5 =>
 endB B2 <|
(bif (decide (a0 < 0)) then
 some ((.tup [.t (.agg [.str ByteArray.empty, .int .i64 0, .int .i64 0, .int .i64 0]), .t (.bool false)]), ⟨[], []⟩)
else
(bif (decide ((L5.length : Int) ≤ a0)) then
 some ((.tup [.t (.agg [.str ByteArray.empty, .int .i64 0, .int .i64 0, .int .i64 0]), .t (.bool false)]), ⟨[], []⟩)
else
 needC (decide (0 ≤ a0)) fun _ =>
 getT L5 (a0).toNat fun E6 =>
 asA E6 fun L7 =>
 consT L7 fun V8 L9 =>
 asS V8 fun S10 =>
 consT L9 fun V11 L12 =>
 asI .i64 V11 fun X13 =>
 consT L12 fun V14 L15 =>
 asI .i64 V14 fun X16 =>
 consT L15 fun V17 L18 =>
 asI .i64 V17 fun X19 =>
 endT L18 <|
 some ((.tup [.t (.agg [.str S10, .int .i64 X13, .int .i64 X16, .int .i64 X19]), .t (.bool true)]), ⟨[], []⟩)))
theorem eq38g  (a0 : Int) : gE 38 0 19 Try.f38 [] [.t (.int .i64 a0)] ⟨[], []⟩ = R38  a0 := by kernel_rfl
theorem eq38 (a0 : Int) : vr 38 0 [.t (.int .i64 a0)] ⟨[], []⟩ = R38  a0 :=
  Eq.trans (call_eq Try.prog hint (fn := Try.f38) (nt := 19) (T := []) [] rfl _ _ rfl rfl rfl rfl rfl) (eq38g  a0)
noncomputable def R42  (m0_0 m0_1 m0_2 m0_3 m0_4 : Int) : Option Res :=
 some ((.agg [.ptr 0 0 1, .ptr 0 0 2, .ptr 0 0 3]), ⟨[(0, .var [.t (.int .i64 m0_0), .t (.int .i64 m0_1), .t (.int .i64 m0_2), .t (.int .i64 m0_3), .t (.int .i64 m0_4)])], [500]⟩)
theorem eq42g  (m0_0 m0_1 m0_2 m0_3 m0_4 : Int) : gE 42 0 13 Try.f42 [] [.ptr 0 0 0] ⟨[(0, .var [.t (.int .i64 m0_0), .t (.int .i64 m0_1), .t (.int .i64 m0_2), .t (.int .i64 m0_3), .t (.int .i64 m0_4)])], []⟩ = R42  m0_0 m0_1 m0_2 m0_3 m0_4 := by kernel_rfl
theorem eq42 (m0_0 m0_1 m0_2 m0_3 m0_4 : Int) : vr 42 0 [.ptr 0 0 0] ⟨[(0, .var [.t (.int .i64 m0_0), .t (.int .i64 m0_1), .t (.int .i64 m0_2), .t (.int .i64 m0_3), .t (.int .i64 m0_4)])], []⟩ = R42  m0_0 m0_1 m0_2 m0_3 m0_4 :=
  Eq.trans (call_eq Try.prog hint (fn := Try.f42) (nt := 13) (T := []) [] rfl _ _ rfl rfl rfl rfl rfl) (eq42g  m0_0 m0_1 m0_2 m0_3 m0_4)
noncomputable def R85  (a0 a1 : ByteArray) : Option Res :=
(bif (decide ((a1.size : Int) ≤ (a0.size : Int))) then
 subS a0 none (some (a1.size : Int)) fun S1 =>
 some ((.t (.bool (decide ((S1 : ByteArray) = a1)))), ⟨[], []⟩)
else
 some ((.t (.bool false)), ⟨[], []⟩))
theorem eq85g  (a0 a1 : ByteArray) : gE 85 0 18 Try.f85 [] [.t (.str a0), .t (.str a1)] ⟨[], []⟩ = R85  a0 a1 := by kernel_rfl
theorem eq85 (a0 a1 : ByteArray) : vr 85 0 [.t (.str a0), .t (.str a1)] ⟨[], []⟩ = R85  a0 a1 :=
  Eq.trans (call_eq Try.prog hint (fn := Try.f85) (nt := 18) (T := []) [] rfl _ _ rfl rfl rfl rfl rfl) (eq85g  a0 a1)
noncomputable def R84  (a0 a1 : ByteArray) : Option Res :=
 callK (vr 85 0 [.t (.str a0), .t (.str a1)] ⟨[], []⟩) fun V1 B2 =>
 asT V1 fun X3 =>
 asB X3 fun B4 =>
 endB B2 <|
(bif (!B4) then
 some ((.tup [.t (.str a0), .t (.bool false)]), ⟨[], []⟩)
else
 subS a0 (some (a1.size : Int)) none fun S5 =>
 some ((.tup [.t (.str S5), .t (.bool true)]), ⟨[], []⟩))
theorem eq84g  (a0 a1 : ByteArray) : gE 84 0 15 Try.f84 [] [.t (.str a0), .t (.str a1)] ⟨[], []⟩ = R84  a0 a1 := by kernel_rfl
theorem eq84 (a0 a1 : ByteArray) : vr 84 0 [.t (.str a0), .t (.str a1)] ⟨[], []⟩ = R84  a0 a1 :=
  Eq.trans (call_eq Try.prog hint (fn := Try.f84) (nt := 15) (T := []) [] rfl _ _ rfl rfl rfl rfl rfl) (eq84g  a0 a1)
noncomputable def R82  (a0 a1 : ByteArray) : Option Res :=
 callK (vr 84 0 [.t (.str a0), .t (.str a1)] ⟨[], []⟩) fun V1 B2 =>
 asTup V1 fun L3 =>
 consV L3 fun V4 L5 =>
 asT V4 fun X6 =>
 asS X6 fun S7 =>
 consV L5 fun V8 L9 =>
 asT V8 fun X10 =>
 asB X10 fun B11 =>
 endV L9 <|
 endB B2 <|
 some ((.tup [.t (.str S7), .t (.bool B11)]), ⟨[], []⟩)
theorem eq82g  (a0 a1 : ByteArray) : gE 82 0 11 Try.f82 [] [.t (.str a0), .t (.str a1)] ⟨[], []⟩ = R82  a0 a1 := by kernel_rfl
theorem eq82 (a0 a1 : ByteArray) : vr 82 0 [.t (.str a0), .t (.str a1)] ⟨[], []⟩ = R82  a0 a1 :=
  Eq.trans (call_eq Try.prog hint (fn := Try.f82) (nt := 11) (T := []) [] rfl _ _ rfl rfl rfl rfl rfl) (eq82g  a0 a1)
noncomputable def R74  (a1 : ByteArray) (m0_0z : Bool) (m0_0 : List T) (m0_1 : Bool) : Option Res :=
 callK (vr 54 0 [.ptr 0 0 0, .t (.int .i64 1)] (Z2 m0_0z m0_0 m0_1)) fun V1 B2 =>
 asT V1 fun X3 =>
 asA X3 fun L4 =>
 consT L4 fun V5 L6 =>
 asI .i64 V5 fun X7 =>
 consT L6 fun V8 L9 =>
 asS V8 fun S10 =>
 consT L9 fun V11 L12 =>
 asI .i64 V11 fun X13 =>
 endT L12 <|
 consB 0 B2 fun K14 B15 =>
 asVar K14 fun L16 =>
 consV L16 fun V17 L18 =>
 asT V17 fun X19 =>
 asL 3 X19 fun N20 L21 =>
 consV L18 fun V22 L23 =>
 asT V22 fun X24 =>
 asB X24 fun B25 =>
 endV L23 <|
 endB B15 <|
 callK (vr 82 0 [.t (.str S10), .t (.str a1)] ⟨[], []⟩) fun V26 B27 =>
 asTup V26 fun L28 =>
 consV L28 fun V29 L30 =>
 asT V29 fun X31 =>
 asS X31 fun S32 =>
 consV L30 fun V33 L34 =>
 asT V33 fun X35 =>
 asB X35 fun B36 =>
 endV L34 <|
 endB B27 <|
 callK (vr 81 0 [.t (.str S32)] ⟨[], []⟩) fun V37 B38 =>
 asTup V37 fun L39 =>
 consV L39 fun V40 L41 =>
 asT V40 fun X42 =>
 asI .i64 X42 fun X43 =>
 consV L41 fun V44 L45 =>
 asT V44 fun X46 =>
 asB X46 fun B47 =>
 endV L45 <|
 endB B38 <|
(bif (!B36) then
 some ((.t (.int .i64 X43)), ⟨[(0, .var [.t (.list 3 N20 L21), .t (.bool true)])], [500]⟩)
else
(bif (!B47) then
 some ((.t (.int .i64 X43)), ⟨[(0, .var [.t (.list 3 N20 L21), .t (.bool true)])], [500]⟩)
else
 some ((.t (.int .i64 X43)), (Z1 N20 L21 B25))))
theorem eq74g  (a1 : ByteArray) (m0_0z : Bool) (m0_0 : List T) (m0_1 : Bool) : gE 74 0 32 Try.f74 [] [.ptr 0 0 0, .t (.str a1)] ⟨[(0, .var [.t (.list 3 m0_0z m0_0), .t (.bool m0_1)])], []⟩ = R74  a1 m0_0z m0_0 m0_1 := by kernel_rfl
theorem eq74 (a1 : ByteArray) (m0_0z : Bool) (m0_0 : List T) (m0_1 : Bool) : vr 74 0 [.ptr 0 0 0, .t (.str a1)] ⟨[(0, .var [.t (.list 3 m0_0z m0_0), .t (.bool m0_1)])], []⟩ = R74  a1 m0_0z m0_0 m0_1 :=
  Eq.trans (call_eq Try.prog hint (fn := Try.f74) (nt := 32) (T := []) [] rfl _ _ rfl rfl rfl rfl rfl) (eq74g  a1 m0_0z m0_0 m0_1)
noncomputable def R75  (m0_0z : Bool) (m0_0 : List T) (m0_1 : Bool) : Option Res :=
(bif (decide ((m0_0.length : Int) = 0)) then
 callK (vr 54 0 [.ptr 0 0 0, .t (.int .i64 2)] (Z2 m0_0z m0_0 m0_1)) fun V1 B2 =>
 asT V1 fun X3 =>
 asA X3 fun L4 =>
 consT L4 fun V5 L6 =>
 asI .i64 V5 fun X7 =>
 consT L6 fun V8 L9 =>
 asS V8 fun S10 =>
 consT L9 fun V11 L12 =>
 asI .i64 V11 fun X13 =>
 endT L12 <|
 consB 0 B2 fun K14 B15 =>
 asVar K14 fun L16 =>
 consV L16 fun V17 L18 =>
 asT V17 fun X19 =>
 asL 3 X19 fun N20 L21 =>
 consV L18 fun V22 L23 =>
 asT V22 fun X24 =>
 asB X24 fun B25 =>
 endV L23 <|
 endB B15 <|
 some ((.t (.int .i64 X13)), (Z1 N20 L21 B25))
else
 needC (decide (0 ≤ 0)) fun _ =>
 getT m0_0 ((0 : Int)).toNat fun E26 =>
 asA E26 fun L27 =>
 consT L27 fun V28 L29 =>
 asI .i64 V28 fun X30 =>
 consT L29 fun V31 L32 =>
 asS V31 fun S33 =>
 consT L32 fun V34 L35 =>
 asI .i64 V34 fun X36 =>
 endT L35 <|
(bif (!decide ((S33 : ByteArray) = ⟨#[45]⟩)) then
 callK (vr 54 0 [.ptr 0 0 0, .t (.int .i64 2)] (Z2 m0_0z m0_0 m0_1)) fun V37 B38 =>
 asT V37 fun X39 =>
 asA X39 fun L40 =>
 consT L40 fun V41 L42 =>
 asI .i64 V41 fun X43 =>
 consT L42 fun V44 L45 =>
 asS V44 fun S46 =>
 consT L45 fun V47 L48 =>
 asI .i64 V47 fun X49 =>
 endT L48 <|
 consB 0 B38 fun K50 B51 =>
 asVar K50 fun L52 =>
 consV L52 fun V53 L54 =>
 asT V53 fun X55 =>
 asL 3 X55 fun N56 L57 =>
 consV L54 fun V58 L59 =>
 asT V58 fun X60 =>
 asB X60 fun B61 =>
 endV L59 <|
 endB B51 <|
 some ((.t (.int .i64 X49)), (Z1 N56 L57 B61))
else
 callK (vr 54 0 [.ptr 0 0 0, .t (.int .i64 3)] (Z2 m0_0z m0_0 m0_1)) fun V62 B63 =>
 asT V62 fun X64 =>
 asA X64 fun L65 =>
 consT L65 fun V66 L67 =>
 asI .i64 V66 fun X68 =>
 consT L67 fun V69 L70 =>
 asS V69 fun S71 =>
 consT L70 fun V72 L73 =>
 asI .i64 V72 fun X74 =>
 endT L73 <|
 consB 0 B63 fun K75 B76 =>
 asVar K75 fun L77 =>
 consV L77 fun V78 L79 =>
 asT V78 fun X80 =>
 asL 3 X80 fun N81 L82 =>
 consV L79 fun V83 L84 =>
 asT V83 fun X85 =>
 asB X85 fun B86 =>
 endV L84 <|
 endB B76 <|
 callK (vr 54 0 [.ptr 0 0 0, .t (.int .i64 2)] (Z2 N81 L82 B86)) fun V87 B88 =>
 asT V87 fun X89 =>
 asA X89 fun L90 =>
 consT L90 fun V91 L92 =>
 asI .i64 V91 fun X93 =>
 consT L92 fun V94 L95 =>
 asS V94 fun S96 =>
 consT L95 fun V97 L98 =>
 asI .i64 V97 fun X99 =>
 endT L98 <|
 consB 0 B88 fun K100 B101 =>
 asVar K100 fun L102 =>
 consV L102 fun V103 L104 =>
 asT V103 fun X105 =>
 asL 3 X105 fun N106 L107 =>
 consV L104 fun V108 L109 =>
 asT V108 fun X110 =>
 asB X110 fun B111 =>
 endV L109 <|
 endB B101 <|
(bif (decide (X99 = 0)) then
 some ((.t (.int .i64 (IntKind.i64.wrap (0 - X99)))), ⟨[(0, .var [.t (.list 3 N106 L107), .t (.bool true)])], [500]⟩)
else
 some ((.t (.int .i64 (IntKind.i64.wrap (0 - X99)))), (Z1 N106 L107 B111)))))
theorem eq75g  (m0_0z : Bool) (m0_0 : List T) (m0_1 : Bool) : gE 75 0 35 Try.f75 [] [.ptr 0 0 0] ⟨[(0, .var [.t (.list 3 m0_0z m0_0), .t (.bool m0_1)])], []⟩ = R75  m0_0z m0_0 m0_1 := by kernel_rfl
theorem eq75 (m0_0z : Bool) (m0_0 : List T) (m0_1 : Bool) : vr 75 0 [.ptr 0 0 0] ⟨[(0, .var [.t (.list 3 m0_0z m0_0), .t (.bool m0_1)])], []⟩ = R75  m0_0z m0_0 m0_1 :=
  Eq.trans (call_eq Try.prog hint (fn := Try.f75) (nt := 35) (T := []) [] rfl _ _ rfl rfl rfl rfl rfl) (eq75g  m0_0z m0_0 m0_1)
noncomputable def R55 (J55_6 : YJ55_6) (m0_0z : Bool) (m0_0 : List T) (m0_1 : Bool) : Option Res :=
 callK (vr 54 0 [.ptr 0 0 0, .t (.int .i64 1)] (Z2 m0_0z m0_0 m0_1)) fun V1 B2 =>
 asT V1 fun X3 =>
 asA X3 fun L4 =>
 consT L4 fun V5 L6 =>
 asI .i64 V5 fun X7 =>
 consT L6 fun V8 L9 =>
 asS V8 fun S10 =>
 consT L9 fun V11 L12 =>
 asI .i64 V11 fun X13 =>
 endT L12 <|
 consB 0 B2 fun K14 B15 =>
 asVar K14 fun L16 =>
 consV L16 fun V17 L18 =>
 asT V17 fun X19 =>
 asL 3 X19 fun N20 L21 =>
 consV L18 fun V22 L23 =>
 asT V22 fun X24 =>
 asB X24 fun B25 =>
 endV L23 <|
 endB B15 <|
 callK (vr 58 0 [] ⟨[], []⟩) fun V26 B27 =>
 asT V26 fun X28 =>
 asL 4 X28 fun N29 L30 =>
 endB B27 <|
 callK (vr 72 0 [.t (.list 4 N29 L30), .fn 73 [] [.ptr 0 0 0]] ⟨[(0, .var [.t (.str S10)])], []⟩) fun V31 B32 =>
 asT V31 fun X33 =>
 asI .i64 X33 fun X34 =>
 consB 0 B32 fun K35 B36 =>
 asVar K35 fun L37 =>
 consV L37 fun V38 L39 =>
 asT V38 fun X40 =>
 asS X40 fun S41 =>
 endV L39 <|
 endB B36 <|
 callK (vr 38 0 [.t (.int .i64 X34)] ⟨[], []⟩) fun V42 B43 =>
 asTup V42 fun L44 =>
 consV L44 fun V45 L46 =>
 asT V45 fun X47 =>
 asA X47 fun L48 =>
 consT L48 fun V49 L50 =>
 asS V49 fun S51 =>
 consT L50 fun V52 L53 =>
 asI .i64 V52 fun X54 =>
 consT L53 fun V55 L56 =>
 asI .i64 V55 fun X57 =>
 consT L56 fun V58 L59 =>
 asI .i64 V58 fun X60 =>
 endT L59 <|
 consV L46 fun V61 L62 =>
 asT V61 fun X63 =>
 asB X63 fun B64 =>
 endV L62 <|
 endB B43 <|
(bif (!B64) then
 J55_6 (N20) (L21) (true) (X34) (0) (0) (0) (0) (S51) (X54) (X57) (X60)
else
 J55_6 (N20) (L21) (B25) (X34) (0) (0) (0) (0) (S51) (X54) (X57) (X60))
theorem eq55g (KJ55_6 : Env → St → Option Res) (m0_0z : Bool) (m0_0 : List T) (m0_1 : Bool) : gE 55 0 62 Try.f55 (Ta55 KJ55_6) [.ptr 0 0 0] ⟨[(0, .var [.t (.list 3 m0_0z m0_0), .t (.bool m0_1)])], []⟩ = R55 (WJ55_6 KJ55_6) m0_0z m0_0 m0_1 := by kernel_rfl
theorem eq55 (m0_0z : Bool) (m0_0 : List T) (m0_1 : Bool) : vr 55 0 [.ptr 0 0 0] ⟨[(0, .var [.t (.list 3 m0_0z m0_0), .t (.bool m0_1)])], []⟩ = R55 J55_6 m0_0z m0_0 m0_1 :=
  Eq.trans (call_eq Try.prog hint (fn := Try.f55) (nt := 62) (T := (Ta55 VJ55_6)) [PaJ55_6] rfl _ _ rfl rfl rfl rfl rfl) (eq55g VJ55_6 m0_0z m0_0 m0_1)
noncomputable def RJ55_6 (J55_6 : YJ55_6) (m0_0z : Bool) (m0_0 : List T) (m0_1 : Bool) (m8_0 m8_1 m8_2 m8_3 m8_4 : Int) (m9_0 : ByteArray) (m9_1 m9_2 m9_3 : Int) : Option Res :=
 callK (vr 42 0 [.ptr 0 0 0] ⟨[(0, .var [.t (.int .i64 m8_0), .t (.int .i64 m8_1), .t (.int .i64 m8_2), .t (.int .i64 m8_3), .t (.int .i64 m8_4)])], []⟩) fun V1 B2 =>
 asG V1 fun L3 =>
 consV L3 fun V4 L5 =>
 isPtr 0 0 1 V4 <|
 consV L5 fun V6 L7 =>
 isPtr 0 0 2 V6 <|
 consV L7 fun V8 L9 =>
 isPtr 0 0 3 V8 <|
 endV L9 <|
 consB 0 B2 fun K10 B11 =>
 asVar K10 fun L12 =>
 consV L12 fun V13 L14 =>
 asT V13 fun X15 =>
 asI .i64 X15 fun X16 =>
 consV L14 fun V17 L18 =>
 asT V17 fun X19 =>
 asI .i64 X19 fun X20 =>
 consV L18 fun V21 L22 =>
 asT V21 fun X23 =>
 asI .i64 X23 fun X24 =>
 consV L22 fun V25 L26 =>
 asT V25 fun X27 =>
 asI .i64 X27 fun X28 =>
 consV L26 fun V29 L30 =>
 asT V29 fun X31 =>
 asI .i64 X31 fun X32 =>
 endV L30 <|
 endB B11 <|
(bif (decide (m9_1 = 1)) then
 callK (vr 74 0 [.ptr 0 0 0, .t (.str ⟨#[114]⟩)] (Z2 m0_0z m0_0 m0_1)) fun V33 B34 =>
 asT V33 fun X35 =>
 asI .i64 X35 fun X36 =>
 consB 0 B34 fun K37 B38 =>
 asVar K37 fun L39 =>
 consV L39 fun V40 L41 =>
 asT V40 fun X42 =>
 asL 3 X42 fun N43 L44 =>
 consV L41 fun V45 L46 =>
 asT V45 fun X47 =>
 asB X47 fun B48 =>
 endV L46 <|
 endB B38 <|
(bif (decide (m9_2 = 1)) then
 callK (vr 74 0 [.ptr 0 0 0, .t (.str ⟨#[114]⟩)] (Z2 N43 L44 B48)) fun V49 B50 =>
 asT V49 fun X51 =>
 asI .i64 X51 fun X52 =>
 consB 0 B50 fun K53 B54 =>
 asVar K53 fun L55 =>
 consV L55 fun V56 L57 =>
 asT V56 fun X58 =>
 asL 3 X58 fun N59 L60 =>
 consV L57 fun V61 L62 =>
 asT V61 fun X63 =>
 asB X63 fun B64 =>
 endV L62 <|
 endB B54 <|
(bif (decide (m9_3 = 1)) then
 callK (vr 74 0 [.ptr 0 0 0, .t (.str ⟨#[114]⟩)] (Z2 N59 L60 B64)) fun V65 B66 =>
 asT V65 fun X67 =>
 asI .i64 X67 fun X68 =>
 consB 0 B66 fun K69 B70 =>
 asVar K69 fun L71 =>
 consV L71 fun V72 L73 =>
 asT V72 fun X74 =>
 asL 3 X74 fun N75 L76 =>
 consV L73 fun V77 L78 =>
 asT V77 fun X79 =>
 asB X79 fun B80 =>
 endV L78 <|
 endB B70 <|
 Z0 X16 X36 X52 X68 X32 N75 L76 B80
else
(bif (decide (m9_3 = 2)) then
 callK (vr 74 0 [.ptr 0 0 0, .t (.str ⟨#[114]⟩)] (Z2 N59 L60 B64)) fun V81 B82 =>
 asT V81 fun X83 =>
 asI .i64 X83 fun X84 =>
 consB 0 B82 fun K85 B86 =>
 asVar K85 fun L87 =>
 consV L87 fun V88 L89 =>
 asT V88 fun X90 =>
 asL 3 X90 fun N91 L92 =>
 consV L89 fun V93 L94 =>
 asT V93 fun X95 =>
 asB X95 fun B96 =>
 endV L94 <|
 endB B86 <|
 Z0 X16 X36 X52 X84 X32 N91 L92 B96
else
(bif (decide (m9_3 = 3)) then
 callK (vr 74 0 [.ptr 0 0 0, .t (.str ⟨#[97]⟩)] (Z2 N59 L60 B64)) fun V97 B98 =>
 asT V97 fun X99 =>
 asI .i64 X99 fun X100 =>
 consB 0 B98 fun K101 B102 =>
 asVar K101 fun L103 =>
 consV L103 fun V104 L105 =>
 asT V104 fun X106 =>
 asL 3 X106 fun N107 L108 =>
 consV L105 fun V109 L110 =>
 asT V109 fun X111 =>
 asB X111 fun B112 =>
 endV L110 <|
 endB B102 <|
 Z0 X16 X36 X52 X100 X32 N107 L108 B112
else
(bif (decide (m9_3 = 4)) then
 callK (vr 54 0 [.ptr 0 0 0, .t (.int .i64 2)] (Z2 N59 L60 B64)) fun V113 B114 =>
 asT V113 fun X115 =>
 asA X115 fun L116 =>
 consT L116 fun V117 L118 =>
 asI .i64 V117 fun X119 =>
 consT L118 fun V120 L121 =>
 asS V120 fun S122 =>
 consT L121 fun V123 L124 =>
 asI .i64 V123 fun X125 =>
 endT L124 <|
 consB 0 B114 fun K126 B127 =>
 asVar K126 fun L128 =>
 consV L128 fun V129 L130 =>
 asT V129 fun X131 =>
 asL 3 X131 fun N132 L133 =>
 consV L130 fun V134 L135 =>
 asT V134 fun X136 =>
 asB X136 fun B137 =>
 endV L135 <|
 endB B127 <|
 Z0 X16 X36 X52 X125 X32 N132 L133 B137
else
(bif (decide (m9_3 = 5)) then
 callK (vr 75 0 [.ptr 0 0 0] (Z2 N59 L60 B64)) fun V138 B139 =>
 asT V138 fun X140 =>
 asI .i64 X140 fun X141 =>
 consB 0 B139 fun K142 B143 =>
 asVar K142 fun L144 =>
 consV L144 fun V145 L146 =>
 asT V145 fun X147 =>
 asL 3 X147 fun N148 L149 =>
 consV L146 fun V150 L151 =>
 asT V150 fun X152 =>
 asB X152 fun B153 =>
 endV L151 <|
 endB B143 <|
 Z0 X16 X36 X52 X28 X141 N148 L149 B153
else
 Z0 X16 X36 X52 X28 X32 N59 L60 B64)))))
else
(bif (decide (m9_2 = 2)) then
 callK (vr 74 0 [.ptr 0 0 0, .t (.str ⟨#[114]⟩)] (Z2 N43 L44 B48)) fun V154 B155 =>
 asT V154 fun X156 =>
 asI .i64 X156 fun X157 =>
 consB 0 B155 fun K158 B159 =>
 asVar K158 fun L160 =>
 consV L160 fun V161 L162 =>
 asT V161 fun X163 =>
 asL 3 X163 fun N164 L165 =>
 consV L162 fun V166 L167 =>
 asT V166 fun X168 =>
 asB X168 fun B169 =>
 endV L167 <|
 endB B159 <|
(bif (decide (m9_3 = 1)) then
 callK (vr 74 0 [.ptr 0 0 0, .t (.str ⟨#[114]⟩)] (Z2 N164 L165 B169)) fun V170 B171 =>
 asT V170 fun X172 =>
 asI .i64 X172 fun X173 =>
 consB 0 B171 fun K174 B175 =>
 asVar K174 fun L176 =>
 consV L176 fun V177 L178 =>
 asT V177 fun X179 =>
 asL 3 X179 fun N180 L181 =>
 consV L178 fun V182 L183 =>
 asT V182 fun X184 =>
 asB X184 fun B185 =>
 endV L183 <|
 endB B175 <|
 Z0 X16 X36 X157 X173 X32 N180 L181 B185
else
(bif (decide (m9_3 = 2)) then
 callK (vr 74 0 [.ptr 0 0 0, .t (.str ⟨#[114]⟩)] (Z2 N164 L165 B169)) fun V186 B187 =>
 asT V186 fun X188 =>
 asI .i64 X188 fun X189 =>
 consB 0 B187 fun K190 B191 =>
 asVar K190 fun L192 =>
 consV L192 fun V193 L194 =>
 asT V193 fun X195 =>
 asL 3 X195 fun N196 L197 =>
 consV L194 fun V198 L199 =>
 asT V198 fun X200 =>
 asB X200 fun B201 =>
 endV L199 <|
 endB B191 <|
 Z0 X16 X36 X157 X189 X32 N196 L197 B201
else
(bif (decide (m9_3 = 3)) then
 callK (vr 74 0 [.ptr 0 0 0, .t (.str ⟨#[97]⟩)] (Z2 N164 L165 B169)) fun V202 B203 =>
 asT V202 fun X204 =>
 asI .i64 X204 fun X205 =>
 consB 0 B203 fun K206 B207 =>
 asVar K206 fun L208 =>
 consV L208 fun V209 L210 =>
 asT V209 fun X211 =>
 asL 3 X211 fun N212 L213 =>
 consV L210 fun V214 L215 =>
 asT V214 fun X216 =>
 asB X216 fun B217 =>
 endV L215 <|
 endB B207 <|
 Z0 X16 X36 X157 X205 X32 N212 L213 B217
else
(bif (decide (m9_3 = 4)) then
 callK (vr 54 0 [.ptr 0 0 0, .t (.int .i64 2)] (Z2 N164 L165 B169)) fun V218 B219 =>
 asT V218 fun X220 =>
 asA X220 fun L221 =>
 consT L221 fun V222 L223 =>
 asI .i64 V222 fun X224 =>
 consT L223 fun V225 L226 =>
 asS V225 fun S227 =>
 consT L226 fun V228 L229 =>
 asI .i64 V228 fun X230 =>
 endT L229 <|
 consB 0 B219 fun K231 B232 =>
 asVar K231 fun L233 =>
 consV L233 fun V234 L235 =>
 asT V234 fun X236 =>
 asL 3 X236 fun N237 L238 =>
 consV L235 fun V239 L240 =>
 asT V239 fun X241 =>
 asB X241 fun B242 =>
 endV L240 <|
 endB B232 <|
 Z0 X16 X36 X157 X230 X32 N237 L238 B242
else
(bif (decide (m9_3 = 5)) then
 callK (vr 75 0 [.ptr 0 0 0] (Z2 N164 L165 B169)) fun V243 B244 =>
 asT V243 fun X245 =>
 asI .i64 X245 fun X246 =>
 consB 0 B244 fun K247 B248 =>
 asVar K247 fun L249 =>
 consV L249 fun V250 L251 =>
 asT V250 fun X252 =>
 asL 3 X252 fun N253 L254 =>
 consV L251 fun V255 L256 =>
 asT V255 fun X257 =>
 asB X257 fun B258 =>
 endV L256 <|
 endB B248 <|
 Z0 X16 X36 X157 X28 X246 N253 L254 B258
else
 Z0 X16 X36 X157 X28 X32 N164 L165 B169)))))
else
(bif (decide (m9_2 = 3)) then
 callK (vr 74 0 [.ptr 0 0 0, .t (.str ⟨#[97]⟩)] (Z2 N43 L44 B48)) fun V259 B260 =>
 asT V259 fun X261 =>
 asI .i64 X261 fun X262 =>
 consB 0 B260 fun K263 B264 =>
 asVar K263 fun L265 =>
 consV L265 fun V266 L267 =>
 asT V266 fun X268 =>
 asL 3 X268 fun N269 L270 =>
 consV L267 fun V271 L272 =>
 asT V271 fun X273 =>
 asB X273 fun B274 =>
 endV L272 <|
 endB B264 <|
(bif (decide (m9_3 = 1)) then
 callK (vr 74 0 [.ptr 0 0 0, .t (.str ⟨#[114]⟩)] (Z2 N269 L270 B274)) fun V275 B276 =>
 asT V275 fun X277 =>
 asI .i64 X277 fun X278 =>
 consB 0 B276 fun K279 B280 =>
 asVar K279 fun L281 =>
 consV L281 fun V282 L283 =>
 asT V282 fun X284 =>
 asL 3 X284 fun N285 L286 =>
 consV L283 fun V287 L288 =>
 asT V287 fun X289 =>
 asB X289 fun B290 =>
 endV L288 <|
 endB B280 <|
 Z0 X16 X36 X262 X278 X32 N285 L286 B290
else
(bif (decide (m9_3 = 2)) then
 callK (vr 74 0 [.ptr 0 0 0, .t (.str ⟨#[114]⟩)] (Z2 N269 L270 B274)) fun V291 B292 =>
 asT V291 fun X293 =>
 asI .i64 X293 fun X294 =>
 consB 0 B292 fun K295 B296 =>
 asVar K295 fun L297 =>
 consV L297 fun V298 L299 =>
 asT V298 fun X300 =>
 asL 3 X300 fun N301 L302 =>
 consV L299 fun V303 L304 =>
 asT V303 fun X305 =>
 asB X305 fun B306 =>
 endV L304 <|
 endB B296 <|
 Z0 X16 X36 X262 X294 X32 N301 L302 B306
else
(bif (decide (m9_3 = 3)) then
 callK (vr 74 0 [.ptr 0 0 0, .t (.str ⟨#[97]⟩)] (Z2 N269 L270 B274)) fun V307 B308 =>
 asT V307 fun X309 =>
 asI .i64 X309 fun X310 =>
 consB 0 B308 fun K311 B312 =>
 asVar K311 fun L313 =>
 consV L313 fun V314 L315 =>
 asT V314 fun X316 =>
 asL 3 X316 fun N317 L318 =>
 consV L315 fun V319 L320 =>
 asT V319 fun X321 =>
 asB X321 fun B322 =>
 endV L320 <|
 endB B312 <|
 Z0 X16 X36 X262 X310 X32 N317 L318 B322
else
(bif (decide (m9_3 = 4)) then
 callK (vr 54 0 [.ptr 0 0 0, .t (.int .i64 2)] (Z2 N269 L270 B274)) fun V323 B324 =>
 asT V323 fun X325 =>
 asA X325 fun L326 =>
 consT L326 fun V327 L328 =>
 asI .i64 V327 fun X329 =>
 consT L328 fun V330 L331 =>
 asS V330 fun S332 =>
 consT L331 fun V333 L334 =>
 asI .i64 V333 fun X335 =>
 endT L334 <|
 consB 0 B324 fun K336 B337 =>
 asVar K336 fun L338 =>
 consV L338 fun V339 L340 =>
 asT V339 fun X341 =>
 asL 3 X341 fun N342 L343 =>
 consV L340 fun V344 L345 =>
 asT V344 fun X346 =>
 asB X346 fun B347 =>
 endV L345 <|
 endB B337 <|
 Z0 X16 X36 X262 X335 X32 N342 L343 B347
else
(bif (decide (m9_3 = 5)) then
 callK (vr 75 0 [.ptr 0 0 0] (Z2 N269 L270 B274)) fun V348 B349 =>
 asT V348 fun X350 =>
 asI .i64 X350 fun X351 =>
 consB 0 B349 fun K352 B353 =>
 asVar K352 fun L354 =>
 consV L354 fun V355 L356 =>
 asT V355 fun X357 =>
 asL 3 X357 fun N358 L359 =>
 consV L356 fun V360 L361 =>
 asT V360 fun X362 =>
 asB X362 fun B363 =>
 endV L361 <|
 endB B353 <|
 Z0 X16 X36 X262 X28 X351 N358 L359 B363
else
 Z0 X16 X36 X262 X28 X32 N269 L270 B274)))))
else
(bif (decide (m9_2 = 4)) then
 callK (vr 54 0 [.ptr 0 0 0, .t (.int .i64 2)] (Z2 N43 L44 B48)) fun V364 B365 =>
 asT V364 fun X366 =>
 asA X366 fun L367 =>
 consT L367 fun V368 L369 =>
 asI .i64 V368 fun X370 =>
 consT L369 fun V371 L372 =>
 asS V371 fun S373 =>
 consT L372 fun V374 L375 =>
 asI .i64 V374 fun X376 =>
 endT L375 <|
 consB 0 B365 fun K377 B378 =>
 asVar K377 fun L379 =>
 consV L379 fun V380 L381 =>
 asT V380 fun X382 =>
 asL 3 X382 fun N383 L384 =>
 consV L381 fun V385 L386 =>
 asT V385 fun X387 =>
 asB X387 fun B388 =>
 endV L386 <|
 endB B378 <|
(bif (decide (m9_3 = 1)) then
 callK (vr 74 0 [.ptr 0 0 0, .t (.str ⟨#[114]⟩)] (Z2 N383 L384 B388)) fun V389 B390 =>
 asT V389 fun X391 =>
 asI .i64 X391 fun X392 =>
 consB 0 B390 fun K393 B394 =>
 asVar K393 fun L395 =>
 consV L395 fun V396 L397 =>
 asT V396 fun X398 =>
 asL 3 X398 fun N399 L400 =>
 consV L397 fun V401 L402 =>
 asT V401 fun X403 =>
 asB X403 fun B404 =>
 endV L402 <|
 endB B394 <|
 Z0 X16 X36 X376 X392 X32 N399 L400 B404
else
(bif (decide (m9_3 = 2)) then
 callK (vr 74 0 [.ptr 0 0 0, .t (.str ⟨#[114]⟩)] (Z2 N383 L384 B388)) fun V405 B406 =>
 asT V405 fun X407 =>
 asI .i64 X407 fun X408 =>
 consB 0 B406 fun K409 B410 =>
 asVar K409 fun L411 =>
 consV L411 fun V412 L413 =>
 asT V412 fun X414 =>
 asL 3 X414 fun N415 L416 =>
 consV L413 fun V417 L418 =>
 asT V417 fun X419 =>
 asB X419 fun B420 =>
 endV L418 <|
 endB B410 <|
 Z0 X16 X36 X376 X408 X32 N415 L416 B420
else
(bif (decide (m9_3 = 3)) then
 callK (vr 74 0 [.ptr 0 0 0, .t (.str ⟨#[97]⟩)] (Z2 N383 L384 B388)) fun V421 B422 =>
 asT V421 fun X423 =>
 asI .i64 X423 fun X424 =>
 consB 0 B422 fun K425 B426 =>
 asVar K425 fun L427 =>
 consV L427 fun V428 L429 =>
 asT V428 fun X430 =>
 asL 3 X430 fun N431 L432 =>
 consV L429 fun V433 L434 =>
 asT V433 fun X435 =>
 asB X435 fun B436 =>
 endV L434 <|
 endB B426 <|
 Z0 X16 X36 X376 X424 X32 N431 L432 B436
else
(bif (decide (m9_3 = 4)) then
 callK (vr 54 0 [.ptr 0 0 0, .t (.int .i64 2)] (Z2 N383 L384 B388)) fun V437 B438 =>
 asT V437 fun X439 =>
 asA X439 fun L440 =>
 consT L440 fun V441 L442 =>
 asI .i64 V441 fun X443 =>
 consT L442 fun V444 L445 =>
 asS V444 fun S446 =>
 consT L445 fun V447 L448 =>
 asI .i64 V447 fun X449 =>
 endT L448 <|
 consB 0 B438 fun K450 B451 =>
 asVar K450 fun L452 =>
 consV L452 fun V453 L454 =>
 asT V453 fun X455 =>
 asL 3 X455 fun N456 L457 =>
 consV L454 fun V458 L459 =>
 asT V458 fun X460 =>
 asB X460 fun B461 =>
 endV L459 <|
 endB B451 <|
 Z0 X16 X36 X376 X449 X32 N456 L457 B461
else
(bif (decide (m9_3 = 5)) then
 callK (vr 75 0 [.ptr 0 0 0] (Z2 N383 L384 B388)) fun V462 B463 =>
 asT V462 fun X464 =>
 asI .i64 X464 fun X465 =>
 consB 0 B463 fun K466 B467 =>
 asVar K466 fun L468 =>
 consV L468 fun V469 L470 =>
 asT V469 fun X471 =>
 asL 3 X471 fun N472 L473 =>
 consV L470 fun V474 L475 =>
 asT V474 fun X476 =>
 asB X476 fun B477 =>
 endV L475 <|
 endB B467 <|
 Z0 X16 X36 X376 X28 X465 N472 L473 B477
else
 Z0 X16 X36 X376 X28 X32 N383 L384 B388)))))
else
(bif (decide (m9_2 = 5)) then
 callK (vr 75 0 [.ptr 0 0 0] (Z2 N43 L44 B48)) fun V478 B479 =>
 asT V478 fun X480 =>
 asI .i64 X480 fun X481 =>
 consB 0 B479 fun K482 B483 =>
 asVar K482 fun L484 =>
 consV L484 fun V485 L486 =>
 asT V485 fun X487 =>
 asL 3 X487 fun N488 L489 =>
 consV L486 fun V490 L491 =>
 asT V490 fun X492 =>
 asB X492 fun B493 =>
 endV L491 <|
 endB B483 <|
(bif (decide (m9_3 = 1)) then
 callK (vr 74 0 [.ptr 0 0 0, .t (.str ⟨#[114]⟩)] (Z2 N488 L489 B493)) fun V494 B495 =>
 asT V494 fun X496 =>
 asI .i64 X496 fun X497 =>
 consB 0 B495 fun K498 B499 =>
 asVar K498 fun L500 =>
 consV L500 fun V501 L502 =>
 asT V501 fun X503 =>
 asL 3 X503 fun N504 L505 =>
 consV L502 fun V506 L507 =>
 asT V506 fun X508 =>
 asB X508 fun B509 =>
 endV L507 <|
 endB B499 <|
 Z0 X16 X36 X24 X497 X481 N504 L505 B509
else
(bif (decide (m9_3 = 2)) then
 callK (vr 74 0 [.ptr 0 0 0, .t (.str ⟨#[114]⟩)] (Z2 N488 L489 B493)) fun V510 B511 =>
 asT V510 fun X512 =>
 asI .i64 X512 fun X513 =>
 consB 0 B511 fun K514 B515 =>
 asVar K514 fun L516 =>
 consV L516 fun V517 L518 =>
 asT V517 fun X519 =>
 asL 3 X519 fun N520 L521 =>
 consV L518 fun V522 L523 =>
 asT V522 fun X524 =>
 asB X524 fun B525 =>
 endV L523 <|
 endB B515 <|
 Z0 X16 X36 X24 X513 X481 N520 L521 B525
else
(bif (decide (m9_3 = 3)) then
 callK (vr 74 0 [.ptr 0 0 0, .t (.str ⟨#[97]⟩)] (Z2 N488 L489 B493)) fun V526 B527 =>
 asT V526 fun X528 =>
 asI .i64 X528 fun X529 =>
 consB 0 B527 fun K530 B531 =>
 asVar K530 fun L532 =>
 consV L532 fun V533 L534 =>
 asT V533 fun X535 =>
 asL 3 X535 fun N536 L537 =>
 consV L534 fun V538 L539 =>
 asT V538 fun X540 =>
 asB X540 fun B541 =>
 endV L539 <|
 endB B531 <|
 Z0 X16 X36 X24 X529 X481 N536 L537 B541
else
(bif (decide (m9_3 = 4)) then
 callK (vr 54 0 [.ptr 0 0 0, .t (.int .i64 2)] (Z2 N488 L489 B493)) fun V542 B543 =>
 asT V542 fun X544 =>
 asA X544 fun L545 =>
 consT L545 fun V546 L547 =>
 asI .i64 V546 fun X548 =>
 consT L547 fun V549 L550 =>
 asS V549 fun S551 =>
 consT L550 fun V552 L553 =>
 asI .i64 V552 fun X554 =>
 endT L553 <|
 consB 0 B543 fun K555 B556 =>
 asVar K555 fun L557 =>
 consV L557 fun V558 L559 =>
 asT V558 fun X560 =>
 asL 3 X560 fun N561 L562 =>
 consV L559 fun V563 L564 =>
 asT V563 fun X565 =>
 asB X565 fun B566 =>
 endV L564 <|
 endB B556 <|
 Z0 X16 X36 X24 X554 X481 N561 L562 B566
else
(bif (decide (m9_3 = 5)) then
 callK (vr 75 0 [.ptr 0 0 0] (Z2 N488 L489 B493)) fun V567 B568 =>
 asT V567 fun X569 =>
 asI .i64 X569 fun X570 =>
 consB 0 B568 fun K571 B572 =>
 asVar K571 fun L573 =>
 consV L573 fun V574 L575 =>
 asT V574 fun X576 =>
 asL 3 X576 fun N577 L578 =>
 consV L575 fun V579 L580 =>
 asT V579 fun X581 =>
 asB X581 fun B582 =>
 endV L580 <|
 endB B572 <|
 Z0 X16 X36 X24 X28 X570 N577 L578 B582
else
 Z0 X16 X36 X24 X28 X481 N488 L489 B493)))))
else
(bif (decide (m9_3 = 1)) then
 callK (vr 74 0 [.ptr 0 0 0, .t (.str ⟨#[114]⟩)] (Z2 N43 L44 B48)) fun V583 B584 =>
 asT V583 fun X585 =>
 asI .i64 X585 fun X586 =>
 consB 0 B584 fun K587 B588 =>
 asVar K587 fun L589 =>
 consV L589 fun V590 L591 =>
 asT V590 fun X592 =>
 asL 3 X592 fun N593 L594 =>
 consV L591 fun V595 L596 =>
 asT V595 fun X597 =>
 asB X597 fun B598 =>
 endV L596 <|
 endB B588 <|
 Z0 X16 X36 X24 X586 X32 N593 L594 B598
else
(bif (decide (m9_3 = 2)) then
 callK (vr 74 0 [.ptr 0 0 0, .t (.str ⟨#[114]⟩)] (Z2 N43 L44 B48)) fun V599 B600 =>
 asT V599 fun X601 =>
 asI .i64 X601 fun X602 =>
 consB 0 B600 fun K603 B604 =>
 asVar K603 fun L605 =>
 consV L605 fun V606 L607 =>
 asT V606 fun X608 =>
 asL 3 X608 fun N609 L610 =>
 consV L607 fun V611 L612 =>
 asT V611 fun X613 =>
 asB X613 fun B614 =>
 endV L612 <|
 endB B604 <|
 Z0 X16 X36 X24 X602 X32 N609 L610 B614
else
(bif (decide (m9_3 = 3)) then
 callK (vr 74 0 [.ptr 0 0 0, .t (.str ⟨#[97]⟩)] (Z2 N43 L44 B48)) fun V615 B616 =>
 asT V615 fun X617 =>
 asI .i64 X617 fun X618 =>
 consB 0 B616 fun K619 B620 =>
 asVar K619 fun L621 =>
 consV L621 fun V622 L623 =>
 asT V622 fun X624 =>
 asL 3 X624 fun N625 L626 =>
 consV L623 fun V627 L628 =>
 asT V627 fun X629 =>
 asB X629 fun B630 =>
 endV L628 <|
 endB B620 <|
 Z0 X16 X36 X24 X618 X32 N625 L626 B630
else
(bif (decide (m9_3 = 4)) then
 callK (vr 54 0 [.ptr 0 0 0, .t (.int .i64 2)] (Z2 N43 L44 B48)) fun V631 B632 =>
 asT V631 fun X633 =>
 asA X633 fun L634 =>
 consT L634 fun V635 L636 =>
 asI .i64 V635 fun X637 =>
 consT L636 fun V638 L639 =>
 asS V638 fun S640 =>
 consT L639 fun V641 L642 =>
 asI .i64 V641 fun X643 =>
 endT L642 <|
 consB 0 B632 fun K644 B645 =>
 asVar K644 fun L646 =>
 consV L646 fun V647 L648 =>
 asT V647 fun X649 =>
 asL 3 X649 fun N650 L651 =>
 consV L648 fun V652 L653 =>
 asT V652 fun X654 =>
 asB X654 fun B655 =>
 endV L653 <|
 endB B645 <|
 Z0 X16 X36 X24 X643 X32 N650 L651 B655
else
(bif (decide (m9_3 = 5)) then
 callK (vr 75 0 [.ptr 0 0 0] (Z2 N43 L44 B48)) fun V656 B657 =>
 asT V656 fun X658 =>
 asI .i64 X658 fun X659 =>
 consB 0 B657 fun K660 B661 =>
 asVar K660 fun L662 =>
 consV L662 fun V663 L664 =>
 asT V663 fun X665 =>
 asL 3 X665 fun N666 L667 =>
 consV L664 fun V668 L669 =>
 asT V668 fun X670 =>
 asB X670 fun B671 =>
 endV L669 <|
 endB B661 <|
 Z0 X16 X36 X24 X28 X659 N666 L667 B671
else
 Z0 X16 X36 X24 X28 X32 N43 L44 B48))))))))))
else
(bif (decide (m9_1 = 2)) then
 callK (vr 74 0 [.ptr 0 0 0, .t (.str ⟨#[114]⟩)] (Z2 m0_0z m0_0 m0_1)) fun V672 B673 =>
 asT V672 fun X674 =>
 asI .i64 X674 fun X675 =>
 consB 0 B673 fun K676 B677 =>
 asVar K676 fun L678 =>
 consV L678 fun V679 L680 =>
 asT V679 fun X681 =>
 asL 3 X681 fun N682 L683 =>
 consV L680 fun V684 L685 =>
 asT V684 fun X686 =>
 asB X686 fun B687 =>
 endV L685 <|
 endB B677 <|
(bif (decide (m9_2 = 1)) then
 callK (vr 74 0 [.ptr 0 0 0, .t (.str ⟨#[114]⟩)] (Z2 N682 L683 B687)) fun V688 B689 =>
 asT V688 fun X690 =>
 asI .i64 X690 fun X691 =>
 consB 0 B689 fun K692 B693 =>
 asVar K692 fun L694 =>
 consV L694 fun V695 L696 =>
 asT V695 fun X697 =>
 asL 3 X697 fun N698 L699 =>
 consV L696 fun V700 L701 =>
 asT V700 fun X702 =>
 asB X702 fun B703 =>
 endV L701 <|
 endB B693 <|
(bif (decide (m9_3 = 1)) then
 callK (vr 74 0 [.ptr 0 0 0, .t (.str ⟨#[114]⟩)] (Z2 N698 L699 B703)) fun V704 B705 =>
 asT V704 fun X706 =>
 asI .i64 X706 fun X707 =>
 consB 0 B705 fun K708 B709 =>
 asVar K708 fun L710 =>
 consV L710 fun V711 L712 =>
 asT V711 fun X713 =>
 asL 3 X713 fun N714 L715 =>
 consV L712 fun V716 L717 =>
 asT V716 fun X718 =>
 asB X718 fun B719 =>
 endV L717 <|
 endB B709 <|
 Z0 X16 X675 X691 X707 X32 N714 L715 B719
else
(bif (decide (m9_3 = 2)) then
 callK (vr 74 0 [.ptr 0 0 0, .t (.str ⟨#[114]⟩)] (Z2 N698 L699 B703)) fun V720 B721 =>
 asT V720 fun X722 =>
 asI .i64 X722 fun X723 =>
 consB 0 B721 fun K724 B725 =>
 asVar K724 fun L726 =>
 consV L726 fun V727 L728 =>
 asT V727 fun X729 =>
 asL 3 X729 fun N730 L731 =>
 consV L728 fun V732 L733 =>
 asT V732 fun X734 =>
 asB X734 fun B735 =>
 endV L733 <|
 endB B725 <|
 Z0 X16 X675 X691 X723 X32 N730 L731 B735
else
(bif (decide (m9_3 = 3)) then
 callK (vr 74 0 [.ptr 0 0 0, .t (.str ⟨#[97]⟩)] (Z2 N698 L699 B703)) fun V736 B737 =>
 asT V736 fun X738 =>
 asI .i64 X738 fun X739 =>
 consB 0 B737 fun K740 B741 =>
 asVar K740 fun L742 =>
 consV L742 fun V743 L744 =>
 asT V743 fun X745 =>
 asL 3 X745 fun N746 L747 =>
 consV L744 fun V748 L749 =>
 asT V748 fun X750 =>
 asB X750 fun B751 =>
 endV L749 <|
 endB B741 <|
 Z0 X16 X675 X691 X739 X32 N746 L747 B751
else
(bif (decide (m9_3 = 4)) then
 callK (vr 54 0 [.ptr 0 0 0, .t (.int .i64 2)] (Z2 N698 L699 B703)) fun V752 B753 =>
 asT V752 fun X754 =>
 asA X754 fun L755 =>
 consT L755 fun V756 L757 =>
 asI .i64 V756 fun X758 =>
 consT L757 fun V759 L760 =>
 asS V759 fun S761 =>
 consT L760 fun V762 L763 =>
 asI .i64 V762 fun X764 =>
 endT L763 <|
 consB 0 B753 fun K765 B766 =>
 asVar K765 fun L767 =>
 consV L767 fun V768 L769 =>
 asT V768 fun X770 =>
 asL 3 X770 fun N771 L772 =>
 consV L769 fun V773 L774 =>
 asT V773 fun X775 =>
 asB X775 fun B776 =>
 endV L774 <|
 endB B766 <|
 Z0 X16 X675 X691 X764 X32 N771 L772 B776
else
(bif (decide (m9_3 = 5)) then
 callK (vr 75 0 [.ptr 0 0 0] (Z2 N698 L699 B703)) fun V777 B778 =>
 asT V777 fun X779 =>
 asI .i64 X779 fun X780 =>
 consB 0 B778 fun K781 B782 =>
 asVar K781 fun L783 =>
 consV L783 fun V784 L785 =>
 asT V784 fun X786 =>
 asL 3 X786 fun N787 L788 =>
 consV L785 fun V789 L790 =>
 asT V789 fun X791 =>
 asB X791 fun B792 =>
 endV L790 <|
 endB B782 <|
 Z0 X16 X675 X691 X28 X780 N787 L788 B792
else
 Z0 X16 X675 X691 X28 X32 N698 L699 B703)))))
else
(bif (decide (m9_2 = 2)) then
 callK (vr 74 0 [.ptr 0 0 0, .t (.str ⟨#[114]⟩)] (Z2 N682 L683 B687)) fun V793 B794 =>
 asT V793 fun X795 =>
 asI .i64 X795 fun X796 =>
 consB 0 B794 fun K797 B798 =>
 asVar K797 fun L799 =>
 consV L799 fun V800 L801 =>
 asT V800 fun X802 =>
 asL 3 X802 fun N803 L804 =>
 consV L801 fun V805 L806 =>
 asT V805 fun X807 =>
 asB X807 fun B808 =>
 endV L806 <|
 endB B798 <|
(bif (decide (m9_3 = 1)) then
 callK (vr 74 0 [.ptr 0 0 0, .t (.str ⟨#[114]⟩)] (Z2 N803 L804 B808)) fun V809 B810 =>
 asT V809 fun X811 =>
 asI .i64 X811 fun X812 =>
 consB 0 B810 fun K813 B814 =>
 asVar K813 fun L815 =>
 consV L815 fun V816 L817 =>
 asT V816 fun X818 =>
 asL 3 X818 fun N819 L820 =>
 consV L817 fun V821 L822 =>
 asT V821 fun X823 =>
 asB X823 fun B824 =>
 endV L822 <|
 endB B814 <|
 Z0 X16 X675 X796 X812 X32 N819 L820 B824
else
(bif (decide (m9_3 = 2)) then
 callK (vr 74 0 [.ptr 0 0 0, .t (.str ⟨#[114]⟩)] (Z2 N803 L804 B808)) fun V825 B826 =>
 asT V825 fun X827 =>
 asI .i64 X827 fun X828 =>
 consB 0 B826 fun K829 B830 =>
 asVar K829 fun L831 =>
 consV L831 fun V832 L833 =>
 asT V832 fun X834 =>
 asL 3 X834 fun N835 L836 =>
 consV L833 fun V837 L838 =>
 asT V837 fun X839 =>
 asB X839 fun B840 =>
 endV L838 <|
 endB B830 <|
 Z0 X16 X675 X796 X828 X32 N835 L836 B840
else
(bif (decide (m9_3 = 3)) then
 callK (vr 74 0 [.ptr 0 0 0, .t (.str ⟨#[97]⟩)] (Z2 N803 L804 B808)) fun V841 B842 =>
 asT V841 fun X843 =>
 asI .i64 X843 fun X844 =>
 consB 0 B842 fun K845 B846 =>
 asVar K845 fun L847 =>
 consV L847 fun V848 L849 =>
 asT V848 fun X850 =>
 asL 3 X850 fun N851 L852 =>
 consV L849 fun V853 L854 =>
 asT V853 fun X855 =>
 asB X855 fun B856 =>
 endV L854 <|
 endB B846 <|
 Z0 X16 X675 X796 X844 X32 N851 L852 B856
else
(bif (decide (m9_3 = 4)) then
 callK (vr 54 0 [.ptr 0 0 0, .t (.int .i64 2)] (Z2 N803 L804 B808)) fun V857 B858 =>
 asT V857 fun X859 =>
 asA X859 fun L860 =>
 consT L860 fun V861 L862 =>
 asI .i64 V861 fun X863 =>
 consT L862 fun V864 L865 =>
 asS V864 fun S866 =>
 consT L865 fun V867 L868 =>
 asI .i64 V867 fun X869 =>
 endT L868 <|
 consB 0 B858 fun K870 B871 =>
 asVar K870 fun L872 =>
 consV L872 fun V873 L874 =>
 asT V873 fun X875 =>
 asL 3 X875 fun N876 L877 =>
 consV L874 fun V878 L879 =>
 asT V878 fun X880 =>
 asB X880 fun B881 =>
 endV L879 <|
 endB B871 <|
 Z0 X16 X675 X796 X869 X32 N876 L877 B881
else
(bif (decide (m9_3 = 5)) then
 callK (vr 75 0 [.ptr 0 0 0] (Z2 N803 L804 B808)) fun V882 B883 =>
 asT V882 fun X884 =>
 asI .i64 X884 fun X885 =>
 consB 0 B883 fun K886 B887 =>
 asVar K886 fun L888 =>
 consV L888 fun V889 L890 =>
 asT V889 fun X891 =>
 asL 3 X891 fun N892 L893 =>
 consV L890 fun V894 L895 =>
 asT V894 fun X896 =>
 asB X896 fun B897 =>
 endV L895 <|
 endB B887 <|
 Z0 X16 X675 X796 X28 X885 N892 L893 B897
else
 Z0 X16 X675 X796 X28 X32 N803 L804 B808)))))
else
(bif (decide (m9_2 = 3)) then
 callK (vr 74 0 [.ptr 0 0 0, .t (.str ⟨#[97]⟩)] (Z2 N682 L683 B687)) fun V898 B899 =>
 asT V898 fun X900 =>
 asI .i64 X900 fun X901 =>
 consB 0 B899 fun K902 B903 =>
 asVar K902 fun L904 =>
 consV L904 fun V905 L906 =>
 asT V905 fun X907 =>
 asL 3 X907 fun N908 L909 =>
 consV L906 fun V910 L911 =>
 asT V910 fun X912 =>
 asB X912 fun B913 =>
 endV L911 <|
 endB B903 <|
(bif (decide (m9_3 = 1)) then
 callK (vr 74 0 [.ptr 0 0 0, .t (.str ⟨#[114]⟩)] (Z2 N908 L909 B913)) fun V914 B915 =>
 asT V914 fun X916 =>
 asI .i64 X916 fun X917 =>
 consB 0 B915 fun K918 B919 =>
 asVar K918 fun L920 =>
 consV L920 fun V921 L922 =>
 asT V921 fun X923 =>
 asL 3 X923 fun N924 L925 =>
 consV L922 fun V926 L927 =>
 asT V926 fun X928 =>
 asB X928 fun B929 =>
 endV L927 <|
 endB B919 <|
 Z0 X16 X675 X901 X917 X32 N924 L925 B929
else
(bif (decide (m9_3 = 2)) then
 callK (vr 74 0 [.ptr 0 0 0, .t (.str ⟨#[114]⟩)] (Z2 N908 L909 B913)) fun V930 B931 =>
 asT V930 fun X932 =>
 asI .i64 X932 fun X933 =>
 consB 0 B931 fun K934 B935 =>
 asVar K934 fun L936 =>
 consV L936 fun V937 L938 =>
 asT V937 fun X939 =>
 asL 3 X939 fun N940 L941 =>
 consV L938 fun V942 L943 =>
 asT V942 fun X944 =>
 asB X944 fun B945 =>
 endV L943 <|
 endB B935 <|
 Z0 X16 X675 X901 X933 X32 N940 L941 B945
else
(bif (decide (m9_3 = 3)) then
 callK (vr 74 0 [.ptr 0 0 0, .t (.str ⟨#[97]⟩)] (Z2 N908 L909 B913)) fun V946 B947 =>
 asT V946 fun X948 =>
 asI .i64 X948 fun X949 =>
 consB 0 B947 fun K950 B951 =>
 asVar K950 fun L952 =>
 consV L952 fun V953 L954 =>
 asT V953 fun X955 =>
 asL 3 X955 fun N956 L957 =>
 consV L954 fun V958 L959 =>
 asT V958 fun X960 =>
 asB X960 fun B961 =>
 endV L959 <|
 endB B951 <|
 Z0 X16 X675 X901 X949 X32 N956 L957 B961
else
(bif (decide (m9_3 = 4)) then
 callK (vr 54 0 [.ptr 0 0 0, .t (.int .i64 2)] (Z2 N908 L909 B913)) fun V962 B963 =>
 asT V962 fun X964 =>
 asA X964 fun L965 =>
 consT L965 fun V966 L967 =>
 asI .i64 V966 fun X968 =>
 consT L967 fun V969 L970 =>
 asS V969 fun S971 =>
 consT L970 fun V972 L973 =>
 asI .i64 V972 fun X974 =>
 endT L973 <|
 consB 0 B963 fun K975 B976 =>
 asVar K975 fun L977 =>
 consV L977 fun V978 L979 =>
 asT V978 fun X980 =>
 asL 3 X980 fun N981 L982 =>
 consV L979 fun V983 L984 =>
 asT V983 fun X985 =>
 asB X985 fun B986 =>
 endV L984 <|
 endB B976 <|
 Z0 X16 X675 X901 X974 X32 N981 L982 B986
else
(bif (decide (m9_3 = 5)) then
 callK (vr 75 0 [.ptr 0 0 0] (Z2 N908 L909 B913)) fun V987 B988 =>
 asT V987 fun X989 =>
 asI .i64 X989 fun X990 =>
 consB 0 B988 fun K991 B992 =>
 asVar K991 fun L993 =>
 consV L993 fun V994 L995 =>
 asT V994 fun X996 =>
 asL 3 X996 fun N997 L998 =>
 consV L995 fun V999 L1000 =>
 asT V999 fun X1001 =>
 asB X1001 fun B1002 =>
 endV L1000 <|
 endB B992 <|
 Z0 X16 X675 X901 X28 X990 N997 L998 B1002
else
 Z0 X16 X675 X901 X28 X32 N908 L909 B913)))))
else
(bif (decide (m9_2 = 4)) then
 callK (vr 54 0 [.ptr 0 0 0, .t (.int .i64 2)] (Z2 N682 L683 B687)) fun V1003 B1004 =>
 asT V1003 fun X1005 =>
 asA X1005 fun L1006 =>
 consT L1006 fun V1007 L1008 =>
 asI .i64 V1007 fun X1009 =>
 consT L1008 fun V1010 L1011 =>
 asS V1010 fun S1012 =>
 consT L1011 fun V1013 L1014 =>
 asI .i64 V1013 fun X1015 =>
 endT L1014 <|
 consB 0 B1004 fun K1016 B1017 =>
 asVar K1016 fun L1018 =>
 consV L1018 fun V1019 L1020 =>
 asT V1019 fun X1021 =>
 asL 3 X1021 fun N1022 L1023 =>
 consV L1020 fun V1024 L1025 =>
 asT V1024 fun X1026 =>
 asB X1026 fun B1027 =>
 endV L1025 <|
 endB B1017 <|
(bif (decide (m9_3 = 1)) then
 callK (vr 74 0 [.ptr 0 0 0, .t (.str ⟨#[114]⟩)] (Z2 N1022 L1023 B1027)) fun V1028 B1029 =>
 asT V1028 fun X1030 =>
 asI .i64 X1030 fun X1031 =>
 consB 0 B1029 fun K1032 B1033 =>
 asVar K1032 fun L1034 =>
 consV L1034 fun V1035 L1036 =>
 asT V1035 fun X1037 =>
 asL 3 X1037 fun N1038 L1039 =>
 consV L1036 fun V1040 L1041 =>
 asT V1040 fun X1042 =>
 asB X1042 fun B1043 =>
 endV L1041 <|
 endB B1033 <|
 Z0 X16 X675 X1015 X1031 X32 N1038 L1039 B1043
else
(bif (decide (m9_3 = 2)) then
 callK (vr 74 0 [.ptr 0 0 0, .t (.str ⟨#[114]⟩)] (Z2 N1022 L1023 B1027)) fun V1044 B1045 =>
 asT V1044 fun X1046 =>
 asI .i64 X1046 fun X1047 =>
 consB 0 B1045 fun K1048 B1049 =>
 asVar K1048 fun L1050 =>
 consV L1050 fun V1051 L1052 =>
 asT V1051 fun X1053 =>
 asL 3 X1053 fun N1054 L1055 =>
 consV L1052 fun V1056 L1057 =>
 asT V1056 fun X1058 =>
 asB X1058 fun B1059 =>
 endV L1057 <|
 endB B1049 <|
 Z0 X16 X675 X1015 X1047 X32 N1054 L1055 B1059
else
(bif (decide (m9_3 = 3)) then
 callK (vr 74 0 [.ptr 0 0 0, .t (.str ⟨#[97]⟩)] (Z2 N1022 L1023 B1027)) fun V1060 B1061 =>
 asT V1060 fun X1062 =>
 asI .i64 X1062 fun X1063 =>
 consB 0 B1061 fun K1064 B1065 =>
 asVar K1064 fun L1066 =>
 consV L1066 fun V1067 L1068 =>
 asT V1067 fun X1069 =>
 asL 3 X1069 fun N1070 L1071 =>
 consV L1068 fun V1072 L1073 =>
 asT V1072 fun X1074 =>
 asB X1074 fun B1075 =>
 endV L1073 <|
 endB B1065 <|
 Z0 X16 X675 X1015 X1063 X32 N1070 L1071 B1075
else
(bif (decide (m9_3 = 4)) then
 callK (vr 54 0 [.ptr 0 0 0, .t (.int .i64 2)] (Z2 N1022 L1023 B1027)) fun V1076 B1077 =>
 asT V1076 fun X1078 =>
 asA X1078 fun L1079 =>
 consT L1079 fun V1080 L1081 =>
 asI .i64 V1080 fun X1082 =>
 consT L1081 fun V1083 L1084 =>
 asS V1083 fun S1085 =>
 consT L1084 fun V1086 L1087 =>
 asI .i64 V1086 fun X1088 =>
 endT L1087 <|
 consB 0 B1077 fun K1089 B1090 =>
 asVar K1089 fun L1091 =>
 consV L1091 fun V1092 L1093 =>
 asT V1092 fun X1094 =>
 asL 3 X1094 fun N1095 L1096 =>
 consV L1093 fun V1097 L1098 =>
 asT V1097 fun X1099 =>
 asB X1099 fun B1100 =>
 endV L1098 <|
 endB B1090 <|
 Z0 X16 X675 X1015 X1088 X32 N1095 L1096 B1100
else
(bif (decide (m9_3 = 5)) then
 callK (vr 75 0 [.ptr 0 0 0] (Z2 N1022 L1023 B1027)) fun V1101 B1102 =>
 asT V1101 fun X1103 =>
 asI .i64 X1103 fun X1104 =>
 consB 0 B1102 fun K1105 B1106 =>
 asVar K1105 fun L1107 =>
 consV L1107 fun V1108 L1109 =>
 asT V1108 fun X1110 =>
 asL 3 X1110 fun N1111 L1112 =>
 consV L1109 fun V1113 L1114 =>
 asT V1113 fun X1115 =>
 asB X1115 fun B1116 =>
 endV L1114 <|
 endB B1106 <|
 Z0 X16 X675 X1015 X28 X1104 N1111 L1112 B1116
else
 Z0 X16 X675 X1015 X28 X32 N1022 L1023 B1027)))))
else
(bif (decide (m9_2 = 5)) then
 callK (vr 75 0 [.ptr 0 0 0] (Z2 N682 L683 B687)) fun V1117 B1118 =>
 asT V1117 fun X1119 =>
 asI .i64 X1119 fun X1120 =>
 consB 0 B1118 fun K1121 B1122 =>
 asVar K1121 fun L1123 =>
 consV L1123 fun V1124 L1125 =>
 asT V1124 fun X1126 =>
 asL 3 X1126 fun N1127 L1128 =>
 consV L1125 fun V1129 L1130 =>
 asT V1129 fun X1131 =>
 asB X1131 fun B1132 =>
 endV L1130 <|
 endB B1122 <|
(bif (decide (m9_3 = 1)) then
 callK (vr 74 0 [.ptr 0 0 0, .t (.str ⟨#[114]⟩)] (Z2 N1127 L1128 B1132)) fun V1133 B1134 =>
 asT V1133 fun X1135 =>
 asI .i64 X1135 fun X1136 =>
 consB 0 B1134 fun K1137 B1138 =>
 asVar K1137 fun L1139 =>
 consV L1139 fun V1140 L1141 =>
 asT V1140 fun X1142 =>
 asL 3 X1142 fun N1143 L1144 =>
 consV L1141 fun V1145 L1146 =>
 asT V1145 fun X1147 =>
 asB X1147 fun B1148 =>
 endV L1146 <|
 endB B1138 <|
 Z0 X16 X675 X24 X1136 X1120 N1143 L1144 B1148
else
(bif (decide (m9_3 = 2)) then
 callK (vr 74 0 [.ptr 0 0 0, .t (.str ⟨#[114]⟩)] (Z2 N1127 L1128 B1132)) fun V1149 B1150 =>
 asT V1149 fun X1151 =>
 asI .i64 X1151 fun X1152 =>
 consB 0 B1150 fun K1153 B1154 =>
 asVar K1153 fun L1155 =>
 consV L1155 fun V1156 L1157 =>
 asT V1156 fun X1158 =>
 asL 3 X1158 fun N1159 L1160 =>
 consV L1157 fun V1161 L1162 =>
 asT V1161 fun X1163 =>
 asB X1163 fun B1164 =>
 endV L1162 <|
 endB B1154 <|
 Z0 X16 X675 X24 X1152 X1120 N1159 L1160 B1164
else
(bif (decide (m9_3 = 3)) then
 callK (vr 74 0 [.ptr 0 0 0, .t (.str ⟨#[97]⟩)] (Z2 N1127 L1128 B1132)) fun V1165 B1166 =>
 asT V1165 fun X1167 =>
 asI .i64 X1167 fun X1168 =>
 consB 0 B1166 fun K1169 B1170 =>
 asVar K1169 fun L1171 =>
 consV L1171 fun V1172 L1173 =>
 asT V1172 fun X1174 =>
 asL 3 X1174 fun N1175 L1176 =>
 consV L1173 fun V1177 L1178 =>
 asT V1177 fun X1179 =>
 asB X1179 fun B1180 =>
 endV L1178 <|
 endB B1170 <|
 Z0 X16 X675 X24 X1168 X1120 N1175 L1176 B1180
else
(bif (decide (m9_3 = 4)) then
 callK (vr 54 0 [.ptr 0 0 0, .t (.int .i64 2)] (Z2 N1127 L1128 B1132)) fun V1181 B1182 =>
 asT V1181 fun X1183 =>
 asA X1183 fun L1184 =>
 consT L1184 fun V1185 L1186 =>
 asI .i64 V1185 fun X1187 =>
 consT L1186 fun V1188 L1189 =>
 asS V1188 fun S1190 =>
 consT L1189 fun V1191 L1192 =>
 asI .i64 V1191 fun X1193 =>
 endT L1192 <|
 consB 0 B1182 fun K1194 B1195 =>
 asVar K1194 fun L1196 =>
 consV L1196 fun V1197 L1198 =>
 asT V1197 fun X1199 =>
 asL 3 X1199 fun N1200 L1201 =>
 consV L1198 fun V1202 L1203 =>
 asT V1202 fun X1204 =>
 asB X1204 fun B1205 =>
 endV L1203 <|
 endB B1195 <|
 Z0 X16 X675 X24 X1193 X1120 N1200 L1201 B1205
else
(bif (decide (m9_3 = 5)) then
 callK (vr 75 0 [.ptr 0 0 0] (Z2 N1127 L1128 B1132)) fun V1206 B1207 =>
 asT V1206 fun X1208 =>
 asI .i64 X1208 fun X1209 =>
 consB 0 B1207 fun K1210 B1211 =>
 asVar K1210 fun L1212 =>
 consV L1212 fun V1213 L1214 =>
 asT V1213 fun X1215 =>
 asL 3 X1215 fun N1216 L1217 =>
 consV L1214 fun V1218 L1219 =>
 asT V1218 fun X1220 =>
 asB X1220 fun B1221 =>
 endV L1219 <|
 endB B1211 <|
 Z0 X16 X675 X24 X28 X1209 N1216 L1217 B1221
else
 Z0 X16 X675 X24 X28 X1120 N1127 L1128 B1132)))))
else
(bif (decide (m9_3 = 1)) then
 callK (vr 74 0 [.ptr 0 0 0, .t (.str ⟨#[114]⟩)] (Z2 N682 L683 B687)) fun V1222 B1223 =>
 asT V1222 fun X1224 =>
 asI .i64 X1224 fun X1225 =>
 consB 0 B1223 fun K1226 B1227 =>
 asVar K1226 fun L1228 =>
 consV L1228 fun V1229 L1230 =>
 asT V1229 fun X1231 =>
 asL 3 X1231 fun N1232 L1233 =>
 consV L1230 fun V1234 L1235 =>
 asT V1234 fun X1236 =>
 asB X1236 fun B1237 =>
 endV L1235 <|
 endB B1227 <|
 Z0 X16 X675 X24 X1225 X32 N1232 L1233 B1237
else
(bif (decide (m9_3 = 2)) then
 callK (vr 74 0 [.ptr 0 0 0, .t (.str ⟨#[114]⟩)] (Z2 N682 L683 B687)) fun V1238 B1239 =>
 asT V1238 fun X1240 =>
 asI .i64 X1240 fun X1241 =>
 consB 0 B1239 fun K1242 B1243 =>
 asVar K1242 fun L1244 =>
 consV L1244 fun V1245 L1246 =>
 asT V1245 fun X1247 =>
 asL 3 X1247 fun N1248 L1249 =>
 consV L1246 fun V1250 L1251 =>
 asT V1250 fun X1252 =>
 asB X1252 fun B1253 =>
 endV L1251 <|
 endB B1243 <|
 Z0 X16 X675 X24 X1241 X32 N1248 L1249 B1253
else
(bif (decide (m9_3 = 3)) then
 callK (vr 74 0 [.ptr 0 0 0, .t (.str ⟨#[97]⟩)] (Z2 N682 L683 B687)) fun V1254 B1255 =>
 asT V1254 fun X1256 =>
 asI .i64 X1256 fun X1257 =>
 consB 0 B1255 fun K1258 B1259 =>
 asVar K1258 fun L1260 =>
 consV L1260 fun V1261 L1262 =>
 asT V1261 fun X1263 =>
 asL 3 X1263 fun N1264 L1265 =>
 consV L1262 fun V1266 L1267 =>
 asT V1266 fun X1268 =>
 asB X1268 fun B1269 =>
 endV L1267 <|
 endB B1259 <|
 Z0 X16 X675 X24 X1257 X32 N1264 L1265 B1269
else
(bif (decide (m9_3 = 4)) then
 callK (vr 54 0 [.ptr 0 0 0, .t (.int .i64 2)] (Z2 N682 L683 B687)) fun V1270 B1271 =>
 asT V1270 fun X1272 =>
 asA X1272 fun L1273 =>
 consT L1273 fun V1274 L1275 =>
 asI .i64 V1274 fun X1276 =>
 consT L1275 fun V1277 L1278 =>
 asS V1277 fun S1279 =>
 consT L1278 fun V1280 L1281 =>
 asI .i64 V1280 fun X1282 =>
 endT L1281 <|
 consB 0 B1271 fun K1283 B1284 =>
 asVar K1283 fun L1285 =>
 consV L1285 fun V1286 L1287 =>
 asT V1286 fun X1288 =>
 asL 3 X1288 fun N1289 L1290 =>
 consV L1287 fun V1291 L1292 =>
 asT V1291 fun X1293 =>
 asB X1293 fun B1294 =>
 endV L1292 <|
 endB B1284 <|
 Z0 X16 X675 X24 X1282 X32 N1289 L1290 B1294
else
(bif (decide (m9_3 = 5)) then
 callK (vr 75 0 [.ptr 0 0 0] (Z2 N682 L683 B687)) fun V1295 B1296 =>
 asT V1295 fun X1297 =>
 asI .i64 X1297 fun X1298 =>
 consB 0 B1296 fun K1299 B1300 =>
 asVar K1299 fun L1301 =>
 consV L1301 fun V1302 L1303 =>
 asT V1302 fun X1304 =>
 asL 3 X1304 fun N1305 L1306 =>
 consV L1303 fun V1307 L1308 =>
 asT V1307 fun X1309 =>
 asB X1309 fun B1310 =>
 endV L1308 <|
 endB B1300 <|
 Z0 X16 X675 X24 X28 X1298 N1305 L1306 B1310
else
 Z0 X16 X675 X24 X28 X32 N682 L683 B687))))))))))
else
(bif (decide (m9_1 = 3)) then
 callK (vr 74 0 [.ptr 0 0 0, .t (.str ⟨#[97]⟩)] (Z2 m0_0z m0_0 m0_1)) fun V1311 B1312 =>
 asT V1311 fun X1313 =>
 asI .i64 X1313 fun X1314 =>
 consB 0 B1312 fun K1315 B1316 =>
 asVar K1315 fun L1317 =>
 consV L1317 fun V1318 L1319 =>
 asT V1318 fun X1320 =>
 asL 3 X1320 fun N1321 L1322 =>
 consV L1319 fun V1323 L1324 =>
 asT V1323 fun X1325 =>
 asB X1325 fun B1326 =>
 endV L1324 <|
 endB B1316 <|
(bif (decide (m9_2 = 1)) then
 callK (vr 74 0 [.ptr 0 0 0, .t (.str ⟨#[114]⟩)] (Z2 N1321 L1322 B1326)) fun V1327 B1328 =>
 asT V1327 fun X1329 =>
 asI .i64 X1329 fun X1330 =>
 consB 0 B1328 fun K1331 B1332 =>
 asVar K1331 fun L1333 =>
 consV L1333 fun V1334 L1335 =>
 asT V1334 fun X1336 =>
 asL 3 X1336 fun N1337 L1338 =>
 consV L1335 fun V1339 L1340 =>
 asT V1339 fun X1341 =>
 asB X1341 fun B1342 =>
 endV L1340 <|
 endB B1332 <|
(bif (decide (m9_3 = 1)) then
 callK (vr 74 0 [.ptr 0 0 0, .t (.str ⟨#[114]⟩)] (Z2 N1337 L1338 B1342)) fun V1343 B1344 =>
 asT V1343 fun X1345 =>
 asI .i64 X1345 fun X1346 =>
 consB 0 B1344 fun K1347 B1348 =>
 asVar K1347 fun L1349 =>
 consV L1349 fun V1350 L1351 =>
 asT V1350 fun X1352 =>
 asL 3 X1352 fun N1353 L1354 =>
 consV L1351 fun V1355 L1356 =>
 asT V1355 fun X1357 =>
 asB X1357 fun B1358 =>
 endV L1356 <|
 endB B1348 <|
 Z0 X16 X1314 X1330 X1346 X32 N1353 L1354 B1358
else
(bif (decide (m9_3 = 2)) then
 callK (vr 74 0 [.ptr 0 0 0, .t (.str ⟨#[114]⟩)] (Z2 N1337 L1338 B1342)) fun V1359 B1360 =>
 asT V1359 fun X1361 =>
 asI .i64 X1361 fun X1362 =>
 consB 0 B1360 fun K1363 B1364 =>
 asVar K1363 fun L1365 =>
 consV L1365 fun V1366 L1367 =>
 asT V1366 fun X1368 =>
 asL 3 X1368 fun N1369 L1370 =>
 consV L1367 fun V1371 L1372 =>
 asT V1371 fun X1373 =>
 asB X1373 fun B1374 =>
 endV L1372 <|
 endB B1364 <|
 Z0 X16 X1314 X1330 X1362 X32 N1369 L1370 B1374
else
(bif (decide (m9_3 = 3)) then
 callK (vr 74 0 [.ptr 0 0 0, .t (.str ⟨#[97]⟩)] (Z2 N1337 L1338 B1342)) fun V1375 B1376 =>
 asT V1375 fun X1377 =>
 asI .i64 X1377 fun X1378 =>
 consB 0 B1376 fun K1379 B1380 =>
 asVar K1379 fun L1381 =>
 consV L1381 fun V1382 L1383 =>
 asT V1382 fun X1384 =>
 asL 3 X1384 fun N1385 L1386 =>
 consV L1383 fun V1387 L1388 =>
 asT V1387 fun X1389 =>
 asB X1389 fun B1390 =>
 endV L1388 <|
 endB B1380 <|
 Z0 X16 X1314 X1330 X1378 X32 N1385 L1386 B1390
else
(bif (decide (m9_3 = 4)) then
 callK (vr 54 0 [.ptr 0 0 0, .t (.int .i64 2)] (Z2 N1337 L1338 B1342)) fun V1391 B1392 =>
 asT V1391 fun X1393 =>
 asA X1393 fun L1394 =>
 consT L1394 fun V1395 L1396 =>
 asI .i64 V1395 fun X1397 =>
 consT L1396 fun V1398 L1399 =>
 asS V1398 fun S1400 =>
 consT L1399 fun V1401 L1402 =>
 asI .i64 V1401 fun X1403 =>
 endT L1402 <|
 consB 0 B1392 fun K1404 B1405 =>
 asVar K1404 fun L1406 =>
 consV L1406 fun V1407 L1408 =>
 asT V1407 fun X1409 =>
 asL 3 X1409 fun N1410 L1411 =>
 consV L1408 fun V1412 L1413 =>
 asT V1412 fun X1414 =>
 asB X1414 fun B1415 =>
 endV L1413 <|
 endB B1405 <|
 Z0 X16 X1314 X1330 X1403 X32 N1410 L1411 B1415
else
(bif (decide (m9_3 = 5)) then
 callK (vr 75 0 [.ptr 0 0 0] (Z2 N1337 L1338 B1342)) fun V1416 B1417 =>
 asT V1416 fun X1418 =>
 asI .i64 X1418 fun X1419 =>
 consB 0 B1417 fun K1420 B1421 =>
 asVar K1420 fun L1422 =>
 consV L1422 fun V1423 L1424 =>
 asT V1423 fun X1425 =>
 asL 3 X1425 fun N1426 L1427 =>
 consV L1424 fun V1428 L1429 =>
 asT V1428 fun X1430 =>
 asB X1430 fun B1431 =>
 endV L1429 <|
 endB B1421 <|
 Z0 X16 X1314 X1330 X28 X1419 N1426 L1427 B1431
else
 Z0 X16 X1314 X1330 X28 X32 N1337 L1338 B1342)))))
else
(bif (decide (m9_2 = 2)) then
 callK (vr 74 0 [.ptr 0 0 0, .t (.str ⟨#[114]⟩)] (Z2 N1321 L1322 B1326)) fun V1432 B1433 =>
 asT V1432 fun X1434 =>
 asI .i64 X1434 fun X1435 =>
 consB 0 B1433 fun K1436 B1437 =>
 asVar K1436 fun L1438 =>
 consV L1438 fun V1439 L1440 =>
 asT V1439 fun X1441 =>
 asL 3 X1441 fun N1442 L1443 =>
 consV L1440 fun V1444 L1445 =>
 asT V1444 fun X1446 =>
 asB X1446 fun B1447 =>
 endV L1445 <|
 endB B1437 <|
(bif (decide (m9_3 = 1)) then
 callK (vr 74 0 [.ptr 0 0 0, .t (.str ⟨#[114]⟩)] (Z2 N1442 L1443 B1447)) fun V1448 B1449 =>
 asT V1448 fun X1450 =>
 asI .i64 X1450 fun X1451 =>
 consB 0 B1449 fun K1452 B1453 =>
 asVar K1452 fun L1454 =>
 consV L1454 fun V1455 L1456 =>
 asT V1455 fun X1457 =>
 asL 3 X1457 fun N1458 L1459 =>
 consV L1456 fun V1460 L1461 =>
 asT V1460 fun X1462 =>
 asB X1462 fun B1463 =>
 endV L1461 <|
 endB B1453 <|
 Z0 X16 X1314 X1435 X1451 X32 N1458 L1459 B1463
else
(bif (decide (m9_3 = 2)) then
 callK (vr 74 0 [.ptr 0 0 0, .t (.str ⟨#[114]⟩)] (Z2 N1442 L1443 B1447)) fun V1464 B1465 =>
 asT V1464 fun X1466 =>
 asI .i64 X1466 fun X1467 =>
 consB 0 B1465 fun K1468 B1469 =>
 asVar K1468 fun L1470 =>
 consV L1470 fun V1471 L1472 =>
 asT V1471 fun X1473 =>
 asL 3 X1473 fun N1474 L1475 =>
 consV L1472 fun V1476 L1477 =>
 asT V1476 fun X1478 =>
 asB X1478 fun B1479 =>
 endV L1477 <|
 endB B1469 <|
 Z0 X16 X1314 X1435 X1467 X32 N1474 L1475 B1479
else
(bif (decide (m9_3 = 3)) then
 callK (vr 74 0 [.ptr 0 0 0, .t (.str ⟨#[97]⟩)] (Z2 N1442 L1443 B1447)) fun V1480 B1481 =>
 asT V1480 fun X1482 =>
 asI .i64 X1482 fun X1483 =>
 consB 0 B1481 fun K1484 B1485 =>
 asVar K1484 fun L1486 =>
 consV L1486 fun V1487 L1488 =>
 asT V1487 fun X1489 =>
 asL 3 X1489 fun N1490 L1491 =>
 consV L1488 fun V1492 L1493 =>
 asT V1492 fun X1494 =>
 asB X1494 fun B1495 =>
 endV L1493 <|
 endB B1485 <|
 Z0 X16 X1314 X1435 X1483 X32 N1490 L1491 B1495
else
(bif (decide (m9_3 = 4)) then
 callK (vr 54 0 [.ptr 0 0 0, .t (.int .i64 2)] (Z2 N1442 L1443 B1447)) fun V1496 B1497 =>
 asT V1496 fun X1498 =>
 asA X1498 fun L1499 =>
 consT L1499 fun V1500 L1501 =>
 asI .i64 V1500 fun X1502 =>
 consT L1501 fun V1503 L1504 =>
 asS V1503 fun S1505 =>
 consT L1504 fun V1506 L1507 =>
 asI .i64 V1506 fun X1508 =>
 endT L1507 <|
 consB 0 B1497 fun K1509 B1510 =>
 asVar K1509 fun L1511 =>
 consV L1511 fun V1512 L1513 =>
 asT V1512 fun X1514 =>
 asL 3 X1514 fun N1515 L1516 =>
 consV L1513 fun V1517 L1518 =>
 asT V1517 fun X1519 =>
 asB X1519 fun B1520 =>
 endV L1518 <|
 endB B1510 <|
 Z0 X16 X1314 X1435 X1508 X32 N1515 L1516 B1520
else
(bif (decide (m9_3 = 5)) then
 callK (vr 75 0 [.ptr 0 0 0] (Z2 N1442 L1443 B1447)) fun V1521 B1522 =>
 asT V1521 fun X1523 =>
 asI .i64 X1523 fun X1524 =>
 consB 0 B1522 fun K1525 B1526 =>
 asVar K1525 fun L1527 =>
 consV L1527 fun V1528 L1529 =>
 asT V1528 fun X1530 =>
 asL 3 X1530 fun N1531 L1532 =>
 consV L1529 fun V1533 L1534 =>
 asT V1533 fun X1535 =>
 asB X1535 fun B1536 =>
 endV L1534 <|
 endB B1526 <|
 Z0 X16 X1314 X1435 X28 X1524 N1531 L1532 B1536
else
 Z0 X16 X1314 X1435 X28 X32 N1442 L1443 B1447)))))
else
(bif (decide (m9_2 = 3)) then
 callK (vr 74 0 [.ptr 0 0 0, .t (.str ⟨#[97]⟩)] (Z2 N1321 L1322 B1326)) fun V1537 B1538 =>
 asT V1537 fun X1539 =>
 asI .i64 X1539 fun X1540 =>
 consB 0 B1538 fun K1541 B1542 =>
 asVar K1541 fun L1543 =>
 consV L1543 fun V1544 L1545 =>
 asT V1544 fun X1546 =>
 asL 3 X1546 fun N1547 L1548 =>
 consV L1545 fun V1549 L1550 =>
 asT V1549 fun X1551 =>
 asB X1551 fun B1552 =>
 endV L1550 <|
 endB B1542 <|
(bif (decide (m9_3 = 1)) then
 callK (vr 74 0 [.ptr 0 0 0, .t (.str ⟨#[114]⟩)] (Z2 N1547 L1548 B1552)) fun V1553 B1554 =>
 asT V1553 fun X1555 =>
 asI .i64 X1555 fun X1556 =>
 consB 0 B1554 fun K1557 B1558 =>
 asVar K1557 fun L1559 =>
 consV L1559 fun V1560 L1561 =>
 asT V1560 fun X1562 =>
 asL 3 X1562 fun N1563 L1564 =>
 consV L1561 fun V1565 L1566 =>
 asT V1565 fun X1567 =>
 asB X1567 fun B1568 =>
 endV L1566 <|
 endB B1558 <|
 Z0 X16 X1314 X1540 X1556 X32 N1563 L1564 B1568
else
(bif (decide (m9_3 = 2)) then
 callK (vr 74 0 [.ptr 0 0 0, .t (.str ⟨#[114]⟩)] (Z2 N1547 L1548 B1552)) fun V1569 B1570 =>
 asT V1569 fun X1571 =>
 asI .i64 X1571 fun X1572 =>
 consB 0 B1570 fun K1573 B1574 =>
 asVar K1573 fun L1575 =>
 consV L1575 fun V1576 L1577 =>
 asT V1576 fun X1578 =>
 asL 3 X1578 fun N1579 L1580 =>
 consV L1577 fun V1581 L1582 =>
 asT V1581 fun X1583 =>
 asB X1583 fun B1584 =>
 endV L1582 <|
 endB B1574 <|
 Z0 X16 X1314 X1540 X1572 X32 N1579 L1580 B1584
else
(bif (decide (m9_3 = 3)) then
 callK (vr 74 0 [.ptr 0 0 0, .t (.str ⟨#[97]⟩)] (Z2 N1547 L1548 B1552)) fun V1585 B1586 =>
 asT V1585 fun X1587 =>
 asI .i64 X1587 fun X1588 =>
 consB 0 B1586 fun K1589 B1590 =>
 asVar K1589 fun L1591 =>
 consV L1591 fun V1592 L1593 =>
 asT V1592 fun X1594 =>
 asL 3 X1594 fun N1595 L1596 =>
 consV L1593 fun V1597 L1598 =>
 asT V1597 fun X1599 =>
 asB X1599 fun B1600 =>
 endV L1598 <|
 endB B1590 <|
 Z0 X16 X1314 X1540 X1588 X32 N1595 L1596 B1600
else
(bif (decide (m9_3 = 4)) then
 callK (vr 54 0 [.ptr 0 0 0, .t (.int .i64 2)] (Z2 N1547 L1548 B1552)) fun V1601 B1602 =>
 asT V1601 fun X1603 =>
 asA X1603 fun L1604 =>
 consT L1604 fun V1605 L1606 =>
 asI .i64 V1605 fun X1607 =>
 consT L1606 fun V1608 L1609 =>
 asS V1608 fun S1610 =>
 consT L1609 fun V1611 L1612 =>
 asI .i64 V1611 fun X1613 =>
 endT L1612 <|
 consB 0 B1602 fun K1614 B1615 =>
 asVar K1614 fun L1616 =>
 consV L1616 fun V1617 L1618 =>
 asT V1617 fun X1619 =>
 asL 3 X1619 fun N1620 L1621 =>
 consV L1618 fun V1622 L1623 =>
 asT V1622 fun X1624 =>
 asB X1624 fun B1625 =>
 endV L1623 <|
 endB B1615 <|
 Z0 X16 X1314 X1540 X1613 X32 N1620 L1621 B1625
else
(bif (decide (m9_3 = 5)) then
 callK (vr 75 0 [.ptr 0 0 0] (Z2 N1547 L1548 B1552)) fun V1626 B1627 =>
 asT V1626 fun X1628 =>
 asI .i64 X1628 fun X1629 =>
 consB 0 B1627 fun K1630 B1631 =>
 asVar K1630 fun L1632 =>
 consV L1632 fun V1633 L1634 =>
 asT V1633 fun X1635 =>
 asL 3 X1635 fun N1636 L1637 =>
 consV L1634 fun V1638 L1639 =>
 asT V1638 fun X1640 =>
 asB X1640 fun B1641 =>
 endV L1639 <|
 endB B1631 <|
 Z0 X16 X1314 X1540 X28 X1629 N1636 L1637 B1641
else
 Z0 X16 X1314 X1540 X28 X32 N1547 L1548 B1552)))))
else
(bif (decide (m9_2 = 4)) then
 callK (vr 54 0 [.ptr 0 0 0, .t (.int .i64 2)] (Z2 N1321 L1322 B1326)) fun V1642 B1643 =>
 asT V1642 fun X1644 =>
 asA X1644 fun L1645 =>
 consT L1645 fun V1646 L1647 =>
 asI .i64 V1646 fun X1648 =>
 consT L1647 fun V1649 L1650 =>
 asS V1649 fun S1651 =>
 consT L1650 fun V1652 L1653 =>
 asI .i64 V1652 fun X1654 =>
 endT L1653 <|
 consB 0 B1643 fun K1655 B1656 =>
 asVar K1655 fun L1657 =>
 consV L1657 fun V1658 L1659 =>
 asT V1658 fun X1660 =>
 asL 3 X1660 fun N1661 L1662 =>
 consV L1659 fun V1663 L1664 =>
 asT V1663 fun X1665 =>
 asB X1665 fun B1666 =>
 endV L1664 <|
 endB B1656 <|
(bif (decide (m9_3 = 1)) then
 callK (vr 74 0 [.ptr 0 0 0, .t (.str ⟨#[114]⟩)] (Z2 N1661 L1662 B1666)) fun V1667 B1668 =>
 asT V1667 fun X1669 =>
 asI .i64 X1669 fun X1670 =>
 consB 0 B1668 fun K1671 B1672 =>
 asVar K1671 fun L1673 =>
 consV L1673 fun V1674 L1675 =>
 asT V1674 fun X1676 =>
 asL 3 X1676 fun N1677 L1678 =>
 consV L1675 fun V1679 L1680 =>
 asT V1679 fun X1681 =>
 asB X1681 fun B1682 =>
 endV L1680 <|
 endB B1672 <|
 Z0 X16 X1314 X1654 X1670 X32 N1677 L1678 B1682
else
(bif (decide (m9_3 = 2)) then
 callK (vr 74 0 [.ptr 0 0 0, .t (.str ⟨#[114]⟩)] (Z2 N1661 L1662 B1666)) fun V1683 B1684 =>
 asT V1683 fun X1685 =>
 asI .i64 X1685 fun X1686 =>
 consB 0 B1684 fun K1687 B1688 =>
 asVar K1687 fun L1689 =>
 consV L1689 fun V1690 L1691 =>
 asT V1690 fun X1692 =>
 asL 3 X1692 fun N1693 L1694 =>
 consV L1691 fun V1695 L1696 =>
 asT V1695 fun X1697 =>
 asB X1697 fun B1698 =>
 endV L1696 <|
 endB B1688 <|
 Z0 X16 X1314 X1654 X1686 X32 N1693 L1694 B1698
else
(bif (decide (m9_3 = 3)) then
 callK (vr 74 0 [.ptr 0 0 0, .t (.str ⟨#[97]⟩)] (Z2 N1661 L1662 B1666)) fun V1699 B1700 =>
 asT V1699 fun X1701 =>
 asI .i64 X1701 fun X1702 =>
 consB 0 B1700 fun K1703 B1704 =>
 asVar K1703 fun L1705 =>
 consV L1705 fun V1706 L1707 =>
 asT V1706 fun X1708 =>
 asL 3 X1708 fun N1709 L1710 =>
 consV L1707 fun V1711 L1712 =>
 asT V1711 fun X1713 =>
 asB X1713 fun B1714 =>
 endV L1712 <|
 endB B1704 <|
 Z0 X16 X1314 X1654 X1702 X32 N1709 L1710 B1714
else
(bif (decide (m9_3 = 4)) then
 callK (vr 54 0 [.ptr 0 0 0, .t (.int .i64 2)] (Z2 N1661 L1662 B1666)) fun V1715 B1716 =>
 asT V1715 fun X1717 =>
 asA X1717 fun L1718 =>
 consT L1718 fun V1719 L1720 =>
 asI .i64 V1719 fun X1721 =>
 consT L1720 fun V1722 L1723 =>
 asS V1722 fun S1724 =>
 consT L1723 fun V1725 L1726 =>
 asI .i64 V1725 fun X1727 =>
 endT L1726 <|
 consB 0 B1716 fun K1728 B1729 =>
 asVar K1728 fun L1730 =>
 consV L1730 fun V1731 L1732 =>
 asT V1731 fun X1733 =>
 asL 3 X1733 fun N1734 L1735 =>
 consV L1732 fun V1736 L1737 =>
 asT V1736 fun X1738 =>
 asB X1738 fun B1739 =>
 endV L1737 <|
 endB B1729 <|
 Z0 X16 X1314 X1654 X1727 X32 N1734 L1735 B1739
else
(bif (decide (m9_3 = 5)) then
 callK (vr 75 0 [.ptr 0 0 0] (Z2 N1661 L1662 B1666)) fun V1740 B1741 =>
 asT V1740 fun X1742 =>
 asI .i64 X1742 fun X1743 =>
 consB 0 B1741 fun K1744 B1745 =>
 asVar K1744 fun L1746 =>
 consV L1746 fun V1747 L1748 =>
 asT V1747 fun X1749 =>
 asL 3 X1749 fun N1750 L1751 =>
 consV L1748 fun V1752 L1753 =>
 asT V1752 fun X1754 =>
 asB X1754 fun B1755 =>
 endV L1753 <|
 endB B1745 <|
 Z0 X16 X1314 X1654 X28 X1743 N1750 L1751 B1755
else
 Z0 X16 X1314 X1654 X28 X32 N1661 L1662 B1666)))))
else
(bif (decide (m9_2 = 5)) then
 callK (vr 75 0 [.ptr 0 0 0] (Z2 N1321 L1322 B1326)) fun V1756 B1757 =>
 asT V1756 fun X1758 =>
 asI .i64 X1758 fun X1759 =>
 consB 0 B1757 fun K1760 B1761 =>
 asVar K1760 fun L1762 =>
 consV L1762 fun V1763 L1764 =>
 asT V1763 fun X1765 =>
 asL 3 X1765 fun N1766 L1767 =>
 consV L1764 fun V1768 L1769 =>
 asT V1768 fun X1770 =>
 asB X1770 fun B1771 =>
 endV L1769 <|
 endB B1761 <|
(bif (decide (m9_3 = 1)) then
 callK (vr 74 0 [.ptr 0 0 0, .t (.str ⟨#[114]⟩)] (Z2 N1766 L1767 B1771)) fun V1772 B1773 =>
 asT V1772 fun X1774 =>
 asI .i64 X1774 fun X1775 =>
 consB 0 B1773 fun K1776 B1777 =>
 asVar K1776 fun L1778 =>
 consV L1778 fun V1779 L1780 =>
 asT V1779 fun X1781 =>
 asL 3 X1781 fun N1782 L1783 =>
 consV L1780 fun V1784 L1785 =>
 asT V1784 fun X1786 =>
 asB X1786 fun B1787 =>
 endV L1785 <|
 endB B1777 <|
 Z0 X16 X1314 X24 X1775 X1759 N1782 L1783 B1787
else
(bif (decide (m9_3 = 2)) then
 callK (vr 74 0 [.ptr 0 0 0, .t (.str ⟨#[114]⟩)] (Z2 N1766 L1767 B1771)) fun V1788 B1789 =>
 asT V1788 fun X1790 =>
 asI .i64 X1790 fun X1791 =>
 consB 0 B1789 fun K1792 B1793 =>
 asVar K1792 fun L1794 =>
 consV L1794 fun V1795 L1796 =>
 asT V1795 fun X1797 =>
 asL 3 X1797 fun N1798 L1799 =>
 consV L1796 fun V1800 L1801 =>
 asT V1800 fun X1802 =>
 asB X1802 fun B1803 =>
 endV L1801 <|
 endB B1793 <|
 Z0 X16 X1314 X24 X1791 X1759 N1798 L1799 B1803
else
(bif (decide (m9_3 = 3)) then
 callK (vr 74 0 [.ptr 0 0 0, .t (.str ⟨#[97]⟩)] (Z2 N1766 L1767 B1771)) fun V1804 B1805 =>
 asT V1804 fun X1806 =>
 asI .i64 X1806 fun X1807 =>
 consB 0 B1805 fun K1808 B1809 =>
 asVar K1808 fun L1810 =>
 consV L1810 fun V1811 L1812 =>
 asT V1811 fun X1813 =>
 asL 3 X1813 fun N1814 L1815 =>
 consV L1812 fun V1816 L1817 =>
 asT V1816 fun X1818 =>
 asB X1818 fun B1819 =>
 endV L1817 <|
 endB B1809 <|
 Z0 X16 X1314 X24 X1807 X1759 N1814 L1815 B1819
else
(bif (decide (m9_3 = 4)) then
 callK (vr 54 0 [.ptr 0 0 0, .t (.int .i64 2)] (Z2 N1766 L1767 B1771)) fun V1820 B1821 =>
 asT V1820 fun X1822 =>
 asA X1822 fun L1823 =>
 consT L1823 fun V1824 L1825 =>
 asI .i64 V1824 fun X1826 =>
 consT L1825 fun V1827 L1828 =>
 asS V1827 fun S1829 =>
 consT L1828 fun V1830 L1831 =>
 asI .i64 V1830 fun X1832 =>
 endT L1831 <|
 consB 0 B1821 fun K1833 B1834 =>
 asVar K1833 fun L1835 =>
 consV L1835 fun V1836 L1837 =>
 asT V1836 fun X1838 =>
 asL 3 X1838 fun N1839 L1840 =>
 consV L1837 fun V1841 L1842 =>
 asT V1841 fun X1843 =>
 asB X1843 fun B1844 =>
 endV L1842 <|
 endB B1834 <|
 Z0 X16 X1314 X24 X1832 X1759 N1839 L1840 B1844
else
(bif (decide (m9_3 = 5)) then
 callK (vr 75 0 [.ptr 0 0 0] (Z2 N1766 L1767 B1771)) fun V1845 B1846 =>
 asT V1845 fun X1847 =>
 asI .i64 X1847 fun X1848 =>
 consB 0 B1846 fun K1849 B1850 =>
 asVar K1849 fun L1851 =>
 consV L1851 fun V1852 L1853 =>
 asT V1852 fun X1854 =>
 asL 3 X1854 fun N1855 L1856 =>
 consV L1853 fun V1857 L1858 =>
 asT V1857 fun X1859 =>
 asB X1859 fun B1860 =>
 endV L1858 <|
 endB B1850 <|
 Z0 X16 X1314 X24 X28 X1848 N1855 L1856 B1860
else
 Z0 X16 X1314 X24 X28 X1759 N1766 L1767 B1771)))))
else
(bif (decide (m9_3 = 1)) then
 callK (vr 74 0 [.ptr 0 0 0, .t (.str ⟨#[114]⟩)] (Z2 N1321 L1322 B1326)) fun V1861 B1862 =>
 asT V1861 fun X1863 =>
 asI .i64 X1863 fun X1864 =>
 consB 0 B1862 fun K1865 B1866 =>
 asVar K1865 fun L1867 =>
 consV L1867 fun V1868 L1869 =>
 asT V1868 fun X1870 =>
 asL 3 X1870 fun N1871 L1872 =>
 consV L1869 fun V1873 L1874 =>
 asT V1873 fun X1875 =>
 asB X1875 fun B1876 =>
 endV L1874 <|
 endB B1866 <|
 Z0 X16 X1314 X24 X1864 X32 N1871 L1872 B1876
else
(bif (decide (m9_3 = 2)) then
 callK (vr 74 0 [.ptr 0 0 0, .t (.str ⟨#[114]⟩)] (Z2 N1321 L1322 B1326)) fun V1877 B1878 =>
 asT V1877 fun X1879 =>
 asI .i64 X1879 fun X1880 =>
 consB 0 B1878 fun K1881 B1882 =>
 asVar K1881 fun L1883 =>
 consV L1883 fun V1884 L1885 =>
 asT V1884 fun X1886 =>
 asL 3 X1886 fun N1887 L1888 =>
 consV L1885 fun V1889 L1890 =>
 asT V1889 fun X1891 =>
 asB X1891 fun B1892 =>
 endV L1890 <|
 endB B1882 <|
 Z0 X16 X1314 X24 X1880 X32 N1887 L1888 B1892
else
(bif (decide (m9_3 = 3)) then
 callK (vr 74 0 [.ptr 0 0 0, .t (.str ⟨#[97]⟩)] (Z2 N1321 L1322 B1326)) fun V1893 B1894 =>
 asT V1893 fun X1895 =>
 asI .i64 X1895 fun X1896 =>
 consB 0 B1894 fun K1897 B1898 =>
 asVar K1897 fun L1899 =>
 consV L1899 fun V1900 L1901 =>
 asT V1900 fun X1902 =>
 asL 3 X1902 fun N1903 L1904 =>
 consV L1901 fun V1905 L1906 =>
 asT V1905 fun X1907 =>
 asB X1907 fun B1908 =>
 endV L1906 <|
 endB B1898 <|
 Z0 X16 X1314 X24 X1896 X32 N1903 L1904 B1908
else
(bif (decide (m9_3 = 4)) then
 callK (vr 54 0 [.ptr 0 0 0, .t (.int .i64 2)] (Z2 N1321 L1322 B1326)) fun V1909 B1910 =>
 asT V1909 fun X1911 =>
 asA X1911 fun L1912 =>
 consT L1912 fun V1913 L1914 =>
 asI .i64 V1913 fun X1915 =>
 consT L1914 fun V1916 L1917 =>
 asS V1916 fun S1918 =>
 consT L1917 fun V1919 L1920 =>
 asI .i64 V1919 fun X1921 =>
 endT L1920 <|
 consB 0 B1910 fun K1922 B1923 =>
 asVar K1922 fun L1924 =>
 consV L1924 fun V1925 L1926 =>
 asT V1925 fun X1927 =>
 asL 3 X1927 fun N1928 L1929 =>
 consV L1926 fun V1930 L1931 =>
 asT V1930 fun X1932 =>
 asB X1932 fun B1933 =>
 endV L1931 <|
 endB B1923 <|
 Z0 X16 X1314 X24 X1921 X32 N1928 L1929 B1933
else
(bif (decide (m9_3 = 5)) then
 callK (vr 75 0 [.ptr 0 0 0] (Z2 N1321 L1322 B1326)) fun V1934 B1935 =>
 asT V1934 fun X1936 =>
 asI .i64 X1936 fun X1937 =>
 consB 0 B1935 fun K1938 B1939 =>
 asVar K1938 fun L1940 =>
 consV L1940 fun V1941 L1942 =>
 asT V1941 fun X1943 =>
 asL 3 X1943 fun N1944 L1945 =>
 consV L1942 fun V1946 L1947 =>
 asT V1946 fun X1948 =>
 asB X1948 fun B1949 =>
 endV L1947 <|
 endB B1939 <|
 Z0 X16 X1314 X24 X28 X1937 N1944 L1945 B1949
else
 Z0 X16 X1314 X24 X28 X32 N1321 L1322 B1326))))))))))
else
(bif (decide (m9_1 = 4)) then
 callK (vr 54 0 [.ptr 0 0 0, .t (.int .i64 2)] (Z2 m0_0z m0_0 m0_1)) fun V1950 B1951 =>
 asT V1950 fun X1952 =>
 asA X1952 fun L1953 =>
 consT L1953 fun V1954 L1955 =>
 asI .i64 V1954 fun X1956 =>
 consT L1955 fun V1957 L1958 =>
 asS V1957 fun S1959 =>
 consT L1958 fun V1960 L1961 =>
 asI .i64 V1960 fun X1962 =>
 endT L1961 <|
 consB 0 B1951 fun K1963 B1964 =>
 asVar K1963 fun L1965 =>
 consV L1965 fun V1966 L1967 =>
 asT V1966 fun X1968 =>
 asL 3 X1968 fun N1969 L1970 =>
 consV L1967 fun V1971 L1972 =>
 asT V1971 fun X1973 =>
 asB X1973 fun B1974 =>
 endV L1972 <|
 endB B1964 <|
(bif (decide (m9_2 = 1)) then
 callK (vr 74 0 [.ptr 0 0 0, .t (.str ⟨#[114]⟩)] (Z2 N1969 L1970 B1974)) fun V1975 B1976 =>
 asT V1975 fun X1977 =>
 asI .i64 X1977 fun X1978 =>
 consB 0 B1976 fun K1979 B1980 =>
 asVar K1979 fun L1981 =>
 consV L1981 fun V1982 L1983 =>
 asT V1982 fun X1984 =>
 asL 3 X1984 fun N1985 L1986 =>
 consV L1983 fun V1987 L1988 =>
 asT V1987 fun X1989 =>
 asB X1989 fun B1990 =>
 endV L1988 <|
 endB B1980 <|
(bif (decide (m9_3 = 1)) then
 callK (vr 74 0 [.ptr 0 0 0, .t (.str ⟨#[114]⟩)] (Z2 N1985 L1986 B1990)) fun V1991 B1992 =>
 asT V1991 fun X1993 =>
 asI .i64 X1993 fun X1994 =>
 consB 0 B1992 fun K1995 B1996 =>
 asVar K1995 fun L1997 =>
 consV L1997 fun V1998 L1999 =>
 asT V1998 fun X2000 =>
 asL 3 X2000 fun N2001 L2002 =>
 consV L1999 fun V2003 L2004 =>
 asT V2003 fun X2005 =>
 asB X2005 fun B2006 =>
 endV L2004 <|
 endB B1996 <|
 Z0 X16 X1962 X1978 X1994 X32 N2001 L2002 B2006
else
(bif (decide (m9_3 = 2)) then
 callK (vr 74 0 [.ptr 0 0 0, .t (.str ⟨#[114]⟩)] (Z2 N1985 L1986 B1990)) fun V2007 B2008 =>
 asT V2007 fun X2009 =>
 asI .i64 X2009 fun X2010 =>
 consB 0 B2008 fun K2011 B2012 =>
 asVar K2011 fun L2013 =>
 consV L2013 fun V2014 L2015 =>
 asT V2014 fun X2016 =>
 asL 3 X2016 fun N2017 L2018 =>
 consV L2015 fun V2019 L2020 =>
 asT V2019 fun X2021 =>
 asB X2021 fun B2022 =>
 endV L2020 <|
 endB B2012 <|
 Z0 X16 X1962 X1978 X2010 X32 N2017 L2018 B2022
else
(bif (decide (m9_3 = 3)) then
 callK (vr 74 0 [.ptr 0 0 0, .t (.str ⟨#[97]⟩)] (Z2 N1985 L1986 B1990)) fun V2023 B2024 =>
 asT V2023 fun X2025 =>
 asI .i64 X2025 fun X2026 =>
 consB 0 B2024 fun K2027 B2028 =>
 asVar K2027 fun L2029 =>
 consV L2029 fun V2030 L2031 =>
 asT V2030 fun X2032 =>
 asL 3 X2032 fun N2033 L2034 =>
 consV L2031 fun V2035 L2036 =>
 asT V2035 fun X2037 =>
 asB X2037 fun B2038 =>
 endV L2036 <|
 endB B2028 <|
 Z0 X16 X1962 X1978 X2026 X32 N2033 L2034 B2038
else
(bif (decide (m9_3 = 4)) then
 callK (vr 54 0 [.ptr 0 0 0, .t (.int .i64 2)] (Z2 N1985 L1986 B1990)) fun V2039 B2040 =>
 asT V2039 fun X2041 =>
 asA X2041 fun L2042 =>
 consT L2042 fun V2043 L2044 =>
 asI .i64 V2043 fun X2045 =>
 consT L2044 fun V2046 L2047 =>
 asS V2046 fun S2048 =>
 consT L2047 fun V2049 L2050 =>
 asI .i64 V2049 fun X2051 =>
 endT L2050 <|
 consB 0 B2040 fun K2052 B2053 =>
 asVar K2052 fun L2054 =>
 consV L2054 fun V2055 L2056 =>
 asT V2055 fun X2057 =>
 asL 3 X2057 fun N2058 L2059 =>
 consV L2056 fun V2060 L2061 =>
 asT V2060 fun X2062 =>
 asB X2062 fun B2063 =>
 endV L2061 <|
 endB B2053 <|
 Z0 X16 X1962 X1978 X2051 X32 N2058 L2059 B2063
else
(bif (decide (m9_3 = 5)) then
 callK (vr 75 0 [.ptr 0 0 0] (Z2 N1985 L1986 B1990)) fun V2064 B2065 =>
 asT V2064 fun X2066 =>
 asI .i64 X2066 fun X2067 =>
 consB 0 B2065 fun K2068 B2069 =>
 asVar K2068 fun L2070 =>
 consV L2070 fun V2071 L2072 =>
 asT V2071 fun X2073 =>
 asL 3 X2073 fun N2074 L2075 =>
 consV L2072 fun V2076 L2077 =>
 asT V2076 fun X2078 =>
 asB X2078 fun B2079 =>
 endV L2077 <|
 endB B2069 <|
 Z0 X16 X1962 X1978 X28 X2067 N2074 L2075 B2079
else
 Z0 X16 X1962 X1978 X28 X32 N1985 L1986 B1990)))))
else
(bif (decide (m9_2 = 2)) then
 callK (vr 74 0 [.ptr 0 0 0, .t (.str ⟨#[114]⟩)] (Z2 N1969 L1970 B1974)) fun V2080 B2081 =>
 asT V2080 fun X2082 =>
 asI .i64 X2082 fun X2083 =>
 consB 0 B2081 fun K2084 B2085 =>
 asVar K2084 fun L2086 =>
 consV L2086 fun V2087 L2088 =>
 asT V2087 fun X2089 =>
 asL 3 X2089 fun N2090 L2091 =>
 consV L2088 fun V2092 L2093 =>
 asT V2092 fun X2094 =>
 asB X2094 fun B2095 =>
 endV L2093 <|
 endB B2085 <|
(bif (decide (m9_3 = 1)) then
 callK (vr 74 0 [.ptr 0 0 0, .t (.str ⟨#[114]⟩)] (Z2 N2090 L2091 B2095)) fun V2096 B2097 =>
 asT V2096 fun X2098 =>
 asI .i64 X2098 fun X2099 =>
 consB 0 B2097 fun K2100 B2101 =>
 asVar K2100 fun L2102 =>
 consV L2102 fun V2103 L2104 =>
 asT V2103 fun X2105 =>
 asL 3 X2105 fun N2106 L2107 =>
 consV L2104 fun V2108 L2109 =>
 asT V2108 fun X2110 =>
 asB X2110 fun B2111 =>
 endV L2109 <|
 endB B2101 <|
 Z0 X16 X1962 X2083 X2099 X32 N2106 L2107 B2111
else
(bif (decide (m9_3 = 2)) then
 callK (vr 74 0 [.ptr 0 0 0, .t (.str ⟨#[114]⟩)] (Z2 N2090 L2091 B2095)) fun V2112 B2113 =>
 asT V2112 fun X2114 =>
 asI .i64 X2114 fun X2115 =>
 consB 0 B2113 fun K2116 B2117 =>
 asVar K2116 fun L2118 =>
 consV L2118 fun V2119 L2120 =>
 asT V2119 fun X2121 =>
 asL 3 X2121 fun N2122 L2123 =>
 consV L2120 fun V2124 L2125 =>
 asT V2124 fun X2126 =>
 asB X2126 fun B2127 =>
 endV L2125 <|
 endB B2117 <|
 Z0 X16 X1962 X2083 X2115 X32 N2122 L2123 B2127
else
(bif (decide (m9_3 = 3)) then
 callK (vr 74 0 [.ptr 0 0 0, .t (.str ⟨#[97]⟩)] (Z2 N2090 L2091 B2095)) fun V2128 B2129 =>
 asT V2128 fun X2130 =>
 asI .i64 X2130 fun X2131 =>
 consB 0 B2129 fun K2132 B2133 =>
 asVar K2132 fun L2134 =>
 consV L2134 fun V2135 L2136 =>
 asT V2135 fun X2137 =>
 asL 3 X2137 fun N2138 L2139 =>
 consV L2136 fun V2140 L2141 =>
 asT V2140 fun X2142 =>
 asB X2142 fun B2143 =>
 endV L2141 <|
 endB B2133 <|
 Z0 X16 X1962 X2083 X2131 X32 N2138 L2139 B2143
else
(bif (decide (m9_3 = 4)) then
 callK (vr 54 0 [.ptr 0 0 0, .t (.int .i64 2)] (Z2 N2090 L2091 B2095)) fun V2144 B2145 =>
 asT V2144 fun X2146 =>
 asA X2146 fun L2147 =>
 consT L2147 fun V2148 L2149 =>
 asI .i64 V2148 fun X2150 =>
 consT L2149 fun V2151 L2152 =>
 asS V2151 fun S2153 =>
 consT L2152 fun V2154 L2155 =>
 asI .i64 V2154 fun X2156 =>
 endT L2155 <|
 consB 0 B2145 fun K2157 B2158 =>
 asVar K2157 fun L2159 =>
 consV L2159 fun V2160 L2161 =>
 asT V2160 fun X2162 =>
 asL 3 X2162 fun N2163 L2164 =>
 consV L2161 fun V2165 L2166 =>
 asT V2165 fun X2167 =>
 asB X2167 fun B2168 =>
 endV L2166 <|
 endB B2158 <|
 Z0 X16 X1962 X2083 X2156 X32 N2163 L2164 B2168
else
(bif (decide (m9_3 = 5)) then
 callK (vr 75 0 [.ptr 0 0 0] (Z2 N2090 L2091 B2095)) fun V2169 B2170 =>
 asT V2169 fun X2171 =>
 asI .i64 X2171 fun X2172 =>
 consB 0 B2170 fun K2173 B2174 =>
 asVar K2173 fun L2175 =>
 consV L2175 fun V2176 L2177 =>
 asT V2176 fun X2178 =>
 asL 3 X2178 fun N2179 L2180 =>
 consV L2177 fun V2181 L2182 =>
 asT V2181 fun X2183 =>
 asB X2183 fun B2184 =>
 endV L2182 <|
 endB B2174 <|
 Z0 X16 X1962 X2083 X28 X2172 N2179 L2180 B2184
else
 Z0 X16 X1962 X2083 X28 X32 N2090 L2091 B2095)))))
else
(bif (decide (m9_2 = 3)) then
 callK (vr 74 0 [.ptr 0 0 0, .t (.str ⟨#[97]⟩)] (Z2 N1969 L1970 B1974)) fun V2185 B2186 =>
 asT V2185 fun X2187 =>
 asI .i64 X2187 fun X2188 =>
 consB 0 B2186 fun K2189 B2190 =>
 asVar K2189 fun L2191 =>
 consV L2191 fun V2192 L2193 =>
 asT V2192 fun X2194 =>
 asL 3 X2194 fun N2195 L2196 =>
 consV L2193 fun V2197 L2198 =>
 asT V2197 fun X2199 =>
 asB X2199 fun B2200 =>
 endV L2198 <|
 endB B2190 <|
(bif (decide (m9_3 = 1)) then
 callK (vr 74 0 [.ptr 0 0 0, .t (.str ⟨#[114]⟩)] (Z2 N2195 L2196 B2200)) fun V2201 B2202 =>
 asT V2201 fun X2203 =>
 asI .i64 X2203 fun X2204 =>
 consB 0 B2202 fun K2205 B2206 =>
 asVar K2205 fun L2207 =>
 consV L2207 fun V2208 L2209 =>
 asT V2208 fun X2210 =>
 asL 3 X2210 fun N2211 L2212 =>
 consV L2209 fun V2213 L2214 =>
 asT V2213 fun X2215 =>
 asB X2215 fun B2216 =>
 endV L2214 <|
 endB B2206 <|
 Z0 X16 X1962 X2188 X2204 X32 N2211 L2212 B2216
else
(bif (decide (m9_3 = 2)) then
 callK (vr 74 0 [.ptr 0 0 0, .t (.str ⟨#[114]⟩)] (Z2 N2195 L2196 B2200)) fun V2217 B2218 =>
 asT V2217 fun X2219 =>
 asI .i64 X2219 fun X2220 =>
 consB 0 B2218 fun K2221 B2222 =>
 asVar K2221 fun L2223 =>
 consV L2223 fun V2224 L2225 =>
 asT V2224 fun X2226 =>
 asL 3 X2226 fun N2227 L2228 =>
 consV L2225 fun V2229 L2230 =>
 asT V2229 fun X2231 =>
 asB X2231 fun B2232 =>
 endV L2230 <|
 endB B2222 <|
 Z0 X16 X1962 X2188 X2220 X32 N2227 L2228 B2232
else
(bif (decide (m9_3 = 3)) then
 callK (vr 74 0 [.ptr 0 0 0, .t (.str ⟨#[97]⟩)] (Z2 N2195 L2196 B2200)) fun V2233 B2234 =>
 asT V2233 fun X2235 =>
 asI .i64 X2235 fun X2236 =>
 consB 0 B2234 fun K2237 B2238 =>
 asVar K2237 fun L2239 =>
 consV L2239 fun V2240 L2241 =>
 asT V2240 fun X2242 =>
 asL 3 X2242 fun N2243 L2244 =>
 consV L2241 fun V2245 L2246 =>
 asT V2245 fun X2247 =>
 asB X2247 fun B2248 =>
 endV L2246 <|
 endB B2238 <|
 Z0 X16 X1962 X2188 X2236 X32 N2243 L2244 B2248
else
(bif (decide (m9_3 = 4)) then
 callK (vr 54 0 [.ptr 0 0 0, .t (.int .i64 2)] (Z2 N2195 L2196 B2200)) fun V2249 B2250 =>
 asT V2249 fun X2251 =>
 asA X2251 fun L2252 =>
 consT L2252 fun V2253 L2254 =>
 asI .i64 V2253 fun X2255 =>
 consT L2254 fun V2256 L2257 =>
 asS V2256 fun S2258 =>
 consT L2257 fun V2259 L2260 =>
 asI .i64 V2259 fun X2261 =>
 endT L2260 <|
 consB 0 B2250 fun K2262 B2263 =>
 asVar K2262 fun L2264 =>
 consV L2264 fun V2265 L2266 =>
 asT V2265 fun X2267 =>
 asL 3 X2267 fun N2268 L2269 =>
 consV L2266 fun V2270 L2271 =>
 asT V2270 fun X2272 =>
 asB X2272 fun B2273 =>
 endV L2271 <|
 endB B2263 <|
 Z0 X16 X1962 X2188 X2261 X32 N2268 L2269 B2273
else
(bif (decide (m9_3 = 5)) then
 callK (vr 75 0 [.ptr 0 0 0] (Z2 N2195 L2196 B2200)) fun V2274 B2275 =>
 asT V2274 fun X2276 =>
 asI .i64 X2276 fun X2277 =>
 consB 0 B2275 fun K2278 B2279 =>
 asVar K2278 fun L2280 =>
 consV L2280 fun V2281 L2282 =>
 asT V2281 fun X2283 =>
 asL 3 X2283 fun N2284 L2285 =>
 consV L2282 fun V2286 L2287 =>
 asT V2286 fun X2288 =>
 asB X2288 fun B2289 =>
 endV L2287 <|
 endB B2279 <|
 Z0 X16 X1962 X2188 X28 X2277 N2284 L2285 B2289
else
 Z0 X16 X1962 X2188 X28 X32 N2195 L2196 B2200)))))
else
(bif (decide (m9_2 = 4)) then
 callK (vr 54 0 [.ptr 0 0 0, .t (.int .i64 2)] (Z2 N1969 L1970 B1974)) fun V2290 B2291 =>
 asT V2290 fun X2292 =>
 asA X2292 fun L2293 =>
 consT L2293 fun V2294 L2295 =>
 asI .i64 V2294 fun X2296 =>
 consT L2295 fun V2297 L2298 =>
 asS V2297 fun S2299 =>
 consT L2298 fun V2300 L2301 =>
 asI .i64 V2300 fun X2302 =>
 endT L2301 <|
 consB 0 B2291 fun K2303 B2304 =>
 asVar K2303 fun L2305 =>
 consV L2305 fun V2306 L2307 =>
 asT V2306 fun X2308 =>
 asL 3 X2308 fun N2309 L2310 =>
 consV L2307 fun V2311 L2312 =>
 asT V2311 fun X2313 =>
 asB X2313 fun B2314 =>
 endV L2312 <|
 endB B2304 <|
(bif (decide (m9_3 = 1)) then
 callK (vr 74 0 [.ptr 0 0 0, .t (.str ⟨#[114]⟩)] (Z2 N2309 L2310 B2314)) fun V2315 B2316 =>
 asT V2315 fun X2317 =>
 asI .i64 X2317 fun X2318 =>
 consB 0 B2316 fun K2319 B2320 =>
 asVar K2319 fun L2321 =>
 consV L2321 fun V2322 L2323 =>
 asT V2322 fun X2324 =>
 asL 3 X2324 fun N2325 L2326 =>
 consV L2323 fun V2327 L2328 =>
 asT V2327 fun X2329 =>
 asB X2329 fun B2330 =>
 endV L2328 <|
 endB B2320 <|
 Z0 X16 X1962 X2302 X2318 X32 N2325 L2326 B2330
else
(bif (decide (m9_3 = 2)) then
 callK (vr 74 0 [.ptr 0 0 0, .t (.str ⟨#[114]⟩)] (Z2 N2309 L2310 B2314)) fun V2331 B2332 =>
 asT V2331 fun X2333 =>
 asI .i64 X2333 fun X2334 =>
 consB 0 B2332 fun K2335 B2336 =>
 asVar K2335 fun L2337 =>
 consV L2337 fun V2338 L2339 =>
 asT V2338 fun X2340 =>
 asL 3 X2340 fun N2341 L2342 =>
 consV L2339 fun V2343 L2344 =>
 asT V2343 fun X2345 =>
 asB X2345 fun B2346 =>
 endV L2344 <|
 endB B2336 <|
 Z0 X16 X1962 X2302 X2334 X32 N2341 L2342 B2346
else
(bif (decide (m9_3 = 3)) then
 callK (vr 74 0 [.ptr 0 0 0, .t (.str ⟨#[97]⟩)] (Z2 N2309 L2310 B2314)) fun V2347 B2348 =>
 asT V2347 fun X2349 =>
 asI .i64 X2349 fun X2350 =>
 consB 0 B2348 fun K2351 B2352 =>
 asVar K2351 fun L2353 =>
 consV L2353 fun V2354 L2355 =>
 asT V2354 fun X2356 =>
 asL 3 X2356 fun N2357 L2358 =>
 consV L2355 fun V2359 L2360 =>
 asT V2359 fun X2361 =>
 asB X2361 fun B2362 =>
 endV L2360 <|
 endB B2352 <|
 Z0 X16 X1962 X2302 X2350 X32 N2357 L2358 B2362
else
(bif (decide (m9_3 = 4)) then
 callK (vr 54 0 [.ptr 0 0 0, .t (.int .i64 2)] (Z2 N2309 L2310 B2314)) fun V2363 B2364 =>
 asT V2363 fun X2365 =>
 asA X2365 fun L2366 =>
 consT L2366 fun V2367 L2368 =>
 asI .i64 V2367 fun X2369 =>
 consT L2368 fun V2370 L2371 =>
 asS V2370 fun S2372 =>
 consT L2371 fun V2373 L2374 =>
 asI .i64 V2373 fun X2375 =>
 endT L2374 <|
 consB 0 B2364 fun K2376 B2377 =>
 asVar K2376 fun L2378 =>
 consV L2378 fun V2379 L2380 =>
 asT V2379 fun X2381 =>
 asL 3 X2381 fun N2382 L2383 =>
 consV L2380 fun V2384 L2385 =>
 asT V2384 fun X2386 =>
 asB X2386 fun B2387 =>
 endV L2385 <|
 endB B2377 <|
 Z0 X16 X1962 X2302 X2375 X32 N2382 L2383 B2387
else
(bif (decide (m9_3 = 5)) then
 callK (vr 75 0 [.ptr 0 0 0] (Z2 N2309 L2310 B2314)) fun V2388 B2389 =>
 asT V2388 fun X2390 =>
 asI .i64 X2390 fun X2391 =>
 consB 0 B2389 fun K2392 B2393 =>
 asVar K2392 fun L2394 =>
 consV L2394 fun V2395 L2396 =>
 asT V2395 fun X2397 =>
 asL 3 X2397 fun N2398 L2399 =>
 consV L2396 fun V2400 L2401 =>
 asT V2400 fun X2402 =>
 asB X2402 fun B2403 =>
 endV L2401 <|
 endB B2393 <|
 Z0 X16 X1962 X2302 X28 X2391 N2398 L2399 B2403
else
 Z0 X16 X1962 X2302 X28 X32 N2309 L2310 B2314)))))
else
(bif (decide (m9_2 = 5)) then
 callK (vr 75 0 [.ptr 0 0 0] (Z2 N1969 L1970 B1974)) fun V2404 B2405 =>
 asT V2404 fun X2406 =>
 asI .i64 X2406 fun X2407 =>
 consB 0 B2405 fun K2408 B2409 =>
 asVar K2408 fun L2410 =>
 consV L2410 fun V2411 L2412 =>
 asT V2411 fun X2413 =>
 asL 3 X2413 fun N2414 L2415 =>
 consV L2412 fun V2416 L2417 =>
 asT V2416 fun X2418 =>
 asB X2418 fun B2419 =>
 endV L2417 <|
 endB B2409 <|
(bif (decide (m9_3 = 1)) then
 callK (vr 74 0 [.ptr 0 0 0, .t (.str ⟨#[114]⟩)] (Z2 N2414 L2415 B2419)) fun V2420 B2421 =>
 asT V2420 fun X2422 =>
 asI .i64 X2422 fun X2423 =>
 consB 0 B2421 fun K2424 B2425 =>
 asVar K2424 fun L2426 =>
 consV L2426 fun V2427 L2428 =>
 asT V2427 fun X2429 =>
 asL 3 X2429 fun N2430 L2431 =>
 consV L2428 fun V2432 L2433 =>
 asT V2432 fun X2434 =>
 asB X2434 fun B2435 =>
 endV L2433 <|
 endB B2425 <|
 Z0 X16 X1962 X24 X2423 X2407 N2430 L2431 B2435
else
(bif (decide (m9_3 = 2)) then
 callK (vr 74 0 [.ptr 0 0 0, .t (.str ⟨#[114]⟩)] (Z2 N2414 L2415 B2419)) fun V2436 B2437 =>
 asT V2436 fun X2438 =>
 asI .i64 X2438 fun X2439 =>
 consB 0 B2437 fun K2440 B2441 =>
 asVar K2440 fun L2442 =>
 consV L2442 fun V2443 L2444 =>
 asT V2443 fun X2445 =>
 asL 3 X2445 fun N2446 L2447 =>
 consV L2444 fun V2448 L2449 =>
 asT V2448 fun X2450 =>
 asB X2450 fun B2451 =>
 endV L2449 <|
 endB B2441 <|
 Z0 X16 X1962 X24 X2439 X2407 N2446 L2447 B2451
else
(bif (decide (m9_3 = 3)) then
 callK (vr 74 0 [.ptr 0 0 0, .t (.str ⟨#[97]⟩)] (Z2 N2414 L2415 B2419)) fun V2452 B2453 =>
 asT V2452 fun X2454 =>
 asI .i64 X2454 fun X2455 =>
 consB 0 B2453 fun K2456 B2457 =>
 asVar K2456 fun L2458 =>
 consV L2458 fun V2459 L2460 =>
 asT V2459 fun X2461 =>
 asL 3 X2461 fun N2462 L2463 =>
 consV L2460 fun V2464 L2465 =>
 asT V2464 fun X2466 =>
 asB X2466 fun B2467 =>
 endV L2465 <|
 endB B2457 <|
 Z0 X16 X1962 X24 X2455 X2407 N2462 L2463 B2467
else
(bif (decide (m9_3 = 4)) then
 callK (vr 54 0 [.ptr 0 0 0, .t (.int .i64 2)] (Z2 N2414 L2415 B2419)) fun V2468 B2469 =>
 asT V2468 fun X2470 =>
 asA X2470 fun L2471 =>
 consT L2471 fun V2472 L2473 =>
 asI .i64 V2472 fun X2474 =>
 consT L2473 fun V2475 L2476 =>
 asS V2475 fun S2477 =>
 consT L2476 fun V2478 L2479 =>
 asI .i64 V2478 fun X2480 =>
 endT L2479 <|
 consB 0 B2469 fun K2481 B2482 =>
 asVar K2481 fun L2483 =>
 consV L2483 fun V2484 L2485 =>
 asT V2484 fun X2486 =>
 asL 3 X2486 fun N2487 L2488 =>
 consV L2485 fun V2489 L2490 =>
 asT V2489 fun X2491 =>
 asB X2491 fun B2492 =>
 endV L2490 <|
 endB B2482 <|
 Z0 X16 X1962 X24 X2480 X2407 N2487 L2488 B2492
else
(bif (decide (m9_3 = 5)) then
 callK (vr 75 0 [.ptr 0 0 0] (Z2 N2414 L2415 B2419)) fun V2493 B2494 =>
 asT V2493 fun X2495 =>
 asI .i64 X2495 fun X2496 =>
 consB 0 B2494 fun K2497 B2498 =>
 asVar K2497 fun L2499 =>
 consV L2499 fun V2500 L2501 =>
 asT V2500 fun X2502 =>
 asL 3 X2502 fun N2503 L2504 =>
 consV L2501 fun V2505 L2506 =>
 asT V2505 fun X2507 =>
 asB X2507 fun B2508 =>
 endV L2506 <|
 endB B2498 <|
 Z0 X16 X1962 X24 X28 X2496 N2503 L2504 B2508
else
 Z0 X16 X1962 X24 X28 X2407 N2414 L2415 B2419)))))
else
(bif (decide (m9_3 = 1)) then
 callK (vr 74 0 [.ptr 0 0 0, .t (.str ⟨#[114]⟩)] (Z2 N1969 L1970 B1974)) fun V2509 B2510 =>
 asT V2509 fun X2511 =>
 asI .i64 X2511 fun X2512 =>
 consB 0 B2510 fun K2513 B2514 =>
 asVar K2513 fun L2515 =>
 consV L2515 fun V2516 L2517 =>
 asT V2516 fun X2518 =>
 asL 3 X2518 fun N2519 L2520 =>
 consV L2517 fun V2521 L2522 =>
 asT V2521 fun X2523 =>
 asB X2523 fun B2524 =>
 endV L2522 <|
 endB B2514 <|
 Z0 X16 X1962 X24 X2512 X32 N2519 L2520 B2524
else
(bif (decide (m9_3 = 2)) then
 callK (vr 74 0 [.ptr 0 0 0, .t (.str ⟨#[114]⟩)] (Z2 N1969 L1970 B1974)) fun V2525 B2526 =>
 asT V2525 fun X2527 =>
 asI .i64 X2527 fun X2528 =>
 consB 0 B2526 fun K2529 B2530 =>
 asVar K2529 fun L2531 =>
 consV L2531 fun V2532 L2533 =>
 asT V2532 fun X2534 =>
 asL 3 X2534 fun N2535 L2536 =>
 consV L2533 fun V2537 L2538 =>
 asT V2537 fun X2539 =>
 asB X2539 fun B2540 =>
 endV L2538 <|
 endB B2530 <|
 Z0 X16 X1962 X24 X2528 X32 N2535 L2536 B2540
else
(bif (decide (m9_3 = 3)) then
 callK (vr 74 0 [.ptr 0 0 0, .t (.str ⟨#[97]⟩)] (Z2 N1969 L1970 B1974)) fun V2541 B2542 =>
 asT V2541 fun X2543 =>
 asI .i64 X2543 fun X2544 =>
 consB 0 B2542 fun K2545 B2546 =>
 asVar K2545 fun L2547 =>
 consV L2547 fun V2548 L2549 =>
 asT V2548 fun X2550 =>
 asL 3 X2550 fun N2551 L2552 =>
 consV L2549 fun V2553 L2554 =>
 asT V2553 fun X2555 =>
 asB X2555 fun B2556 =>
 endV L2554 <|
 endB B2546 <|
 Z0 X16 X1962 X24 X2544 X32 N2551 L2552 B2556
else
(bif (decide (m9_3 = 4)) then
 callK (vr 54 0 [.ptr 0 0 0, .t (.int .i64 2)] (Z2 N1969 L1970 B1974)) fun V2557 B2558 =>
 asT V2557 fun X2559 =>
 asA X2559 fun L2560 =>
 consT L2560 fun V2561 L2562 =>
 asI .i64 V2561 fun X2563 =>
 consT L2562 fun V2564 L2565 =>
 asS V2564 fun S2566 =>
 consT L2565 fun V2567 L2568 =>
 asI .i64 V2567 fun X2569 =>
 endT L2568 <|
 consB 0 B2558 fun K2570 B2571 =>
 asVar K2570 fun L2572 =>
 consV L2572 fun V2573 L2574 =>
 asT V2573 fun X2575 =>
 asL 3 X2575 fun N2576 L2577 =>
 consV L2574 fun V2578 L2579 =>
 asT V2578 fun X2580 =>
 asB X2580 fun B2581 =>
 endV L2579 <|
 endB B2571 <|
 Z0 X16 X1962 X24 X2569 X32 N2576 L2577 B2581
else
(bif (decide (m9_3 = 5)) then
 callK (vr 75 0 [.ptr 0 0 0] (Z2 N1969 L1970 B1974)) fun V2582 B2583 =>
 asT V2582 fun X2584 =>
 asI .i64 X2584 fun X2585 =>
 consB 0 B2583 fun K2586 B2587 =>
 asVar K2586 fun L2588 =>
 consV L2588 fun V2589 L2590 =>
 asT V2589 fun X2591 =>
 asL 3 X2591 fun N2592 L2593 =>
 consV L2590 fun V2594 L2595 =>
 asT V2594 fun X2596 =>
 asB X2596 fun B2597 =>
 endV L2595 <|
 endB B2587 <|
 Z0 X16 X1962 X24 X28 X2585 N2592 L2593 B2597
else
 Z0 X16 X1962 X24 X28 X32 N1969 L1970 B1974))))))))))
else
(bif (decide (m9_1 = 5)) then
 callK (vr 75 0 [.ptr 0 0 0] (Z2 m0_0z m0_0 m0_1)) fun V2598 B2599 =>
 asT V2598 fun X2600 =>
 asI .i64 X2600 fun X2601 =>
 consB 0 B2599 fun K2602 B2603 =>
 asVar K2602 fun L2604 =>
 consV L2604 fun V2605 L2606 =>
 asT V2605 fun X2607 =>
 asL 3 X2607 fun N2608 L2609 =>
 consV L2606 fun V2610 L2611 =>
 asT V2610 fun X2612 =>
 asB X2612 fun B2613 =>
 endV L2611 <|
 endB B2603 <|
(bif (decide (m9_2 = 1)) then
 callK (vr 74 0 [.ptr 0 0 0, .t (.str ⟨#[114]⟩)] (Z2 N2608 L2609 B2613)) fun V2614 B2615 =>
 asT V2614 fun X2616 =>
 asI .i64 X2616 fun X2617 =>
 consB 0 B2615 fun K2618 B2619 =>
 asVar K2618 fun L2620 =>
 consV L2620 fun V2621 L2622 =>
 asT V2621 fun X2623 =>
 asL 3 X2623 fun N2624 L2625 =>
 consV L2622 fun V2626 L2627 =>
 asT V2626 fun X2628 =>
 asB X2628 fun B2629 =>
 endV L2627 <|
 endB B2619 <|
(bif (decide (m9_3 = 1)) then
 callK (vr 74 0 [.ptr 0 0 0, .t (.str ⟨#[114]⟩)] (Z2 N2624 L2625 B2629)) fun V2630 B2631 =>
 asT V2630 fun X2632 =>
 asI .i64 X2632 fun X2633 =>
 consB 0 B2631 fun K2634 B2635 =>
 asVar K2634 fun L2636 =>
 consV L2636 fun V2637 L2638 =>
 asT V2637 fun X2639 =>
 asL 3 X2639 fun N2640 L2641 =>
 consV L2638 fun V2642 L2643 =>
 asT V2642 fun X2644 =>
 asB X2644 fun B2645 =>
 endV L2643 <|
 endB B2635 <|
 Z0 X16 X20 X2617 X2633 X2601 N2640 L2641 B2645
else
(bif (decide (m9_3 = 2)) then
 callK (vr 74 0 [.ptr 0 0 0, .t (.str ⟨#[114]⟩)] (Z2 N2624 L2625 B2629)) fun V2646 B2647 =>
 asT V2646 fun X2648 =>
 asI .i64 X2648 fun X2649 =>
 consB 0 B2647 fun K2650 B2651 =>
 asVar K2650 fun L2652 =>
 consV L2652 fun V2653 L2654 =>
 asT V2653 fun X2655 =>
 asL 3 X2655 fun N2656 L2657 =>
 consV L2654 fun V2658 L2659 =>
 asT V2658 fun X2660 =>
 asB X2660 fun B2661 =>
 endV L2659 <|
 endB B2651 <|
 Z0 X16 X20 X2617 X2649 X2601 N2656 L2657 B2661
else
(bif (decide (m9_3 = 3)) then
 callK (vr 74 0 [.ptr 0 0 0, .t (.str ⟨#[97]⟩)] (Z2 N2624 L2625 B2629)) fun V2662 B2663 =>
 asT V2662 fun X2664 =>
 asI .i64 X2664 fun X2665 =>
 consB 0 B2663 fun K2666 B2667 =>
 asVar K2666 fun L2668 =>
 consV L2668 fun V2669 L2670 =>
 asT V2669 fun X2671 =>
 asL 3 X2671 fun N2672 L2673 =>
 consV L2670 fun V2674 L2675 =>
 asT V2674 fun X2676 =>
 asB X2676 fun B2677 =>
 endV L2675 <|
 endB B2667 <|
 Z0 X16 X20 X2617 X2665 X2601 N2672 L2673 B2677
else
(bif (decide (m9_3 = 4)) then
 callK (vr 54 0 [.ptr 0 0 0, .t (.int .i64 2)] (Z2 N2624 L2625 B2629)) fun V2678 B2679 =>
 asT V2678 fun X2680 =>
 asA X2680 fun L2681 =>
 consT L2681 fun V2682 L2683 =>
 asI .i64 V2682 fun X2684 =>
 consT L2683 fun V2685 L2686 =>
 asS V2685 fun S2687 =>
 consT L2686 fun V2688 L2689 =>
 asI .i64 V2688 fun X2690 =>
 endT L2689 <|
 consB 0 B2679 fun K2691 B2692 =>
 asVar K2691 fun L2693 =>
 consV L2693 fun V2694 L2695 =>
 asT V2694 fun X2696 =>
 asL 3 X2696 fun N2697 L2698 =>
 consV L2695 fun V2699 L2700 =>
 asT V2699 fun X2701 =>
 asB X2701 fun B2702 =>
 endV L2700 <|
 endB B2692 <|
 Z0 X16 X20 X2617 X2690 X2601 N2697 L2698 B2702
else
(bif (decide (m9_3 = 5)) then
 callK (vr 75 0 [.ptr 0 0 0] (Z2 N2624 L2625 B2629)) fun V2703 B2704 =>
 asT V2703 fun X2705 =>
 asI .i64 X2705 fun X2706 =>
 consB 0 B2704 fun K2707 B2708 =>
 asVar K2707 fun L2709 =>
 consV L2709 fun V2710 L2711 =>
 asT V2710 fun X2712 =>
 asL 3 X2712 fun N2713 L2714 =>
 consV L2711 fun V2715 L2716 =>
 asT V2715 fun X2717 =>
 asB X2717 fun B2718 =>
 endV L2716 <|
 endB B2708 <|
 Z0 X16 X20 X2617 X28 X2706 N2713 L2714 B2718
else
 Z0 X16 X20 X2617 X28 X2601 N2624 L2625 B2629)))))
else
(bif (decide (m9_2 = 2)) then
 callK (vr 74 0 [.ptr 0 0 0, .t (.str ⟨#[114]⟩)] (Z2 N2608 L2609 B2613)) fun V2719 B2720 =>
 asT V2719 fun X2721 =>
 asI .i64 X2721 fun X2722 =>
 consB 0 B2720 fun K2723 B2724 =>
 asVar K2723 fun L2725 =>
 consV L2725 fun V2726 L2727 =>
 asT V2726 fun X2728 =>
 asL 3 X2728 fun N2729 L2730 =>
 consV L2727 fun V2731 L2732 =>
 asT V2731 fun X2733 =>
 asB X2733 fun B2734 =>
 endV L2732 <|
 endB B2724 <|
(bif (decide (m9_3 = 1)) then
 callK (vr 74 0 [.ptr 0 0 0, .t (.str ⟨#[114]⟩)] (Z2 N2729 L2730 B2734)) fun V2735 B2736 =>
 asT V2735 fun X2737 =>
 asI .i64 X2737 fun X2738 =>
 consB 0 B2736 fun K2739 B2740 =>
 asVar K2739 fun L2741 =>
 consV L2741 fun V2742 L2743 =>
 asT V2742 fun X2744 =>
 asL 3 X2744 fun N2745 L2746 =>
 consV L2743 fun V2747 L2748 =>
 asT V2747 fun X2749 =>
 asB X2749 fun B2750 =>
 endV L2748 <|
 endB B2740 <|
 Z0 X16 X20 X2722 X2738 X2601 N2745 L2746 B2750
else
(bif (decide (m9_3 = 2)) then
 callK (vr 74 0 [.ptr 0 0 0, .t (.str ⟨#[114]⟩)] (Z2 N2729 L2730 B2734)) fun V2751 B2752 =>
 asT V2751 fun X2753 =>
 asI .i64 X2753 fun X2754 =>
 consB 0 B2752 fun K2755 B2756 =>
 asVar K2755 fun L2757 =>
 consV L2757 fun V2758 L2759 =>
 asT V2758 fun X2760 =>
 asL 3 X2760 fun N2761 L2762 =>
 consV L2759 fun V2763 L2764 =>
 asT V2763 fun X2765 =>
 asB X2765 fun B2766 =>
 endV L2764 <|
 endB B2756 <|
 Z0 X16 X20 X2722 X2754 X2601 N2761 L2762 B2766
else
(bif (decide (m9_3 = 3)) then
 callK (vr 74 0 [.ptr 0 0 0, .t (.str ⟨#[97]⟩)] (Z2 N2729 L2730 B2734)) fun V2767 B2768 =>
 asT V2767 fun X2769 =>
 asI .i64 X2769 fun X2770 =>
 consB 0 B2768 fun K2771 B2772 =>
 asVar K2771 fun L2773 =>
 consV L2773 fun V2774 L2775 =>
 asT V2774 fun X2776 =>
 asL 3 X2776 fun N2777 L2778 =>
 consV L2775 fun V2779 L2780 =>
 asT V2779 fun X2781 =>
 asB X2781 fun B2782 =>
 endV L2780 <|
 endB B2772 <|
 Z0 X16 X20 X2722 X2770 X2601 N2777 L2778 B2782
else
(bif (decide (m9_3 = 4)) then
 callK (vr 54 0 [.ptr 0 0 0, .t (.int .i64 2)] (Z2 N2729 L2730 B2734)) fun V2783 B2784 =>
 asT V2783 fun X2785 =>
 asA X2785 fun L2786 =>
 consT L2786 fun V2787 L2788 =>
 asI .i64 V2787 fun X2789 =>
 consT L2788 fun V2790 L2791 =>
 asS V2790 fun S2792 =>
 consT L2791 fun V2793 L2794 =>
 asI .i64 V2793 fun X2795 =>
 endT L2794 <|
 consB 0 B2784 fun K2796 B2797 =>
 asVar K2796 fun L2798 =>
 consV L2798 fun V2799 L2800 =>
 asT V2799 fun X2801 =>
 asL 3 X2801 fun N2802 L2803 =>
 consV L2800 fun V2804 L2805 =>
 asT V2804 fun X2806 =>
 asB X2806 fun B2807 =>
 endV L2805 <|
 endB B2797 <|
 Z0 X16 X20 X2722 X2795 X2601 N2802 L2803 B2807
else
(bif (decide (m9_3 = 5)) then
 callK (vr 75 0 [.ptr 0 0 0] (Z2 N2729 L2730 B2734)) fun V2808 B2809 =>
 asT V2808 fun X2810 =>
 asI .i64 X2810 fun X2811 =>
 consB 0 B2809 fun K2812 B2813 =>
 asVar K2812 fun L2814 =>
 consV L2814 fun V2815 L2816 =>
 asT V2815 fun X2817 =>
 asL 3 X2817 fun N2818 L2819 =>
 consV L2816 fun V2820 L2821 =>
 asT V2820 fun X2822 =>
 asB X2822 fun B2823 =>
 endV L2821 <|
 endB B2813 <|
 Z0 X16 X20 X2722 X28 X2811 N2818 L2819 B2823
else
 Z0 X16 X20 X2722 X28 X2601 N2729 L2730 B2734)))))
else
(bif (decide (m9_2 = 3)) then
 callK (vr 74 0 [.ptr 0 0 0, .t (.str ⟨#[97]⟩)] (Z2 N2608 L2609 B2613)) fun V2824 B2825 =>
 asT V2824 fun X2826 =>
 asI .i64 X2826 fun X2827 =>
 consB 0 B2825 fun K2828 B2829 =>
 asVar K2828 fun L2830 =>
 consV L2830 fun V2831 L2832 =>
 asT V2831 fun X2833 =>
 asL 3 X2833 fun N2834 L2835 =>
 consV L2832 fun V2836 L2837 =>
 asT V2836 fun X2838 =>
 asB X2838 fun B2839 =>
 endV L2837 <|
 endB B2829 <|
(bif (decide (m9_3 = 1)) then
 callK (vr 74 0 [.ptr 0 0 0, .t (.str ⟨#[114]⟩)] (Z2 N2834 L2835 B2839)) fun V2840 B2841 =>
 asT V2840 fun X2842 =>
 asI .i64 X2842 fun X2843 =>
 consB 0 B2841 fun K2844 B2845 =>
 asVar K2844 fun L2846 =>
 consV L2846 fun V2847 L2848 =>
 asT V2847 fun X2849 =>
 asL 3 X2849 fun N2850 L2851 =>
 consV L2848 fun V2852 L2853 =>
 asT V2852 fun X2854 =>
 asB X2854 fun B2855 =>
 endV L2853 <|
 endB B2845 <|
 Z0 X16 X20 X2827 X2843 X2601 N2850 L2851 B2855
else
(bif (decide (m9_3 = 2)) then
 callK (vr 74 0 [.ptr 0 0 0, .t (.str ⟨#[114]⟩)] (Z2 N2834 L2835 B2839)) fun V2856 B2857 =>
 asT V2856 fun X2858 =>
 asI .i64 X2858 fun X2859 =>
 consB 0 B2857 fun K2860 B2861 =>
 asVar K2860 fun L2862 =>
 consV L2862 fun V2863 L2864 =>
 asT V2863 fun X2865 =>
 asL 3 X2865 fun N2866 L2867 =>
 consV L2864 fun V2868 L2869 =>
 asT V2868 fun X2870 =>
 asB X2870 fun B2871 =>
 endV L2869 <|
 endB B2861 <|
 Z0 X16 X20 X2827 X2859 X2601 N2866 L2867 B2871
else
(bif (decide (m9_3 = 3)) then
 callK (vr 74 0 [.ptr 0 0 0, .t (.str ⟨#[97]⟩)] (Z2 N2834 L2835 B2839)) fun V2872 B2873 =>
 asT V2872 fun X2874 =>
 asI .i64 X2874 fun X2875 =>
 consB 0 B2873 fun K2876 B2877 =>
 asVar K2876 fun L2878 =>
 consV L2878 fun V2879 L2880 =>
 asT V2879 fun X2881 =>
 asL 3 X2881 fun N2882 L2883 =>
 consV L2880 fun V2884 L2885 =>
 asT V2884 fun X2886 =>
 asB X2886 fun B2887 =>
 endV L2885 <|
 endB B2877 <|
 Z0 X16 X20 X2827 X2875 X2601 N2882 L2883 B2887
else
(bif (decide (m9_3 = 4)) then
 callK (vr 54 0 [.ptr 0 0 0, .t (.int .i64 2)] (Z2 N2834 L2835 B2839)) fun V2888 B2889 =>
 asT V2888 fun X2890 =>
 asA X2890 fun L2891 =>
 consT L2891 fun V2892 L2893 =>
 asI .i64 V2892 fun X2894 =>
 consT L2893 fun V2895 L2896 =>
 asS V2895 fun S2897 =>
 consT L2896 fun V2898 L2899 =>
 asI .i64 V2898 fun X2900 =>
 endT L2899 <|
 consB 0 B2889 fun K2901 B2902 =>
 asVar K2901 fun L2903 =>
 consV L2903 fun V2904 L2905 =>
 asT V2904 fun X2906 =>
 asL 3 X2906 fun N2907 L2908 =>
 consV L2905 fun V2909 L2910 =>
 asT V2909 fun X2911 =>
 asB X2911 fun B2912 =>
 endV L2910 <|
 endB B2902 <|
 Z0 X16 X20 X2827 X2900 X2601 N2907 L2908 B2912
else
(bif (decide (m9_3 = 5)) then
 callK (vr 75 0 [.ptr 0 0 0] (Z2 N2834 L2835 B2839)) fun V2913 B2914 =>
 asT V2913 fun X2915 =>
 asI .i64 X2915 fun X2916 =>
 consB 0 B2914 fun K2917 B2918 =>
 asVar K2917 fun L2919 =>
 consV L2919 fun V2920 L2921 =>
 asT V2920 fun X2922 =>
 asL 3 X2922 fun N2923 L2924 =>
 consV L2921 fun V2925 L2926 =>
 asT V2925 fun X2927 =>
 asB X2927 fun B2928 =>
 endV L2926 <|
 endB B2918 <|
 Z0 X16 X20 X2827 X28 X2916 N2923 L2924 B2928
else
 Z0 X16 X20 X2827 X28 X2601 N2834 L2835 B2839)))))
else
(bif (decide (m9_2 = 4)) then
 callK (vr 54 0 [.ptr 0 0 0, .t (.int .i64 2)] (Z2 N2608 L2609 B2613)) fun V2929 B2930 =>
 asT V2929 fun X2931 =>
 asA X2931 fun L2932 =>
 consT L2932 fun V2933 L2934 =>
 asI .i64 V2933 fun X2935 =>
 consT L2934 fun V2936 L2937 =>
 asS V2936 fun S2938 =>
 consT L2937 fun V2939 L2940 =>
 asI .i64 V2939 fun X2941 =>
 endT L2940 <|
 consB 0 B2930 fun K2942 B2943 =>
 asVar K2942 fun L2944 =>
 consV L2944 fun V2945 L2946 =>
 asT V2945 fun X2947 =>
 asL 3 X2947 fun N2948 L2949 =>
 consV L2946 fun V2950 L2951 =>
 asT V2950 fun X2952 =>
 asB X2952 fun B2953 =>
 endV L2951 <|
 endB B2943 <|
(bif (decide (m9_3 = 1)) then
 callK (vr 74 0 [.ptr 0 0 0, .t (.str ⟨#[114]⟩)] (Z2 N2948 L2949 B2953)) fun V2954 B2955 =>
 asT V2954 fun X2956 =>
 asI .i64 X2956 fun X2957 =>
 consB 0 B2955 fun K2958 B2959 =>
 asVar K2958 fun L2960 =>
 consV L2960 fun V2961 L2962 =>
 asT V2961 fun X2963 =>
 asL 3 X2963 fun N2964 L2965 =>
 consV L2962 fun V2966 L2967 =>
 asT V2966 fun X2968 =>
 asB X2968 fun B2969 =>
 endV L2967 <|
 endB B2959 <|
 Z0 X16 X20 X2941 X2957 X2601 N2964 L2965 B2969
else
(bif (decide (m9_3 = 2)) then
 callK (vr 74 0 [.ptr 0 0 0, .t (.str ⟨#[114]⟩)] (Z2 N2948 L2949 B2953)) fun V2970 B2971 =>
 asT V2970 fun X2972 =>
 asI .i64 X2972 fun X2973 =>
 consB 0 B2971 fun K2974 B2975 =>
 asVar K2974 fun L2976 =>
 consV L2976 fun V2977 L2978 =>
 asT V2977 fun X2979 =>
 asL 3 X2979 fun N2980 L2981 =>
 consV L2978 fun V2982 L2983 =>
 asT V2982 fun X2984 =>
 asB X2984 fun B2985 =>
 endV L2983 <|
 endB B2975 <|
 Z0 X16 X20 X2941 X2973 X2601 N2980 L2981 B2985
else
(bif (decide (m9_3 = 3)) then
 callK (vr 74 0 [.ptr 0 0 0, .t (.str ⟨#[97]⟩)] (Z2 N2948 L2949 B2953)) fun V2986 B2987 =>
 asT V2986 fun X2988 =>
 asI .i64 X2988 fun X2989 =>
 consB 0 B2987 fun K2990 B2991 =>
 asVar K2990 fun L2992 =>
 consV L2992 fun V2993 L2994 =>
 asT V2993 fun X2995 =>
 asL 3 X2995 fun N2996 L2997 =>
 consV L2994 fun V2998 L2999 =>
 asT V2998 fun X3000 =>
 asB X3000 fun B3001 =>
 endV L2999 <|
 endB B2991 <|
 Z0 X16 X20 X2941 X2989 X2601 N2996 L2997 B3001
else
(bif (decide (m9_3 = 4)) then
 callK (vr 54 0 [.ptr 0 0 0, .t (.int .i64 2)] (Z2 N2948 L2949 B2953)) fun V3002 B3003 =>
 asT V3002 fun X3004 =>
 asA X3004 fun L3005 =>
 consT L3005 fun V3006 L3007 =>
 asI .i64 V3006 fun X3008 =>
 consT L3007 fun V3009 L3010 =>
 asS V3009 fun S3011 =>
 consT L3010 fun V3012 L3013 =>
 asI .i64 V3012 fun X3014 =>
 endT L3013 <|
 consB 0 B3003 fun K3015 B3016 =>
 asVar K3015 fun L3017 =>
 consV L3017 fun V3018 L3019 =>
 asT V3018 fun X3020 =>
 asL 3 X3020 fun N3021 L3022 =>
 consV L3019 fun V3023 L3024 =>
 asT V3023 fun X3025 =>
 asB X3025 fun B3026 =>
 endV L3024 <|
 endB B3016 <|
 Z0 X16 X20 X2941 X3014 X2601 N3021 L3022 B3026
else
(bif (decide (m9_3 = 5)) then
 callK (vr 75 0 [.ptr 0 0 0] (Z2 N2948 L2949 B2953)) fun V3027 B3028 =>
 asT V3027 fun X3029 =>
 asI .i64 X3029 fun X3030 =>
 consB 0 B3028 fun K3031 B3032 =>
 asVar K3031 fun L3033 =>
 consV L3033 fun V3034 L3035 =>
 asT V3034 fun X3036 =>
 asL 3 X3036 fun N3037 L3038 =>
 consV L3035 fun V3039 L3040 =>
 asT V3039 fun X3041 =>
 asB X3041 fun B3042 =>
 endV L3040 <|
 endB B3032 <|
 Z0 X16 X20 X2941 X28 X3030 N3037 L3038 B3042
else
 Z0 X16 X20 X2941 X28 X2601 N2948 L2949 B2953)))))
else
(bif (decide (m9_2 = 5)) then
 callK (vr 75 0 [.ptr 0 0 0] (Z2 N2608 L2609 B2613)) fun V3043 B3044 =>
 asT V3043 fun X3045 =>
 asI .i64 X3045 fun X3046 =>
 consB 0 B3044 fun K3047 B3048 =>
 asVar K3047 fun L3049 =>
 consV L3049 fun V3050 L3051 =>
 asT V3050 fun X3052 =>
 asL 3 X3052 fun N3053 L3054 =>
 consV L3051 fun V3055 L3056 =>
 asT V3055 fun X3057 =>
 asB X3057 fun B3058 =>
 endV L3056 <|
 endB B3048 <|
(bif (decide (m9_3 = 1)) then
 callK (vr 74 0 [.ptr 0 0 0, .t (.str ⟨#[114]⟩)] (Z2 N3053 L3054 B3058)) fun V3059 B3060 =>
 asT V3059 fun X3061 =>
 asI .i64 X3061 fun X3062 =>
 consB 0 B3060 fun K3063 B3064 =>
 asVar K3063 fun L3065 =>
 consV L3065 fun V3066 L3067 =>
 asT V3066 fun X3068 =>
 asL 3 X3068 fun N3069 L3070 =>
 consV L3067 fun V3071 L3072 =>
 asT V3071 fun X3073 =>
 asB X3073 fun B3074 =>
 endV L3072 <|
 endB B3064 <|
 Z0 X16 X20 X24 X3062 X3046 N3069 L3070 B3074
else
(bif (decide (m9_3 = 2)) then
 callK (vr 74 0 [.ptr 0 0 0, .t (.str ⟨#[114]⟩)] (Z2 N3053 L3054 B3058)) fun V3075 B3076 =>
 asT V3075 fun X3077 =>
 asI .i64 X3077 fun X3078 =>
 consB 0 B3076 fun K3079 B3080 =>
 asVar K3079 fun L3081 =>
 consV L3081 fun V3082 L3083 =>
 asT V3082 fun X3084 =>
 asL 3 X3084 fun N3085 L3086 =>
 consV L3083 fun V3087 L3088 =>
 asT V3087 fun X3089 =>
 asB X3089 fun B3090 =>
 endV L3088 <|
 endB B3080 <|
 Z0 X16 X20 X24 X3078 X3046 N3085 L3086 B3090
else
(bif (decide (m9_3 = 3)) then
 callK (vr 74 0 [.ptr 0 0 0, .t (.str ⟨#[97]⟩)] (Z2 N3053 L3054 B3058)) fun V3091 B3092 =>
 asT V3091 fun X3093 =>
 asI .i64 X3093 fun X3094 =>
 consB 0 B3092 fun K3095 B3096 =>
 asVar K3095 fun L3097 =>
 consV L3097 fun V3098 L3099 =>
 asT V3098 fun X3100 =>
 asL 3 X3100 fun N3101 L3102 =>
 consV L3099 fun V3103 L3104 =>
 asT V3103 fun X3105 =>
 asB X3105 fun B3106 =>
 endV L3104 <|
 endB B3096 <|
 Z0 X16 X20 X24 X3094 X3046 N3101 L3102 B3106
else
(bif (decide (m9_3 = 4)) then
 callK (vr 54 0 [.ptr 0 0 0, .t (.int .i64 2)] (Z2 N3053 L3054 B3058)) fun V3107 B3108 =>
 asT V3107 fun X3109 =>
 asA X3109 fun L3110 =>
 consT L3110 fun V3111 L3112 =>
 asI .i64 V3111 fun X3113 =>
 consT L3112 fun V3114 L3115 =>
 asS V3114 fun S3116 =>
 consT L3115 fun V3117 L3118 =>
 asI .i64 V3117 fun X3119 =>
 endT L3118 <|
 consB 0 B3108 fun K3120 B3121 =>
 asVar K3120 fun L3122 =>
 consV L3122 fun V3123 L3124 =>
 asT V3123 fun X3125 =>
 asL 3 X3125 fun N3126 L3127 =>
 consV L3124 fun V3128 L3129 =>
 asT V3128 fun X3130 =>
 asB X3130 fun B3131 =>
 endV L3129 <|
 endB B3121 <|
 Z0 X16 X20 X24 X3119 X3046 N3126 L3127 B3131
else
(bif (decide (m9_3 = 5)) then
 callK (vr 75 0 [.ptr 0 0 0] (Z2 N3053 L3054 B3058)) fun V3132 B3133 =>
 asT V3132 fun X3134 =>
 asI .i64 X3134 fun X3135 =>
 consB 0 B3133 fun K3136 B3137 =>
 asVar K3136 fun L3138 =>
 consV L3138 fun V3139 L3140 =>
 asT V3139 fun X3141 =>
 asL 3 X3141 fun N3142 L3143 =>
 consV L3140 fun V3144 L3145 =>
 asT V3144 fun X3146 =>
 asB X3146 fun B3147 =>
 endV L3145 <|
 endB B3137 <|
 Z0 X16 X20 X24 X28 X3135 N3142 L3143 B3147
else
 Z0 X16 X20 X24 X28 X3046 N3053 L3054 B3058)))))
else
(bif (decide (m9_3 = 1)) then
 callK (vr 74 0 [.ptr 0 0 0, .t (.str ⟨#[114]⟩)] (Z2 N2608 L2609 B2613)) fun V3148 B3149 =>
 asT V3148 fun X3150 =>
 asI .i64 X3150 fun X3151 =>
 consB 0 B3149 fun K3152 B3153 =>
 asVar K3152 fun L3154 =>
 consV L3154 fun V3155 L3156 =>
 asT V3155 fun X3157 =>
 asL 3 X3157 fun N3158 L3159 =>
 consV L3156 fun V3160 L3161 =>
 asT V3160 fun X3162 =>
 asB X3162 fun B3163 =>
 endV L3161 <|
 endB B3153 <|
 Z0 X16 X20 X24 X3151 X2601 N3158 L3159 B3163
else
(bif (decide (m9_3 = 2)) then
 callK (vr 74 0 [.ptr 0 0 0, .t (.str ⟨#[114]⟩)] (Z2 N2608 L2609 B2613)) fun V3164 B3165 =>
 asT V3164 fun X3166 =>
 asI .i64 X3166 fun X3167 =>
 consB 0 B3165 fun K3168 B3169 =>
 asVar K3168 fun L3170 =>
 consV L3170 fun V3171 L3172 =>
 asT V3171 fun X3173 =>
 asL 3 X3173 fun N3174 L3175 =>
 consV L3172 fun V3176 L3177 =>
 asT V3176 fun X3178 =>
 asB X3178 fun B3179 =>
 endV L3177 <|
 endB B3169 <|
 Z0 X16 X20 X24 X3167 X2601 N3174 L3175 B3179
else
(bif (decide (m9_3 = 3)) then
 callK (vr 74 0 [.ptr 0 0 0, .t (.str ⟨#[97]⟩)] (Z2 N2608 L2609 B2613)) fun V3180 B3181 =>
 asT V3180 fun X3182 =>
 asI .i64 X3182 fun X3183 =>
 consB 0 B3181 fun K3184 B3185 =>
 asVar K3184 fun L3186 =>
 consV L3186 fun V3187 L3188 =>
 asT V3187 fun X3189 =>
 asL 3 X3189 fun N3190 L3191 =>
 consV L3188 fun V3192 L3193 =>
 asT V3192 fun X3194 =>
 asB X3194 fun B3195 =>
 endV L3193 <|
 endB B3185 <|
 Z0 X16 X20 X24 X3183 X2601 N3190 L3191 B3195
else
(bif (decide (m9_3 = 4)) then
 callK (vr 54 0 [.ptr 0 0 0, .t (.int .i64 2)] (Z2 N2608 L2609 B2613)) fun V3196 B3197 =>
 asT V3196 fun X3198 =>
 asA X3198 fun L3199 =>
 consT L3199 fun V3200 L3201 =>
 asI .i64 V3200 fun X3202 =>
 consT L3201 fun V3203 L3204 =>
 asS V3203 fun S3205 =>
 consT L3204 fun V3206 L3207 =>
 asI .i64 V3206 fun X3208 =>
 endT L3207 <|
 consB 0 B3197 fun K3209 B3210 =>
 asVar K3209 fun L3211 =>
 consV L3211 fun V3212 L3213 =>
 asT V3212 fun X3214 =>
 asL 3 X3214 fun N3215 L3216 =>
 consV L3213 fun V3217 L3218 =>
 asT V3217 fun X3219 =>
 asB X3219 fun B3220 =>
 endV L3218 <|
 endB B3210 <|
 Z0 X16 X20 X24 X3208 X2601 N3215 L3216 B3220
else
(bif (decide (m9_3 = 5)) then
 callK (vr 75 0 [.ptr 0 0 0] (Z2 N2608 L2609 B2613)) fun V3221 B3222 =>
 asT V3221 fun X3223 =>
 asI .i64 X3223 fun X3224 =>
 consB 0 B3222 fun K3225 B3226 =>
 asVar K3225 fun L3227 =>
 consV L3227 fun V3228 L3229 =>
 asT V3228 fun X3230 =>
 asL 3 X3230 fun N3231 L3232 =>
 consV L3229 fun V3233 L3234 =>
 asT V3233 fun X3235 =>
 asB X3235 fun B3236 =>
 endV L3234 <|
 endB B3226 <|
 Z0 X16 X20 X24 X28 X3224 N3231 L3232 B3236
else
 Z0 X16 X20 X24 X28 X2601 N2608 L2609 B2613))))))))))
else
(bif (decide (m9_2 = 1)) then
 callK (vr 74 0 [.ptr 0 0 0, .t (.str ⟨#[114]⟩)] (Z2 m0_0z m0_0 m0_1)) fun V3237 B3238 =>
 asT V3237 fun X3239 =>
 asI .i64 X3239 fun X3240 =>
 consB 0 B3238 fun K3241 B3242 =>
 asVar K3241 fun L3243 =>
 consV L3243 fun V3244 L3245 =>
 asT V3244 fun X3246 =>
 asL 3 X3246 fun N3247 L3248 =>
 consV L3245 fun V3249 L3250 =>
 asT V3249 fun X3251 =>
 asB X3251 fun B3252 =>
 endV L3250 <|
 endB B3242 <|
(bif (decide (m9_3 = 1)) then
 callK (vr 74 0 [.ptr 0 0 0, .t (.str ⟨#[114]⟩)] (Z2 N3247 L3248 B3252)) fun V3253 B3254 =>
 asT V3253 fun X3255 =>
 asI .i64 X3255 fun X3256 =>
 consB 0 B3254 fun K3257 B3258 =>
 asVar K3257 fun L3259 =>
 consV L3259 fun V3260 L3261 =>
 asT V3260 fun X3262 =>
 asL 3 X3262 fun N3263 L3264 =>
 consV L3261 fun V3265 L3266 =>
 asT V3265 fun X3267 =>
 asB X3267 fun B3268 =>
 endV L3266 <|
 endB B3258 <|
 Z0 X16 X20 X3240 X3256 X32 N3263 L3264 B3268
else
(bif (decide (m9_3 = 2)) then
 callK (vr 74 0 [.ptr 0 0 0, .t (.str ⟨#[114]⟩)] (Z2 N3247 L3248 B3252)) fun V3269 B3270 =>
 asT V3269 fun X3271 =>
 asI .i64 X3271 fun X3272 =>
 consB 0 B3270 fun K3273 B3274 =>
 asVar K3273 fun L3275 =>
 consV L3275 fun V3276 L3277 =>
 asT V3276 fun X3278 =>
 asL 3 X3278 fun N3279 L3280 =>
 consV L3277 fun V3281 L3282 =>
 asT V3281 fun X3283 =>
 asB X3283 fun B3284 =>
 endV L3282 <|
 endB B3274 <|
 Z0 X16 X20 X3240 X3272 X32 N3279 L3280 B3284
else
(bif (decide (m9_3 = 3)) then
 callK (vr 74 0 [.ptr 0 0 0, .t (.str ⟨#[97]⟩)] (Z2 N3247 L3248 B3252)) fun V3285 B3286 =>
 asT V3285 fun X3287 =>
 asI .i64 X3287 fun X3288 =>
 consB 0 B3286 fun K3289 B3290 =>
 asVar K3289 fun L3291 =>
 consV L3291 fun V3292 L3293 =>
 asT V3292 fun X3294 =>
 asL 3 X3294 fun N3295 L3296 =>
 consV L3293 fun V3297 L3298 =>
 asT V3297 fun X3299 =>
 asB X3299 fun B3300 =>
 endV L3298 <|
 endB B3290 <|
 Z0 X16 X20 X3240 X3288 X32 N3295 L3296 B3300
else
(bif (decide (m9_3 = 4)) then
 callK (vr 54 0 [.ptr 0 0 0, .t (.int .i64 2)] (Z2 N3247 L3248 B3252)) fun V3301 B3302 =>
 asT V3301 fun X3303 =>
 asA X3303 fun L3304 =>
 consT L3304 fun V3305 L3306 =>
 asI .i64 V3305 fun X3307 =>
 consT L3306 fun V3308 L3309 =>
 asS V3308 fun S3310 =>
 consT L3309 fun V3311 L3312 =>
 asI .i64 V3311 fun X3313 =>
 endT L3312 <|
 consB 0 B3302 fun K3314 B3315 =>
 asVar K3314 fun L3316 =>
 consV L3316 fun V3317 L3318 =>
 asT V3317 fun X3319 =>
 asL 3 X3319 fun N3320 L3321 =>
 consV L3318 fun V3322 L3323 =>
 asT V3322 fun X3324 =>
 asB X3324 fun B3325 =>
 endV L3323 <|
 endB B3315 <|
 Z0 X16 X20 X3240 X3313 X32 N3320 L3321 B3325
else
(bif (decide (m9_3 = 5)) then
 callK (vr 75 0 [.ptr 0 0 0] (Z2 N3247 L3248 B3252)) fun V3326 B3327 =>
 asT V3326 fun X3328 =>
 asI .i64 X3328 fun X3329 =>
 consB 0 B3327 fun K3330 B3331 =>
 asVar K3330 fun L3332 =>
 consV L3332 fun V3333 L3334 =>
 asT V3333 fun X3335 =>
 asL 3 X3335 fun N3336 L3337 =>
 consV L3334 fun V3338 L3339 =>
 asT V3338 fun X3340 =>
 asB X3340 fun B3341 =>
 endV L3339 <|
 endB B3331 <|
 Z0 X16 X20 X3240 X28 X3329 N3336 L3337 B3341
else
 Z0 X16 X20 X3240 X28 X32 N3247 L3248 B3252)))))
else
(bif (decide (m9_2 = 2)) then
 callK (vr 74 0 [.ptr 0 0 0, .t (.str ⟨#[114]⟩)] (Z2 m0_0z m0_0 m0_1)) fun V3342 B3343 =>
 asT V3342 fun X3344 =>
 asI .i64 X3344 fun X3345 =>
 consB 0 B3343 fun K3346 B3347 =>
 asVar K3346 fun L3348 =>
 consV L3348 fun V3349 L3350 =>
 asT V3349 fun X3351 =>
 asL 3 X3351 fun N3352 L3353 =>
 consV L3350 fun V3354 L3355 =>
 asT V3354 fun X3356 =>
 asB X3356 fun B3357 =>
 endV L3355 <|
 endB B3347 <|
(bif (decide (m9_3 = 1)) then
 callK (vr 74 0 [.ptr 0 0 0, .t (.str ⟨#[114]⟩)] (Z2 N3352 L3353 B3357)) fun V3358 B3359 =>
 asT V3358 fun X3360 =>
 asI .i64 X3360 fun X3361 =>
 consB 0 B3359 fun K3362 B3363 =>
 asVar K3362 fun L3364 =>
 consV L3364 fun V3365 L3366 =>
 asT V3365 fun X3367 =>
 asL 3 X3367 fun N3368 L3369 =>
 consV L3366 fun V3370 L3371 =>
 asT V3370 fun X3372 =>
 asB X3372 fun B3373 =>
 endV L3371 <|
 endB B3363 <|
 Z0 X16 X20 X3345 X3361 X32 N3368 L3369 B3373
else
(bif (decide (m9_3 = 2)) then
 callK (vr 74 0 [.ptr 0 0 0, .t (.str ⟨#[114]⟩)] (Z2 N3352 L3353 B3357)) fun V3374 B3375 =>
 asT V3374 fun X3376 =>
 asI .i64 X3376 fun X3377 =>
 consB 0 B3375 fun K3378 B3379 =>
 asVar K3378 fun L3380 =>
 consV L3380 fun V3381 L3382 =>
 asT V3381 fun X3383 =>
 asL 3 X3383 fun N3384 L3385 =>
 consV L3382 fun V3386 L3387 =>
 asT V3386 fun X3388 =>
 asB X3388 fun B3389 =>
 endV L3387 <|
 endB B3379 <|
 Z0 X16 X20 X3345 X3377 X32 N3384 L3385 B3389
else
(bif (decide (m9_3 = 3)) then
 callK (vr 74 0 [.ptr 0 0 0, .t (.str ⟨#[97]⟩)] (Z2 N3352 L3353 B3357)) fun V3390 B3391 =>
 asT V3390 fun X3392 =>
 asI .i64 X3392 fun X3393 =>
 consB 0 B3391 fun K3394 B3395 =>
 asVar K3394 fun L3396 =>
 consV L3396 fun V3397 L3398 =>
 asT V3397 fun X3399 =>
 asL 3 X3399 fun N3400 L3401 =>
 consV L3398 fun V3402 L3403 =>
 asT V3402 fun X3404 =>
 asB X3404 fun B3405 =>
 endV L3403 <|
 endB B3395 <|
 Z0 X16 X20 X3345 X3393 X32 N3400 L3401 B3405
else
(bif (decide (m9_3 = 4)) then
 callK (vr 54 0 [.ptr 0 0 0, .t (.int .i64 2)] (Z2 N3352 L3353 B3357)) fun V3406 B3407 =>
 asT V3406 fun X3408 =>
 asA X3408 fun L3409 =>
 consT L3409 fun V3410 L3411 =>
 asI .i64 V3410 fun X3412 =>
 consT L3411 fun V3413 L3414 =>
 asS V3413 fun S3415 =>
 consT L3414 fun V3416 L3417 =>
 asI .i64 V3416 fun X3418 =>
 endT L3417 <|
 consB 0 B3407 fun K3419 B3420 =>
 asVar K3419 fun L3421 =>
 consV L3421 fun V3422 L3423 =>
 asT V3422 fun X3424 =>
 asL 3 X3424 fun N3425 L3426 =>
 consV L3423 fun V3427 L3428 =>
 asT V3427 fun X3429 =>
 asB X3429 fun B3430 =>
 endV L3428 <|
 endB B3420 <|
 Z0 X16 X20 X3345 X3418 X32 N3425 L3426 B3430
else
(bif (decide (m9_3 = 5)) then
 callK (vr 75 0 [.ptr 0 0 0] (Z2 N3352 L3353 B3357)) fun V3431 B3432 =>
 asT V3431 fun X3433 =>
 asI .i64 X3433 fun X3434 =>
 consB 0 B3432 fun K3435 B3436 =>
 asVar K3435 fun L3437 =>
 consV L3437 fun V3438 L3439 =>
 asT V3438 fun X3440 =>
 asL 3 X3440 fun N3441 L3442 =>
 consV L3439 fun V3443 L3444 =>
 asT V3443 fun X3445 =>
 asB X3445 fun B3446 =>
 endV L3444 <|
 endB B3436 <|
 Z0 X16 X20 X3345 X28 X3434 N3441 L3442 B3446
else
 Z0 X16 X20 X3345 X28 X32 N3352 L3353 B3357)))))
else
(bif (decide (m9_2 = 3)) then
 callK (vr 74 0 [.ptr 0 0 0, .t (.str ⟨#[97]⟩)] (Z2 m0_0z m0_0 m0_1)) fun V3447 B3448 =>
 asT V3447 fun X3449 =>
 asI .i64 X3449 fun X3450 =>
 consB 0 B3448 fun K3451 B3452 =>
 asVar K3451 fun L3453 =>
 consV L3453 fun V3454 L3455 =>
 asT V3454 fun X3456 =>
 asL 3 X3456 fun N3457 L3458 =>
 consV L3455 fun V3459 L3460 =>
 asT V3459 fun X3461 =>
 asB X3461 fun B3462 =>
 endV L3460 <|
 endB B3452 <|
(bif (decide (m9_3 = 1)) then
 callK (vr 74 0 [.ptr 0 0 0, .t (.str ⟨#[114]⟩)] (Z2 N3457 L3458 B3462)) fun V3463 B3464 =>
 asT V3463 fun X3465 =>
 asI .i64 X3465 fun X3466 =>
 consB 0 B3464 fun K3467 B3468 =>
 asVar K3467 fun L3469 =>
 consV L3469 fun V3470 L3471 =>
 asT V3470 fun X3472 =>
 asL 3 X3472 fun N3473 L3474 =>
 consV L3471 fun V3475 L3476 =>
 asT V3475 fun X3477 =>
 asB X3477 fun B3478 =>
 endV L3476 <|
 endB B3468 <|
 Z0 X16 X20 X3450 X3466 X32 N3473 L3474 B3478
else
(bif (decide (m9_3 = 2)) then
 callK (vr 74 0 [.ptr 0 0 0, .t (.str ⟨#[114]⟩)] (Z2 N3457 L3458 B3462)) fun V3479 B3480 =>
 asT V3479 fun X3481 =>
 asI .i64 X3481 fun X3482 =>
 consB 0 B3480 fun K3483 B3484 =>
 asVar K3483 fun L3485 =>
 consV L3485 fun V3486 L3487 =>
 asT V3486 fun X3488 =>
 asL 3 X3488 fun N3489 L3490 =>
 consV L3487 fun V3491 L3492 =>
 asT V3491 fun X3493 =>
 asB X3493 fun B3494 =>
 endV L3492 <|
 endB B3484 <|
 Z0 X16 X20 X3450 X3482 X32 N3489 L3490 B3494
else
(bif (decide (m9_3 = 3)) then
 callK (vr 74 0 [.ptr 0 0 0, .t (.str ⟨#[97]⟩)] (Z2 N3457 L3458 B3462)) fun V3495 B3496 =>
 asT V3495 fun X3497 =>
 asI .i64 X3497 fun X3498 =>
 consB 0 B3496 fun K3499 B3500 =>
 asVar K3499 fun L3501 =>
 consV L3501 fun V3502 L3503 =>
 asT V3502 fun X3504 =>
 asL 3 X3504 fun N3505 L3506 =>
 consV L3503 fun V3507 L3508 =>
 asT V3507 fun X3509 =>
 asB X3509 fun B3510 =>
 endV L3508 <|
 endB B3500 <|
 Z0 X16 X20 X3450 X3498 X32 N3505 L3506 B3510
else
(bif (decide (m9_3 = 4)) then
 callK (vr 54 0 [.ptr 0 0 0, .t (.int .i64 2)] (Z2 N3457 L3458 B3462)) fun V3511 B3512 =>
 asT V3511 fun X3513 =>
 asA X3513 fun L3514 =>
 consT L3514 fun V3515 L3516 =>
 asI .i64 V3515 fun X3517 =>
 consT L3516 fun V3518 L3519 =>
 asS V3518 fun S3520 =>
 consT L3519 fun V3521 L3522 =>
 asI .i64 V3521 fun X3523 =>
 endT L3522 <|
 consB 0 B3512 fun K3524 B3525 =>
 asVar K3524 fun L3526 =>
 consV L3526 fun V3527 L3528 =>
 asT V3527 fun X3529 =>
 asL 3 X3529 fun N3530 L3531 =>
 consV L3528 fun V3532 L3533 =>
 asT V3532 fun X3534 =>
 asB X3534 fun B3535 =>
 endV L3533 <|
 endB B3525 <|
 Z0 X16 X20 X3450 X3523 X32 N3530 L3531 B3535
else
(bif (decide (m9_3 = 5)) then
 callK (vr 75 0 [.ptr 0 0 0] (Z2 N3457 L3458 B3462)) fun V3536 B3537 =>
 asT V3536 fun X3538 =>
 asI .i64 X3538 fun X3539 =>
 consB 0 B3537 fun K3540 B3541 =>
 asVar K3540 fun L3542 =>
 consV L3542 fun V3543 L3544 =>
 asT V3543 fun X3545 =>
 asL 3 X3545 fun N3546 L3547 =>
 consV L3544 fun V3548 L3549 =>
 asT V3548 fun X3550 =>
 asB X3550 fun B3551 =>
 endV L3549 <|
 endB B3541 <|
 Z0 X16 X20 X3450 X28 X3539 N3546 L3547 B3551
else
 Z0 X16 X20 X3450 X28 X32 N3457 L3458 B3462)))))
else
(bif (decide (m9_2 = 4)) then
 callK (vr 54 0 [.ptr 0 0 0, .t (.int .i64 2)] (Z2 m0_0z m0_0 m0_1)) fun V3552 B3553 =>
 asT V3552 fun X3554 =>
 asA X3554 fun L3555 =>
 consT L3555 fun V3556 L3557 =>
 asI .i64 V3556 fun X3558 =>
 consT L3557 fun V3559 L3560 =>
 asS V3559 fun S3561 =>
 consT L3560 fun V3562 L3563 =>
 asI .i64 V3562 fun X3564 =>
 endT L3563 <|
 consB 0 B3553 fun K3565 B3566 =>
 asVar K3565 fun L3567 =>
 consV L3567 fun V3568 L3569 =>
 asT V3568 fun X3570 =>
 asL 3 X3570 fun N3571 L3572 =>
 consV L3569 fun V3573 L3574 =>
 asT V3573 fun X3575 =>
 asB X3575 fun B3576 =>
 endV L3574 <|
 endB B3566 <|
(bif (decide (m9_3 = 1)) then
 callK (vr 74 0 [.ptr 0 0 0, .t (.str ⟨#[114]⟩)] (Z2 N3571 L3572 B3576)) fun V3577 B3578 =>
 asT V3577 fun X3579 =>
 asI .i64 X3579 fun X3580 =>
 consB 0 B3578 fun K3581 B3582 =>
 asVar K3581 fun L3583 =>
 consV L3583 fun V3584 L3585 =>
 asT V3584 fun X3586 =>
 asL 3 X3586 fun N3587 L3588 =>
 consV L3585 fun V3589 L3590 =>
 asT V3589 fun X3591 =>
 asB X3591 fun B3592 =>
 endV L3590 <|
 endB B3582 <|
 Z0 X16 X20 X3564 X3580 X32 N3587 L3588 B3592
else
(bif (decide (m9_3 = 2)) then
 callK (vr 74 0 [.ptr 0 0 0, .t (.str ⟨#[114]⟩)] (Z2 N3571 L3572 B3576)) fun V3593 B3594 =>
 asT V3593 fun X3595 =>
 asI .i64 X3595 fun X3596 =>
 consB 0 B3594 fun K3597 B3598 =>
 asVar K3597 fun L3599 =>
 consV L3599 fun V3600 L3601 =>
 asT V3600 fun X3602 =>
 asL 3 X3602 fun N3603 L3604 =>
 consV L3601 fun V3605 L3606 =>
 asT V3605 fun X3607 =>
 asB X3607 fun B3608 =>
 endV L3606 <|
 endB B3598 <|
 Z0 X16 X20 X3564 X3596 X32 N3603 L3604 B3608
else
(bif (decide (m9_3 = 3)) then
 callK (vr 74 0 [.ptr 0 0 0, .t (.str ⟨#[97]⟩)] (Z2 N3571 L3572 B3576)) fun V3609 B3610 =>
 asT V3609 fun X3611 =>
 asI .i64 X3611 fun X3612 =>
 consB 0 B3610 fun K3613 B3614 =>
 asVar K3613 fun L3615 =>
 consV L3615 fun V3616 L3617 =>
 asT V3616 fun X3618 =>
 asL 3 X3618 fun N3619 L3620 =>
 consV L3617 fun V3621 L3622 =>
 asT V3621 fun X3623 =>
 asB X3623 fun B3624 =>
 endV L3622 <|
 endB B3614 <|
 Z0 X16 X20 X3564 X3612 X32 N3619 L3620 B3624
else
(bif (decide (m9_3 = 4)) then
 callK (vr 54 0 [.ptr 0 0 0, .t (.int .i64 2)] (Z2 N3571 L3572 B3576)) fun V3625 B3626 =>
 asT V3625 fun X3627 =>
 asA X3627 fun L3628 =>
 consT L3628 fun V3629 L3630 =>
 asI .i64 V3629 fun X3631 =>
 consT L3630 fun V3632 L3633 =>
 asS V3632 fun S3634 =>
 consT L3633 fun V3635 L3636 =>
 asI .i64 V3635 fun X3637 =>
 endT L3636 <|
 consB 0 B3626 fun K3638 B3639 =>
 asVar K3638 fun L3640 =>
 consV L3640 fun V3641 L3642 =>
 asT V3641 fun X3643 =>
 asL 3 X3643 fun N3644 L3645 =>
 consV L3642 fun V3646 L3647 =>
 asT V3646 fun X3648 =>
 asB X3648 fun B3649 =>
 endV L3647 <|
 endB B3639 <|
 Z0 X16 X20 X3564 X3637 X32 N3644 L3645 B3649
else
(bif (decide (m9_3 = 5)) then
 callK (vr 75 0 [.ptr 0 0 0] (Z2 N3571 L3572 B3576)) fun V3650 B3651 =>
 asT V3650 fun X3652 =>
 asI .i64 X3652 fun X3653 =>
 consB 0 B3651 fun K3654 B3655 =>
 asVar K3654 fun L3656 =>
 consV L3656 fun V3657 L3658 =>
 asT V3657 fun X3659 =>
 asL 3 X3659 fun N3660 L3661 =>
 consV L3658 fun V3662 L3663 =>
 asT V3662 fun X3664 =>
 asB X3664 fun B3665 =>
 endV L3663 <|
 endB B3655 <|
 Z0 X16 X20 X3564 X28 X3653 N3660 L3661 B3665
else
 Z0 X16 X20 X3564 X28 X32 N3571 L3572 B3576)))))
else
(bif (decide (m9_2 = 5)) then
 callK (vr 75 0 [.ptr 0 0 0] (Z2 m0_0z m0_0 m0_1)) fun V3666 B3667 =>
 asT V3666 fun X3668 =>
 asI .i64 X3668 fun X3669 =>
 consB 0 B3667 fun K3670 B3671 =>
 asVar K3670 fun L3672 =>
 consV L3672 fun V3673 L3674 =>
 asT V3673 fun X3675 =>
 asL 3 X3675 fun N3676 L3677 =>
 consV L3674 fun V3678 L3679 =>
 asT V3678 fun X3680 =>
 asB X3680 fun B3681 =>
 endV L3679 <|
 endB B3671 <|
(bif (decide (m9_3 = 1)) then
 callK (vr 74 0 [.ptr 0 0 0, .t (.str ⟨#[114]⟩)] (Z2 N3676 L3677 B3681)) fun V3682 B3683 =>
 asT V3682 fun X3684 =>
 asI .i64 X3684 fun X3685 =>
 consB 0 B3683 fun K3686 B3687 =>
 asVar K3686 fun L3688 =>
 consV L3688 fun V3689 L3690 =>
 asT V3689 fun X3691 =>
 asL 3 X3691 fun N3692 L3693 =>
 consV L3690 fun V3694 L3695 =>
 asT V3694 fun X3696 =>
 asB X3696 fun B3697 =>
 endV L3695 <|
 endB B3687 <|
 Z0 X16 X20 X24 X3685 X3669 N3692 L3693 B3697
else
(bif (decide (m9_3 = 2)) then
 callK (vr 74 0 [.ptr 0 0 0, .t (.str ⟨#[114]⟩)] (Z2 N3676 L3677 B3681)) fun V3698 B3699 =>
 asT V3698 fun X3700 =>
 asI .i64 X3700 fun X3701 =>
 consB 0 B3699 fun K3702 B3703 =>
 asVar K3702 fun L3704 =>
 consV L3704 fun V3705 L3706 =>
 asT V3705 fun X3707 =>
 asL 3 X3707 fun N3708 L3709 =>
 consV L3706 fun V3710 L3711 =>
 asT V3710 fun X3712 =>
 asB X3712 fun B3713 =>
 endV L3711 <|
 endB B3703 <|
 Z0 X16 X20 X24 X3701 X3669 N3708 L3709 B3713
else
(bif (decide (m9_3 = 3)) then
 callK (vr 74 0 [.ptr 0 0 0, .t (.str ⟨#[97]⟩)] (Z2 N3676 L3677 B3681)) fun V3714 B3715 =>
 asT V3714 fun X3716 =>
 asI .i64 X3716 fun X3717 =>
 consB 0 B3715 fun K3718 B3719 =>
 asVar K3718 fun L3720 =>
 consV L3720 fun V3721 L3722 =>
 asT V3721 fun X3723 =>
 asL 3 X3723 fun N3724 L3725 =>
 consV L3722 fun V3726 L3727 =>
 asT V3726 fun X3728 =>
 asB X3728 fun B3729 =>
 endV L3727 <|
 endB B3719 <|
 Z0 X16 X20 X24 X3717 X3669 N3724 L3725 B3729
else
(bif (decide (m9_3 = 4)) then
 callK (vr 54 0 [.ptr 0 0 0, .t (.int .i64 2)] (Z2 N3676 L3677 B3681)) fun V3730 B3731 =>
 asT V3730 fun X3732 =>
 asA X3732 fun L3733 =>
 consT L3733 fun V3734 L3735 =>
 asI .i64 V3734 fun X3736 =>
 consT L3735 fun V3737 L3738 =>
 asS V3737 fun S3739 =>
 consT L3738 fun V3740 L3741 =>
 asI .i64 V3740 fun X3742 =>
 endT L3741 <|
 consB 0 B3731 fun K3743 B3744 =>
 asVar K3743 fun L3745 =>
 consV L3745 fun V3746 L3747 =>
 asT V3746 fun X3748 =>
 asL 3 X3748 fun N3749 L3750 =>
 consV L3747 fun V3751 L3752 =>
 asT V3751 fun X3753 =>
 asB X3753 fun B3754 =>
 endV L3752 <|
 endB B3744 <|
 Z0 X16 X20 X24 X3742 X3669 N3749 L3750 B3754
else
(bif (decide (m9_3 = 5)) then
 callK (vr 75 0 [.ptr 0 0 0] (Z2 N3676 L3677 B3681)) fun V3755 B3756 =>
 asT V3755 fun X3757 =>
 asI .i64 X3757 fun X3758 =>
 consB 0 B3756 fun K3759 B3760 =>
 asVar K3759 fun L3761 =>
 consV L3761 fun V3762 L3763 =>
 asT V3762 fun X3764 =>
 asL 3 X3764 fun N3765 L3766 =>
 consV L3763 fun V3767 L3768 =>
 asT V3767 fun X3769 =>
 asB X3769 fun B3770 =>
 endV L3768 <|
 endB B3760 <|
 Z0 X16 X20 X24 X28 X3758 N3765 L3766 B3770
else
 Z0 X16 X20 X24 X28 X3669 N3676 L3677 B3681)))))
else
(bif (decide (m9_3 = 1)) then
 callK (vr 74 0 [.ptr 0 0 0, .t (.str ⟨#[114]⟩)] (Z2 m0_0z m0_0 m0_1)) fun V3771 B3772 =>
 asT V3771 fun X3773 =>
 asI .i64 X3773 fun X3774 =>
 consB 0 B3772 fun K3775 B3776 =>
 asVar K3775 fun L3777 =>
 consV L3777 fun V3778 L3779 =>
 asT V3778 fun X3780 =>
 asL 3 X3780 fun N3781 L3782 =>
 consV L3779 fun V3783 L3784 =>
 asT V3783 fun X3785 =>
 asB X3785 fun B3786 =>
 endV L3784 <|
 endB B3776 <|
 Z0 X16 X20 X24 X3774 X32 N3781 L3782 B3786
else
(bif (decide (m9_3 = 2)) then
 callK (vr 74 0 [.ptr 0 0 0, .t (.str ⟨#[114]⟩)] (Z2 m0_0z m0_0 m0_1)) fun V3787 B3788 =>
 asT V3787 fun X3789 =>
 asI .i64 X3789 fun X3790 =>
 consB 0 B3788 fun K3791 B3792 =>
 asVar K3791 fun L3793 =>
 consV L3793 fun V3794 L3795 =>
 asT V3794 fun X3796 =>
 asL 3 X3796 fun N3797 L3798 =>
 consV L3795 fun V3799 L3800 =>
 asT V3799 fun X3801 =>
 asB X3801 fun B3802 =>
 endV L3800 <|
 endB B3792 <|
 Z0 X16 X20 X24 X3790 X32 N3797 L3798 B3802
else
(bif (decide (m9_3 = 3)) then
 callK (vr 74 0 [.ptr 0 0 0, .t (.str ⟨#[97]⟩)] (Z2 m0_0z m0_0 m0_1)) fun V3803 B3804 =>
 asT V3803 fun X3805 =>
 asI .i64 X3805 fun X3806 =>
 consB 0 B3804 fun K3807 B3808 =>
 asVar K3807 fun L3809 =>
 consV L3809 fun V3810 L3811 =>
 asT V3810 fun X3812 =>
 asL 3 X3812 fun N3813 L3814 =>
 consV L3811 fun V3815 L3816 =>
 asT V3815 fun X3817 =>
 asB X3817 fun B3818 =>
 endV L3816 <|
 endB B3808 <|
 Z0 X16 X20 X24 X3806 X32 N3813 L3814 B3818
else
(bif (decide (m9_3 = 4)) then
 callK (vr 54 0 [.ptr 0 0 0, .t (.int .i64 2)] (Z2 m0_0z m0_0 m0_1)) fun V3819 B3820 =>
 asT V3819 fun X3821 =>
 asA X3821 fun L3822 =>
 consT L3822 fun V3823 L3824 =>
 asI .i64 V3823 fun X3825 =>
 consT L3824 fun V3826 L3827 =>
 asS V3826 fun S3828 =>
 consT L3827 fun V3829 L3830 =>
 asI .i64 V3829 fun X3831 =>
 endT L3830 <|
 consB 0 B3820 fun K3832 B3833 =>
 asVar K3832 fun L3834 =>
 consV L3834 fun V3835 L3836 =>
 asT V3835 fun X3837 =>
 asL 3 X3837 fun N3838 L3839 =>
 consV L3836 fun V3840 L3841 =>
 asT V3840 fun X3842 =>
 asB X3842 fun B3843 =>
 endV L3841 <|
 endB B3833 <|
 Z0 X16 X20 X24 X3831 X32 N3838 L3839 B3843
else
(bif (decide (m9_3 = 5)) then
 callK (vr 75 0 [.ptr 0 0 0] (Z2 m0_0z m0_0 m0_1)) fun V3844 B3845 =>
 asT V3844 fun X3846 =>
 asI .i64 X3846 fun X3847 =>
 consB 0 B3845 fun K3848 B3849 =>
 asVar K3848 fun L3850 =>
 consV L3850 fun V3851 L3852 =>
 asT V3851 fun X3853 =>
 asL 3 X3853 fun N3854 L3855 =>
 consV L3852 fun V3856 L3857 =>
 asT V3856 fun X3858 =>
 asB X3858 fun B3859 =>
 endV L3857 <|
 endB B3849 <|
 Z0 X16 X20 X24 X28 X3847 N3854 L3855 B3859
else
 Z0 X16 X20 X24 X28 X32 m0_0z m0_0 m0_1)))))))))))))))
theorem J55_6g (KJ55_6 : Env → St → Option Res) (m0_0z : Bool) (m0_0 : List T) (m0_1 : Bool) (m8_0 m8_1 m8_2 m8_3 m8_4 : Int) (m9_0 : ByteArray) (m9_1 m9_2 m9_3 : Int) : WJ55_6 (fun e st => gP 55 0 62 Try.f55 (Ta55 KJ55_6) PaJ55_6 e st) m0_0z m0_0 m0_1 m8_0 m8_1 m8_2 m8_3 m8_4 m9_0 m9_1 m9_2 m9_3 = RJ55_6 (WJ55_6 KJ55_6) m0_0z m0_0 m0_1 m8_0 m8_1 m8_2 m8_3 m8_4 m9_0 m9_1 m9_2 m9_3 := by kernel_rfl
theorem J55_6_eq (m0_0z : Bool) (m0_0 : List T) (m0_1 : Bool) (m8_0 m8_1 m8_2 m8_3 m8_4 : Int) (m9_0 : ByteArray) (m9_1 m9_2 m9_3 : Int) : J55_6 m0_0z m0_0 m0_1 m8_0 m8_1 m8_2 m8_3 m8_4 m9_0 m9_1 m9_2 m9_3 = RJ55_6 J55_6 m0_0z m0_0 m0_1 m8_0 m8_1 m8_2 m8_3 m8_4 m9_0 m9_1 m9_2 m9_3 :=
  (congrArg (fun k => WJ55_6 k m0_0z m0_0 m0_1 m8_0 m8_1 m8_2 m8_3 m8_4 m9_0 m9_1 m9_2 m9_3) (funext fun e => funext fun st => join_eq Try.prog hint (fn := Try.f55) (nt := 62) (T := (Ta55 VJ55_6)) [PaJ55_6] rfl PaJ55_6 e st rfl)).trans (J55_6g VJ55_6 m0_0z m0_0 m0_1 m8_0 m8_1 m8_2 m8_3 m8_4 m9_0 m9_1 m9_2 m9_3)
end Go.Proofs.Ytgkdkjjohknfpaa.VM
