/- The equations of the functions, as the small evaluator gives them (printed by vgen.py). Conditions: none. -/
import Derived.Test.YtifkgdmiojnllaaVmD
import Derived.Test.YtifkgdmiojnllaaProg
set_option linter.all false
set_option linter.all false
namespace Go.Proofs.Ytifkgdmiojnllaa.VM
open Go AM
def normTab : List (Nat × Nat × List (Nat × Norm)) := [
 (53, 0, [(2, { slots := [(0, 0), (3, 0)], cells := [] })]),
 (77, 0, [(4, { slots := [(0, 0), (2, 0), (23, 0), (24, 0)], cells := [] })]),
 (28, 0, [(6, { slots := [(0, 0), (5, 5), (6, 0), (7, 0)], cells := [] }), (21, { slots := [(0, 0), (5, 0), (6, 0), (7, 0), (8, 0)], cells := [] }), (26, { slots := [(0, 0), (5, 0), (7, 0), (8, 0), (9, 0)], cells := [] }), (28, { slots := [(0, 0), (5, 0)], cells := [] })]),
 (55, 0, [(2, { slots := [(0, 0), (1, 0), (7, 0), (8, 0)], cells := [] })]),
 (29, 0, [(2, { slots := [(0, 0), (3, 3)], cells := [] })]),
 (58, 0, [(2, { slots := [(0, 0), (1, 0), (7, 0), (8, 0)], cells := [] })]),
 (31, 0, [(6, { slots := [(0, 0), (2, 0), (4, 0)], cells := [] }), (7, { slots := [(0, 0), (2, 0), (4, 0), (26, 0), (27, 0)], cells := [] })]),
 (37, 0, [(4, { slots := [(2, 0), (5, 0), (6, 0), (7, 0), (26, 0), (27, 0)], cells := [] })]),
 (68, 0, [(2, { slots := [(0, 0), (1, 0), (7, 0), (8, 0)], cells := [] })]),
 (10, 0, [(8, { slots := [(2, 0), (8, 0), (30, 0), (31, 0), (32, 0)], cells := [(2, 3, 7)] }), (17, { slots := [(2, 0), (8, 0), (9, 0), (11, 0), (30, 0), (31, 0), (32, 0)], cells := [] })]),
 (69, 0, [(1, { slots := [(0, 3), (2, 0), (3, 0)], cells := [] })]),
 (42, 0, [(5, { slots := [(0, 0), (3, 3), (4, 0)], cells := [] })]),
 (21, 0, [(6, { slots := [(1, 0), (5, 0), (27, 0), (28, 0), (29, 0)], cells := [] }), (11, { slots := [(5, 0), (38, 0), (39, 0), (40, 0)], cells := [] }), (16, { slots := [(5, 0), (9, 0), (10, 0), (38, 0), (39, 0), (40, 0), (57, 0), (58, 0)], cells := [] })]),
 (40, 0, [(4, { slots := [(0, 0), (1, 0), (12, 0), (13, 0)], cells := [] })]),
 (6, 0, [(9, { slots := [(1, 0), (2, 0), (5, 0)], cells := [] })]),
 (15, 0, [(3, { slots := [(2, 0), (3, 0), (13, 0), (14, 0)], cells := [] })]),
 (7, 0, [(10, { slots := [(1, 0), (3, 0), (4, 0), (6, 0), (7, 0), (8, 0)], cells := [] }), (15, { slots := [(1, 0), (3, 0), (4, 0), (6, 0), (8, 0), (9, 0), (10, 0)], cells := [] }), (27, { slots := [(1, 0), (3, 0), (4, 0), (6, 0), (8, 0), (9, 0), (12, 0)], cells := [] })])]
def callTab : List (Nat × Nat × List (Nat × Nat × CallH)) := [
 (10, 0, [(12, 2, { w := 0, own := [], pre := [], out := (.one (.t (.agg [.int .i64, .str, .int .i64]))), blks := [(0, .var [.t (.list 3), .t .bool])] }), (13, 1, { w := 0, own := [], pre := [], out := (.one (.t (.agg [.int .i64, .str, .int .i64]))), blks := [(0, .var [.t (.list 3), .t .bool])] }), (14, 1, { w := 0, own := [], pre := [], out := (.one (.t (.agg [.int .i64, .str, .int .i64]))), blks := [(0, .var [.t (.list 3), .t .bool])] }), (15, 1, { w := 0, own := [], pre := [], out := (.one (.t (.agg [.int .i64, .str, .int .i64]))), blks := [(0, .var [.t (.list 3), .t .bool])] }), (16, 3, { w := 0, own := [], pre := [], out := (.one (.t (.agg [.int .i64, .int .i64, .int .i64, .int .i64, .int .i64]))), blks := [(0, .var [.t (.list 3), .t .bool])] })]),
 (14, 0, [(2, 18, { w := 0, own := [], pre := [], out := (.one (.t (.one .bool))), blks := [(0, .var [.t (.int .i64), .t (.int .i64), .t (.int .i64), .t (.list 5)])] })]),
 (15, 0, [(2, 0, { w := 0, own := [], pre := [], out := (.one (.agg [.ptr 0 0 1, .ptr 0 0 2, .ptr 0 0 3])), blks := [(0, .var [.t (.int .i64), .t (.int .i64), .t (.int .i64), .t (.int .i64), .t (.int .i64)])] })]),
 (21, 0, [(8, 2, { w := 0, own := [4], pre := [], out := (.one (.buf 500)), blks := [(500, .arr 3)] }), (15, 0, { w := 0, own := [], pre := [], out := (.one (.agg [.ptr 0 0 1, .ptr 0 0 2, .ptr 0 0 3])), blks := [(0, .var [.t (.int .i64), .t (.int .i64), .t (.int .i64), .t (.int .i64), .t (.int .i64)])] }), (25, 4, { w := 0, own := [4], pre := [], out := (.one (.buf 500)), blks := [(500, .arr 3)] }), (27, 3, { w := 0, own := [4], pre := [], out := (.one (.buf 500)), blks := [(500, .arr 3)] })]),
 (31, 0, [(1, 1, { w := 0, own := [], pre := [], out := (.one (.t (.agg [.int .i64, .str, .int .i64]))), blks := [(0, .var [.t (.list 3), .t .bool])] }), (2, 2, { w := 0, own := [], pre := [], out := (.one (.t (.one (.int .i64)))), blks := [(0, .var [.t .str])] }), (6, 0, { w := 0, own := [], pre := [], out := (.one (.agg [.ptr 0 0 1, .ptr 0 0 2, .ptr 0 0 3])), blks := [(0, .var [.t (.int .i64), .t (.int .i64), .t (.int .i64), .t (.int .i64), .t (.int .i64)])] }), (12, 2, { w := 0, own := [], pre := [], out := (.one (.t (.one (.int .i64)))), blks := [(0, .var [.t (.list 3), .t .bool])] }), (14, 2, { w := 0, own := [], pre := [], out := (.one (.t (.one (.int .i64)))), blks := [(0, .var [.t (.list 3), .t .bool])] }), (16, 2, { w := 0, own := [], pre := [], out := (.one (.t (.agg [.int .i64, .str, .int .i64]))), blks := [(0, .var [.t (.list 3), .t .bool])] }), (18, 1, { w := 0, own := [], pre := [], out := (.one (.t (.one (.int .i64)))), blks := [(0, .var [.t (.list 3), .t .bool])] })]),
 (35, 0, [(1, 2, { w := 0, own := [], pre := [], out := (.one (.t (.one (.int .i64)))), blks := [(0, .var [.t (.int .i64), .t (.int .i64), .t (.int .i64), .t (.list 5)])] })]),
 (37, 0, [(3, 0, { w := 0, own := [], pre := [], out := (.one (.agg [.ptr 0 0 1, .ptr 0 0 2, .ptr 0 0 3])), blks := [(0, .var [.t (.int .i64), .t (.int .i64), .t (.int .i64), .t (.int .i64), .t (.int .i64)])] })]),
 (42, 0, [(10, 1, { w := 0, own := [2], pre := [], out := (.tup []), blks := [(0, .arr 1)] })]),
 (58, 0, [(4, 5, { w := 0, own := [], pre := [], out := (.one (.t (.one .bool))), blks := [(0, .var [.t .str])] })]),
 (61, 0, [(1, 1, { w := 0, own := [], pre := [], out := (.one (.t (.agg [.int .i64, .str, .int .i64]))), blks := [(0, .var [.t (.list 3), .t .bool])] })]),
 (62, 0, [(2, 1, { w := 0, own := [], pre := [], out := (.one (.t (.agg [.int .i64, .str, .int .i64]))), blks := [(0, .var [.t (.list 3), .t .bool])] }), (3, 1, { w := 0, own := [], pre := [], out := (.one (.t (.agg [.int .i64, .str, .int .i64]))), blks := [(0, .var [.t (.list 3), .t .bool])] }), (4, 1, { w := 0, own := [], pre := [], out := (.one (.t (.agg [.int .i64, .str, .int .i64]))), blks := [(0, .var [.t (.list 3), .t .bool])] })]),
 (68, 0, [(4, 5, { w := 0, own := [], pre := [], out := (.one (.t (.one .bool))), blks := [(0, .var [.t (.int .i64), .t (.int .i64), .t (.int .i64), .t (.list 5)])] })])]
def unrollTab : List (Nat × Nat × Nat) := [(15, 3, 4), (18, 16, 4), (21, 6, 4), (21, 16, 4), (31, 7, 4), (37, 4, 4)]
def ownTab : List (Nat × Nat × List Nat) := [(41, 0, [4])]
def eqtTab : List (Nat × List Value) := [(34, [.int .i64 0, .int .i64 0, .int .i64 0, .int .i64 0, .int .i64 0]), (57, [.int .i64 0, .string ByteArray.empty, .int .i64 0]), (65, [.int .i64 0, .int .i64 0, .int .i64 0])]
def ovSet : List (Nat × OvF) := [(43, ovJoin 70), (75, ovIdx)]
def hint : Hint := mkHint eqtTab normTab callTab ownTab unrollTab ovSet
noncomputable abbrev gE (f w nt : Nat) (fn : Func) (T : Tab) (args : List V) (st : St) : Option Res := codeT Try.prog hint f w nt T [] (resKV Try.prog fn (hint.own f w)) (nrm hint f w (bodyOf fn) (envV args 0) st).1 (nrm hint f w (bodyOf fn) (envV args 0) st).2 (bodyOf fn)
noncomputable abbrev gP (f w nt : Nat) (fn : Func) (T : Tab) (p : List Stp) (e : Env) (st : St) : Option Res := codeT Try.prog hint f w nt T p (ctxT Try.prog hint f w nt T [] (List.reverse p) (bodyOf fn) (resKV Try.prog fn (hint.own f w))) e st (nav (List.reverse p) (bodyOf fn))
noncomputable def vr (f w : Nat) (args : List V) (st : St) : Option (V × St) := vrun Try.prog hint f w args st
abbrev YL53_2 := ByteArray → Int → Option Res
def PaL53_2 : List Stp := [.blk, .fst, .snd, .snd]
def Ta53 (KL53_2 : Env → St → Option Res) : Tab := [(PaL53_2, KL53_2)]
def WL53_2 (k : Env → St → Option Res) (s0 : ByteArray) (n3 : Int) : Option Res := k [(0, .t (.str s0)), (3, .t (.int .i64 n3))] ⟨[], []⟩
noncomputable def VL53_2 : Env → St → Option Res := fun e st => atV Try.prog hint 53 0 Try.f53 25 (List.reverse PaL53_2) e st
noncomputable def L53_2 (s0 : ByteArray) (n3 : Int) : Option Res := WL53_2 VL53_2 s0 n3
abbrev YL77_4 := ByteArray → Int → Int → Int → Option Res
def PaL77_4 : List Stp := [.blk, .snd, .fst, .snd, .snd]
def Ta77 (KL77_4 : Env → St → Option Res) : Tab := [(PaL77_4, KL77_4)]
def WL77_4 (k : Env → St → Option Res) (s0 : ByteArray) (n2 A B : Int) : Option Res := k [(0, .t (.str s0)), (2, .t (.int .i64 n2)), (23, .t (.int .i64 A)), (24, .t (.int .i64 B))] ⟨[], []⟩
noncomputable def VL77_4 : Env → St → Option Res := fun e st => atV Try.prog hint 77 0 Try.f77 42 (List.reverse PaL77_4) e st
noncomputable def L77_4 (s0 : ByteArray) (n2 A B : Int) : Option Res := WL77_4 VL77_4 s0 n2 A B
abbrev YL28_6 := ByteArray → Bool → Int → Bool → (List T) → Option Res
abbrev YJ28_28 := ByteArray → Bool → (List T) → Option Res
abbrev YJ28_21 := ByteArray → Bool → Int → Int → Bool → (List T) → Option Res
abbrev YJ28_26 := ByteArray → Int → Int → Bool → (List T) → Int → ByteArray → Int → Option Res
def PaL28_6 : List Stp := [.blk, .fst, .snd, .snd, .snd, .snd, .snd, .blk, .snd]
def PaJ28_28 : List Stp := [.snd, .snd, .snd, .snd, .snd, .snd, .blk, .snd]
def PaJ28_21 : List Stp := [.snd, .snd, .blk, .snd, .lp, .blk, .fst, .snd, .snd, .snd, .snd, .snd, .blk, .snd]
def PaJ28_26 : List Stp := [.snd, .snd, .snd, .snd, .snd, .blk, .snd, .lp, .blk, .fst, .snd, .snd, .snd, .snd, .snd, .blk, .snd]
def Ta28 (KL28_6 KJ28_28 KJ28_21 KJ28_26 : Env → St → Option Res) : Tab := [(PaL28_6, KL28_6), (PaJ28_28, KJ28_28), (PaJ28_21, KJ28_21), (PaJ28_26, KJ28_26)]
def WL28_6 (k : Env → St → Option Res) (s0 : ByteArray) (ends6 : Bool) (at7 : Int) (A : Bool) (B : List T) : Option Res := k [(0, .t (.str s0)), (5, .buf 8), (6, .t (.bool ends6)), (7, .t (.int .i64 at7))] ⟨[(8, .arr true 3 A B)], []⟩
noncomputable def VL28_6 : Env → St → Option Res := fun e st => atV Try.prog hint 28 0 Try.f28 82 (List.reverse PaL28_6) e st
noncomputable def L28_6 (s0 : ByteArray) (ends6 : Bool) (at7 : Int) (A : Bool) (B : List T) : Option Res := WL28_6 VL28_6 s0 ends6 at7 A B
def WJ28_28 (k : Env → St → Option Res) (s0 : ByteArray) (A : Bool) (B : List T) : Option Res := k [(0, .t (.str s0)), (5, .buf 8)] ⟨[(8, .arr true 3 A B)], []⟩
noncomputable def VJ28_28 : Env → St → Option Res := fun e st => atV Try.prog hint 28 0 Try.f28 82 (List.reverse PaJ28_28) e st
noncomputable def J28_28 (s0 : ByteArray) (A : Bool) (B : List T) : Option Res := WJ28_28 VJ28_28 s0 A B
def WJ28_21 (k : Env → St → Option Res) (s0 : ByteArray) (ends6 : Bool) (at7 n8 : Int) (A : Bool) (B : List T) : Option Res := k [(0, .t (.str s0)), (5, .buf 8), (6, .t (.bool ends6)), (7, .t (.int .i64 at7)), (8, .t (.int .i64 n8))] ⟨[(8, .arr true 3 A B)], []⟩
noncomputable def VJ28_21 : Env → St → Option Res := fun e st => atV Try.prog hint 28 0 Try.f28 82 (List.reverse PaJ28_21) e st
noncomputable def J28_21 (s0 : ByteArray) (ends6 : Bool) (at7 n8 : Int) (A : Bool) (B : List T) : Option Res := WJ28_21 VJ28_21 s0 ends6 at7 n8 A B
def WJ28_26 (k : Env → St → Option Res) (s0 : ByteArray) (at7 n8 : Int) (A : Bool) (B : List T) (C : Int) (D : ByteArray) (E : Int) : Option Res := k [(0, .t (.str s0)), (5, .buf 8), (7, .t (.int .i64 at7)), (8, .t (.int .i64 n8)), (9, .ptr 9 0 0)] ⟨[(8, .arr true 3 A B), (9, .var [.t (.int .i64 C), .t (.str D), .t (.int .i64 E)])], []⟩
noncomputable def VJ28_26 : Env → St → Option Res := fun e st => atV Try.prog hint 28 0 Try.f28 82 (List.reverse PaJ28_26) e st
noncomputable def J28_26 (s0 : ByteArray) (at7 n8 : Int) (A : Bool) (B : List T) (C : Int) (D : ByteArray) (E : Int) : Option Res := WJ28_26 VJ28_26 s0 at7 n8 A B C D E
abbrev YL55_2 := Bool → (List T) → Int → Int → Option Res
def PaL55_2 : List Stp := [.blk, .snd, .fst, .snd]
def Ta55 (KL55_2 : Env → St → Option Res) : Tab := [(PaL55_2, KL55_2)]
def WL55_2 (k : Env → St → Option Res) (s0z : Bool) (s0 : List T) (A B : Int) : Option Res := k [(0, .t (.list 3 s0z s0)), (1, .fn 56 [] []), (7, .t (.int .i64 A)), (8, .t (.int .i64 B))] ⟨[], []⟩
noncomputable def VL55_2 : Env → St → Option Res := fun e st => atV Try.prog hint 55 0 Try.f55 19 (List.reverse PaL55_2) e st
noncomputable def L55_2 (s0z : Bool) (s0 : List T) (A B : Int) : Option Res := WL55_2 VL55_2 s0z s0 A B
abbrev YL29_2 := Bool → (List T) → Bool → (List T) → Option Res
def PaL29_2 : List Stp := [.blk, .fst, .snd, .snd]
def Ta29 (KL29_2 : Env → St → Option Res) : Tab := [(PaL29_2, KL29_2)]
def WL29_2 (k : Env → St → Option Res) (l0z : Bool) (l0 : List T) (A : Bool) (B : List T) : Option Res := k [(0, .t (.list 3 l0z l0)), (3, .buf 8)] ⟨[(8, .arr true 1 A B)], []⟩
noncomputable def VL29_2 : Env → St → Option Res := fun e st => atV Try.prog hint 29 0 Try.f29 35 (List.reverse PaL29_2) e st
noncomputable def L29_2 (l0z : Bool) (l0 : List T) (A : Bool) (B : List T) : Option Res := WL29_2 VL29_2 l0z l0 A B
abbrev YL58_2 := Bool → (List T) → Int → Int → ByteArray → Option Res
def PaL58_2 : List Stp := [.blk, .snd, .fst, .snd]
def Ta58 (KL58_2 : Env → St → Option Res) : Tab := [(PaL58_2, KL58_2)]
def WL58_2 (k : Env → St → Option Res) (s0z : Bool) (s0 : List T) (A B : Int) (C : ByteArray) : Option Res := k [(0, .t (.list 4 s0z s0)), (1, .fn 60 [] [.ptr 0 0 0]), (7, .t (.int .i64 A)), (8, .t (.int .i64 B))] ⟨[(0, .var [.t (.str C)])], []⟩
noncomputable def VL58_2 : Env → St → Option Res := fun e st => atV Try.prog hint 58 0 Try.f58 19 (List.reverse PaL58_2) e st
noncomputable def L58_2 (s0z : Bool) (s0 : List T) (A B : Int) (C : ByteArray) : Option Res := WL58_2 VL58_2 s0z s0 A B C
abbrev YJ31_6 := Bool → (List T) → Bool → Int → Int → Int → Int → Int → ByteArray → Int → Int → Int → Option Res
def PaJ31_6 : List Stp := [.snd, .snd, .snd, .snd, .snd]
def Ta31 (KJ31_6 : Env → St → Option Res) : Tab := [(PaJ31_6, KJ31_6)]
def WJ31_6 (k : Env → St → Option Res) (A : Bool) (B : List T) (C : Bool) (D E F G H : Int) (I : ByteArray) (J K L : Int) : Option Res := k [(0, .ptr 0 0 0), (2, .ptr 8 0 0), (4, .ptr 9 0 0)] ⟨[(0, .var [.t (.list 3 A B), .t (.bool C)]), (8, .var [.t (.int .i64 D), .t (.int .i64 E), .t (.int .i64 F), .t (.int .i64 G), .t (.int .i64 H)]), (9, .var [.t (.str I), .t (.int .i64 J), .t (.int .i64 K), .t (.int .i64 L)])], []⟩
noncomputable def VJ31_6 : Env → St → Option Res := fun e st => atV Try.prog hint 31 0 Try.f31 62 (List.reverse PaJ31_6) e st
noncomputable def J31_6 (A : Bool) (B : List T) (C : Bool) (D E F G H : Int) (I : ByteArray) (J K L : Int) : Option Res := WJ31_6 VJ31_6 A B C D E F G H I J K L
abbrev YL68_2 := Bool → (List T) → Int → Int → Int → Int → Int → Bool → (List T) → Option Res
def PaL68_2 : List Stp := [.blk, .snd, .fst, .snd]
def Ta68 (KL68_2 : Env → St → Option Res) : Tab := [(PaL68_2, KL68_2)]
def WL68_2 (k : Env → St → Option Res) (s0z : Bool) (s0 : List T) (A B C D E : Int) (F : Bool) (G : List T) : Option Res := k [(0, .t (.list 5 s0z s0)), (1, .fn 36 [] [.ptr 0 0 0]), (7, .t (.int .i64 A)), (8, .t (.int .i64 B))] ⟨[(0, .var [.t (.int .i64 C), .t (.int .i64 D), .t (.int .i64 E), .t (.list 5 F G)])], []⟩
noncomputable def VL68_2 : Env → St → Option Res := fun e st => atV Try.prog hint 68 0 Try.f68 19 (List.reverse PaL68_2) e st
noncomputable def L68_2 (s0z : Bool) (s0 : List T) (A B C D E : Int) (F : Bool) (G : List T) : Option Res := WL68_2 VL68_2 s0z s0 A B C D E F G
abbrev YL10_8 := Bool → (List T) → Bool → (List T) → Int → Int → Int → Int → Int → Bool → (List T) → Option Res
abbrev YJ10_17 := Bool → (List T) → Int → Bool → (List T) → Int → Int → Int → Int → Int → Bool → (List T) → Bool → (List T) → Bool → Option Res
def PaL10_8 : List Stp := [.blk, .snd, .fst, .snd, .snd, .snd, .snd, .snd]
def PaJ10_17 : List Stp := [.snd, .snd, .snd, .blk, .fst, .snd, .snd, .lp, .blk, .snd, .fst, .snd, .snd, .snd, .snd, .snd]
def Ta10 (KL10_8 KJ10_17 : Env → St → Option Res) : Tab := [(PaL10_8, KL10_8), (PaJ10_17, KJ10_17)]
def WL10_8 (k : Env → St → Option Res) (lines8z : Bool) (lines8 : List T) (A : Bool) (B : List T) (C D E F G : Int) (H : Bool) (I : List T) : Option Res := k [(2, .ptr 8 0 0), (8, .t (.list 1 lines8z lines8)), (30, .t (.list 1 A B)), (31, .t (.int .i64 C)), (32, .t (.int .i64 D))] ⟨[(8, .var [.t (.int .i64 E), .t (.int .i64 F), .t (.int .i64 G), .buf 9]), (9, .arr true 5 H I)], []⟩
noncomputable def VL10_8 : Env → St → Option Res := fun e st => atV Try.prog hint 10 0 Try.f10 92 (List.reverse PaL10_8) e st
noncomputable def L10_8 (lines8z : Bool) (lines8 : List T) (A : Bool) (B : List T) (C D E F G : Int) (H : Bool) (I : List T) : Option Res := WL10_8 VL10_8 lines8z lines8 A B C D E F G H I
def WJ10_17 (k : Env → St → Option Res) (lines8z : Bool) (lines8 : List T) (i9 : Int) (A : Bool) (B : List T) (C D E F G : Int) (H : Bool) (I : List T) (J : Bool) (K : List T) (L : Bool) : Option Res := k [(2, .ptr 8 0 0), (8, .t (.list 1 lines8z lines8)), (9, .t (.int .i64 i9)), (11, .ptr 10 0 0), (30, .t (.list 1 A B)), (31, .t (.int .i64 C)), (32, .t (.int .i64 D))] ⟨[(8, .var [.t (.int .i64 E), .t (.int .i64 F), .t (.int .i64 G), .buf 9]), (9, .arr true 5 H I), (10, .var [.t (.list 3 J K), .t (.bool L)])], []⟩
noncomputable def VJ10_17 : Env → St → Option Res := fun e st => atV Try.prog hint 10 0 Try.f10 92 (List.reverse PaJ10_17) e st
noncomputable def J10_17 (lines8z : Bool) (lines8 : List T) (i9 : Int) (A : Bool) (B : List T) (C D E F G : Int) (H : Bool) (I : List T) (J : Bool) (K : List T) (L : Bool) : Option Res := WJ10_17 VJ10_17 lines8z lines8 i9 A B C D E F G H I J K L
abbrev YL69_1 := Int → Int → Bool → (List T) → Option Res
def PaL69_1 : List Stp := [.blk, .snd]
def Ta69 (KL69_1 : Env → St → Option Res) : Tab := [(PaL69_1, KL69_1)]
def WL69_1 (k : Env → St → Option Res) (i2 j3 : Int) (A : Bool) (B : List T) : Option Res := k [(0, .buf 0), (2, .t (.int .i64 i2)), (3, .t (.int .i64 j3))] ⟨[(0, .arr true 1 A B)], []⟩
noncomputable def VL69_1 : Env → St → Option Res := fun e st => atV Try.prog hint 69 0 Try.f69 28 (List.reverse PaL69_1) e st
noncomputable def L69_1 (i2 j3 : Int) (A : Bool) (B : List T) : Option Res := WL69_1 VL69_1 i2 j3 A B
abbrev YL42_5 := Int → Int → Bool → (List T) → Option Res
def PaL42_5 : List Stp := [.blk, .fst, .snd, .snd, .snd, .snd]
def Ta42 (KL42_5 : Env → St → Option Res) : Tab := [(PaL42_5, KL42_5)]
def WL42_5 (k : Env → St → Option Res) (n0 u4 : Int) (A : Bool) (B : List T) : Option Res := k [(0, .t (.int .i64 n0)), (3, .buf 8), (4, .t (.int .u64 u4))] ⟨[(8, .arr true 1 A B)], []⟩
noncomputable def VL42_5 : Env → St → Option Res := fun e st => atV Try.prog hint 42 0 Try.f42 31 (List.reverse PaL42_5) e st
noncomputable def L42_5 (n0 u4 : Int) (A : Bool) (B : List T) : Option Res := WL42_5 VL42_5 n0 u4 A B
abbrev YL21_11 := Bool → (List T) → Int → Int → Bool → (List T) → Option Res
def PaL21_11 : List Stp := [.blk, .snd, .fst, .snd, .snd, .snd, .snd]
def Ta21 (KL21_11 : Env → St → Option Res) : Tab := [(PaL21_11, KL21_11)]
def WL21_11 (k : Env → St → Option Res) (A : Bool) (B : List T) (C D : Int) (E : Bool) (F : List T) : Option Res := k [(5, .buf 8), (38, .t (.list 5 A B)), (39, .t (.int .i64 C)), (40, .t (.int .i64 D))] ⟨[(8, .arr true 3 E F)], []⟩
noncomputable def VL21_11 : Env → St → Option Res := fun e st => atV Try.prog hint 21 0 Try.f21 108 (List.reverse PaL21_11) e st
noncomputable def L21_11 (A : Bool) (B : List T) (C D : Int) (E : Bool) (F : List T) : Option Res := WL21_11 VL21_11 A B C D E F
abbrev YL40_4 := Bool → (List T) → Bool → (List T) → Int → Int → Option Res
def PaL40_4 : List Stp := [.blk, .snd, .fst, .snd, .snd]
def Ta40 (KL40_4 : Env → St → Option Res) : Tab := [(PaL40_4, KL40_4)]
def WL40_4 (k : Env → St → Option Res) (s10z : Bool) (s10 : List T) (s21z : Bool) (s21 : List T) (A B : Int) : Option Res := k [(0, .t (.list 5 s10z s10)), (1, .t (.list 5 s21z s21)), (12, .t (.int .i64 A)), (13, .t (.int .i64 B))] ⟨[], []⟩
noncomputable def VL40_4 : Env → St → Option Res := fun e st => atV Try.prog hint 40 0 Try.f40 26 (List.reverse PaL40_4) e st
noncomputable def L40_4 (s10z : Bool) (s10 : List T) (s21z : Bool) (s21 : List T) (A B : Int) : Option Res := WL40_4 VL40_4 s10z s10 s21z s21 A B
abbrev YJ6_9 := ByteArray → Bool → Int → Int → Int → Bool → (List T) → Option Res
def PaJ6_9 : List Stp := [.snd, .snd, .snd, .snd]
def Ta6 (KJ6_9 : Env → St → Option Res) : Tab := [(PaJ6_9, KJ6_9)]
def WJ6_9 (k : Env → St → Option Res) (s1 : ByteArray) (up5 : Bool) (A B C : Int) (D : Bool) (E : List T) : Option Res := k [(1, .t (.str s1)), (2, .ptr 8 0 0), (5, .t (.bool up5))] ⟨[(8, .var [.t (.int .i64 A), .t (.int .i64 B), .t (.int .i64 C), .t (.list 5 D E)])], []⟩
noncomputable def VJ6_9 : Env → St → Option Res := fun e st => atV Try.prog hint 6 0 Try.f6 97 (List.reverse PaJ6_9) e st
noncomputable def J6_9 (s1 : ByteArray) (up5 : Bool) (A B C : Int) (D : Bool) (E : List T) : Option Res := WJ6_9 VJ6_9 s1 up5 A B C D E
abbrev YL7_10 := Bool → ByteArray → Int → Int → Int → Int → Int → Int → Bool → (List T) → Option Res
abbrev YL7_15 := Bool → ByteArray → Int → Int → Int → Int → Int → Int → Int → Bool → (List T) → Option Res
abbrev YJ7_27 := Bool → ByteArray → Int → Int → Int → Int → Int → Int → Int → Bool → (List T) → Option Res
def PaL7_10 : List Stp := [.blk, .snd, .fst, .snd, .snd, .snd, .snd, .snd, .snd, .snd]
def PaL7_15 : List Stp := [.blk, .snd, .fst, .snd, .snd, .blk, .fst, .snd, .lp, .blk, .snd, .fst, .snd, .snd, .snd, .snd, .snd, .snd, .snd]
def PaJ7_27 : List Stp := [.snd, .snd, .snd, .snd, .yes, .snd, .fst, .snd, .snd, .snd, .blk, .fst, .snd, .lp, .blk, .snd, .fst, .snd, .snd, .snd, .snd, .snd, .snd, .snd]
def Ta7 (KL7_10 KL7_15 KJ7_27 : Env → St → Option Res) : Tab := [(PaL7_10, KL7_10), (PaL7_15, KL7_15), (PaJ7_27, KJ7_27)]
def WL7_10 (k : Env → St → Option Res) (up3 : Bool) (s4 : ByteArray) (line6 from7 i8 A B C : Int) (D : Bool) (E : List T) : Option Res := k [(1, .ptr 8 0 0), (3, .t (.bool up3)), (4, .t (.str s4)), (6, .t (.int .i64 line6)), (7, .t (.int .i64 from7)), (8, .t (.int .i64 i8))] ⟨[(8, .var [.t (.int .i64 A), .t (.int .i64 B), .t (.int .i64 C), .t (.list 5 D E)])], []⟩
noncomputable def VL7_10 : Env → St → Option Res := fun e st => atV Try.prog hint 7 0 Try.f7 108 (List.reverse PaL7_10) e st
noncomputable def L7_10 (up3 : Bool) (s4 : ByteArray) (line6 from7 i8 A B C : Int) (D : Bool) (E : List T) : Option Res := WL7_10 VL7_10 up3 s4 line6 from7 i8 A B C D E
def WL7_15 (k : Env → St → Option Res) (up3 : Bool) (s4 : ByteArray) (line6 i8 regs9 k10 A B C : Int) (D : Bool) (E : List T) : Option Res := k [(1, .ptr 8 0 0), (3, .t (.bool up3)), (4, .t (.str s4)), (6, .t (.int .i64 line6)), (8, .t (.int .i64 i8)), (9, .t (.int .i64 regs9)), (10, .t (.int .i64 k10))] ⟨[(8, .var [.t (.int .i64 A), .t (.int .i64 B), .t (.int .i64 C), .t (.list 5 D E)])], []⟩
noncomputable def VL7_15 : Env → St → Option Res := fun e st => atV Try.prog hint 7 0 Try.f7 108 (List.reverse PaL7_15) e st
noncomputable def L7_15 (up3 : Bool) (s4 : ByteArray) (line6 i8 regs9 k10 A B C : Int) (D : Bool) (E : List T) : Option Res := WL7_15 VL7_15 up3 s4 line6 i8 regs9 k10 A B C D E
def WJ7_27 (k : Env → St → Option Res) (up3 : Bool) (s4 : ByteArray) (line6 i8 regs9 want12 A B C : Int) (D : Bool) (E : List T) : Option Res := k [(1, .ptr 8 0 0), (3, .t (.bool up3)), (4, .t (.str s4)), (6, .t (.int .i64 line6)), (8, .t (.int .i64 i8)), (9, .t (.int .i64 regs9)), (12, .t (.int .i64 want12))] ⟨[(8, .var [.t (.int .i64 A), .t (.int .i64 B), .t (.int .i64 C), .t (.list 5 D E)])], []⟩
noncomputable def VJ7_27 : Env → St → Option Res := fun e st => atV Try.prog hint 7 0 Try.f7 108 (List.reverse PaJ7_27) e st
noncomputable def J7_27 (up3 : Bool) (s4 : ByteArray) (line6 i8 regs9 want12 A B C : Int) (D : Bool) (E : List T) : Option Res := WJ7_27 VJ7_27 up3 s4 line6 i8 regs9 want12 A B C D E
abbrev Z0 (v0 : Bool) (v1 : List T) (v2 : Bool) : St := ⟨[(0, .var [.t (.list 3 v0 v1), .t (.bool v2)])], []⟩
noncomputable def R52  (A : ByteArray) (B : Int) : Option Res := callK (vr 75 0 [.t (.str A), .t (.int .u8 B)] ⟨[], []⟩) fun a b => asT a fun c => asI .i64 c fun a => endB b <| some ((.t (.int .i64 a)), ⟨[], []⟩)
theorem eq52g  (A : ByteArray) (B : Int) : gE 52 0 8 Try.f52 [] [.t (.str A), .t (.int .u8 B)] ⟨[], []⟩ = R52  A B := by kernel_rfl
theorem eq52 (A : ByteArray) (B : Int) : vr 52 0 [.t (.str A), .t (.int .u8 B)] ⟨[], []⟩ = R52  A B :=
 Eq.trans (call_eq Try.prog hint (fn := Try.f52) (nt := 8) (T := []) [] rfl _ _ rfl rfl rfl rfl rfl) (eq52g  A B)
noncomputable def R51  (A : Int) : Option Res :=
(bif (decide (97 ≤ (bitsI .or .u8 A 32))) then
(bif (decide ((bitsI .or .u8 A 32) ≤ 122)) then
 some ((.t (.int .i64 1)), ⟨[], []⟩)
else
(bif (decide (48 ≤ A)) then
(bif (decide (A ≤ 57)) then
 some ((.t (.int .i64 2)), ⟨[], []⟩)
else
 callK (vr 52 0 [.t (.str ⟨#[43, 45, 42, 40, 41, 91, 93, 44, 61, 58]⟩), .t (.int .u8 A)] ⟨[], []⟩) fun a b => asT a fun c => asI .i64 c fun a => endB b <|
(bif (decide (0 ≤ a)) then
 some ((.t (.int .i64 3)), ⟨[], []⟩)
else
(bif (decide (A = 32)) then
 some ((.t (.int .i64 4)), ⟨[], []⟩)
else
(bif (decide (A = 9)) then
 some ((.t (.int .i64 4)), ⟨[], []⟩)
else
(bif (decide (A = 10)) then
 some ((.t (.int .i64 5)), ⟨[], []⟩)
else
(bif (decide (A = 35)) then
 some ((.t (.int .i64 6)), ⟨[], []⟩)
else
 some ((.t (.int .i64 0)), ⟨[], []⟩)))))))
else
 callK (vr 52 0 [.t (.str ⟨#[43, 45, 42, 40, 41, 91, 93, 44, 61, 58]⟩), .t (.int .u8 A)] ⟨[], []⟩) fun a b => asT a fun c => asI .i64 c fun a => endB b <|
(bif (decide (0 ≤ a)) then
 some ((.t (.int .i64 3)), ⟨[], []⟩)
else
(bif (decide (A = 32)) then
 some ((.t (.int .i64 4)), ⟨[], []⟩)
else
(bif (decide (A = 9)) then
 some ((.t (.int .i64 4)), ⟨[], []⟩)
else
(bif (decide (A = 10)) then
 some ((.t (.int .i64 5)), ⟨[], []⟩)
else
(bif (decide (A = 35)) then
 some ((.t (.int .i64 6)), ⟨[], []⟩)
else
 some ((.t (.int .i64 0)), ⟨[], []⟩))))))))
else
(bif (decide (48 ≤ A)) then
(bif (decide (A ≤ 57)) then
 some ((.t (.int .i64 2)), ⟨[], []⟩)
else
 callK (vr 52 0 [.t (.str ⟨#[43, 45, 42, 40, 41, 91, 93, 44, 61, 58]⟩), .t (.int .u8 A)] ⟨[], []⟩) fun a b => asT a fun c => asI .i64 c fun a => endB b <|
(bif (decide (0 ≤ a)) then
 some ((.t (.int .i64 3)), ⟨[], []⟩)
else
(bif (decide (A = 32)) then
 some ((.t (.int .i64 4)), ⟨[], []⟩)
else
(bif (decide (A = 9)) then
 some ((.t (.int .i64 4)), ⟨[], []⟩)
else
(bif (decide (A = 10)) then
 some ((.t (.int .i64 5)), ⟨[], []⟩)
else
(bif (decide (A = 35)) then
 some ((.t (.int .i64 6)), ⟨[], []⟩)
else
 some ((.t (.int .i64 0)), ⟨[], []⟩)))))))
else
 callK (vr 52 0 [.t (.str ⟨#[43, 45, 42, 40, 41, 91, 93, 44, 61, 58]⟩), .t (.int .u8 A)] ⟨[], []⟩) fun a b => asT a fun c => asI .i64 c fun a => endB b <|
(bif (decide (0 ≤ a)) then
 some ((.t (.int .i64 3)), ⟨[], []⟩)
else
(bif (decide (A = 32)) then
 some ((.t (.int .i64 4)), ⟨[], []⟩)
else
(bif (decide (A = 9)) then
 some ((.t (.int .i64 4)), ⟨[], []⟩)
else
(bif (decide (A = 10)) then
 some ((.t (.int .i64 5)), ⟨[], []⟩)
else
(bif (decide (A = 35)) then
 some ((.t (.int .i64 6)), ⟨[], []⟩)
else
 some ((.t (.int .i64 0)), ⟨[], []⟩))))))))
theorem eq51g  (A : Int) : gE 51 0 36 Try.f51 [] [.t (.int .u8 A)] ⟨[], []⟩ = R51  A := by kernel_rfl
theorem eq51 (A : Int) : vr 51 0 [.t (.int .u8 A)] ⟨[], []⟩ = R51  A :=
 Eq.trans (call_eq Try.prog hint (fn := Try.f51) (nt := 36) (T := []) [] rfl _ _ rfl rfl rfl rfl rfl) (eq51g  A)
noncomputable def R53 (L53_2 : YL53_2) (A : ByteArray) : Option Res := L53_2 (A) (0)
theorem eq53g (KL53_2 : Env → St → Option Res) (A : ByteArray) : gE 53 0 25 Try.f53 (Ta53 KL53_2) [.t (.str A)] ⟨[], []⟩ = R53 (WL53_2 KL53_2) A := by kernel_rfl
theorem eq53 (A : ByteArray) : vr 53 0 [.t (.str A)] ⟨[], []⟩ = R53 L53_2 A :=
 Eq.trans (call_eq Try.prog hint (fn := Try.f53) (nt := 25) (T := (Ta53 VL53_2)) [PaL53_2] rfl _ _ rfl rfl rfl rfl rfl) (eq53g VL53_2 A)
noncomputable def RL53_2 (L53_2 : YL53_2) (s0 : ByteArray) (n3 : Int) : Option Res :=
(bif (decide (n3 < (s0.size : Int))) then
 needC (decide (0 ≤ n3) && decide (n3 < (s0.size : Int))) fun _ => callK (vr 51 0 [.t (.int .u8 (((s0 : ByteArray)[(n3).toNat]!).toNat : Int))] ⟨[], []⟩) fun a b => asT a fun c => asI .i64 c fun a => endB b <|
(bif (decide (a = 1)) then
 L53_2 (s0) ((IntKind.i64.wrap (n3 + 1)))
else
 needC (decide (0 ≤ n3) && decide (n3 < (s0.size : Int))) fun _ => callK (vr 51 0 [.t (.int .u8 (((s0 : ByteArray)[(n3).toNat]!).toNat : Int))] ⟨[], []⟩) fun a b => asT a fun c => asI .i64 c fun a => endB b <|
(bif (decide (a = 2)) then
 L53_2 (s0) ((IntKind.i64.wrap (n3 + 1)))
else
 some ((.t (.int .i64 n3)), ⟨[], []⟩)))
else
 some ((.t (.int .i64 n3)), ⟨[], []⟩))
theorem L53_2g (KL53_2 : Env → St → Option Res) (s0 : ByteArray) (n3 : Int) : WL53_2 (fun e st => gP 53 0 25 Try.f53 (Ta53 KL53_2) (.lp :: PaL53_2) e st) s0 n3 = RL53_2 (WL53_2 KL53_2) s0 n3 := by kernel_rfl
theorem L53_2_eq (s0 : ByteArray) (n3 : Int) : L53_2 s0 n3 = RL53_2 L53_2 s0 n3 :=
 (congrArg (fun k => WL53_2 k s0 n3) (funext fun e => funext fun st => round_eq Try.prog hint (b := (nav (List.reverse (.lp :: PaL53_2)) (bodyOf Try.f53))) (fn := Try.f53) (nt := 25) (T := (Ta53 VL53_2)) [PaL53_2] rfl PaL53_2 e st rfl rfl rfl)).trans (L53_2g VL53_2 s0 n3)
noncomputable def R76  (A : ByteArray) : Option Res :=
(bif (!decide ((A : ByteArray) = ⟨#[]⟩)) then
(bif (decide ((A.size : Int) ≤ 16)) then
 needC (decide (0 ≤ 0) && decide ((0 : Int) < (A.size : Int))) fun _ => callK (vr 51 0 [.t (.int .u8 (((A : ByteArray)[((0 : Int)).toNat]!).toNat : Int))] ⟨[], []⟩) fun a b => asT a fun c => asI .i64 c fun a => endB b <|
(bif (decide (a = 1)) then
 callK (vr 53 0 [.t (.str A)] ⟨[], []⟩) fun a b => asT a fun c => asI .i64 c fun a => endB b <| some ((.t (.bool (decide (a = (A.size : Int))))), ⟨[], []⟩)
else
 some ((.t (.bool false)), ⟨[], []⟩))
else
 some ((.t (.bool false)), ⟨[], []⟩))
else
 some ((.t (.bool false)), ⟨[], []⟩))
theorem eq76g  (A : ByteArray) : gE 76 0 23 Try.f76 [] [.t (.str A)] ⟨[], []⟩ = R76  A := by kernel_rfl
theorem eq76 (A : ByteArray) : vr 76 0 [.t (.str A)] ⟨[], []⟩ = R76  A :=
 Eq.trans (call_eq Try.prog hint (fn := Try.f76) (nt := 23) (T := []) [] rfl _ _ rfl rfl rfl rfl rfl) (eq76g  A)
noncomputable def R77 (L77_4 : YL77_4) (A : ByteArray) : Option Res :=
(bif (decide ((A : ByteArray) = ⟨#[]⟩)) then
 some ((.tup [.t (.int .i64 0), .t (.bool false)]), ⟨[], []⟩)
else
(bif (decide (18 < (A.size : Int))) then
 some ((.tup [.t (.int .i64 0), .t (.bool false)]), ⟨[], []⟩)
else
(bif (decide (1 < (A.size : Int))) then
 needC (decide (0 ≤ 0) && decide ((0 : Int) < (A.size : Int))) fun _ =>
(bif (decide ((((A : ByteArray)[((0 : Int)).toNat]!).toNat : Int) = 48)) then
 some ((.tup [.t (.int .i64 0), .t (.bool false)]), ⟨[], []⟩)
else
 L77_4 (A) (0) ((A.size : Int)) (0))
else
 L77_4 (A) (0) ((A.size : Int)) (0))))
theorem eq77g (KL77_4 : Env → St → Option Res) (A : ByteArray) : gE 77 0 42 Try.f77 (Ta77 KL77_4) [.t (.str A)] ⟨[], []⟩ = R77 (WL77_4 KL77_4) A := by kernel_rfl
theorem eq77 (A : ByteArray) : vr 77 0 [.t (.str A)] ⟨[], []⟩ = R77 L77_4 A :=
 Eq.trans (call_eq Try.prog hint (fn := Try.f77) (nt := 42) (T := (Ta77 VL77_4)) [PaL77_4] rfl _ _ rfl rfl rfl rfl rfl) (eq77g VL77_4 A)
noncomputable def RL77_4 (L77_4 : YL77_4) (s0 : ByteArray) (n2 A B : Int) : Option Res :=
(bif (decide (B < A)) then
 needC (decide (0 ≤ B) && decide (B < (s0.size : Int))) fun _ => callK (vr 51 0 [.t (.int .u8 (((s0 : ByteArray)[(B).toNat]!).toNat : Int))] ⟨[], []⟩) fun a b => asT a fun c => asI .i64 c fun a => endB b <|
(bif (!decide (a = 2)) then
 some ((.tup [.t (.int .i64 0), .t (.bool false)]), ⟨[], []⟩)
else
 needC (decide (0 ≤ B) && decide (B < (s0.size : Int))) fun _ => L77_4 (s0) ((IntKind.i64.wrap ((IntKind.i64.wrap ((10 : Int) * n2)) + (IntKind.i64.wrap (IntKind.u8.wrap ((((s0 : ByteArray)[(B).toNat]!).toNat : Int) - 48)))))) (A) ((IntKind.i64.wrap (B + 1))))
else
 some ((.tup [.t (.int .i64 n2), .t (.bool true)]), ⟨[], []⟩))
theorem L77_4g (KL77_4 : Env → St → Option Res) (s0 : ByteArray) (n2 A B : Int) : WL77_4 (fun e st => gP 77 0 42 Try.f77 (Ta77 KL77_4) (.lp :: PaL77_4) e st) s0 n2 A B = RL77_4 (WL77_4 KL77_4) s0 n2 A B := by kernel_rfl
theorem L77_4_eq (s0 : ByteArray) (n2 A B : Int) : L77_4 s0 n2 A B = RL77_4 L77_4 s0 n2 A B :=
 (congrArg (fun k => WL77_4 k s0 n2 A B) (funext fun e => funext fun st => round_eq Try.prog hint (b := (nav (List.reverse (.lp :: PaL77_4)) (bodyOf Try.f77))) (fn := Try.f77) (nt := 42) (T := (Ta77 VL77_4)) [PaL77_4] rfl PaL77_4 e st rfl rfl rfl)).trans (L77_4g VL77_4 s0 n2 A B)
noncomputable def R54  (A : ByteArray) : Option Res := callK (vr 76 0 [.t (.str A)] ⟨[], []⟩) fun a b => asT a fun c => asB c fun a => endB b <|
(bif a then
 some ((.tup [.t (.agg [.int .i64 1, .str A, .int .i64 0]), .t (.bool true)]), ⟨[], []⟩)
else
(bif (decide ((A.size : Int) = 1)) then
 needC (decide (0 ≤ 0) && decide ((0 : Int) < (A.size : Int))) fun _ => callK (vr 51 0 [.t (.int .u8 (((A : ByteArray)[((0 : Int)).toNat]!).toNat : Int))] ⟨[], []⟩) fun a b => asT a fun c => asI .i64 c fun a => endB b <|
(bif (decide (a = 3)) then
 some ((.tup [.t (.agg [.int .i64 3, .str A, .int .i64 0]), .t (.bool true)]), ⟨[], []⟩)
else
 callK (vr 77 0 [.t (.str A)] ⟨[], []⟩) fun a b => asTup a fun c => consV c fun a d => asT a fun c => asI .i64 c fun a => consV d fun c f => asT c fun d => asB d fun c => endV f <| endB b <| some ((.tup [.t (.agg [.int .i64 2, .str A, .int .i64 a]), .t (.bool c)]), ⟨[], []⟩))
else
 callK (vr 77 0 [.t (.str A)] ⟨[], []⟩) fun a b => asTup a fun c => consV c fun a d => asT a fun c => asI .i64 c fun a => consV d fun c f => asT c fun d => asB d fun c => endV f <| endB b <| some ((.tup [.t (.agg [.int .i64 2, .str A, .int .i64 a]), .t (.bool c)]), ⟨[], []⟩)))
theorem eq54g  (A : ByteArray) : gE 54 0 31 Try.f54 [] [.t (.str A)] ⟨[], []⟩ = R54  A := by kernel_rfl
theorem eq54 (A : ByteArray) : vr 54 0 [.t (.str A)] ⟨[], []⟩ = R54  A :=
 Eq.trans (call_eq Try.prog hint (fn := Try.f54) (nt := 31) (T := []) [] rfl _ _ rfl rfl rfl rfl rfl) (eq54g  A)
noncomputable def R28 (L28_6 : YL28_6) (J28_28 : YJ28_28) (J28_21 : YJ28_21) (J28_26 : YJ28_26) (A : ByteArray) : Option Res :=
(bif (decide (65536 < (A.size : Int))) then
 some ((.tup [.t (.list 3 false []), .t (.int .i64 0), .t (.int .i64 2)]), ⟨[], []⟩)
else
 L28_6 (A) (false) (0) (false) ([]))
theorem eq28g (KL28_6 KJ28_28 KJ28_21 KJ28_26 : Env → St → Option Res) (A : ByteArray) : gE 28 0 82 Try.f28 (Ta28 KL28_6 KJ28_28 KJ28_21 KJ28_26) [.t (.str A)] ⟨[], []⟩ = R28 (WL28_6 KL28_6) (WJ28_28 KJ28_28) (WJ28_21 KJ28_21) (WJ28_26 KJ28_26) A := by kernel_rfl
theorem eq28 (A : ByteArray) : vr 28 0 [.t (.str A)] ⟨[], []⟩ = R28 L28_6 J28_28 J28_21 J28_26 A :=
 Eq.trans (call_eq Try.prog hint (fn := Try.f28) (nt := 82) (T := (Ta28 VL28_6 VJ28_28 VJ28_21 VJ28_26)) [PaL28_6, PaJ28_28, PaJ28_21, PaJ28_26] rfl _ _ rfl rfl rfl rfl rfl) (eq28g VL28_6 VJ28_28 VJ28_21 VJ28_26 A)
noncomputable def RL28_6 (L28_6 : YL28_6) (J28_28 : YJ28_28) (J28_21 : YJ28_21) (J28_26 : YJ28_26) (s0 : ByteArray) (ends6 : Bool) (at7 : Int) (A : Bool) (B : List T) : Option Res :=
(bif (decide (at7 < (s0.size : Int))) then
 needC (decide (0 ≤ at7) && decide (at7 < (s0.size : Int))) fun _ => callK (vr 51 0 [.t (.int .u8 (((s0 : ByteArray)[(at7).toNat]!).toNat : Int))] ⟨[], []⟩) fun a b => asT a fun c => asI .i64 c fun a => endB b <|
(bif (decide (a = 5)) then
 L28_6 (s0) ((decide (0 < (B.length : Int)))) ((IntKind.i64.wrap (at7 + 1))) (A) (B)
else
(bif (decide (a = 4)) then
 L28_6 (s0) (ends6) ((IntKind.i64.wrap (at7 + 1))) (A) (B)
else
(bif (decide (a = 6)) then
 subS s0 (some at7) none fun b => callK (vr 52 0 [.t (.str b), .t (.int .u8 10)] ⟨[], []⟩) fun c d => asT c fun b => asI .i64 b fun c => endB d <|
(bif (decide (c < 0)) then
 J28_28 (s0) (A) (B)
else
 L28_6 (s0) (ends6) ((IntKind.i64.wrap (at7 + c))) (A) (B))
else
(bif (decide (a = 1)) then
 subS s0 (some at7) none fun b => callK (vr 53 0 [.t (.str b)] ⟨[], []⟩) fun c d => asT c fun b => asI .i64 b fun c => endB d <| J28_21 (s0) (ends6) (at7) (c) (A) (B)
else
(bif (decide (a = 2)) then
 subS s0 (some at7) none fun a => callK (vr 53 0 [.t (.str a)] ⟨[], []⟩) fun b c => asT b fun a => asI .i64 a fun b => endB c <| J28_21 (s0) (ends6) (at7) (b) (A) (B)
else
 J28_21 (s0) (ends6) (at7) (1) (A) (B))))))
else
 J28_28 (s0) (A) (B))
theorem L28_6g (KL28_6 KJ28_28 KJ28_21 KJ28_26 : Env → St → Option Res) (s0 : ByteArray) (ends6 : Bool) (at7 : Int) (A : Bool) (B : List T) : WL28_6 (fun e st => gP 28 0 82 Try.f28 (Ta28 KL28_6 KJ28_28 KJ28_21 KJ28_26) (.lp :: PaL28_6) e st) s0 ends6 at7 A B = RL28_6 (WL28_6 KL28_6) (WJ28_28 KJ28_28) (WJ28_21 KJ28_21) (WJ28_26 KJ28_26) s0 ends6 at7 A B := by kernel_rfl
theorem L28_6_eq (s0 : ByteArray) (ends6 : Bool) (at7 : Int) (A : Bool) (B : List T) : L28_6 s0 ends6 at7 A B = RL28_6 L28_6 J28_28 J28_21 J28_26 s0 ends6 at7 A B :=
 (congrArg (fun k => WL28_6 k s0 ends6 at7 A B) (funext fun e => funext fun st => round_eq Try.prog hint (b := (nav (List.reverse (.lp :: PaL28_6)) (bodyOf Try.f28))) (fn := Try.f28) (nt := 82) (T := (Ta28 VL28_6 VJ28_28 VJ28_21 VJ28_26)) [PaL28_6, PaJ28_28, PaJ28_21, PaJ28_26] rfl PaL28_6 e st rfl rfl rfl)).trans (L28_6g VL28_6 VJ28_28 VJ28_21 VJ28_26 s0 ends6 at7 A B)
noncomputable def RJ28_28 (L28_6 : YL28_6) (J28_28 : YJ28_28) (J28_21 : YJ28_21) (J28_26 : YJ28_26) (s0 : ByteArray) (A : Bool) (B : List T) : Option Res :=
(bif (decide (4096 < (B.length : Int))) then
 some ((.tup [.t (.list 3 false []), .t (.int .i64 0), .t (.int .i64 2)]), ⟨[], []⟩)
else
 some ((.tup [.t (.list 3 A B), .t (.int .i64 (s0.size : Int)), .t (.int .i64 0)]), ⟨[], []⟩))
theorem J28_28g (KL28_6 KJ28_28 KJ28_21 KJ28_26 : Env → St → Option Res) (s0 : ByteArray) (A : Bool) (B : List T) : WJ28_28 (fun e st => gP 28 0 82 Try.f28 (Ta28 KL28_6 KJ28_28 KJ28_21 KJ28_26) PaJ28_28 e st) s0 A B = RJ28_28 (WL28_6 KL28_6) (WJ28_28 KJ28_28) (WJ28_21 KJ28_21) (WJ28_26 KJ28_26) s0 A B := by kernel_rfl
theorem J28_28_eq (s0 : ByteArray) (A : Bool) (B : List T) : J28_28 s0 A B = RJ28_28 L28_6 J28_28 J28_21 J28_26 s0 A B :=
 (congrArg (fun k => WJ28_28 k s0 A B) (funext fun e => funext fun st => join_eq Try.prog hint (fn := Try.f28) (nt := 82) (T := (Ta28 VL28_6 VJ28_28 VJ28_21 VJ28_26)) [PaL28_6, PaJ28_28, PaJ28_21, PaJ28_26] rfl PaJ28_28 e st rfl)).trans (J28_28g VL28_6 VJ28_28 VJ28_21 VJ28_26 s0 A B)
noncomputable def RJ28_21 (L28_6 : YL28_6) (J28_28 : YJ28_28) (J28_21 : YJ28_21) (J28_26 : YJ28_26) (s0 : ByteArray) (ends6 : Bool) (at7 n8 : Int) (A : Bool) (B : List T) : Option Res := subS s0 (some at7) (some (IntKind.i64.wrap (at7 + n8))) fun a => callK (vr 54 0 [.t (.str a)] ⟨[], []⟩) fun b c => asTup b fun a => consV a fun b d => asT b fun a => asA a fun b => consT b fun a f => asI .i64 a fun b => consT f fun a g => asS a fun f => consT g fun a h => asI .i64 a fun g => endT h <| consV d fun a h => asT a fun d => asB d fun a => endV h <| endB c <|
(bif (!a) then
 some ((.tup [.t (.list 3 false []), .t (.int .i64 at7), .t (.int .i64 6)]), ⟨[], []⟩)
else
(bif ends6 then
 needC (decide ((B.length + 1) * (32 + 1) ≤ 70368744177664) && decide (32 ≤ 1048576)) fun _ => J28_26 (s0) (at7) (n8) ((A || true)) ((B ++ ([.agg [.int .i64 4, .str ByteArray.empty, .int .i64 0]] : List T))) (b) (f) (g)
else
 J28_26 (s0) (at7) (n8) (A) (B) (b) (f) (g)))
theorem J28_21g (KL28_6 KJ28_28 KJ28_21 KJ28_26 : Env → St → Option Res) (s0 : ByteArray) (ends6 : Bool) (at7 n8 : Int) (A : Bool) (B : List T) : WJ28_21 (fun e st => gP 28 0 82 Try.f28 (Ta28 KL28_6 KJ28_28 KJ28_21 KJ28_26) PaJ28_21 e st) s0 ends6 at7 n8 A B = RJ28_21 (WL28_6 KL28_6) (WJ28_28 KJ28_28) (WJ28_21 KJ28_21) (WJ28_26 KJ28_26) s0 ends6 at7 n8 A B := by kernel_rfl
theorem J28_21_eq (s0 : ByteArray) (ends6 : Bool) (at7 n8 : Int) (A : Bool) (B : List T) : J28_21 s0 ends6 at7 n8 A B = RJ28_21 L28_6 J28_28 J28_21 J28_26 s0 ends6 at7 n8 A B :=
 (congrArg (fun k => WJ28_21 k s0 ends6 at7 n8 A B) (funext fun e => funext fun st => join_eq Try.prog hint (fn := Try.f28) (nt := 82) (T := (Ta28 VL28_6 VJ28_28 VJ28_21 VJ28_26)) [PaL28_6, PaJ28_28, PaJ28_21, PaJ28_26] rfl PaJ28_21 e st rfl)).trans (J28_21g VL28_6 VJ28_28 VJ28_21 VJ28_26 s0 ends6 at7 n8 A B)
noncomputable def RJ28_26 (L28_6 : YL28_6) (J28_28 : YJ28_28) (J28_21 : YJ28_21) (J28_26 : YJ28_26) (s0 : ByteArray) (at7 n8 : Int) (A : Bool) (B : List T) (C : Int) (D : ByteArray) (E : Int) : Option Res := needC (decide ((B.length + 1) * (32 + 1) ≤ 70368744177664) && decide (32 ≤ 1048576)) fun _ => L28_6 (s0) (false) ((IntKind.i64.wrap (at7 + n8))) ((A || true)) ((B ++ ([.agg [.int .i64 C, .str D, .int .i64 E]] : List T)))
theorem J28_26g (KL28_6 KJ28_28 KJ28_21 KJ28_26 : Env → St → Option Res) (s0 : ByteArray) (at7 n8 : Int) (A : Bool) (B : List T) (C : Int) (D : ByteArray) (E : Int) : WJ28_26 (fun e st => gP 28 0 82 Try.f28 (Ta28 KL28_6 KJ28_28 KJ28_21 KJ28_26) PaJ28_26 e st) s0 at7 n8 A B C D E = RJ28_26 (WL28_6 KL28_6) (WJ28_28 KJ28_28) (WJ28_21 KJ28_21) (WJ28_26 KJ28_26) s0 at7 n8 A B C D E := by kernel_rfl
theorem J28_26_eq (s0 : ByteArray) (at7 n8 : Int) (A : Bool) (B : List T) (C : Int) (D : ByteArray) (E : Int) : J28_26 s0 at7 n8 A B C D E = RJ28_26 L28_6 J28_28 J28_21 J28_26 s0 at7 n8 A B C D E :=
 (congrArg (fun k => WJ28_26 k s0 at7 n8 A B C D E) (funext fun e => funext fun st => join_eq Try.prog hint (fn := Try.f28) (nt := 82) (T := (Ta28 VL28_6 VJ28_28 VJ28_21 VJ28_26)) [PaL28_6, PaJ28_28, PaJ28_21, PaJ28_26] rfl PaJ28_26 e st rfl)).trans (J28_26g VL28_6 VJ28_28 VJ28_21 VJ28_26 s0 at7 n8 A B C D E)
noncomputable def R56  (A : Int) (B : ByteArray) (C : Int) : Option Res := some ((.t (.bool (decide (A = 4)))), ⟨[], []⟩)
theorem eq56g  (A : Int) (B : ByteArray) (C : Int) : gE 56 0 6 Try.f56 [] [.t (.agg [.int .i64 A, .str B, .int .i64 C])] ⟨[], []⟩ = R56  A B C := by kernel_rfl
theorem eq56 (A : Int) (B : ByteArray) (C : Int) : vr 56 0 [.t (.agg [.int .i64 A, .str B, .int .i64 C])] ⟨[], []⟩ = R56  A B C :=
 Eq.trans (call_eq Try.prog hint (fn := Try.f56) (nt := 6) (T := []) [] rfl _ _ rfl rfl rfl rfl rfl) (eq56g  A B C)
noncomputable def R55 (L55_2 : YL55_2) (A : Bool) (B : List T) : Option Res := L55_2 (A) (B) ((B.length : Int)) (0)
theorem eq55g (KL55_2 : Env → St → Option Res) (A : Bool) (B : List T) : gE 55 0 19 Try.f55 (Ta55 KL55_2) [.t (.list 3 A B), .fn 56 [] []] ⟨[], []⟩ = R55 (WL55_2 KL55_2) A B := by kernel_rfl
theorem eq55 (A : Bool) (B : List T) : vr 55 0 [.t (.list 3 A B), .fn 56 [] []] ⟨[], []⟩ = R55 L55_2 A B :=
 Eq.trans (call_eq Try.prog hint (fn := Try.f55) (nt := 19) (T := (Ta55 VL55_2)) [PaL55_2] rfl _ _ rfl rfl rfl rfl rfl) (eq55g VL55_2 A B)
noncomputable def RL55_2 (L55_2 : YL55_2) (s0z : Bool) (s0 : List T) (A B : Int) : Option Res :=
(bif (decide (B < A)) then
 needC (decide (0 ≤ B)) fun _ => getT s0 (B).toNat fun a => asA a fun b => consT b fun a c => asI .i64 a fun b => consT c fun a d => asS a fun c => consT d fun a f => asI .i64 a fun d => endT f <| callK (vr 56 0 [.t (.agg [.int .i64 b, .str c, .int .i64 d])] ⟨[], []⟩) fun a f => asT a fun b => asB b fun a => endB f <|
(bif a then
 some ((.t (.int .i64 B)), ⟨[], []⟩)
else
 L55_2 (s0z) (s0) (A) ((IntKind.i64.wrap (B + 1))))
else
 some ((.t (.int .i64 (-1))), ⟨[], []⟩))
theorem L55_2g (KL55_2 : Env → St → Option Res) (s0z : Bool) (s0 : List T) (A B : Int) : WL55_2 (fun e st => gP 55 0 19 Try.f55 (Ta55 KL55_2) (.lp :: PaL55_2) e st) s0z s0 A B = RL55_2 (WL55_2 KL55_2) s0z s0 A B := by kernel_rfl
theorem L55_2_eq (s0z : Bool) (s0 : List T) (A B : Int) : L55_2 s0z s0 A B = RL55_2 L55_2 s0z s0 A B :=
 (congrArg (fun k => WL55_2 k s0z s0 A B) (funext fun e => funext fun st => round_eq Try.prog hint (b := (nav (List.reverse (.lp :: PaL55_2)) (bodyOf Try.f55))) (fn := Try.f55) (nt := 19) (T := (Ta55 VL55_2)) [PaL55_2] rfl PaL55_2 e st rfl rfl rfl)).trans (L55_2g VL55_2 s0z s0 A B)
noncomputable def R57  (A : Bool) (B : List T) : Option Res :=
(bif (!A) then
 some ((.t (.list 3 false [])), ⟨[], []⟩)
else
 needC (decide ((0 + B.length) * (32 + 1) ≤ 70368744177664) && decide (32 ≤ 1048576)) fun _ => some ((.t (.list 3 true (([] : List T) ++ B))), ⟨[], []⟩))
theorem eq57g  (A : Bool) (B : List T) : gE 57 0 8 Try.f57 [] [.t (.list 3 A B)] ⟨[], []⟩ = R57  A B := by kernel_rfl
theorem eq57 (A : Bool) (B : List T) : vr 57 0 [.t (.list 3 A B)] ⟨[], []⟩ = R57  A B :=
 Eq.trans (call_eq Try.prog hint (fn := Try.f57) (nt := 8) (T := []) [] rfl _ _ rfl rfl rfl rfl rfl) (eq57g  A B)
noncomputable def R29 (L29_2 : YL29_2) (A : Bool) (B : List T) : Option Res := L29_2 (A) (B) (false) ([])
theorem eq29g (KL29_2 : Env → St → Option Res) (A : Bool) (B : List T) : gE 29 0 35 Try.f29 (Ta29 KL29_2) [.t (.list 3 A B)] ⟨[], []⟩ = R29 (WL29_2 KL29_2) A B := by kernel_rfl
theorem eq29 (A : Bool) (B : List T) : vr 29 0 [.t (.list 3 A B)] ⟨[], []⟩ = R29 L29_2 A B :=
 Eq.trans (call_eq Try.prog hint (fn := Try.f29) (nt := 35) (T := (Ta29 VL29_2)) [PaL29_2] rfl _ _ rfl rfl rfl rfl rfl) (eq29g VL29_2 A B)
noncomputable def RL29_2 (L29_2 : YL29_2) (l0z : Bool) (l0 : List T) (A : Bool) (B : List T) : Option Res :=
(bif (decide (0 < (l0.length : Int))) then
 callK (vr 55 0 [.t (.list 3 l0z l0), .fn 56 [] []] ⟨[], []⟩) fun a b => asT a fun c => asI .i64 c fun a => endB b <|
(bif (decide (a < 0)) then
 callK (vr 57 0 [.t (.list 3 l0z l0)] ⟨[], []⟩) fun b c => asT b fun d => asL 3 d fun b f => endB c <| needC (decide ((B.length + 1) * (24 + 1) ≤ 70368744177664) && decide (24 ≤ 1048576)) fun _ => some ((.t (.list 1 (A || true) (B ++ ([.list 3 b f] : List T)))), ⟨[], []⟩)
else
 cutL l0 none (some a) fun b => callK (vr 57 0 [.t (.list 3 l0z b)] ⟨[], []⟩) fun c d => asT c fun b => asL 3 b fun c f => endB d <| needC (decide ((B.length + 1) * (24 + 1) ≤ 70368744177664) && decide (24 ≤ 1048576)) fun _ => cutL l0 (some (IntKind.i64.wrap (a + 1))) none fun b =>
(bif (decide ((b.length : Int) = 0)) then
 needC (decide ((((B ++ ([.list 3 c f] : List T))).length + 1) * (24 + 1) ≤ 70368744177664) && decide (24 ≤ 1048576)) fun _ => L29_2 (l0z) (b) (((A || true) || true)) (((B ++ ([.list 3 c f] : List T)) ++ ([.list 3 false []] : List T)))
else
 L29_2 (l0z) (b) ((A || true)) ((B ++ ([.list 3 c f] : List T)))))
else
 some ((.t (.list 1 A B)), ⟨[], []⟩))
theorem L29_2g (KL29_2 : Env → St → Option Res) (l0z : Bool) (l0 : List T) (A : Bool) (B : List T) : WL29_2 (fun e st => gP 29 0 35 Try.f29 (Ta29 KL29_2) (.lp :: PaL29_2) e st) l0z l0 A B = RL29_2 (WL29_2 KL29_2) l0z l0 A B := by kernel_rfl
theorem L29_2_eq (l0z : Bool) (l0 : List T) (A : Bool) (B : List T) : L29_2 l0z l0 A B = RL29_2 L29_2 l0z l0 A B :=
 (congrArg (fun k => WL29_2 k l0z l0 A B) (funext fun e => funext fun st => round_eq Try.prog hint (b := (nav (List.reverse (.lp :: PaL29_2)) (bodyOf Try.f29))) (fn := Try.f29) (nt := 35) (T := (Ta29 VL29_2)) [PaL29_2] rfl PaL29_2 e st rfl rfl rfl)).trans (L29_2g VL29_2 l0z l0 A B)
noncomputable def R30  (A : Int) (B : Bool) (C : List T) (D : Bool) : Option Res :=
(bif D then
 some ((.t (.agg [.int .i64 0, .str ByteArray.empty, .int .i64 0])), ⟨[(0, .var [.t (.list 3 B C), .t (.bool true)])], [500]⟩)
else
(bif (decide ((C.length : Int) = 0)) then
 some ((.t (.agg [.int .i64 0, .str ByteArray.empty, .int .i64 0])), ⟨[(0, .var [.t (.list 3 B C), .t (.bool true)])], [500]⟩)
else
 needC (decide (0 ≤ 0)) fun _ => getT C ((0 : Int)).toNat fun a => asA a fun b => consT b fun a c => asI .i64 a fun b => consT c fun a d => asS a fun c => consT d fun a c => asI .i64 a fun d => endT c <|
(bif (!decide (b = A)) then
 some ((.t (.agg [.int .i64 0, .str ByteArray.empty, .int .i64 0])), ⟨[(0, .var [.t (.list 3 B C), .t (.bool true)])], [500]⟩)
else
 needC (decide (0 ≤ 0)) fun _ => getT C ((0 : Int)).toNat fun a => asA a fun b => consT b fun a c => asI .i64 a fun b => consT c fun a d => asS a fun c => consT d fun a f => asI .i64 a fun d => endT f <| cutL C (some 1) none fun a => some ((.t (.agg [.int .i64 b, .str c, .int .i64 d])), ⟨[(0, .var [.t (.list 3 B a), .t (.bool D)])], [500]⟩))))
theorem eq30g  (A : Int) (B : Bool) (C : List T) (D : Bool) : gE 30 0 47 Try.f30 [] [.ptr 0 0 0, .t (.int .i64 A)] ⟨[(0, .var [.t (.list 3 B C), .t (.bool D)])], []⟩ = R30  A B C D := by kernel_rfl
theorem eq30 (A : Int) (B : Bool) (C : List T) (D : Bool) : vr 30 0 [.ptr 0 0 0, .t (.int .i64 A)] ⟨[(0, .var [.t (.list 3 B C), .t (.bool D)])], []⟩ = R30  A B C D :=
 Eq.trans (call_eq Try.prog hint (fn := Try.f30) (nt := 47) (T := []) [] rfl _ _ rfl rfl rfl rfl rfl) (eq30g  A B C D)
noncomputable def R59   : Option Res := some ((.t (.list 4 true [.agg [.str ⟨#[104, 97, 108, 116]⟩, .int .i64 0, .int .i64 0, .int .i64 0], .agg [.str ⟨#[115, 101, 116]⟩, .int .i64 1, .int .i64 5, .int .i64 0], .agg [.str ⟨#[109, 111, 118, 101]⟩, .int .i64 1, .int .i64 2, .int .i64 0], .agg [.str ⟨#[97, 100, 100]⟩, .int .i64 1, .int .i64 2, .int .i64 2], .agg [.str ⟨#[115, 117, 98]⟩, .int .i64 1, .int .i64 2, .int .i64 2], .agg [.str ⟨#[109, 117, 108]⟩, .int .i64 1, .int .i64 2, .int .i64 2], .agg [.str ⟨#[108, 111, 97, 100]⟩, .int .i64 1, .int .i64 3, .int .i64 2], .agg [.str ⟨#[115, 116, 111, 114, 101]⟩, .int .i64 3, .int .i64 2, .int .i64 2], .agg [.str ⟨#[108, 101, 110]⟩, .int .i64 1, .int .i64 3, .int .i64 0], .agg [.str ⟨#[112, 117, 115, 104]⟩, .int .i64 3, .int .i64 2, .int .i64 0], .agg [.str ⟨#[106, 117, 109, 112]⟩, .int .i64 4, .int .i64 0, .int .i64 0], .agg [.str ⟨#[108, 101, 115, 115]⟩, .int .i64 2, .int .i64 2, .int .i64 4], .agg [.str ⟨#[115, 97, 109, 101]⟩, .int .i64 2, .int .i64 2, .int .i64 4]])), ⟨[], []⟩)
theorem eq59g   : gE 59 0 30 Try.f59 [] [] ⟨[], []⟩ = R59   := by kernel_rfl
theorem eq59  : vr 59 0 [] ⟨[], []⟩ = R59   :=
 Eq.trans (call_eq Try.prog hint (fn := Try.f59) (nt := 30) (T := []) [] rfl _ _ rfl rfl rfl rfl rfl) (eq59g  )
noncomputable def R60  (A : ByteArray) (B C D : Int) (E : ByteArray) : Option Res := some ((.t (.bool (decide ((A : ByteArray) = E)))), ⟨[(0, .var [.t (.str E)])], [500]⟩)
theorem eq60g  (A : ByteArray) (B C D : Int) (E : ByteArray) : gE 60 0 8 Try.f60 [] [.t (.agg [.str A, .int .i64 B, .int .i64 C, .int .i64 D]), .ptr 0 0 0] ⟨[(0, .var [.t (.str E)])], []⟩ = R60  A B C D E := by kernel_rfl
theorem eq60 (A : ByteArray) (B C D : Int) (E : ByteArray) : vr 60 0 [.t (.agg [.str A, .int .i64 B, .int .i64 C, .int .i64 D]), .ptr 0 0 0] ⟨[(0, .var [.t (.str E)])], []⟩ = R60  A B C D E :=
 Eq.trans (call_eq Try.prog hint (fn := Try.f60) (nt := 8) (T := []) [] rfl _ _ rfl rfl rfl rfl rfl) (eq60g  A B C D E)
noncomputable def R58 (L58_2 : YL58_2) (A : Bool) (B : List T) (C : ByteArray) : Option Res := L58_2 (A) (B) ((B.length : Int)) (0) (C)
theorem eq58g (KL58_2 : Env → St → Option Res) (A : Bool) (B : List T) (C : ByteArray) : gE 58 0 19 Try.f58 (Ta58 KL58_2) [.t (.list 4 A B), .fn 60 [] [.ptr 0 0 0]] ⟨[(0, .var [.t (.str C)])], []⟩ = R58 (WL58_2 KL58_2) A B C := by kernel_rfl
theorem eq58 (A : Bool) (B : List T) (C : ByteArray) : vr 58 0 [.t (.list 4 A B), .fn 60 [] [.ptr 0 0 0]] ⟨[(0, .var [.t (.str C)])], []⟩ = R58 L58_2 A B C :=
 Eq.trans (call_eq Try.prog hint (fn := Try.f58) (nt := 19) (T := (Ta58 VL58_2)) [PaL58_2] rfl _ _ rfl rfl rfl rfl rfl) (eq58g VL58_2 A B C)
noncomputable def RL58_2 (L58_2 : YL58_2) (s0z : Bool) (s0 : List T) (A B : Int) (C : ByteArray) : Option Res :=
(bif (decide (B < A)) then
 needC (decide (0 ≤ B)) fun _ => getT s0 (B).toNat fun a => asA a fun b => consT b fun a c => asS a fun b => consT c fun a d => asI .i64 a fun c => consT d fun a f => asI .i64 a fun d => consT f fun a g => asI .i64 a fun f => endT g <| callK (vr 60 0 [.t (.agg [.str b, .int .i64 c, .int .i64 d, .int .i64 f]), .ptr 0 0 0] ⟨[(0, .var [.t (.str C)])], []⟩) fun a g => asT a fun b => asB b fun a => consB 0 g fun b c => asVar b fun d => consV d fun b f => asT b fun d => asS d fun b => endV f <| endB c <|
(bif a then
 some ((.t (.int .i64 B)), ⟨[(0, .var [.t (.str b)])], [500]⟩)
else
 L58_2 (s0z) (s0) (A) ((IntKind.i64.wrap (B + 1))) (b))
else
 some ((.t (.int .i64 (-1))), ⟨[(0, .var [.t (.str C)])], [500]⟩))
theorem L58_2g (KL58_2 : Env → St → Option Res) (s0z : Bool) (s0 : List T) (A B : Int) (C : ByteArray) : WL58_2 (fun e st => gP 58 0 19 Try.f58 (Ta58 KL58_2) (.lp :: PaL58_2) e st) s0z s0 A B C = RL58_2 (WL58_2 KL58_2) s0z s0 A B C := by kernel_rfl
theorem L58_2_eq (s0z : Bool) (s0 : List T) (A B : Int) (C : ByteArray) : L58_2 s0z s0 A B C = RL58_2 L58_2 s0z s0 A B C :=
 (congrArg (fun k => WL58_2 k s0z s0 A B C) (funext fun e => funext fun st => round_eq Try.prog hint (b := (nav (List.reverse (.lp :: PaL58_2)) (bodyOf Try.f58))) (fn := Try.f58) (nt := 19) (T := (Ta58 VL58_2)) [PaL58_2] rfl PaL58_2 e st rfl rfl rfl)).trans (L58_2g VL58_2 s0z s0 A B C)
noncomputable def R38  (A : Int) : Option Res := callK (vr 59 0 [] ⟨[], []⟩) fun a b => asT a fun c => asL 4 c fun a d => endB b <|
(bif (decide (A < 0)) then
 some ((.tup [.t (.agg [.str ByteArray.empty, .int .i64 0, .int .i64 0, .int .i64 0]), .t (.bool false)]), ⟨[], []⟩)
else
(bif (decide ((d.length : Int) ≤ A)) then
 some ((.tup [.t (.agg [.str ByteArray.empty, .int .i64 0, .int .i64 0, .int .i64 0]), .t (.bool false)]), ⟨[], []⟩)
else
 needC (decide (0 ≤ A)) fun _ => getT d (A).toNat fun a => asA a fun b => consT b fun a c => asS a fun b => consT c fun a d => asI .i64 a fun c => consT d fun a f => asI .i64 a fun d => consT f fun a g => asI .i64 a fun f => endT g <| some ((.tup [.t (.agg [.str b, .int .i64 c, .int .i64 d, .int .i64 f]), .t (.bool true)]), ⟨[], []⟩)))
theorem eq38g  (A : Int) : gE 38 0 19 Try.f38 [] [.t (.int .i64 A)] ⟨[], []⟩ = R38  A := by kernel_rfl
theorem eq38 (A : Int) : vr 38 0 [.t (.int .i64 A)] ⟨[], []⟩ = R38  A :=
 Eq.trans (call_eq Try.prog hint (fn := Try.f38) (nt := 19) (T := []) [] rfl _ _ rfl rfl rfl rfl rfl) (eq38g  A)
noncomputable def R39  (A B C D E : Int) : Option Res := some ((.agg [.ptr 0 0 1, .ptr 0 0 2, .ptr 0 0 3]), ⟨[(0, .var [.t (.int .i64 A), .t (.int .i64 B), .t (.int .i64 C), .t (.int .i64 D), .t (.int .i64 E)])], [500]⟩)
theorem eq39g  (A B C D E : Int) : gE 39 0 13 Try.f39 [] [.ptr 0 0 0] ⟨[(0, .var [.t (.int .i64 A), .t (.int .i64 B), .t (.int .i64 C), .t (.int .i64 D), .t (.int .i64 E)])], []⟩ = R39  A B C D E := by kernel_rfl
theorem eq39 (A B C D E : Int) : vr 39 0 [.ptr 0 0 0] ⟨[(0, .var [.t (.int .i64 A), .t (.int .i64 B), .t (.int .i64 C), .t (.int .i64 D), .t (.int .i64 E)])], []⟩ = R39  A B C D E :=
 Eq.trans (call_eq Try.prog hint (fn := Try.f39) (nt := 13) (T := []) [] rfl _ _ rfl rfl rfl rfl rfl) (eq39g  A B C D E)
noncomputable def R87  (A B : ByteArray) : Option Res :=
(bif (decide ((B.size : Int) ≤ (A.size : Int))) then
 subS A none (some (B.size : Int)) fun a => some ((.t (.bool (decide ((a : ByteArray) = B)))), ⟨[], []⟩)
else
 some ((.t (.bool false)), ⟨[], []⟩))
theorem eq87g  (A B : ByteArray) : gE 87 0 18 Try.f87 [] [.t (.str A), .t (.str B)] ⟨[], []⟩ = R87  A B := by kernel_rfl
theorem eq87 (A B : ByteArray) : vr 87 0 [.t (.str A), .t (.str B)] ⟨[], []⟩ = R87  A B :=
 Eq.trans (call_eq Try.prog hint (fn := Try.f87) (nt := 18) (T := []) [] rfl _ _ rfl rfl rfl rfl rfl) (eq87g  A B)
noncomputable def R85  (A B : ByteArray) : Option Res := callK (vr 87 0 [.t (.str A), .t (.str B)] ⟨[], []⟩) fun a b => asT a fun c => asB c fun a => endB b <|
(bif (!a) then
 some ((.tup [.t (.str A), .t (.bool false)]), ⟨[], []⟩)
else
 subS A (some (B.size : Int)) none fun a => some ((.tup [.t (.str a), .t (.bool true)]), ⟨[], []⟩))
theorem eq85g  (A B : ByteArray) : gE 85 0 15 Try.f85 [] [.t (.str A), .t (.str B)] ⟨[], []⟩ = R85  A B := by kernel_rfl
theorem eq85 (A B : ByteArray) : vr 85 0 [.t (.str A), .t (.str B)] ⟨[], []⟩ = R85  A B :=
 Eq.trans (call_eq Try.prog hint (fn := Try.f85) (nt := 15) (T := []) [] rfl _ _ rfl rfl rfl rfl rfl) (eq85g  A B)
noncomputable def R78  (A B : ByteArray) : Option Res := callK (vr 85 0 [.t (.str A), .t (.str B)] ⟨[], []⟩) fun a b => asTup a fun c => consV c fun a d => asT a fun c => asS c fun a => consV d fun c f => asT c fun d => asB d fun c => endV f <| endB b <| some ((.tup [.t (.str a), .t (.bool c)]), ⟨[], []⟩)
theorem eq78g  (A B : ByteArray) : gE 78 0 11 Try.f78 [] [.t (.str A), .t (.str B)] ⟨[], []⟩ = R78  A B := by kernel_rfl
theorem eq78 (A B : ByteArray) : vr 78 0 [.t (.str A), .t (.str B)] ⟨[], []⟩ = R78  A B :=
 Eq.trans (call_eq Try.prog hint (fn := Try.f78) (nt := 11) (T := []) [] rfl _ _ rfl rfl rfl rfl rfl) (eq78g  A B)
noncomputable def R61  (A : ByteArray) (B : Bool) (C : List T) (D : Bool) : Option Res := callK (vr 30 0 [.ptr 0 0 0, .t (.int .i64 1)] (Z0 B C D)) fun a b => asT a fun c => asA c fun a => consT a fun c d => asI .i64 c fun a => consT d fun a c => asS a fun d => consT c fun a f => asI .i64 a fun c => endT f <| consB 0 b fun a c => asVar a fun b => consV b fun a f => asT a fun b => asL 3 b fun a g => consV f fun b h => asT b fun f => asB f fun b => endV h <| endB c <| callK (vr 78 0 [.t (.str d), .t (.str A)] ⟨[], []⟩) fun c f => asTup c fun d => consV d fun c h => asT c fun d => asS d fun c => consV h fun d i =>
 asT d fun h => asB h fun d => endV i <| endB f <| callK (vr 77 0 [.t (.str c)] ⟨[], []⟩) fun f h => asTup f fun c => consV c fun f i => asT f fun c => asI .i64 c fun f => consV i fun c j => asT c fun i => asB i fun c => endV j <| endB h <|
(bif (!d) then
 some ((.t (.int .i64 f)), ⟨[(0, .var [.t (.list 3 a g), .t (.bool true)])], [500]⟩)
else
(bif (!c) then
 some ((.t (.int .i64 f)), ⟨[(0, .var [.t (.list 3 a g), .t (.bool true)])], [500]⟩)
else
 some ((.t (.int .i64 f)), ⟨[(0, .var [.t (.list 3 a g), .t (.bool b)])], [500]⟩)))
theorem eq61g  (A : ByteArray) (B : Bool) (C : List T) (D : Bool) : gE 61 0 32 Try.f61 [] [.ptr 0 0 0, .t (.str A)] ⟨[(0, .var [.t (.list 3 B C), .t (.bool D)])], []⟩ = R61  A B C D := by kernel_rfl
theorem eq61 (A : ByteArray) (B : Bool) (C : List T) (D : Bool) : vr 61 0 [.ptr 0 0 0, .t (.str A)] ⟨[(0, .var [.t (.list 3 B C), .t (.bool D)])], []⟩ = R61  A B C D :=
 Eq.trans (call_eq Try.prog hint (fn := Try.f61) (nt := 32) (T := []) [] rfl _ _ rfl rfl rfl rfl rfl) (eq61g  A B C D)
noncomputable def R62  (A : Bool) (B : List T) (C : Bool) : Option Res :=
(bif (decide ((B.length : Int) = 0)) then
 callK (vr 30 0 [.ptr 0 0 0, .t (.int .i64 2)] (Z0 A B C)) fun a b => asT a fun c => asA c fun a => consT a fun c d => asI .i64 c fun a => consT d fun a c => asS a fun d => consT c fun a d => asI .i64 a fun c => endT d <| consB 0 b fun a d => asVar a fun b => consV b fun a f => asT a fun b => asL 3 b fun a g => consV f fun b h => asT b fun f => asB f fun b => endV h <| endB d <| some ((.t (.int .i64 c)), ⟨[(0, .var [.t (.list 3 a g), .t (.bool b)])], [500]⟩)
else
 needC (decide (0 ≤ 0)) fun _ => getT B ((0 : Int)).toNat fun a => asA a fun b => consT b fun a c => asI .i64 a fun b => consT c fun a b => asS a fun c => consT b fun a d => asI .i64 a fun b => endT d <|
(bif (!decide ((c : ByteArray) = ⟨#[45]⟩)) then
 callK (vr 30 0 [.ptr 0 0 0, .t (.int .i64 2)] (Z0 A B C)) fun a b => asT a fun c => asA c fun a => consT a fun c d => asI .i64 c fun a => consT d fun a c => asS a fun d => consT c fun a d => asI .i64 a fun c => endT d <| consB 0 b fun a d => asVar a fun b => consV b fun a f => asT a fun b => asL 3 b fun a g => consV f fun b h => asT b fun f => asB f fun b => endV h <| endB d <| some ((.t (.int .i64 c)), ⟨[(0, .var [.t (.list 3 a g), .t (.bool b)])], [500]⟩)
else
 callK (vr 30 0 [.ptr 0 0 0, .t (.int .i64 3)] (Z0 A B C)) fun a b => asT a fun c => asA c fun a => consT a fun c d => asI .i64 c fun a => consT d fun a c => asS a fun d => consT c fun a d => asI .i64 a fun c => endT d <| consB 0 b fun a c => asVar a fun b => consV b fun a d => asT a fun b => asL 3 b fun a f => consV d fun b g => asT b fun d => asB d fun b => endV g <| endB c <| callK (vr 30 0 [.ptr 0 0 0, .t (.int .i64 2)] (Z0 a f b)) fun c d => asT c fun a => asA a fun b => consT b fun a c => asI .i64 a fun b => consT c fun a b => asS a fun c => consT b fun a c => asI .i64 a fun b => endT c <|
 consB 0 d fun a c => asVar a fun d => consV d fun a f => asT a fun d => asL 3 d fun a g => consV f fun d h => asT d fun f => asB f fun d => endV h <| endB c <|
(bif (decide (b = 0)) then
 some ((.t (.int .i64 (IntKind.i64.wrap (0 - b)))), ⟨[(0, .var [.t (.list 3 a g), .t (.bool true)])], [500]⟩)
else
 some ((.t (.int .i64 (IntKind.i64.wrap (0 - b)))), ⟨[(0, .var [.t (.list 3 a g), .t (.bool d)])], [500]⟩))))
theorem eq62g  (A : Bool) (B : List T) (C : Bool) : gE 62 0 35 Try.f62 [] [.ptr 0 0 0] ⟨[(0, .var [.t (.list 3 A B), .t (.bool C)])], []⟩ = R62  A B C := by kernel_rfl
theorem eq62 (A : Bool) (B : List T) (C : Bool) : vr 62 0 [.ptr 0 0 0] ⟨[(0, .var [.t (.list 3 A B), .t (.bool C)])], []⟩ = R62  A B C :=
 Eq.trans (call_eq Try.prog hint (fn := Try.f62) (nt := 35) (T := []) [] rfl _ _ rfl rfl rfl rfl rfl) (eq62g  A B C)
noncomputable def RH31_7_1 (J31_6 : YJ31_6) (A : Bool) (B : List T) (C : Bool) (D E F G H : Int) (I : ByteArray) (J K L : Int) : Option Res := some ((.t (.agg [.int .i64 D, .int .i64 E, .int .i64 F, .int .i64 G, .int .i64 H])), ⟨[(0, .var [.t (.list 3 A B), .t (.bool C)])], [500]⟩)
noncomputable def RH31_7_2 (J31_6 : YJ31_6) (A : Bool) (B : List T) (C : Bool) (D E F G H : Int) (I : ByteArray) (J K L : Int) : Option Res :=
(bif (decide (L = 1)) then
 callK (vr 61 0 [.ptr 0 0 0, .t (.str ⟨#[114]⟩)] (Z0 A B C)) fun a b => asT a fun c => asI .i64 c fun a => consB 0 b fun c d => asVar c fun b => consV b fun c f => asT c fun b => asL 3 b fun c g => consV f fun b h => asT b fun f => asB f fun b => endV h <| endB d <| RH31_7_1 J31_6 (c) (g) (b) (D) (E) (F) (a) (H) (I) (J) (K) (L)
else
(bif (decide (L = 2)) then
 callK (vr 61 0 [.ptr 0 0 0, .t (.str ⟨#[114]⟩)] (Z0 A B C)) fun a b => asT a fun c => asI .i64 c fun a => consB 0 b fun c d => asVar c fun b => consV b fun c f => asT c fun b => asL 3 b fun c g => consV f fun b h => asT b fun f => asB f fun b => endV h <| endB d <| RH31_7_1 J31_6 (c) (g) (b) (D) (E) (F) (a) (H) (I) (J) (K) (L)
else
(bif (decide (L = 3)) then
 callK (vr 61 0 [.ptr 0 0 0, .t (.str ⟨#[97]⟩)] (Z0 A B C)) fun a b => asT a fun c => asI .i64 c fun a => consB 0 b fun c d => asVar c fun b => consV b fun c f => asT c fun b => asL 3 b fun c g => consV f fun b h => asT b fun f => asB f fun b => endV h <| endB d <| RH31_7_1 J31_6 (c) (g) (b) (D) (E) (F) (a) (H) (I) (J) (K) (L)
else
(bif (decide (L = 4)) then
 callK (vr 30 0 [.ptr 0 0 0, .t (.int .i64 2)] (Z0 A B C)) fun a b => asT a fun c => asA c fun a => consT a fun c d => asI .i64 c fun a => consT d fun a c => asS a fun d => consT c fun a d => asI .i64 a fun c => endT d <| consB 0 b fun a d => asVar a fun b => consV b fun a f => asT a fun b => asL 3 b fun a g => consV f fun b h => asT b fun f => asB f fun b => endV h <| endB d <| RH31_7_1 J31_6 (a) (g) (b) (D) (E) (F) (c) (H) (I) (J) (K) (L)
else
(bif (decide (L = 5)) then
 callK (vr 62 0 [.ptr 0 0 0] (Z0 A B C)) fun a b => asT a fun c => asI .i64 c fun a => consB 0 b fun c d => asVar c fun b => consV b fun c f => asT c fun b => asL 3 b fun c g => consV f fun b h => asT b fun f => asB f fun b => endV h <| endB d <| RH31_7_1 J31_6 (c) (g) (b) (D) (E) (F) (G) (a) (I) (J) (K) (L)
else
 RH31_7_1 J31_6 (A) (B) (C) (D) (E) (F) (G) (H) (I) (J) (K) (L))))))
noncomputable def RH31_7_3 (J31_6 : YJ31_6) (A : Bool) (B : List T) (C : Bool) (D E F G H : Int) (I : ByteArray) (J K L : Int) : Option Res :=
(bif (decide (K = 1)) then
 callK (vr 61 0 [.ptr 0 0 0, .t (.str ⟨#[114]⟩)] (Z0 A B C)) fun a b => asT a fun c => asI .i64 c fun a => consB 0 b fun c d => asVar c fun b => consV b fun c f => asT c fun b => asL 3 b fun c g => consV f fun b h => asT b fun f => asB f fun b => endV h <| endB d <| RH31_7_2 J31_6 (c) (g) (b) (D) (E) (a) (G) (H) (I) (J) (K) (L)
else
(bif (decide (K = 2)) then
 callK (vr 61 0 [.ptr 0 0 0, .t (.str ⟨#[114]⟩)] (Z0 A B C)) fun a b => asT a fun c => asI .i64 c fun a => consB 0 b fun c d => asVar c fun b => consV b fun c f => asT c fun b => asL 3 b fun c g => consV f fun b h => asT b fun f => asB f fun b => endV h <| endB d <| RH31_7_2 J31_6 (c) (g) (b) (D) (E) (a) (G) (H) (I) (J) (K) (L)
else
(bif (decide (K = 3)) then
 callK (vr 61 0 [.ptr 0 0 0, .t (.str ⟨#[97]⟩)] (Z0 A B C)) fun a b => asT a fun c => asI .i64 c fun a => consB 0 b fun c d => asVar c fun b => consV b fun c f => asT c fun b => asL 3 b fun c g => consV f fun b h => asT b fun f => asB f fun b => endV h <| endB d <| RH31_7_2 J31_6 (c) (g) (b) (D) (E) (a) (G) (H) (I) (J) (K) (L)
else
(bif (decide (K = 4)) then
 callK (vr 30 0 [.ptr 0 0 0, .t (.int .i64 2)] (Z0 A B C)) fun a b => asT a fun c => asA c fun a => consT a fun c d => asI .i64 c fun a => consT d fun a c => asS a fun d => consT c fun a d => asI .i64 a fun c => endT d <| consB 0 b fun a d => asVar a fun b => consV b fun a f => asT a fun b => asL 3 b fun a g => consV f fun b h => asT b fun f => asB f fun b => endV h <| endB d <| RH31_7_2 J31_6 (a) (g) (b) (D) (E) (c) (G) (H) (I) (J) (K) (L)
else
(bif (decide (K = 5)) then
 callK (vr 62 0 [.ptr 0 0 0] (Z0 A B C)) fun a b => asT a fun c => asI .i64 c fun a => consB 0 b fun c d => asVar c fun b => consV b fun c f => asT c fun b => asL 3 b fun c g => consV f fun b h => asT b fun f => asB f fun b => endV h <| endB d <| RH31_7_2 J31_6 (c) (g) (b) (D) (E) (F) (G) (a) (I) (J) (K) (L)
else
 RH31_7_2 J31_6 (A) (B) (C) (D) (E) (F) (G) (H) (I) (J) (K) (L))))))
noncomputable def RH31_7_4 (J31_6 : YJ31_6) (A : Bool) (B : List T) (C : Bool) (D E F G H : Int) (I : ByteArray) (J K L : Int) : Option Res :=
(bif (decide (J = 1)) then
 callK (vr 61 0 [.ptr 0 0 0, .t (.str ⟨#[114]⟩)] (Z0 A B C)) fun a b => asT a fun c => asI .i64 c fun a => consB 0 b fun c d => asVar c fun b => consV b fun c f => asT c fun b => asL 3 b fun c g => consV f fun b h => asT b fun f => asB f fun b => endV h <| endB d <| RH31_7_3 J31_6 (c) (g) (b) (D) (a) (F) (G) (H) (I) (J) (K) (L)
else
(bif (decide (J = 2)) then
 callK (vr 61 0 [.ptr 0 0 0, .t (.str ⟨#[114]⟩)] (Z0 A B C)) fun a b => asT a fun c => asI .i64 c fun a => consB 0 b fun c d => asVar c fun b => consV b fun c f => asT c fun b => asL 3 b fun c g => consV f fun b h => asT b fun f => asB f fun b => endV h <| endB d <| RH31_7_3 J31_6 (c) (g) (b) (D) (a) (F) (G) (H) (I) (J) (K) (L)
else
(bif (decide (J = 3)) then
 callK (vr 61 0 [.ptr 0 0 0, .t (.str ⟨#[97]⟩)] (Z0 A B C)) fun a b => asT a fun c => asI .i64 c fun a => consB 0 b fun c d => asVar c fun b => consV b fun c f => asT c fun b => asL 3 b fun c g => consV f fun b h => asT b fun f => asB f fun b => endV h <| endB d <| RH31_7_3 J31_6 (c) (g) (b) (D) (a) (F) (G) (H) (I) (J) (K) (L)
else
(bif (decide (J = 4)) then
 callK (vr 30 0 [.ptr 0 0 0, .t (.int .i64 2)] (Z0 A B C)) fun a b => asT a fun c => asA c fun a => consT a fun c d => asI .i64 c fun a => consT d fun a c => asS a fun d => consT c fun a d => asI .i64 a fun c => endT d <| consB 0 b fun a d => asVar a fun b => consV b fun a f => asT a fun b => asL 3 b fun a g => consV f fun b h => asT b fun f => asB f fun b => endV h <| endB d <| RH31_7_3 J31_6 (a) (g) (b) (D) (c) (F) (G) (H) (I) (J) (K) (L)
else
(bif (decide (J = 5)) then
 callK (vr 62 0 [.ptr 0 0 0] (Z0 A B C)) fun a b => asT a fun c => asI .i64 c fun a => consB 0 b fun c d => asVar c fun b => consV b fun c f => asT c fun b => asL 3 b fun c g => consV f fun b h => asT b fun f => asB f fun b => endV h <| endB d <| RH31_7_3 J31_6 (c) (g) (b) (D) (E) (F) (G) (a) (I) (J) (K) (L)
else
 RH31_7_3 J31_6 (A) (B) (C) (D) (E) (F) (G) (H) (I) (J) (K) (L))))))
noncomputable def R31 (J31_6 : YJ31_6) (A : Bool) (B : List T) (C : Bool) : Option Res := callK (vr 30 0 [.ptr 0 0 0, .t (.int .i64 1)] (Z0 A B C)) fun a b => asT a fun c => asA c fun a => consT a fun c d => asI .i64 c fun a => consT d fun a c => asS a fun d => consT c fun a f => asI .i64 a fun c => endT f <| consB 0 b fun a c => asVar a fun b => consV b fun a f => asT a fun b => asL 3 b fun a g => consV f fun b h => asT b fun f => asB f fun b => endV h <| endB c <| callK (vr 59 0 [] ⟨[], []⟩) fun c f => asT c fun h => asL 4 h fun c i => endB f <| callK (vr 58 0 [.t (.list 4 c i), .fn 60 [] [.ptr 0 0 0]] ⟨[(0, .var [.t (.str d)])], []⟩) fun f h =>
 asT f fun c => asI .i64 c fun d => consB 0 h fun c f => asVar c fun h => consV h fun c i => asT c fun h => asS h fun c => endV i <| endB f <| callK (vr 38 0 [.t (.int .i64 d)] ⟨[], []⟩) fun c f => asTup c fun h => consV h fun c i => asT c fun h => asA h fun c => consT c fun h j => asS h fun c => consT j fun h k => asI .i64 h fun j => consT k fun h l => asI .i64 h fun k => consT l fun h m => asI .i64 h fun l => endT m <| consV i fun h m => asT h fun i => asB i fun h => endV m <| endB f <|
(bif (!h) then
 J31_6 (a) (g) (true) (d) (0) (0) (0) (0) (c) (j) (k) (l)
else
 J31_6 (a) (g) (b) (d) (0) (0) (0) (0) (c) (j) (k) (l))
theorem eq31g (KJ31_6 : Env → St → Option Res) (A : Bool) (B : List T) (C : Bool) : gE 31 0 62 Try.f31 (Ta31 KJ31_6) [.ptr 0 0 0] ⟨[(0, .var [.t (.list 3 A B), .t (.bool C)])], []⟩ = R31 (WJ31_6 KJ31_6) A B C := by kernel_rfl
theorem eq31 (A : Bool) (B : List T) (C : Bool) : vr 31 0 [.ptr 0 0 0] ⟨[(0, .var [.t (.list 3 A B), .t (.bool C)])], []⟩ = R31 J31_6 A B C :=
 Eq.trans (call_eq Try.prog hint (fn := Try.f31) (nt := 62) (T := (Ta31 VJ31_6)) [PaJ31_6] rfl _ _ rfl rfl rfl rfl rfl) (eq31g VJ31_6 A B C)
noncomputable def RJ31_6 (J31_6 : YJ31_6) (A : Bool) (B : List T) (C : Bool) (D E F G H : Int) (I : ByteArray) (J K L : Int) : Option Res := callK (vr 39 0 [.ptr 0 0 0] ⟨[(0, .var [.t (.int .i64 D), .t (.int .i64 E), .t (.int .i64 F), .t (.int .i64 G), .t (.int .i64 H)])], []⟩) fun a b => asG a fun c => consV c fun a d => isPtr 0 0 1 a <| consV d fun a c => isPtr 0 0 2 a <| consV c fun a d => isPtr 0 0 3 a <| endV d <| consB 0 b fun a c => asVar a fun b => consV b fun a d => asT a fun b => asI .i64 b fun a => consV d fun b f => asT b fun d => asI .i64 d fun b => consV f fun d g => asT d fun f =>
 asI .i64 f fun d => consV g fun f h => asT f fun g => asI .i64 g fun f => consV h fun g i => asT g fun h => asI .i64 h fun g => endV i <| endB c <| RH31_7_4 J31_6 (A) (B) (C) (a) (b) (d) (f) (g) (I) (J) (K) (L)
theorem J31_6g (KJ31_6 : Env → St → Option Res) (A : Bool) (B : List T) (C : Bool) (D E F G H : Int) (I : ByteArray) (J K L : Int) : WJ31_6 (fun e st => gP 31 0 62 Try.f31 (Ta31 KJ31_6) PaJ31_6 e st) A B C D E F G H I J K L = RJ31_6 (WJ31_6 KJ31_6) A B C D E F G H I J K L := by kernel_rfl
theorem J31_6_eq (A : Bool) (B : List T) (C : Bool) (D E F G H : Int) (I : ByteArray) (J K L : Int) : J31_6 A B C D E F G H I J K L = RJ31_6 J31_6 A B C D E F G H I J K L :=
 (congrArg (fun k => WJ31_6 k A B C D E F G H I J K L) (funext fun e => funext fun st => join_eq Try.prog hint (fn := Try.f31) (nt := 62) (T := (Ta31 VJ31_6)) [PaJ31_6] rfl PaJ31_6 e st rfl)).trans (J31_6g VJ31_6 A B C D E F G H I J K L)
noncomputable def R37  (A B C D E F G H : Int) (I : Bool) (J : List T) : Option Res := callK (vr 38 0 [.t (.int .i64 A)] ⟨[], []⟩) fun a b => asTup a fun c => consV c fun a d => asT a fun c => asA c fun a => consT a fun c f => asS c fun a => consT f fun a c => asI .i64 a fun f => consT c fun a g => asI .i64 a fun c => consT g fun a h => asI .i64 a fun g => endT h <| consV d fun a h => asT a fun d => asB d fun a => endV h <| endB b <| callK (vr 39 0 [.ptr 0 0 0] ⟨[(0, .var [.t (.int .i64 A), .t (.int .i64 B), .t (.int .i64 C), .t (.int .i64 D), .t (.int .i64 E)])], []⟩) fun b d => asG b fun h =>
 consV h fun b i => isPtr 0 0 1 b <| consV i fun b h => isPtr 0 0 2 b <| consV h fun b i => isPtr 0 0 3 b <| endV i <| consB 0 d fun b h => asVar b fun d => consV d fun b i => asT b fun d => asI .i64 d fun b => consV i fun b d => asT b fun i => asI .i64 i fun b => consV d fun i j => asT i fun d => asI .i64 d fun i => consV j fun d k => asT d fun j => asI .i64 j fun d => consV k fun j l => asT j fun k => asI .i64 k fun j => endV l <| endB h <|
(bif a then
(bif (decide (0 ≤ b)) then
 needC (decide (0 ≤ f) && decide (f < (6 : Int))) fun _ => getT ([.int .i64 1, .int .i64 F, .int .i64 F, .int .i64 G, .int .i64 (J.length : Int), .int .i64 1]) ((0 + (f).toNat * 1)) fun a => asI .i64 a fun f =>
(bif (decide (b < f)) then
(bif (decide (0 ≤ i)) then
 needC (decide (0 ≤ c) && decide (c < (6 : Int))) fun _ => getT ([.int .i64 1, .int .i64 F, .int .i64 F, .int .i64 G, .int .i64 (J.length : Int), .int .i64 1]) ((0 + (c).toNat * 1)) fun a => asI .i64 a fun b =>
(bif (decide (i < b)) then
(bif (decide (0 ≤ d)) then
 needC (decide (0 ≤ g) && decide (g < (6 : Int))) fun _ => getT ([.int .i64 1, .int .i64 F, .int .i64 F, .int .i64 G, .int .i64 (J.length : Int), .int .i64 1]) ((0 + (g).toNat * 1)) fun a => asI .i64 a fun b =>
(bif (!decide (c = 5)) then
(bif (decide (d < b)) then
 some ((.t (.bool (decide (j = 0)))), ⟨[], []⟩)
else
 some ((.t (.bool false)), ⟨[], []⟩))
else
(bif (decide (d < b)) then
(bif (decide ((-1000000000000000000) < j)) then
 some ((.t (.bool (decide (j < 1000000000000000000)))), ⟨[], []⟩)
else
 some ((.t (.bool false)), ⟨[], []⟩))
else
 some ((.t (.bool false)), ⟨[], []⟩)))
else
(bif (!decide (c = 5)) then
 some ((.t (.bool false)), ⟨[], []⟩)
else
 some ((.t (.bool false)), ⟨[], []⟩)))
else
(bif (!decide (c = 5)) then
 some ((.t (.bool false)), ⟨[], []⟩)
else
 some ((.t (.bool false)), ⟨[], []⟩)))
else
(bif (!decide (c = 5)) then
 some ((.t (.bool false)), ⟨[], []⟩)
else
 some ((.t (.bool false)), ⟨[], []⟩)))
else
(bif (!decide (c = 5)) then
 some ((.t (.bool false)), ⟨[], []⟩)
else
 some ((.t (.bool false)), ⟨[], []⟩)))
else
(bif (!decide (c = 5)) then
 some ((.t (.bool false)), ⟨[], []⟩)
else
 some ((.t (.bool false)), ⟨[], []⟩)))
else
(bif (!decide (c = 5)) then
 some ((.t (.bool false)), ⟨[], []⟩)
else
 some ((.t (.bool false)), ⟨[], []⟩)))
theorem eq37g  (A B C D E F G H : Int) (I : Bool) (J : List T) : gE 37 0 72 Try.f37 [] [.t (.agg [.int .i64 A, .int .i64 B, .int .i64 C, .int .i64 D, .int .i64 E]), .t (.agg [.int .i64 F, .int .i64 G, .int .i64 H, .list 5 I J])] ⟨[], []⟩ = R37  A B C D E F G H I J := by kernel_rfl
theorem eq37 (A B C D E F G H : Int) (I : Bool) (J : List T) : vr 37 0 [.t (.agg [.int .i64 A, .int .i64 B, .int .i64 C, .int .i64 D, .int .i64 E]), .t (.agg [.int .i64 F, .int .i64 G, .int .i64 H, .list 5 I J])] ⟨[], []⟩ = R37  A B C D E F G H I J :=
 Eq.trans (call_eq Try.prog hint (fn := Try.f37) (nt := 72) (T := []) [] rfl _ _ rfl rfl rfl rfl rfl) (eq37g  A B C D E F G H I J)
noncomputable def R36  (A B C D E F G H : Int) (I : Bool) (J : List T) : Option Res := callK (vr 37 0 [.t (.agg [.int .i64 A, .int .i64 B, .int .i64 C, .int .i64 D, .int .i64 E]), .t (.agg [.int .i64 F, .int .i64 G, .int .i64 H, .list 5 I J])] ⟨[], []⟩) fun a b => asT a fun c => asB c fun a => endB b <| some ((.t (.bool (!a))), ⟨[(0, .var [.t (.int .i64 F), .t (.int .i64 G), .t (.int .i64 H), .t (.list 5 I J)])], [500]⟩)
theorem eq36g  (A B C D E F G H : Int) (I : Bool) (J : List T) : gE 36 0 8 Try.f36 [] [.t (.agg [.int .i64 A, .int .i64 B, .int .i64 C, .int .i64 D, .int .i64 E]), .ptr 0 0 0] ⟨[(0, .var [.t (.int .i64 F), .t (.int .i64 G), .t (.int .i64 H), .t (.list 5 I J)])], []⟩ = R36  A B C D E F G H I J := by kernel_rfl
theorem eq36 (A B C D E F G H : Int) (I : Bool) (J : List T) : vr 36 0 [.t (.agg [.int .i64 A, .int .i64 B, .int .i64 C, .int .i64 D, .int .i64 E]), .ptr 0 0 0] ⟨[(0, .var [.t (.int .i64 F), .t (.int .i64 G), .t (.int .i64 H), .t (.list 5 I J)])], []⟩ = R36  A B C D E F G H I J :=
 Eq.trans (call_eq Try.prog hint (fn := Try.f36) (nt := 8) (T := []) [] rfl _ _ rfl rfl rfl rfl rfl) (eq36g  A B C D E F G H I J)
noncomputable def R68 (L68_2 : YL68_2) (A : Bool) (B : List T) (C D E : Int) (F : Bool) (G : List T) : Option Res := L68_2 (A) (B) ((B.length : Int)) (0) (C) (D) (E) (F) (G)
theorem eq68g (KL68_2 : Env → St → Option Res) (A : Bool) (B : List T) (C D E : Int) (F : Bool) (G : List T) : gE 68 0 19 Try.f68 (Ta68 KL68_2) [.t (.list 5 A B), .fn 36 [] [.ptr 0 0 0]] ⟨[(0, .var [.t (.int .i64 C), .t (.int .i64 D), .t (.int .i64 E), .t (.list 5 F G)])], []⟩ = R68 (WL68_2 KL68_2) A B C D E F G := by kernel_rfl
theorem eq68 (A : Bool) (B : List T) (C D E : Int) (F : Bool) (G : List T) : vr 68 0 [.t (.list 5 A B), .fn 36 [] [.ptr 0 0 0]] ⟨[(0, .var [.t (.int .i64 C), .t (.int .i64 D), .t (.int .i64 E), .t (.list 5 F G)])], []⟩ = R68 L68_2 A B C D E F G :=
 Eq.trans (call_eq Try.prog hint (fn := Try.f68) (nt := 19) (T := (Ta68 VL68_2)) [PaL68_2] rfl _ _ rfl rfl rfl rfl rfl) (eq68g VL68_2 A B C D E F G)
noncomputable def RL68_2 (L68_2 : YL68_2) (s0z : Bool) (s0 : List T) (A B C D E : Int) (F : Bool) (G : List T) : Option Res :=
(bif (decide (B < A)) then
 needC (decide (0 ≤ B)) fun _ => getT s0 (B).toNat fun a => asA a fun b => consT b fun a c => asI .i64 a fun b => consT c fun a d => asI .i64 a fun c => consT d fun a f => asI .i64 a fun d => consT f fun a g => asI .i64 a fun f => consT g fun a h => asI .i64 a fun g => endT h <| callK (vr 36 0 [.t (.agg [.int .i64 b, .int .i64 c, .int .i64 d, .int .i64 f, .int .i64 g]), .ptr 0 0 0] ⟨[(0, .var [.t (.int .i64 C), .t (.int .i64 D), .t (.int .i64 E), .t (.list 5 F G)])], []⟩) fun a h => asT a fun b => asB b fun a => consB 0 h fun b c => asVar b fun d => consV d fun b f => asT b fun d => asI .i64 d fun b =>
 consV f fun d g => asT d fun f => asI .i64 f fun d => consV g fun f h => asT f fun g => asI .i64 g fun f => consV h fun g i => asT g fun h => asL 5 h fun g j => endV i <| endB c <|
(bif a then
 some ((.t (.int .i64 B)), ⟨[(0, .var [.t (.int .i64 b), .t (.int .i64 d), .t (.int .i64 f), .t (.list 5 g j)])], [500]⟩)
else
 L68_2 (s0z) (s0) (A) ((IntKind.i64.wrap (B + 1))) (b) (d) (f) (g) (j))
else
 some ((.t (.int .i64 (-1))), ⟨[(0, .var [.t (.int .i64 C), .t (.int .i64 D), .t (.int .i64 E), .t (.list 5 F G)])], [500]⟩))
theorem L68_2g (KL68_2 : Env → St → Option Res) (s0z : Bool) (s0 : List T) (A B C D E : Int) (F : Bool) (G : List T) : WL68_2 (fun e st => gP 68 0 19 Try.f68 (Ta68 KL68_2) (.lp :: PaL68_2) e st) s0z s0 A B C D E F G = RL68_2 (WL68_2 KL68_2) s0z s0 A B C D E F G := by kernel_rfl
theorem L68_2_eq (s0z : Bool) (s0 : List T) (A B C D E : Int) (F : Bool) (G : List T) : L68_2 s0z s0 A B C D E F G = RL68_2 L68_2 s0z s0 A B C D E F G :=
 (congrArg (fun k => WL68_2 k s0z s0 A B C D E F G) (funext fun e => funext fun st => round_eq Try.prog hint (b := (nav (List.reverse (.lp :: PaL68_2)) (bodyOf Try.f68))) (fn := Try.f68) (nt := 19) (T := (Ta68 VL68_2)) [PaL68_2] rfl PaL68_2 e st rfl rfl rfl)).trans (L68_2g VL68_2 s0z s0 A B C D E F G)
noncomputable def R35  (A : Bool) (B : List T) (C D E : Int) (F : Bool) (G : List T) : Option Res := callK (vr 68 0 [.t (.list 5 A B), .fn 36 [] [.ptr 0 0 0]] ⟨[(0, .var [.t (.int .i64 C), .t (.int .i64 D), .t (.int .i64 E), .t (.list 5 F G)])], []⟩) fun a b => asT a fun c => asI .i64 c fun a => consB 0 b fun c d => asVar c fun b => consV b fun c f => asT c fun b => asI .i64 b fun c => consV f fun b g => asT b fun f => asI .i64 f fun b => consV g fun f h => asT f fun g => asI .i64 g fun f => consV h fun g i => asT g fun h => asL 5 h fun g j => endV i <| endB d <| some ((.t (.bool (decide (0 ≤ a)))), ⟨[(0, .var [.t (.int .i64 c), .t (.int .i64 b), .t (.int .i64 f), .t (.list 5 g j)])], [500]⟩)
theorem eq35g  (A : Bool) (B : List T) (C D E : Int) (F : Bool) (G : List T) : gE 35 0 9 Try.f35 [] [.t (.list 5 A B), .fn 36 [] [.ptr 0 0 0]] ⟨[(0, .var [.t (.int .i64 C), .t (.int .i64 D), .t (.int .i64 E), .t (.list 5 F G)])], []⟩ = R35  A B C D E F G := by kernel_rfl
theorem eq35 (A : Bool) (B : List T) (C D E : Int) (F : Bool) (G : List T) : vr 35 0 [.t (.list 5 A B), .fn 36 [] [.ptr 0 0 0]] ⟨[(0, .var [.t (.int .i64 C), .t (.int .i64 D), .t (.int .i64 E), .t (.list 5 F G)])], []⟩ = R35  A B C D E F G :=
 Eq.trans (call_eq Try.prog hint (fn := Try.f35) (nt := 9) (T := []) [] rfl _ _ rfl rfl rfl rfl rfl) (eq35g  A B C D E F G)
noncomputable def R14  (A B C : Int) (D : Bool) (E : List T) : Option Res :=
(bif (decide (0 ≤ A)) then
(bif (decide (A ≤ 128)) then
(bif (decide (0 ≤ B)) then
(bif (decide (B ≤ 128)) then
(bif (decide (0 ≤ C)) then
(bif (!(decide (C ≤ B))) then
 some ((.t (.int .i64 1)), ⟨[], []⟩)
else
(bif (decide ((E.length : Int) = 0)) then
 some ((.t (.int .i64 1)), ⟨[], []⟩)
else
(bif (decide (4096 < (E.length : Int))) then
 some ((.t (.int .i64 1)), ⟨[], []⟩)
else
 callK (vr 35 0 [.t (.list 5 D E), .fn 36 [] [.ptr 0 0 0]] ⟨[(0, .var [.t (.int .i64 A), .t (.int .i64 B), .t (.int .i64 C), .t (.list 5 D E)])], []⟩) fun a b => asT a fun c => asB c fun a => consB 0 b fun c d => asVar c fun b => consV b fun c f => asT c fun b => asI .i64 b fun c => consV f fun b c => asT b fun f => asI .i64 f fun b => consV c fun b f => asT b fun c => asI .i64 c fun b => consV f fun b c => asT b fun f => asL 5 f fun b g => endV c <| endB d <|
(bif a then
 some ((.t (.int .i64 1)), ⟨[], []⟩)
else
 needC (decide (0 ≤ (IntKind.i64.wrap ((g.length : Int) - 1)))) fun _ => getT g ((IntKind.i64.wrap ((g.length : Int) - 1))).toNat fun a => asA a fun b => consT b fun a c => asI .i64 a fun b => consT c fun a d => asI .i64 a fun c => consT d fun a c => asI .i64 a fun d => consT c fun a d => asI .i64 a fun c => consT d fun a c => asI .i64 a fun d => endT c <|
(bif (!decide (b = 0)) then
(bif (!decide (b = 10)) then
 some ((.t (.int .i64 1)), ⟨[], []⟩)
else
 some ((.t (.int .i64 0)), ⟨[], []⟩))
else
 some ((.t (.int .i64 0)), ⟨[], []⟩))))))
else
 some ((.t (.int .i64 1)), ⟨[], []⟩))
else
 some ((.t (.int .i64 1)), ⟨[], []⟩))
else
 some ((.t (.int .i64 1)), ⟨[], []⟩))
else
 some ((.t (.int .i64 1)), ⟨[], []⟩))
else
 some ((.t (.int .i64 1)), ⟨[], []⟩))
theorem eq14g  (A B C : Int) (D : Bool) (E : List T) : gE 14 0 70 Try.f14 [] [.t (.agg [.int .i64 A, .int .i64 B, .int .i64 C, .list 5 D E])] ⟨[], []⟩ = R14  A B C D E := by kernel_rfl
theorem eq14 (A B C : Int) (D : Bool) (E : List T) : vr 14 0 [.t (.agg [.int .i64 A, .int .i64 B, .int .i64 C, .list 5 D E])] ⟨[], []⟩ = R14  A B C D E :=
 Eq.trans (call_eq Try.prog hint (fn := Try.f14) (nt := 70) (T := []) [] rfl _ _ rfl rfl rfl rfl rfl) (eq14g  A B C D E)
noncomputable def R10 (L10_8 : YL10_8) (J10_17 : YJ10_17) (A : ByteArray) : Option Res := callK (vr 28 0 [.t (.str A)] ⟨[], []⟩) fun a b => asTup a fun c => consV c fun a d => asT a fun c => asL 3 c fun a f => consV d fun c g => asT c fun d => asI .i64 d fun c => consV g fun d h => asT d fun g => asI .i64 g fun d => endV h <| endB b <|
(bif (!decide (d = 0)) then
 some ((.tup [.t (.agg [.int .i64 0, .int .i64 0, .int .i64 0, .list 5 false []]), .t (.int .i64 c), .t (.int .i64 d)]), ⟨[], []⟩)
else
 callK (vr 29 0 [.t (.list 3 a f)] ⟨[], []⟩) fun b c => asT b fun a => asL 1 a fun b d => endB c <|
(bif (decide ((d.length : Int) = 0)) then
 some ((.tup [.t (.agg [.int .i64 0, .int .i64 0, .int .i64 0, .list 5 false []]), .t (.int .i64 0), .t (.int .i64 6)]), ⟨[], []⟩)
else
 L10_8 (b) (d) (b) (d) ((d.length : Int)) (0) (0) (0) (0) (false) ([])))
theorem eq10g (KL10_8 KJ10_17 : Env → St → Option Res) (A : ByteArray) : gE 10 0 92 Try.f10 (Ta10 KL10_8 KJ10_17) [.t (.str A)] ⟨[], []⟩ = R10 (WL10_8 KL10_8) (WJ10_17 KJ10_17) A := by kernel_rfl
theorem eq10 (A : ByteArray) : vr 10 0 [.t (.str A)] ⟨[], []⟩ = R10 L10_8 J10_17 A :=
 Eq.trans (call_eq Try.prog hint (fn := Try.f10) (nt := 92) (T := (Ta10 VL10_8 VJ10_17)) [PaL10_8, PaJ10_17] rfl _ _ rfl rfl rfl rfl rfl) (eq10g VL10_8 VJ10_17 A)
noncomputable def RL10_8 (L10_8 : YL10_8) (J10_17 : YJ10_17) (lines8z : Bool) (lines8 : List T) (A : Bool) (B : List T) (C D E F G : Int) (H : Bool) (I : List T) : Option Res :=
(bif (decide (D < C)) then
 needC (decide (0 ≤ D)) fun _ => getT B (D).toNat fun a => asL 3 a fun b c =>
(bif (decide (D = 0)) then
 callK (vr 30 0 [.ptr 0 0 0, .t (.int .i64 1)] ⟨[(0, .var [.t (.list 3 b c), .t (.bool false)])], []⟩) fun a d => asT a fun f => asA f fun a => consT a fun f g => asI .i64 f fun a => consT g fun a f => asS a fun g => consT f fun a h => asI .i64 a fun f => endT h <| consB 0 d fun a f => asVar a fun d => consV d fun a h => asT a fun d => asL 3 d fun a i => consV h fun d j => asT d fun h => asB h fun d => endV j <| endB f <| callK (vr 30 0 [.ptr 0 0 0, .t (.int .i64 2)] ⟨[(0, .var [.t (.list 3 a i), .t (.bool (!decide ((g : ByteArray) = ⟨#[99, 111, 100, 101]⟩)))])], []⟩) fun d f => asT d fun a =>
 asA a fun d => consT d fun a g => asI .i64 a fun d => consT g fun a d => asS a fun g => consT d fun a g => asI .i64 a fun d => endT g <| consB 0 f fun a g => asVar a fun f => consV f fun a h => asT a fun f => asL 3 f fun a i => consV h fun f j => asT f fun h => asB h fun f => endV j <| endB g <| callK (vr 30 0 [.ptr 0 0 0, .t (.int .i64 2)] (Z0 a i f)) fun g h => asT g fun a => asA a fun f => consT f fun a g => asI .i64 a fun f => consT g fun a f => asS a fun g => consT f fun a g => asI .i64 a fun f => endT g <| consB 0 h fun a g => asVar a fun h => consV h fun a i => asT a fun h => asL 3 h fun a j =>
 consV i fun h k => asT h fun i => asB i fun h => endV k <| endB g <| callK (vr 30 0 [.ptr 0 0 0, .t (.int .i64 2)] (Z0 a j h)) fun g i => asT g fun a => asA a fun g => consT g fun a h => asI .i64 a fun g => consT h fun a g => asS a fun h => consT g fun a h => asI .i64 a fun g => endT h <| consB 0 i fun a h => asVar a fun i => consV i fun a j => asT a fun i => asL 3 i fun a k => consV j fun i l => asT i fun j => asB j fun i => endV l <| endB h <| J10_17 (lines8z) (lines8) (D) (A) (B) (C) (D) (d) (f) (g) (H) (I) (a) (k) (i)
else
 callK (vr 31 0 [.ptr 0 0 0] ⟨[(0, .var [.t (.list 3 b c), .t (.bool false)])], []⟩) fun a d => asT a fun b => asA b fun a => consT a fun b c => asI .i64 b fun a => consT c fun b f => asI .i64 b fun c => consT f fun b g => asI .i64 b fun f => consT g fun b h => asI .i64 b fun g => consT h fun b i => asI .i64 b fun h => endT i <| consB 0 d fun b i => asVar b fun d => consV d fun b j => asT b fun d => asL 3 d fun b k => consV j fun d l => asT d fun j => asB j fun d => endV l <| endB i <| needC (decide ((I.length + 1) * (40 + 1) ≤ 70368744177664) && decide (40 ≤ 1048576)) fun _ => J10_17 (lines8z) (lines8) (D) (A) (B) (C) (D) (E) (F) (G) ((H || true)) ((I ++ ([.agg [.int .i64 a, .int .i64 c, .int .i64 f, .int .i64 g, .int .i64 h]] : List T))) (b) (k) (d))
else
 callK (vr 14 0 [.t (.agg [.int .i64 E, .int .i64 F, .int .i64 G, .list 5 H I])] ⟨[], []⟩) fun a b => asT a fun c => asI .i64 c fun a => endB b <|
(bif (!decide (a = 0)) then
 some ((.tup [.t (.agg [.int .i64 0, .int .i64 0, .int .i64 0, .list 5 false []]), .t (.int .i64 0), .t (.int .i64 a)]), ⟨[], []⟩)
else
 some ((.tup [.t (.agg [.int .i64 E, .int .i64 F, .int .i64 G, .list 5 H I]), .t (.int .i64 (lines8.length : Int)), .t (.int .i64 0)]), ⟨[], []⟩)))
theorem L10_8g (KL10_8 KJ10_17 : Env → St → Option Res) (lines8z : Bool) (lines8 : List T) (A : Bool) (B : List T) (C D E F G : Int) (H : Bool) (I : List T) : WL10_8 (fun e st => gP 10 0 92 Try.f10 (Ta10 KL10_8 KJ10_17) (.lp :: PaL10_8) e st) lines8z lines8 A B C D E F G H I = RL10_8 (WL10_8 KL10_8) (WJ10_17 KJ10_17) lines8z lines8 A B C D E F G H I := by kernel_rfl
theorem L10_8_eq (lines8z : Bool) (lines8 : List T) (A : Bool) (B : List T) (C D E F G : Int) (H : Bool) (I : List T) : L10_8 lines8z lines8 A B C D E F G H I = RL10_8 L10_8 J10_17 lines8z lines8 A B C D E F G H I :=
 (congrArg (fun k => WL10_8 k lines8z lines8 A B C D E F G H I) (funext fun e => funext fun st => round_eq Try.prog hint (b := (nav (List.reverse (.lp :: PaL10_8)) (bodyOf Try.f10))) (fn := Try.f10) (nt := 92) (T := (Ta10 VL10_8 VJ10_17)) [PaL10_8, PaJ10_17] rfl PaL10_8 e st rfl rfl rfl)).trans (L10_8g VL10_8 VJ10_17 lines8z lines8 A B C D E F G H I)
noncomputable def RJ10_17 (L10_8 : YL10_8) (J10_17 : YJ10_17) (lines8z : Bool) (lines8 : List T) (i9 : Int) (A : Bool) (B : List T) (C D E F G : Int) (H : Bool) (I : List T) (J : Bool) (K : List T) (L : Bool) : Option Res :=
(bif L then
 some ((.tup [.t (.agg [.int .i64 0, .int .i64 0, .int .i64 0, .list 5 false []]), .t (.int .i64 i9), .t (.int .i64 6)]), ⟨[], []⟩)
else
(bif (decide (0 < (K.length : Int))) then
 some ((.tup [.t (.agg [.int .i64 0, .int .i64 0, .int .i64 0, .list 5 false []]), .t (.int .i64 i9), .t (.int .i64 6)]), ⟨[], []⟩)
else
 L10_8 (lines8z) (lines8) (A) (B) (C) ((IntKind.i64.wrap (D + 1))) (E) (F) (G) (H) (I)))
theorem J10_17g (KL10_8 KJ10_17 : Env → St → Option Res) (lines8z : Bool) (lines8 : List T) (i9 : Int) (A : Bool) (B : List T) (C D E F G : Int) (H : Bool) (I : List T) (J : Bool) (K : List T) (L : Bool) : WJ10_17 (fun e st => gP 10 0 92 Try.f10 (Ta10 KL10_8 KJ10_17) PaJ10_17 e st) lines8z lines8 i9 A B C D E F G H I J K L = RJ10_17 (WL10_8 KL10_8) (WJ10_17 KJ10_17) lines8z lines8 i9 A B C D E F G H I J K L := by kernel_rfl
theorem J10_17_eq (lines8z : Bool) (lines8 : List T) (i9 : Int) (A : Bool) (B : List T) (C D E F G : Int) (H : Bool) (I : List T) (J : Bool) (K : List T) (L : Bool) : J10_17 lines8z lines8 i9 A B C D E F G H I J K L = RJ10_17 L10_8 J10_17 lines8z lines8 i9 A B C D E F G H I J K L :=
 (congrArg (fun k => WJ10_17 k lines8z lines8 i9 A B C D E F G H I J K L) (funext fun e => funext fun st => join_eq Try.prog hint (fn := Try.f10) (nt := 92) (T := (Ta10 VL10_8 VJ10_17)) [PaL10_8, PaJ10_17] rfl PaJ10_17 e st rfl)).trans (J10_17g VL10_8 VJ10_17 lines8z lines8 i9 A B C D E F G H I J K L)
noncomputable def R9   : Option Res := callK (vr 10 0 [.t (.str ⟨#[99, 111, 100, 101, 32, 49, 32, 48, 32, 48, 10, 104, 97, 108, 116]⟩)] ⟨[], []⟩) fun a b => asTup a fun c => consV c fun a d => asT a fun c => asA c fun a => consT a fun c f => asI .i64 c fun a => consT f fun c g => asI .i64 c fun f => consT g fun c h => asI .i64 c fun g => consT h fun c i => asL 5 c fun h j => endT i <| consV d fun c i => asT c fun d => asI .i64 d fun c => consV i fun d k => asT d fun i => asI .i64 i fun d => endV k <| endB b <|
(bif (decide (c = 2)) then
(bif (decide (d = 0)) then
(bif (decide (a = 1)) then
(bif (decide ((j.length : Int) = 1)) then
 callK (vr 14 0 [.t (.agg [.int .i64 a, .int .i64 f, .int .i64 g, .list 5 h j])] ⟨[], []⟩) fun b c => asT b fun a => asI .i64 a fun b => endB c <| some ((.t (.bool (decide (b = 0)))), ⟨[], []⟩)
else
 some ((.t (.bool false)), ⟨[], []⟩))
else
 some ((.t (.bool false)), ⟨[], []⟩))
else
 some ((.t (.bool false)), ⟨[], []⟩))
else
 some ((.t (.bool false)), ⟨[], []⟩))
theorem eq9g   : gE 9 0 31 Try.f9 [] [] ⟨[], []⟩ = R9   := by kernel_rfl
theorem eq9  : vr 9 0 [] ⟨[], []⟩ = R9   :=
 Eq.trans (call_eq Try.prog hint (fn := Try.f9) (nt := 31) (T := []) [] rfl _ _ rfl rfl rfl rfl rfl) (eq9g  )
noncomputable def R13  (A B C : Int) (D : Bool) (E : List T) : Option Res := some ((.t (.bool (decide ((E.length : Int) ≤ 300)))), ⟨[], []⟩)
theorem eq13g  (A B C : Int) (D : Bool) (E : List T) : gE 13 0 7 Try.f13 [] [.t (.agg [.int .i64 A, .int .i64 B, .int .i64 C, .list 5 D E])] ⟨[], []⟩ = R13  A B C D E := by kernel_rfl
theorem eq13 (A B C : Int) (D : Bool) (E : List T) : vr 13 0 [.t (.agg [.int .i64 A, .int .i64 B, .int .i64 C, .list 5 D E])] ⟨[], []⟩ = R13  A B C D E :=
 Eq.trans (call_eq Try.prog hint (fn := Try.f13) (nt := 7) (T := []) [] rfl _ _ rfl rfl rfl rfl rfl) (eq13g  A B C D E)
noncomputable def R69 (L69_1 : YL69_1) (A : Bool) (B : List T) : Option Res := L69_1 (0) ((IntKind.i64.wrap ((B.length : Int) - 1))) (A) (B)
theorem eq69g (KL69_1 : Env → St → Option Res) (A : Bool) (B : List T) : gE 69 0 28 Try.f69 (Ta69 KL69_1) [.buf 0] ⟨[(0, .arr true 1 A B)], []⟩ = R69 (WL69_1 KL69_1) A B := by kernel_rfl
theorem eq69 (A : Bool) (B : List T) : vr 69 0 [.buf 0] ⟨[(0, .arr true 1 A B)], []⟩ = R69 L69_1 A B :=
 Eq.trans (call_eq Try.prog hint (fn := Try.f69) (nt := 28) (T := (Ta69 VL69_1)) [PaL69_1] rfl _ _ rfl rfl rfl rfl rfl) (eq69g VL69_1 A B)
noncomputable def RL69_1 (L69_1 : YL69_1) (i2 j3 : Int) (A : Bool) (B : List T) : Option Res :=
(bif (decide (i2 < j3)) then
 needC (decide (0 ≤ j3) && decide (j3 < (B.length : Int))) fun _ => getT B ((j3).toNat) fun a => asI .u8 a fun b => needC (decide (0 ≤ i2) && decide (i2 < (B.length : Int))) fun _ => getT B ((i2).toNat) fun a => asI .u8 a fun c => needC (decide (0 ≤ i2) && decide (i2 < (B.length : Int))) fun _ => needC (A && true) fun _ => setT B ((i2).toNat) (.int .u8 b) fun a => needC (decide (0 ≤ j3) && decide (j3 < (a.length : Int))) fun _ => needC (A && true) fun _ => setT a ((j3).toNat) (.int .u8 c) fun b => L69_1 ((IntKind.i64.wrap (i2 + 1))) ((IntKind.i64.wrap (j3 - 1))) (A) (b)
else
 some ((.tup []), ⟨[(0, .arr true 1 A B)], [500]⟩))
theorem L69_1g (KL69_1 : Env → St → Option Res) (i2 j3 : Int) (A : Bool) (B : List T) : WL69_1 (fun e st => gP 69 0 28 Try.f69 (Ta69 KL69_1) (.lp :: PaL69_1) e st) i2 j3 A B = RL69_1 (WL69_1 KL69_1) i2 j3 A B := by kernel_rfl
theorem L69_1_eq (i2 j3 : Int) (A : Bool) (B : List T) : L69_1 i2 j3 A B = RL69_1 L69_1 i2 j3 A B :=
 (congrArg (fun k => WL69_1 k i2 j3 A B) (funext fun e => funext fun st => round_eq Try.prog hint (b := (nav (List.reverse (.lp :: PaL69_1)) (bodyOf Try.f69))) (fn := Try.f69) (nt := 28) (T := (Ta69 VL69_1)) [PaL69_1] rfl PaL69_1 e st rfl rfl rfl)).trans (L69_1g VL69_1 i2 j3 A B)
noncomputable def R42 (L42_5 : YL42_5) (A : Int) : Option Res :=
(bif (decide (A < 0)) then
 L42_5 (A) ((IntKind.u64.wrap (0 - (IntKind.u64.wrap A)))) (false) ([])
else
 L42_5 (A) ((IntKind.u64.wrap A)) (false) ([]))
theorem eq42g (KL42_5 : Env → St → Option Res) (A : Int) : gE 42 0 31 Try.f42 (Ta42 KL42_5) [.t (.int .i64 A)] ⟨[], []⟩ = R42 (WL42_5 KL42_5) A := by kernel_rfl
theorem eq42 (A : Int) : vr 42 0 [.t (.int .i64 A)] ⟨[], []⟩ = R42 L42_5 A :=
 Eq.trans (call_eq Try.prog hint (fn := Try.f42) (nt := 31) (T := (Ta42 VL42_5)) [PaL42_5] rfl _ _ rfl rfl rfl rfl rfl) (eq42g VL42_5 A)
noncomputable def RL42_5 (L42_5 : YL42_5) (n0 u4 : Int) (A : Bool) (B : List T) : Option Res := needC (decide ((B.length + 1) * (1 + 1) ≤ 70368744177664) && decide (1 ≤ 1048576)) fun _ =>
(bif (decide ((IntKind.u64.wrap (Int.tdiv u4 10)) = 0)) then
(bif (decide (n0 < 0)) then
 needC (decide ((((B ++ ([.int .u8 (IntKind.u8.wrap (IntKind.u64.wrap ((48 : Int) + (Int.tmod u4 10))))] : List T))).length + 1) * (1 + 1) ≤ 70368744177664) && decide (1 ≤ 1048576)) fun _ => callK (vr 69 0 [.buf 0] ⟨[(0, .arr true 1 ((A || true) || true) ((B ++ ([.int .u8 (IntKind.u8.wrap (IntKind.u64.wrap ((48 : Int) + (Int.tmod u4 10))))] : List T)) ++ ([.int .u8 45] : List T)))], []⟩) fun a b => asTup a fun c => endV c <| consB 0 b fun a c => asArr 1 a fun b d => endB c <| needC ((1 == 1) && d.all isByte) fun _ => some ((.t (.str ⟨(d.map byteT).toArray⟩)), ⟨[], []⟩)
else
 callK (vr 69 0 [.buf 0] ⟨[(0, .arr true 1 (A || true) (B ++ ([.int .u8 (IntKind.u8.wrap (IntKind.u64.wrap ((48 : Int) + (Int.tmod u4 10))))] : List T)))], []⟩) fun a b => asTup a fun c => endV c <| consB 0 b fun a c => asArr 1 a fun b d => endB c <| needC ((1 == 1) && d.all isByte) fun _ => some ((.t (.str ⟨(d.map byteT).toArray⟩)), ⟨[], []⟩))
else
 L42_5 (n0) ((IntKind.u64.wrap (Int.tdiv u4 10))) ((A || true)) ((B ++ ([.int .u8 (IntKind.u8.wrap (IntKind.u64.wrap ((48 : Int) + (Int.tmod u4 10))))] : List T))))
theorem L42_5g (KL42_5 : Env → St → Option Res) (n0 u4 : Int) (A : Bool) (B : List T) : WL42_5 (fun e st => gP 42 0 31 Try.f42 (Ta42 KL42_5) (.lp :: PaL42_5) e st) n0 u4 A B = RL42_5 (WL42_5 KL42_5) n0 u4 A B := by kernel_rfl
theorem L42_5_eq (n0 u4 : Int) (A : Bool) (B : List T) : L42_5 n0 u4 A B = RL42_5 L42_5 n0 u4 A B :=
 (congrArg (fun k => WL42_5 k n0 u4 A B) (funext fun e => funext fun st => round_eq Try.prog hint (b := (nav (List.reverse (.lp :: PaL42_5)) (bodyOf Try.f42))) (fn := Try.f42) (nt := 31) (T := (Ta42 VL42_5)) [PaL42_5] rfl PaL42_5 e st rfl rfl rfl)).trans (L42_5g VL42_5 n0 u4 A B)
noncomputable def R41  (A : Int) (B : Bool) (C : List T) : Option Res :=
(bif (decide (A < 0)) then
 needC (decide ((C.length + 1) * (32 + 1) ≤ 70368744177664) && decide (32 ≤ 1048576)) fun _ => callK (vr 42 0 [.t (.int .i64 (IntKind.i64.wrap (0 - A)))] ⟨[], []⟩) fun a b => asT a fun c => asS c fun a => endB b <| needC (decide ((((C ++ ([.agg [.int .i64 3, .str ⟨#[45]⟩, .int .i64 0]] : List T))).length + 1) * (32 + 1) ≤ 70368744177664) && decide (32 ≤ 1048576)) fun _ => some ((.buf 500), ⟨[(500, .arr true 3 ((B || true) || true) ((C ++ ([.agg [.int .i64 3, .str ⟨#[45]⟩, .int .i64 0]] : List T)) ++ ([.agg [.int .i64 2, .str a, .int .i64 (IntKind.i64.wrap (0 - A))]] : List T)))], [500]⟩)
else
 callK (vr 42 0 [.t (.int .i64 A)] ⟨[], []⟩) fun a b => asT a fun c => asS c fun a => endB b <| needC (decide ((C.length + 1) * (32 + 1) ≤ 70368744177664) && decide (32 ≤ 1048576)) fun _ => some ((.buf 500), ⟨[(500, .arr true 3 (B || true) (C ++ ([.agg [.int .i64 2, .str a, .int .i64 A]] : List T)))], [500]⟩))
theorem eq41g  (A : Int) (B : Bool) (C : List T) : gE 41 0 20 Try.f41 [] [.buf 0, .t (.int .i64 A)] ⟨[(0, .arr true 3 B C)], []⟩ = R41  A B C := by kernel_rfl
theorem eq41 (A : Int) (B : Bool) (C : List T) : vr 41 0 [.buf 0, .t (.int .i64 A)] ⟨[(0, .arr true 3 B C)], []⟩ = R41  A B C :=
 Eq.trans (call_eq Try.prog hint (fn := Try.f41) (nt := 20) (T := []) [] rfl _ _ rfl rfl rfl rfl rfl) (eq41g  A B C)
noncomputable def RH21_16_1 (L21_11 : YL21_11) (A : Bool) (B : List T) (C D : Int) (E : Bool) (F : List T) (G H I J K : Int) (L : ByteArray) (M N O : Int) : Option Res := L21_11 (A) (B) (C) ((IntKind.i64.wrap (D + 1))) (E) (F)
noncomputable def RH21_16_2 (L21_11 : YL21_11) (A : Bool) (B : List T) (C D : Int) (E : Bool) (F : List T) (G H I J K : Int) (L : ByteArray) (M N O : Int) : Option Res :=
(bif (decide (O = 1)) then
 callK (vr 42 0 [.t (.int .i64 J)] ⟨[], []⟩) fun a b => asT a fun c => asS c fun a => endB b <| catC (⟨#[114]⟩) a fun b => needC (decide ((F.length + 1) * (32 + 1) ≤ 70368744177664) && decide (32 ≤ 1048576)) fun _ => RH21_16_1 L21_11 (A) (B) (C) (D) ((E || true)) ((F ++ ([.agg [.int .i64 1, .str b, .int .i64 0]] : List T))) (G) (H) (I) (J) (K) (L) (M) (N) (O)
else
(bif (decide (O = 2)) then
 callK (vr 42 0 [.t (.int .i64 J)] ⟨[], []⟩) fun a b => asT a fun c => asS c fun a => endB b <| catC (⟨#[114]⟩) a fun b => needC (decide ((F.length + 1) * (32 + 1) ≤ 70368744177664) && decide (32 ≤ 1048576)) fun _ => RH21_16_1 L21_11 (A) (B) (C) (D) ((E || true)) ((F ++ ([.agg [.int .i64 1, .str b, .int .i64 0]] : List T))) (G) (H) (I) (J) (K) (L) (M) (N) (O)
else
(bif (decide (O = 3)) then
 callK (vr 42 0 [.t (.int .i64 J)] ⟨[], []⟩) fun a b => asT a fun c => asS c fun a => endB b <| catC (⟨#[97]⟩) a fun b => needC (decide ((F.length + 1) * (32 + 1) ≤ 70368744177664) && decide (32 ≤ 1048576)) fun _ => RH21_16_1 L21_11 (A) (B) (C) (D) ((E || true)) ((F ++ ([.agg [.int .i64 1, .str b, .int .i64 0]] : List T))) (G) (H) (I) (J) (K) (L) (M) (N) (O)
else
(bif (decide (O = 4)) then
 callK (vr 41 0 [.buf 0, .t (.int .i64 J)] ⟨[(0, .arr true 3 E F)], []⟩) fun a b => isBuf 500 a <| consB 500 b fun a c => asArr 3 a fun b d => endB c <| RH21_16_1 L21_11 (A) (B) (C) (D) (b) (d) (G) (H) (I) (J) (K) (L) (M) (N) (O)
else
(bif (decide (O = 5)) then
 callK (vr 41 0 [.buf 0, .t (.int .i64 K)] ⟨[(0, .arr true 3 E F)], []⟩) fun a b => isBuf 500 a <| consB 500 b fun a c => asArr 3 a fun b d => endB c <| RH21_16_1 L21_11 (A) (B) (C) (D) (b) (d) (G) (H) (I) (J) (K) (L) (M) (N) (O)
else
 RH21_16_1 L21_11 (A) (B) (C) (D) (E) (F) (G) (H) (I) (J) (K) (L) (M) (N) (O))))))
noncomputable def RH21_16_3 (L21_11 : YL21_11) (A : Bool) (B : List T) (C D : Int) (E : Bool) (F : List T) (G H I J K : Int) (L : ByteArray) (M N O : Int) : Option Res :=
(bif (decide (N = 1)) then
 callK (vr 42 0 [.t (.int .i64 I)] ⟨[], []⟩) fun a b => asT a fun c => asS c fun a => endB b <| catC (⟨#[114]⟩) a fun b => needC (decide ((F.length + 1) * (32 + 1) ≤ 70368744177664) && decide (32 ≤ 1048576)) fun _ => RH21_16_2 L21_11 (A) (B) (C) (D) ((E || true)) ((F ++ ([.agg [.int .i64 1, .str b, .int .i64 0]] : List T))) (G) (H) (I) (J) (K) (L) (M) (N) (O)
else
(bif (decide (N = 2)) then
 callK (vr 42 0 [.t (.int .i64 I)] ⟨[], []⟩) fun a b => asT a fun c => asS c fun a => endB b <| catC (⟨#[114]⟩) a fun b => needC (decide ((F.length + 1) * (32 + 1) ≤ 70368744177664) && decide (32 ≤ 1048576)) fun _ => RH21_16_2 L21_11 (A) (B) (C) (D) ((E || true)) ((F ++ ([.agg [.int .i64 1, .str b, .int .i64 0]] : List T))) (G) (H) (I) (J) (K) (L) (M) (N) (O)
else
(bif (decide (N = 3)) then
 callK (vr 42 0 [.t (.int .i64 I)] ⟨[], []⟩) fun a b => asT a fun c => asS c fun a => endB b <| catC (⟨#[97]⟩) a fun b => needC (decide ((F.length + 1) * (32 + 1) ≤ 70368744177664) && decide (32 ≤ 1048576)) fun _ => RH21_16_2 L21_11 (A) (B) (C) (D) ((E || true)) ((F ++ ([.agg [.int .i64 1, .str b, .int .i64 0]] : List T))) (G) (H) (I) (J) (K) (L) (M) (N) (O)
else
(bif (decide (N = 4)) then
 callK (vr 41 0 [.buf 0, .t (.int .i64 I)] ⟨[(0, .arr true 3 E F)], []⟩) fun a b => isBuf 500 a <| consB 500 b fun a c => asArr 3 a fun b d => endB c <| RH21_16_2 L21_11 (A) (B) (C) (D) (b) (d) (G) (H) (I) (J) (K) (L) (M) (N) (O)
else
(bif (decide (N = 5)) then
 callK (vr 41 0 [.buf 0, .t (.int .i64 K)] ⟨[(0, .arr true 3 E F)], []⟩) fun a b => isBuf 500 a <| consB 500 b fun a c => asArr 3 a fun b d => endB c <| RH21_16_2 L21_11 (A) (B) (C) (D) (b) (d) (G) (H) (I) (J) (K) (L) (M) (N) (O)
else
 RH21_16_2 L21_11 (A) (B) (C) (D) (E) (F) (G) (H) (I) (J) (K) (L) (M) (N) (O))))))
noncomputable def RH21_16_4 (L21_11 : YL21_11) (A : Bool) (B : List T) (C D : Int) (E : Bool) (F : List T) (G H I J K : Int) (L : ByteArray) (M N O : Int) : Option Res :=
(bif (decide (M = 1)) then
 callK (vr 42 0 [.t (.int .i64 H)] ⟨[], []⟩) fun a b => asT a fun c => asS c fun a => endB b <| catC (⟨#[114]⟩) a fun b => needC (decide ((F.length + 1) * (32 + 1) ≤ 70368744177664) && decide (32 ≤ 1048576)) fun _ => RH21_16_3 L21_11 (A) (B) (C) (D) ((E || true)) ((F ++ ([.agg [.int .i64 1, .str b, .int .i64 0]] : List T))) (G) (H) (I) (J) (K) (L) (M) (N) (O)
else
(bif (decide (M = 2)) then
 callK (vr 42 0 [.t (.int .i64 H)] ⟨[], []⟩) fun a b => asT a fun c => asS c fun a => endB b <| catC (⟨#[114]⟩) a fun b => needC (decide ((F.length + 1) * (32 + 1) ≤ 70368744177664) && decide (32 ≤ 1048576)) fun _ => RH21_16_3 L21_11 (A) (B) (C) (D) ((E || true)) ((F ++ ([.agg [.int .i64 1, .str b, .int .i64 0]] : List T))) (G) (H) (I) (J) (K) (L) (M) (N) (O)
else
(bif (decide (M = 3)) then
 callK (vr 42 0 [.t (.int .i64 H)] ⟨[], []⟩) fun a b => asT a fun c => asS c fun a => endB b <| catC (⟨#[97]⟩) a fun b => needC (decide ((F.length + 1) * (32 + 1) ≤ 70368744177664) && decide (32 ≤ 1048576)) fun _ => RH21_16_3 L21_11 (A) (B) (C) (D) ((E || true)) ((F ++ ([.agg [.int .i64 1, .str b, .int .i64 0]] : List T))) (G) (H) (I) (J) (K) (L) (M) (N) (O)
else
(bif (decide (M = 4)) then
 callK (vr 41 0 [.buf 0, .t (.int .i64 H)] ⟨[(0, .arr true 3 E F)], []⟩) fun a b => isBuf 500 a <| consB 500 b fun a c => asArr 3 a fun b d => endB c <| RH21_16_3 L21_11 (A) (B) (C) (D) (b) (d) (G) (H) (I) (J) (K) (L) (M) (N) (O)
else
(bif (decide (M = 5)) then
 callK (vr 41 0 [.buf 0, .t (.int .i64 K)] ⟨[(0, .arr true 3 E F)], []⟩) fun a b => isBuf 500 a <| consB 500 b fun a c => asArr 3 a fun b d => endB c <| RH21_16_3 L21_11 (A) (B) (C) (D) (b) (d) (G) (H) (I) (J) (K) (L) (M) (N) (O)
else
 RH21_16_3 L21_11 (A) (B) (C) (D) (E) (F) (G) (H) (I) (J) (K) (L) (M) (N) (O))))))
noncomputable def R21 (L21_11 : YL21_11) (A B C : Int) (D : Bool) (E : List T) : Option Res := callK (vr 14 0 [.t (.agg [.int .i64 A, .int .i64 B, .int .i64 C, .list 5 D E])] ⟨[], []⟩) fun a b => asT a fun c => asI .i64 c fun a => endB b <|
(bif (!decide (a = 0)) then
 some ((.tup [.t (.str ⟨#[]⟩), .t (.int .i64 a)]), ⟨[], []⟩)
else
(bif (decide ((0 : Int) < (3 : Int))) then
 callK (vr 41 0 [.buf 0, .t (.int .i64 A)] ⟨[(0, .arr true 3 true [.agg [.int .i64 1, .str ⟨#[99, 111, 100, 101]⟩, .int .i64 0]])], []⟩) fun a b => isBuf 500 a <| consB 500 b fun a c => asArr 3 a fun b d => endB c <|
(bif (decide ((1 : Int) < (3 : Int))) then
 callK (vr 41 0 [.buf 0, .t (.int .i64 B)] ⟨[(0, .arr true 3 b d)], []⟩) fun a c => isBuf 500 a <| consB 500 c fun a f => asArr 3 a fun c g => endB f <|
(bif (decide ((2 : Int) < (3 : Int))) then
 callK (vr 41 0 [.buf 0, .t (.int .i64 C)] ⟨[(0, .arr true 3 c g)], []⟩) fun a f => isBuf 500 a <| consB 500 f fun a h => asArr 3 a fun f i => endB h <|
(bif (decide ((3 : Int) < (3 : Int))) then
 needC (decide (0 ≤ 3) && decide ((3 : Int) < (3 : Int))) fun _ => getT ([.int .i64 A, .int .i64 B, .int .i64 C]) (((3 : Int)).toNat) fun a => asI .i64 a fun h => callK (vr 41 0 [.buf 0, .t (.int .i64 h)] ⟨[(0, .arr true 3 f i)], []⟩) fun a j => isBuf 500 a <| consB 500 j fun a h => asArr 3 a fun j k => endB h <| none
else
 L21_11 (D) (E) ((E.length : Int)) (0) (f) (i))
else
 L21_11 (D) (E) ((E.length : Int)) (0) (c) (g))
else
 L21_11 (D) (E) ((E.length : Int)) (0) (b) (d))
else
 L21_11 (D) (E) ((E.length : Int)) (0) (true) ([.agg [.int .i64 1, .str ⟨#[99, 111, 100, 101]⟩, .int .i64 0]])))
theorem eq21g (KL21_11 : Env → St → Option Res) (A B C : Int) (D : Bool) (E : List T) : gE 21 0 108 Try.f21 (Ta21 KL21_11) [.t (.agg [.int .i64 A, .int .i64 B, .int .i64 C, .list 5 D E])] ⟨[], []⟩ = R21 (WL21_11 KL21_11) A B C D E := by kernel_rfl
theorem eq21 (A B C : Int) (D : Bool) (E : List T) : vr 21 0 [.t (.agg [.int .i64 A, .int .i64 B, .int .i64 C, .list 5 D E])] ⟨[], []⟩ = R21 L21_11 A B C D E :=
 Eq.trans (call_eq Try.prog hint (fn := Try.f21) (nt := 108) (T := (Ta21 VL21_11)) [PaL21_11] rfl _ _ rfl rfl rfl rfl rfl) (eq21g VL21_11 A B C D E)
noncomputable def RL21_11 (L21_11 : YL21_11) (A : Bool) (B : List T) (C D : Int) (E : Bool) (F : List T) : Option Res :=
(bif (decide (D < C)) then
 needC (decide (0 ≤ D)) fun _ => getT B (D).toNat fun a => asA a fun b => consT b fun a c => asI .i64 a fun b => consT c fun a d => asI .i64 a fun c => consT d fun a f => asI .i64 a fun d => consT f fun a g => asI .i64 a fun f => consT g fun a h => asI .i64 a fun g => endT h <| callK (vr 38 0 [.t (.int .i64 b)] ⟨[], []⟩) fun a h => asTup a fun i => consV i fun a j => asT a fun i => asA i fun a => consT a fun i k => asS i fun a => consT k fun i l => asI .i64 i fun k => consT l fun i m => asI .i64 i fun l => consT m fun i n => asI .i64 i fun m => endT n <| consV j fun i n => asT i fun j => asB j fun i =>
 endV n <| endB h <| needC (decide ((F.length + 2) * (32 + 1) ≤ 70368744177664) && decide (32 ≤ 1048576)) fun _ => callK (vr 39 0 [.ptr 0 0 0] ⟨[(0, .var [.t (.int .i64 b), .t (.int .i64 c), .t (.int .i64 d), .t (.int .i64 f), .t (.int .i64 g)])], []⟩) fun h i => asG h fun b => consV b fun c d => isPtr 0 0 1 c <| consV d fun b c => isPtr 0 0 2 b <| consV c fun b d => isPtr 0 0 3 b <| endV d <| consB 0 i fun b c => asVar b fun d => consV d fun b f => asT b fun d => asI .i64 d fun b => consV f fun d g => asT d fun f => asI .i64 f fun d => consV g fun f h => asT f fun g => asI .i64 g fun f => consV h fun g i =>
 asT g fun h => asI .i64 h fun g => consV i fun h j => asT h fun i => asI .i64 i fun h => endV j <| endB c <| RH21_16_4 L21_11 (A) (B) (C) (D) ((E || true)) ((F ++ ([.agg [.int .i64 4, .str ByteArray.empty, .int .i64 0], .agg [.int .i64 1, .str a, .int .i64 0]] : List T))) (b) (d) (f) (g) (h) (a) (k) (l) (m)
else
 callK (vr 43 0 [.t (.list 3 E F)] ⟨[], []⟩) fun a b => asTup a fun c => consV c fun a d => asT a fun c => asS c fun a => consV d fun c f => asT c fun d => asI .i64 d fun c => endV f <| endB b <| some ((.tup [.t (.str a), .t (.int .i64 c)]), ⟨[], []⟩))
theorem L21_11g (KL21_11 : Env → St → Option Res) (A : Bool) (B : List T) (C D : Int) (E : Bool) (F : List T) : WL21_11 (fun e st => gP 21 0 108 Try.f21 (Ta21 KL21_11) (.lp :: PaL21_11) e st) A B C D E F = RL21_11 (WL21_11 KL21_11) A B C D E F := by kernel_rfl
theorem L21_11_eq (A : Bool) (B : List T) (C D : Int) (E : Bool) (F : List T) : L21_11 A B C D E F = RL21_11 L21_11 A B C D E F :=
 (congrArg (fun k => WL21_11 k A B C D E F) (funext fun e => funext fun st => round_eq Try.prog hint (b := (nav (List.reverse (.lp :: PaL21_11)) (bodyOf Try.f21))) (fn := Try.f21) (nt := 108) (T := (Ta21 VL21_11)) [PaL21_11] rfl PaL21_11 e st rfl rfl rfl)).trans (L21_11g VL21_11 A B C D E F)
noncomputable def R40 (L40_4 : YL40_4) (A : Bool) (B : List T) (C : Bool) (D : List T) : Option Res :=
(bif (!decide ((B.length : Int) = (D.length : Int))) then
 some ((.t (.bool false)), ⟨[], []⟩)
else
 L40_4 (A) (B) (C) (D) ((B.length : Int)) (0))
theorem eq40g (KL40_4 : Env → St → Option Res) (A : Bool) (B : List T) (C : Bool) (D : List T) : gE 40 0 26 Try.f40 (Ta40 KL40_4) [.t (.list 5 A B), .t (.list 5 C D)] ⟨[], []⟩ = R40 (WL40_4 KL40_4) A B C D := by kernel_rfl
theorem eq40 (A : Bool) (B : List T) (C : Bool) (D : List T) : vr 40 0 [.t (.list 5 A B), .t (.list 5 C D)] ⟨[], []⟩ = R40 L40_4 A B C D :=
 Eq.trans (call_eq Try.prog hint (fn := Try.f40) (nt := 26) (T := (Ta40 VL40_4)) [PaL40_4] rfl _ _ rfl rfl rfl rfl rfl) (eq40g VL40_4 A B C D)
noncomputable def RL40_4 (L40_4 : YL40_4) (s10z : Bool) (s10 : List T) (s21z : Bool) (s21 : List T) (A B : Int) : Option Res :=
(bif (decide (B < A)) then
 needC (decide (0 ≤ B)) fun _ => getT s10 (B).toNat fun a => asA a fun b => consT b fun a c => asI .i64 a fun b => consT c fun a d => asI .i64 a fun c => consT d fun a f => asI .i64 a fun d => consT f fun a g => asI .i64 a fun f => consT g fun a h => asI .i64 a fun g => endT h <| needC (decide (0 ≤ B)) fun _ => getT s21 (B).toNat fun a => asA a fun h => consT h fun a i => asI .i64 a fun h => consT i fun a j => asI .i64 a fun i => consT j fun a k => asI .i64 a fun j => consT k fun a l => asI .i64 a fun k => consT l fun a m => asI .i64 a fun l => endT m <|
(bif (!(decide (b = h) && (decide (c = i) && (decide (d = j) && (decide (f = k) && (decide (g = l) && true)))))) then
 some ((.t (.bool false)), ⟨[], []⟩)
else
 L40_4 (s10z) (s10) (s21z) (s21) (A) ((IntKind.i64.wrap (B + 1))))
else
 some ((.t (.bool true)), ⟨[], []⟩))
theorem L40_4g (KL40_4 : Env → St → Option Res) (s10z : Bool) (s10 : List T) (s21z : Bool) (s21 : List T) (A B : Int) : WL40_4 (fun e st => gP 40 0 26 Try.f40 (Ta40 KL40_4) (.lp :: PaL40_4) e st) s10z s10 s21z s21 A B = RL40_4 (WL40_4 KL40_4) s10z s10 s21z s21 A B := by kernel_rfl
theorem L40_4_eq (s10z : Bool) (s10 : List T) (s21z : Bool) (s21 : List T) (A B : Int) : L40_4 s10z s10 s21z s21 A B = RL40_4 L40_4 s10z s10 s21z s21 A B :=
 (congrArg (fun k => WL40_4 k s10z s10 s21z s21 A B) (funext fun e => funext fun st => round_eq Try.prog hint (b := (nav (List.reverse (.lp :: PaL40_4)) (bodyOf Try.f40))) (fn := Try.f40) (nt := 26) (T := (Ta40 VL40_4)) [PaL40_4] rfl PaL40_4 e st rfl rfl rfl)).trans (L40_4g VL40_4 s10z s10 s21z s21 A B)
noncomputable def R19  (A B C : Int) (D : Bool) (E : List T) (F G H : Int) (I : Bool) (J : List T) : Option Res :=
(bif (decide (A = F) && (decide (B = G) && (decide (C = H) && true))) then
 callK (vr 40 0 [.t (.list 5 D E), .t (.list 5 I J)] ⟨[], []⟩) fun a b => asT a fun c => asB c fun a => endB b <| some ((.t (.bool a)), ⟨[], []⟩)
else
 some ((.t (.bool false)), ⟨[], []⟩))
theorem eq19g  (A B C : Int) (D : Bool) (E : List T) (F G H : Int) (I : Bool) (J : List T) : gE 19 0 27 Try.f19 [] [.t (.agg [.int .i64 A, .int .i64 B, .int .i64 C, .list 5 D E]), .t (.agg [.int .i64 F, .int .i64 G, .int .i64 H, .list 5 I J])] ⟨[], []⟩ = R19  A B C D E F G H I J := by kernel_rfl
theorem eq19 (A B C : Int) (D : Bool) (E : List T) (F G H : Int) (I : Bool) (J : List T) : vr 19 0 [.t (.agg [.int .i64 A, .int .i64 B, .int .i64 C, .list 5 D E]), .t (.agg [.int .i64 F, .int .i64 G, .int .i64 H, .list 5 I J])] ⟨[], []⟩ = R19  A B C D E F G H I J :=
 Eq.trans (call_eq Try.prog hint (fn := Try.f19) (nt := 27) (T := []) [] rfl _ _ rfl rfl rfl rfl rfl) (eq19g  A B C D E F G H I J)
noncomputable def R6 (J6_9 : YJ6_9) (A B C : Int) (D : Bool) (E : List T) (F : ByteArray) : Option Res := callK (vr 9 0 [] ⟨[], []⟩) fun a b => asT a fun c => asB c fun a => endB b <| callK (vr 13 0 [.t (.agg [.int .i64 A, .int .i64 B, .int .i64 C, .list 5 D E])] ⟨[], []⟩) fun b c => asT b fun d => asB d fun b => endB c <|
(bif (!b) then
 some ((.t (.bool a)), ⟨[], []⟩)
else
(bif (decide (20000 < (F.size : Int))) then
 some ((.t (.bool a)), ⟨[], []⟩)
else
 callK (vr 21 0 [.t (.agg [.int .i64 A, .int .i64 B, .int .i64 C, .list 5 D E])] ⟨[], []⟩) fun b c => asTup b fun d => consV d fun b f => asT b fun d => asS d fun b => consV f fun d g => asT d fun f => asI .i64 f fun d => endV g <| endB c <|
(bif (decide (d = 0)) then
 callK (vr 10 0 [.t (.str b)] ⟨[], []⟩) fun c d => asTup c fun b => consV b fun c f => asT c fun b => asA b fun c => consT c fun b g => asI .i64 b fun c => consT g fun b h => asI .i64 b fun g => consT h fun b i => asI .i64 b fun h => consT i fun b j => asL 5 b fun i k => endT j <| consV f fun b j => asT b fun f => asI .i64 f fun b => consV j fun f l => asT f fun j => asI .i64 j fun f => endV l <| endB d <|
(bif (!decide (f = 0)) then
 some ((.t (.bool false)), ⟨[], []⟩)
else
(bif (!decide (b = (IntKind.i64.wrap ((E.length : Int) + 1)))) then
 some ((.t (.bool false)), ⟨[], []⟩)
else
 callK (vr 19 0 [.t (.agg [.int .i64 A, .int .i64 B, .int .i64 C, .list 5 D E]), .t (.agg [.int .i64 c, .int .i64 g, .int .i64 h, .list 5 i k])] ⟨[], []⟩) fun b d => asT b fun c => asB c fun b => endB d <|
(bif (!b) then
 some ((.t (.bool false)), ⟨[], []⟩)
else
 J6_9 (F) (a) (A) (B) (C) (D) (E))))
else
 J6_9 (F) (a) (A) (B) (C) (D) (E))))
theorem eq6g (KJ6_9 : Env → St → Option Res) (A B C : Int) (D : Bool) (E : List T) (F : ByteArray) : gE 6 0 97 Try.f6 (Ta6 KJ6_9) [.t (.agg [.int .i64 A, .int .i64 B, .int .i64 C, .list 5 D E]), .t (.str F)] ⟨[], []⟩ = R6 (WJ6_9 KJ6_9) A B C D E F := by kernel_rfl
theorem eq6 (A B C : Int) (D : Bool) (E : List T) (F : ByteArray) : vr 6 0 [.t (.agg [.int .i64 A, .int .i64 B, .int .i64 C, .list 5 D E]), .t (.str F)] ⟨[], []⟩ = R6 J6_9 A B C D E F :=
 Eq.trans (call_eq Try.prog hint (fn := Try.f6) (nt := 97) (T := (Ta6 VJ6_9)) [PaJ6_9] rfl _ _ rfl rfl rfl rfl rfl) (eq6g VJ6_9 A B C D E F)
noncomputable def RJ6_9 (J6_9 : YJ6_9) (s1 : ByteArray) (up5 : Bool) (A B C : Int) (D : Bool) (E : List T) : Option Res := callK (vr 10 0 [.t (.str s1)] ⟨[], []⟩) fun a b => asTup a fun c => consV c fun a d => asT a fun c => asA c fun a => consT a fun c f => asI .i64 c fun a => consT f fun c g => asI .i64 c fun f => consT g fun c h => asI .i64 c fun g => consT h fun c i => asL 5 c fun h j => endT i <| consV d fun c i => asT c fun d => asI .i64 d fun c => consV i fun c d => asT c fun i => asI .i64 i fun c => endV d <| endB b <|
(bif (!decide (c = 0)) then
(bif up5 then
 some ((.t (.bool (decide ((j.length : Int) = 0)))), ⟨[], []⟩)
else
 some ((.t (.bool false)), ⟨[], []⟩))
else
 callK (vr 21 0 [.t (.agg [.int .i64 a, .int .i64 f, .int .i64 g, .list 5 h j])] ⟨[], []⟩) fun b c => asTup b fun d => consV d fun b i => asT b fun d => asS d fun b => consV i fun d k => asT d fun i => asI .i64 i fun d => endV k <| endB c <| callK (vr 10 0 [.t (.str b)] ⟨[], []⟩) fun c i => asTup c fun b => consV b fun c k => asT c fun b => asA b fun c => consT c fun b l => asI .i64 b fun c => consT l fun b m => asI .i64 b fun l => consT m fun b n => asI .i64 b fun m => consT n fun b o => asL 5 b fun n p => endT o <| consV k fun b o => asT b fun k => asI .i64 k fun b => consV o fun b k => asT b fun o =>
 asI .i64 o fun b => endV k <| endB i <|
(bif up5 then
(bif (decide (d = 0)) then
(bif (decide (b = 0)) then
 callK (vr 19 0 [.t (.agg [.int .i64 a, .int .i64 f, .int .i64 g, .list 5 h j]), .t (.agg [.int .i64 c, .int .i64 l, .int .i64 m, .list 5 n p])] ⟨[], []⟩) fun b d => asT b fun a => asB a fun b => endB d <| some ((.t (.bool b)), ⟨[], []⟩)
else
 some ((.t (.bool false)), ⟨[], []⟩))
else
 some ((.t (.bool false)), ⟨[], []⟩))
else
 some ((.t (.bool false)), ⟨[], []⟩)))
theorem J6_9g (KJ6_9 : Env → St → Option Res) (s1 : ByteArray) (up5 : Bool) (A B C : Int) (D : Bool) (E : List T) : WJ6_9 (fun e st => gP 6 0 97 Try.f6 (Ta6 KJ6_9) PaJ6_9 e st) s1 up5 A B C D E = RJ6_9 (WJ6_9 KJ6_9) s1 up5 A B C D E := by kernel_rfl
theorem J6_9_eq (s1 : ByteArray) (up5 : Bool) (A B C : Int) (D : Bool) (E : List T) : J6_9 s1 up5 A B C D E = RJ6_9 J6_9 s1 up5 A B C D E :=
 (congrArg (fun k => WJ6_9 k s1 up5 A B C D E) (funext fun e => funext fun st => join_eq Try.prog hint (fn := Try.f6) (nt := 97) (T := (Ta6 VJ6_9)) [PaJ6_9] rfl PaJ6_9 e st rfl)).trans (J6_9g VJ6_9 s1 up5 A B C D E)
noncomputable def R15  (A B C D E : Int) : Option Res := callK (vr 38 0 [.t (.int .i64 A)] ⟨[], []⟩) fun a b => asTup a fun c => consV c fun a d => asT a fun c => asA c fun a => consT a fun c f => asS c fun a => consT f fun a c => asI .i64 a fun f => consT c fun a g => asI .i64 a fun c => consT g fun a h => asI .i64 a fun g => endT h <| consV d fun a h => asT a fun d => asB d fun a => endV h <| endB b <| callK (vr 39 0 [.ptr 0 0 0] ⟨[(0, .var [.t (.int .i64 A), .t (.int .i64 B), .t (.int .i64 C), .t (.int .i64 D), .t (.int .i64 E)])], []⟩) fun a b => asG a fun d => consV d fun a h => isPtr 0 0 1 a <|
 consV h fun a d => isPtr 0 0 2 a <| consV d fun a h => isPtr 0 0 3 a <| endV h <| consB 0 b fun a d => asVar a fun b => consV b fun a h => asT a fun b => asI .i64 b fun a => consV h fun a b => asT a fun h => asI .i64 h fun a => consV b fun h i => asT h fun b => asI .i64 b fun h => consV i fun b j => asT b fun i => asI .i64 i fun b => consV j fun i k => asT i fun j => asI .i64 j fun i => endV k <| endB d <|
(bif (decide (f = 2)) then
(bif (decide (c = 2)) then
(bif (decide (g = 2)) then
 some ((.t (.list 1 true [.int .i64 a, .int .i64 h, .int .i64 b])), ⟨[], []⟩)
else
 some ((.t (.list 1 true [.int .i64 a, .int .i64 h])), ⟨[], []⟩))
else
(bif (decide (g = 2)) then
 some ((.t (.list 1 true [.int .i64 a, .int .i64 b])), ⟨[], []⟩)
else
 some ((.t (.list 1 true [.int .i64 a])), ⟨[], []⟩)))
else
(bif (decide (c = 2)) then
(bif (decide (g = 2)) then
 some ((.t (.list 1 true [.int .i64 h, .int .i64 b])), ⟨[], []⟩)
else
 some ((.t (.list 1 true [.int .i64 h])), ⟨[], []⟩))
else
(bif (decide (g = 2)) then
 some ((.t (.list 1 true [.int .i64 b])), ⟨[], []⟩)
else
 some ((.t (.list 1 false [])), ⟨[], []⟩))))
theorem eq15g  (A B C D E : Int) : gE 15 0 31 Try.f15 [] [.t (.agg [.int .i64 A, .int .i64 B, .int .i64 C, .int .i64 D, .int .i64 E])] ⟨[], []⟩ = R15  A B C D E := by kernel_rfl
theorem eq15 (A B C D E : Int) : vr 15 0 [.t (.agg [.int .i64 A, .int .i64 B, .int .i64 C, .int .i64 D, .int .i64 E])] ⟨[], []⟩ = R15  A B C D E :=
 Eq.trans (call_eq Try.prog hint (fn := Try.f15) (nt := 31) (T := []) [] rfl _ _ rfl rfl rfl rfl rfl) (eq15g  A B C D E)
noncomputable def R16  (A B C D E : Int) : Option Res := callK (vr 38 0 [.t (.int .i64 A)] ⟨[], []⟩) fun a b => asTup a fun c => consV c fun a d => asT a fun c => asA c fun a => consT a fun c f => asS c fun a => consT f fun a c => asI .i64 a fun f => consT c fun a g => asI .i64 a fun c => consT g fun a c => asI .i64 a fun g => endT c <| consV d fun a c => asT a fun d => asB d fun a => endV c <| endB b <|
(bif (!decide (f = 1)) then
 some ((.tup [.t (.int .i64 0), .t (.bool false)]), ⟨[], []⟩)
else
 some ((.tup [.t (.int .i64 B), .t (.bool true)]), ⟨[], []⟩))
theorem eq16g  (A B C D E : Int) : gE 16 0 18 Try.f16 [] [.t (.agg [.int .i64 A, .int .i64 B, .int .i64 C, .int .i64 D, .int .i64 E])] ⟨[], []⟩ = R16  A B C D E := by kernel_rfl
theorem eq16 (A B C D E : Int) : vr 16 0 [.t (.agg [.int .i64 A, .int .i64 B, .int .i64 C, .int .i64 D, .int .i64 E])] ⟨[], []⟩ = R16  A B C D E :=
 Eq.trans (call_eq Try.prog hint (fn := Try.f16) (nt := 18) (T := []) [] rfl _ _ rfl rfl rfl rfl rfl) (eq16g  A B C D E)
noncomputable def R7 (L7_10 : YL7_10) (L7_15 : YL7_15) (J7_27 : YJ7_27) (A B C : Int) (D : Bool) (E : List T) : Option Res := callK (vr 9 0 [] ⟨[], []⟩) fun a b => asT a fun c => asB c fun a => endB b <| callK (vr 13 0 [.t (.agg [.int .i64 A, .int .i64 B, .int .i64 C, .list 5 D E])] ⟨[], []⟩) fun b c => asT b fun d => asB d fun b => endB c <|
(bif (!b) then
 some ((.t (.bool a)), ⟨[], []⟩)
else
 callK (vr 21 0 [.t (.agg [.int .i64 A, .int .i64 B, .int .i64 C, .list 5 D E])] ⟨[], []⟩) fun b c => asTup b fun d => consV d fun b f => asT b fun d => asS d fun b => consV f fun d g => asT d fun f => asI .i64 f fun d => endV g <| endB c <|
(bif (!decide (d = 0)) then
(bif a then
 some ((.t (.bool (decide ((b : ByteArray) = ⟨#[]⟩)))), ⟨[], []⟩)
else
 some ((.t (.bool false)), ⟨[], []⟩))
else
 L7_10 (a) (b) (0) (0) (0) (A) (B) (C) (D) (E)))
theorem eq7g (KL7_10 KL7_15 KJ7_27 : Env → St → Option Res) (A B C : Int) (D : Bool) (E : List T) : gE 7 0 108 Try.f7 (Ta7 KL7_10 KL7_15 KJ7_27) [.t (.agg [.int .i64 A, .int .i64 B, .int .i64 C, .list 5 D E])] ⟨[], []⟩ = R7 (WL7_10 KL7_10) (WL7_15 KL7_15) (WJ7_27 KJ7_27) A B C D E := by kernel_rfl
theorem eq7 (A B C : Int) (D : Bool) (E : List T) : vr 7 0 [.t (.agg [.int .i64 A, .int .i64 B, .int .i64 C, .list 5 D E])] ⟨[], []⟩ = R7 L7_10 L7_15 J7_27 A B C D E :=
 Eq.trans (call_eq Try.prog hint (fn := Try.f7) (nt := 108) (T := (Ta7 VL7_10 VL7_15 VJ7_27)) [PaL7_10, PaL7_15, PaJ7_27] rfl _ _ rfl rfl rfl rfl rfl) (eq7g VL7_10 VL7_15 VJ7_27 A B C D E)
noncomputable def RL7_10 (L7_10 : YL7_10) (L7_15 : YL7_15) (J7_27 : YJ7_27) (up3 : Bool) (s4 : ByteArray) (line6 from7 i8 A B C : Int) (D : Bool) (E : List T) : Option Res :=
(bif (decide (i8 ≤ (s4.size : Int))) then
(bif (decide (i8 < (s4.size : Int))) then
 needC (decide (0 ≤ i8) && decide (i8 < (s4.size : Int))) fun _ =>
(bif (!decide ((((s4 : ByteArray)[(i8).toNat]!).toNat : Int) = 10)) then
 L7_10 (up3) (s4) (line6) (from7) ((IntKind.i64.wrap (i8 + 1))) (A) (B) (C) (D) (E)
else
 L7_15 (up3) (s4) (line6) (i8) (0) (from7) (A) (B) (C) (D) (E))
else
 L7_15 (up3) (s4) (line6) (i8) (0) (from7) (A) (B) (C) (D) (E))
else
(bif up3 then
 some ((.t (.bool (decide (line6 = (IntKind.i64.wrap ((E.length : Int) + 1)))))), ⟨[], []⟩)
else
 some ((.t (.bool false)), ⟨[], []⟩)))
theorem L7_10g (KL7_10 KL7_15 KJ7_27 : Env → St → Option Res) (up3 : Bool) (s4 : ByteArray) (line6 from7 i8 A B C : Int) (D : Bool) (E : List T) : WL7_10 (fun e st => gP 7 0 108 Try.f7 (Ta7 KL7_10 KL7_15 KJ7_27) (.lp :: PaL7_10) e st) up3 s4 line6 from7 i8 A B C D E = RL7_10 (WL7_10 KL7_10) (WL7_15 KL7_15) (WJ7_27 KJ7_27) up3 s4 line6 from7 i8 A B C D E := by kernel_rfl
theorem L7_10_eq (up3 : Bool) (s4 : ByteArray) (line6 from7 i8 A B C : Int) (D : Bool) (E : List T) : L7_10 up3 s4 line6 from7 i8 A B C D E = RL7_10 L7_10 L7_15 J7_27 up3 s4 line6 from7 i8 A B C D E :=
 (congrArg (fun k => WL7_10 k up3 s4 line6 from7 i8 A B C D E) (funext fun e => funext fun st => round_eq Try.prog hint (b := (nav (List.reverse (.lp :: PaL7_10)) (bodyOf Try.f7))) (fn := Try.f7) (nt := 108) (T := (Ta7 VL7_10 VL7_15 VJ7_27)) [PaL7_10, PaL7_15, PaJ7_27] rfl PaL7_10 e st rfl rfl rfl)).trans (L7_10g VL7_10 VL7_15 VJ7_27 up3 s4 line6 from7 i8 A B C D E)
noncomputable def RL7_15 (L7_10 : YL7_10) (L7_15 : YL7_15) (J7_27 : YJ7_27) (up3 : Bool) (s4 : ByteArray) (line6 i8 regs9 k10 A B C : Int) (D : Bool) (E : List T) : Option Res :=
(bif (decide ((IntKind.i64.wrap (k10 + 1)) < i8)) then
 needC (decide (0 ≤ k10) && decide (k10 < (s4.size : Int))) fun _ =>
(bif (decide ((((s4 : ByteArray)[(k10).toNat]!).toNat : Int) = 32)) then
 needC (decide (0 ≤ (IntKind.i64.wrap (k10 + 1))) && decide ((IntKind.i64.wrap (k10 + 1)) < (s4.size : Int))) fun _ =>
(bif (decide ((((s4 : ByteArray)[((IntKind.i64.wrap (k10 + 1))).toNat]!).toNat : Int) = 114)) then
 L7_15 (up3) (s4) (line6) (i8) ((IntKind.i64.wrap (regs9 + 1))) ((IntKind.i64.wrap (k10 + 1))) (A) (B) (C) (D) (E)
else
 L7_15 (up3) (s4) (line6) (i8) (regs9) ((IntKind.i64.wrap (k10 + 1))) (A) (B) (C) (D) (E))
else
 L7_15 (up3) (s4) (line6) (i8) (regs9) ((IntKind.i64.wrap (k10 + 1))) (A) (B) (C) (D) (E))
else
(bif (decide (0 < line6)) then
(bif (decide ((E.length : Int) < line6)) then
 some ((.t (.bool false)), ⟨[], []⟩)
else
 needC (decide (0 ≤ (IntKind.i64.wrap (line6 - 1)))) fun _ => getT E ((IntKind.i64.wrap (line6 - 1))).toNat fun a => asA a fun b => consT b fun a c => asI .i64 a fun b => consT c fun a d => asI .i64 a fun c => consT d fun a f => asI .i64 a fun d => consT f fun a g => asI .i64 a fun f => consT g fun a h => asI .i64 a fun g => endT h <| callK (vr 15 0 [.t (.agg [.int .i64 b, .int .i64 c, .int .i64 d, .int .i64 f, .int .i64 g])] ⟨[], []⟩) fun a h => asT a fun i => asL 1 i fun a j => endB h <| callK (vr 16 0 [.t (.agg [.int .i64 b, .int .i64 c, .int .i64 d, .int .i64 f, .int .i64 g])] ⟨[], []⟩) fun a h =>
 asTup a fun b => consV b fun a c => asT a fun b => asI .i64 b fun a => consV c fun a b => asT a fun c => asB c fun a => endV b <| endB h <|
(bif a then
 J7_27 (up3) (s4) (line6) (i8) (regs9) ((IntKind.i64.wrap ((j.length : Int) + 1))) (A) (B) (C) (D) (E)
else
 J7_27 (up3) (s4) (line6) (i8) (regs9) ((j.length : Int)) (A) (B) (C) (D) (E)))
else
 L7_10 (up3) (s4) ((IntKind.i64.wrap (line6 + 1))) ((IntKind.i64.wrap (i8 + 1))) ((IntKind.i64.wrap (i8 + 1))) (A) (B) (C) (D) (E)))
theorem L7_15g (KL7_10 KL7_15 KJ7_27 : Env → St → Option Res) (up3 : Bool) (s4 : ByteArray) (line6 i8 regs9 k10 A B C : Int) (D : Bool) (E : List T) : WL7_15 (fun e st => gP 7 0 108 Try.f7 (Ta7 KL7_10 KL7_15 KJ7_27) (.lp :: PaL7_15) e st) up3 s4 line6 i8 regs9 k10 A B C D E = RL7_15 (WL7_10 KL7_10) (WL7_15 KL7_15) (WJ7_27 KJ7_27) up3 s4 line6 i8 regs9 k10 A B C D E := by kernel_rfl
theorem L7_15_eq (up3 : Bool) (s4 : ByteArray) (line6 i8 regs9 k10 A B C : Int) (D : Bool) (E : List T) : L7_15 up3 s4 line6 i8 regs9 k10 A B C D E = RL7_15 L7_10 L7_15 J7_27 up3 s4 line6 i8 regs9 k10 A B C D E :=
 (congrArg (fun k => WL7_15 k up3 s4 line6 i8 regs9 k10 A B C D E) (funext fun e => funext fun st => round_eq Try.prog hint (b := (nav (List.reverse (.lp :: PaL7_15)) (bodyOf Try.f7))) (fn := Try.f7) (nt := 108) (T := (Ta7 VL7_10 VL7_15 VJ7_27)) [PaL7_10, PaL7_15, PaJ7_27] rfl PaL7_15 e st rfl rfl rfl)).trans (L7_15g VL7_10 VL7_15 VJ7_27 up3 s4 line6 i8 regs9 k10 A B C D E)
noncomputable def RJ7_27 (L7_10 : YL7_10) (L7_15 : YL7_15) (J7_27 : YJ7_27) (up3 : Bool) (s4 : ByteArray) (line6 i8 regs9 want12 A B C : Int) (D : Bool) (E : List T) : Option Res :=
(bif (!decide (regs9 = want12)) then
 some ((.t (.bool false)), ⟨[], []⟩)
else
 L7_10 (up3) (s4) ((IntKind.i64.wrap (line6 + 1))) ((IntKind.i64.wrap (i8 + 1))) ((IntKind.i64.wrap (i8 + 1))) (A) (B) (C) (D) (E))
theorem J7_27g (KL7_10 KL7_15 KJ7_27 : Env → St → Option Res) (up3 : Bool) (s4 : ByteArray) (line6 i8 regs9 want12 A B C : Int) (D : Bool) (E : List T) : WJ7_27 (fun e st => gP 7 0 108 Try.f7 (Ta7 KL7_10 KL7_15 KJ7_27) PaJ7_27 e st) up3 s4 line6 i8 regs9 want12 A B C D E = RJ7_27 (WL7_10 KL7_10) (WL7_15 KL7_15) (WJ7_27 KJ7_27) up3 s4 line6 i8 regs9 want12 A B C D E := by kernel_rfl
theorem J7_27_eq (up3 : Bool) (s4 : ByteArray) (line6 i8 regs9 want12 A B C : Int) (D : Bool) (E : List T) : J7_27 up3 s4 line6 i8 regs9 want12 A B C D E = RJ7_27 L7_10 L7_15 J7_27 up3 s4 line6 i8 regs9 want12 A B C D E :=
 (congrArg (fun k => WJ7_27 k up3 s4 line6 i8 regs9 want12 A B C D E) (funext fun e => funext fun st => join_eq Try.prog hint (fn := Try.f7) (nt := 108) (T := (Ta7 VL7_10 VL7_15 VJ7_27)) [PaL7_10, PaL7_15, PaJ7_27] rfl PaJ7_27 e st rfl)).trans (J7_27g VL7_10 VL7_15 VJ7_27 up3 s4 line6 i8 regs9 want12 A B C D E)
noncomputable def R70  (A : Int) (B : ByteArray) (C : Int) : Option Res := callK (vr 54 0 [.t (.str B)] ⟨[], []⟩) fun a b => asTup a fun c => consV c fun a d => asT a fun c => asA c fun a => consT a fun c f => asI .i64 c fun a => consT f fun c g => asS c fun f => consT g fun c h => asI .i64 c fun g => endT h <| consV d fun c h => asT c fun d => asB d fun c => endV h <| endB b <|
(bif (decide (A = 4) && (decide ((B : ByteArray) = ByteArray.empty) && (decide (C = 0) && true))) then
 some ((.t (.int .i64 0)), ⟨[], []⟩)
else
(bif c then
(bif (decide (A = a) && (decide ((B : ByteArray) = f) && (decide (C = g) && true))) then
 some ((.t (.int .i64 0)), ⟨[], []⟩)
else
 some ((.t (.int .i64 1)), ⟨[], []⟩))
else
 some ((.t (.int .i64 1)), ⟨[], []⟩)))
theorem eq70g  (A : Int) (B : ByteArray) (C : Int) : gE 70 0 22 Try.f70 [] [.t (.agg [.int .i64 A, .str B, .int .i64 C])] ⟨[], []⟩ = R70  A B C := by kernel_rfl
theorem eq70 (A : Int) (B : ByteArray) (C : Int) : vr 70 0 [.t (.agg [.int .i64 A, .str B, .int .i64 C])] ⟨[], []⟩ = R70  A B C :=
 Eq.trans (call_eq Try.prog hint (fn := Try.f70) (nt := 22) (T := []) [] rfl _ _ rfl rfl rfl rfl rfl) (eq70g  A B C)
end Go.Proofs.Ytifkgdmiojnllaa.VM
