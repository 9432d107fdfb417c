/- The equations of the functions, as the small evaluator gives them (printed by vgen.py). Conditions: none. -/
import Derived.Test.YtifkgdmiojnllaaVmD
import Derived.Test.YtifkgdmiojnllaaProg
set_option linter.all false
set_option linter.all false
namespace Go.Proofs.Ytifkgdmiojnllaa.VM
open Go AM
def normTab : List (Nat × Nat × List (Nat × Norm)) := [
  (53, 0, [(2, { slots := [(0, 0), (3, 0)], cells := [] })]),
  (77, 0, [(4, { slots := [(0, 0), (2, 0), (23, 0), (24, 0)], cells := [] })]),
  (28, 0, [(6, { slots := [(0, 0), (5, 5), (6, 0), (7, 0)], cells := [] }), (21, { slots := [(0, 0), (5, 0), (6, 0), (7, 0), (8, 0)], cells := [] }), (26, { slots := [(0, 0), (5, 0), (7, 0), (8, 0), (9, 0)], cells := [] }), (28, { slots := [(0, 0), (5, 0)], cells := [] })]),
  (55, 0, [(2, { slots := [(0, 0), (1, 0), (7, 0), (8, 0)], cells := [] })]),
  (29, 0, [(2, { slots := [(0, 0), (3, 3)], cells := [] })]),
  (58, 0, [(2, { slots := [(0, 0), (1, 0), (7, 0), (8, 0)], cells := [] })]),
  (31, 0, [(6, { slots := [(0, 0), (2, 0), (4, 0)], cells := [] }), (7, { slots := [(0, 0), (2, 0), (4, 0), (26, 0), (27, 0)], cells := [] })]),
  (37, 0, [(4, { slots := [(2, 0), (5, 0), (6, 0), (7, 0), (26, 0), (27, 0)], cells := [] })]),
  (68, 0, [(2, { slots := [(0, 0), (1, 0), (7, 0), (8, 0)], cells := [] })]),
  (10, 0, [(8, { slots := [(2, 0), (8, 0), (30, 0), (31, 0), (32, 0)], cells := [(2, 3, 7)] }), (17, { slots := [(2, 0), (8, 0), (9, 0), (11, 0), (30, 0), (31, 0), (32, 0)], cells := [] })]),
  (15, 0, [(3, { slots := [(2, 0), (3, 0), (13, 0), (14, 0)], cells := [] })]),
  (4, 0, [(6, { slots := [(1, 0), (3, 0), (4, 0), (25, 0), (26, 0), (27, 0)], cells := [] }), (12, { slots := [(1, 0), (3, 0), (4, 0), (5, 0), (6, 0), (7, 0), (25, 0), (26, 0), (27, 0)], cells := [] }), (13, { slots := [(1, 0), (3, 0), (4, 0), (5, 0), (6, 0), (25, 0), (26, 0), (27, 0), (44, 0), (45, 0), (46, 0)], cells := [] }), (20, { slots := [(1, 0), (3, 0), (4, 0), (25, 0), (26, 0), (27, 0), (69, 0), (70, 0), (71, 0)], cells := [] })]),
  (18, 0, [(7, { slots := [(1, 0), (2, 0), (4, 0), (6, 0), (43, 0), (44, 0)], cells := [] }), (12, { slots := [(1, 0), (2, 0), (4, 0), (6, 0), (55, 0), (56, 0), (57, 0)], cells := [] }), (16, { slots := [(1, 0), (2, 0), (4, 0), (6, 0), (9, 0), (10, 0), (55, 0), (56, 0), (57, 0), (67, 0), (68, 0)], cells := [] })]),
  (40, 0, [(4, { slots := [(0, 0), (1, 0), (12, 0), (13, 0)], cells := [] })]),
  (20, 0, [(4, { slots := [(0, 0), (1, 0), (12, 0), (13, 0)], cells := [] })]),
  (5, 0, [(12, { slots := [(1, 0), (2, 0), (7, 0), (12, 0), (96, 0), (97, 0), (98, 0)], cells := [] }), (21, { slots := [(1, 0), (2, 0), (7, 0), (12, 0), (14, 0), (16, 0), (21, 3), (96, 0), (97, 0), (98, 0), (142, 0), (143, 0)], cells := [] })])]
def callTab : List (Nat × Nat × List (Nat × Nat × CallH)) := [
  (4, 0, [(8, 1, { w := 0, own := [], pre := [], out := (.one (.buf 500)), blks := [(500, (.arr 1))] }), (19, 2, { w := 0, own := [], pre := [], out := (.one (.buf 500)), blks := [(500, (.arr 1))] })]),
  (5, 0, [(17, 10, { w := 0, own := [], pre := [], out := (.one (.buf 500)), blks := [(500, (.arr 1))] }), (17, 12, { w := 0, own := [], pre := [], out := (.one (.buf 500)), blks := [(500, (.arr 1))] }), (19, 2, { w := 0, own := [], pre := [], out := (.one (.buf 500)), blks := [(500, (.arr 1))] }), (25, 7, { w := 0, own := [], pre := [], out := (.one (.buf 500)), blks := [(500, (.arr 1))] })]),
  (10, 0, [(12, 2, { w := 0, own := [], pre := [], out := (.one (.t (.agg [(.int .i64), .str, (.int .i64)]))), blks := [(0, (.var [(.t (.list 3)), (.t .bool)]))] }), (13, 1, { w := 0, own := [], pre := [], out := (.one (.t (.agg [(.int .i64), .str, (.int .i64)]))), blks := [(0, (.var [(.t (.list 3)), (.t .bool)]))] }), (14, 1, { w := 0, own := [], pre := [], out := (.one (.t (.agg [(.int .i64), .str, (.int .i64)]))), blks := [(0, (.var [(.t (.list 3)), (.t .bool)]))] }), (15, 1, { w := 0, own := [], pre := [], out := (.one (.t (.agg [(.int .i64), .str, (.int .i64)]))), blks := [(0, (.var [(.t (.list 3)), (.t .bool)]))] }), (16, 3, { w := 0, own := [], pre := [], out := (.one (.t (.agg [(.int .i64), (.int .i64), (.int .i64), (.int .i64), (.int .i64)]))), blks := [(0, (.var [(.t (.list 3)), (.t .bool)]))] })]),
  (14, 0, [(2, 18, { w := 0, own := [], pre := [], out := (.one (.t (.one .bool))), blks := [(0, (.var [(.t (.int .i64)), (.t (.int .i64)), (.t (.int .i64)), (.t (.list 5))]))] })]),
  (15, 0, [(2, 0, { w := 0, own := [], pre := [], out := (.one (.agg [(.ptr 0 0 1), (.ptr 0 0 2), (.ptr 0 0 3)])), blks := [(0, (.var [(.t (.int .i64)), (.t (.int .i64)), (.t (.int .i64)), (.t (.int .i64)), (.t (.int .i64))]))] })]),
  (18, 0, [(15, 0, { w := 0, own := [], pre := [], out := (.one (.agg [(.ptr 0 0 1), (.ptr 0 0 2), (.ptr 0 0 3)])), blks := [(0, (.var [(.t (.int .i64)), (.t (.int .i64)), (.t (.int .i64)), (.t (.int .i64)), (.t (.int .i64))]))] })]),
  (31, 0, [(1, 1, { w := 0, own := [], pre := [], out := (.one (.t (.agg [(.int .i64), .str, (.int .i64)]))), blks := [(0, (.var [(.t (.list 3)), (.t .bool)]))] }), (2, 2, { w := 0, own := [], pre := [], out := (.one (.t (.one (.int .i64)))), blks := [(0, (.var [(.t .str)]))] }), (6, 0, { w := 0, own := [], pre := [], out := (.one (.agg [(.ptr 0 0 1), (.ptr 0 0 2), (.ptr 0 0 3)])), blks := [(0, (.var [(.t (.int .i64)), (.t (.int .i64)), (.t (.int .i64)), (.t (.int .i64)), (.t (.int .i64))]))] }), (12, 2, { w := 0, own := [], pre := [], out := (.one (.t (.one (.int .i64)))), blks := [(0, (.var [(.t (.list 3)), (.t .bool)]))] }), (14, 2, { w := 0, own := [], pre := [], out := (.one (.t (.one (.int .i64)))), blks := [(0, (.var [(.t (.list 3)), (.t .bool)]))] }), (16, 2, { w := 0, own := [], pre := [], out := (.one (.t (.agg [(.int .i64), .str, (.int .i64)]))), blks := [(0, (.var [(.t (.list 3)), (.t .bool)]))] }), (18, 1, { w := 0, own := [], pre := [], out := (.one (.t (.one (.int .i64)))), blks := [(0, (.var [(.t (.list 3)), (.t .bool)]))] })]),
  (35, 0, [(1, 2, { w := 0, own := [], pre := [], out := (.one (.t (.one (.int .i64)))), blks := [(0, (.var [(.t (.int .i64)), (.t (.int .i64)), (.t (.int .i64)), (.t (.list 5))]))] })]),
  (37, 0, [(3, 0, { w := 0, own := [], pre := [], out := (.one (.agg [(.ptr 0 0 1), (.ptr 0 0 2), (.ptr 0 0 3)])), blks := [(0, (.var [(.t (.int .i64)), (.t (.int .i64)), (.t (.int .i64)), (.t (.int .i64)), (.t (.int .i64))]))] })]),
  (58, 0, [(4, 5, { w := 0, own := [], pre := [], out := (.one (.t (.one .bool))), blks := [(0, (.var [(.t .str)]))] })]),
  (61, 0, [(1, 1, { w := 0, own := [], pre := [], out := (.one (.t (.agg [(.int .i64), .str, (.int .i64)]))), blks := [(0, (.var [(.t (.list 3)), (.t .bool)]))] })]),
  (62, 0, [(2, 1, { w := 0, own := [], pre := [], out := (.one (.t (.agg [(.int .i64), .str, (.int .i64)]))), blks := [(0, (.var [(.t (.list 3)), (.t .bool)]))] }), (3, 1, { w := 0, own := [], pre := [], out := (.one (.t (.agg [(.int .i64), .str, (.int .i64)]))), blks := [(0, (.var [(.t (.list 3)), (.t .bool)]))] }), (4, 1, { w := 0, own := [], pre := [], out := (.one (.t (.agg [(.int .i64), .str, (.int .i64)]))), blks := [(0, (.var [(.t (.list 3)), (.t .bool)]))] })]),
  (68, 0, [(4, 5, { w := 0, own := [], pre := [], out := (.one (.t (.one .bool))), blks := [(0, (.var [(.t (.int .i64)), (.t (.int .i64)), (.t (.int .i64)), (.t (.list 5))]))] })])]
def unrollTab : List (Nat × Nat × Nat) := [(15, 3, 4), (18, 16, 4), (31, 7, 4), (37, 4, 4)]
def ownTab : List (Nat × Nat × List Nat) := [(15, 0, [2]), (17, 0, [2])]
def eqtTab : List (Nat × List Value) := [(34, [.int .i64 0, .int .i64 0, .int .i64 0, .int .i64 0, .int .i64 0]), (65, [.int .i64 0, .int .i64 0, .int .i64 0])]
def ovSet : List Nat := [75]
def hint : Hint := mkHint eqtTab normTab callTab ownTab unrollTab ovSet
noncomputable def vr (f w : Nat) (args : List V) (st : St) : Option (V × St) := vrun Try.prog hint f w args st
abbrev YL53_2 := ByteArray → Int → Option Res
def PaL53_2 : List Stp := [.blk, .fst, .snd, .snd]
def Ta53 (KL53_2 : Env → St → Option Res) : Tab := [(PaL53_2, KL53_2)]
def WL53_2 (k : Env → St → Option Res) (s0 : ByteArray) (n3 : Int) : Option Res := k [(0, (.t (.str s0))), (3, (.t (.int .i64 n3)))] ⟨[], []⟩
noncomputable def VL53_2 : Env → St → Option Res := fun e st => atV Try.prog hint 53 0 Try.f53 25 (List.reverse PaL53_2) e st
/-- purfle/lexer.run, region 2. -/
noncomputable def L53_2 (s0 : ByteArray) (n3 : Int) : Option Res := WL53_2 VL53_2 s0 n3
abbrev YL77_4 := ByteArray → Int → Int → Int → Option Res
def PaL77_4 : List Stp := [.blk, .snd, .fst, .snd, .snd]
def Ta77 (KL77_4 : Env → St → Option Res) : Tab := [(PaL77_4, KL77_4)]
def WL77_4 (k : Env → St → Option Res) (s0 : ByteArray) (n2 t23 t24 : Int) : Option Res := k [(0, (.t (.str s0))), (2, (.t (.int .i64 n2))), (23, (.t (.int .i64 t23))), (24, (.t (.int .i64 t24)))] ⟨[], []⟩
noncomputable def VL77_4 : Env → St → Option Res := fun e st => atV Try.prog hint 77 0 Try.f77 42 (List.reverse PaL77_4) e st
/-- purfle/lexer.Number, region 4. -/
noncomputable def L77_4 (s0 : ByteArray) (n2 t23 t24 : Int) : Option Res := WL77_4 VL77_4 s0 n2 t23 t24
abbrev YL28_6 := ByteArray → Bool → Int → Bool → (List T) → Option Res
abbrev YJ28_28 := ByteArray → Bool → (List T) → Option Res
abbrev YJ28_21 := ByteArray → Bool → Int → Int → Bool → (List T) → Option Res
abbrev YJ28_26 := ByteArray → Int → Int → Bool → (List T) → Int → ByteArray → Int → Option Res
def PaL28_6 : List Stp := [.blk, .fst, .snd, .snd, .snd, .snd, .snd, .blk, .snd]
def PaJ28_28 : List Stp := [.snd, .snd, .snd, .snd, .snd, .snd, .blk, .snd]
def PaJ28_21 : List Stp := [.snd, .snd, .blk, .snd, .lp, .blk, .fst, .snd, .snd, .snd, .snd, .snd, .blk, .snd]
def PaJ28_26 : List Stp := [.snd, .snd, .snd, .snd, .snd, .blk, .snd, .lp, .blk, .fst, .snd, .snd, .snd, .snd, .snd, .blk, .snd]
def Ta28 (KL28_6 KJ28_28 KJ28_21 KJ28_26 : Env → St → Option Res) : Tab := [(PaL28_6, KL28_6), (PaJ28_28, KJ28_28), (PaJ28_21, KJ28_21), (PaJ28_26, KJ28_26)]
def WL28_6 (k : Env → St → Option Res) (s0 : ByteArray) (ends6 : Bool) (at7 : Int) (m8z : Bool) (m8 : List T) : Option Res := k [(0, (.t (.str s0))), (5, (.buf 8)), (6, (.t (.bool ends6))), (7, (.t (.int .i64 at7)))] ⟨[(8, (.arr true 3 m8z m8))], []⟩
noncomputable def VL28_6 : Env → St → Option Res := fun e st => atV Try.prog hint 28 0 Try.f28 82 (List.reverse PaL28_6) e st
/-- purfle/lexer.Cut, region 6. -/
noncomputable def L28_6 (s0 : ByteArray) (ends6 : Bool) (at7 : Int) (m8z : Bool) (m8 : List T) : Option Res := WL28_6 VL28_6 s0 ends6 at7 m8z m8
def WJ28_28 (k : Env → St → Option Res) (s0 : ByteArray) (m8z : Bool) (m8 : List T) : Option Res := k [(0, (.t (.str s0))), (5, (.buf 8))] ⟨[(8, (.arr true 3 m8z m8))], []⟩
noncomputable def VJ28_28 : Env → St → Option Res := fun e st => atV Try.prog hint 28 0 Try.f28 82 (List.reverse PaJ28_28) e st
/-- purfle/lexer.Cut, region 28. -/
noncomputable def J28_28 (s0 : ByteArray) (m8z : Bool) (m8 : List T) : Option Res := WJ28_28 VJ28_28 s0 m8z m8
def WJ28_21 (k : Env → St → Option Res) (s0 : ByteArray) (ends6 : Bool) (at7 n8 : Int) (m8z : Bool) (m8 : List T) : Option Res := k [(0, (.t (.str s0))), (5, (.buf 8)), (6, (.t (.bool ends6))), (7, (.t (.int .i64 at7))), (8, (.t (.int .i64 n8)))] ⟨[(8, (.arr true 3 m8z m8))], []⟩
noncomputable def VJ28_21 : Env → St → Option Res := fun e st => atV Try.prog hint 28 0 Try.f28 82 (List.reverse PaJ28_21) e st
/-- purfle/lexer.Cut, region 21. -/
noncomputable def J28_21 (s0 : ByteArray) (ends6 : Bool) (at7 n8 : Int) (m8z : Bool) (m8 : List T) : Option Res := WJ28_21 VJ28_21 s0 ends6 at7 n8 m8z m8
def WJ28_26 (k : Env → St → Option Res) (s0 : ByteArray) (at7 n8 : Int) (m8z : Bool) (m8 : List T) (m9_0 : Int) (m9_1 : ByteArray) (m9_2 : Int) : Option Res := k [(0, (.t (.str s0))), (5, (.buf 8)), (7, (.t (.int .i64 at7))), (8, (.t (.int .i64 n8))), (9, (.ptr 9 0 0))] ⟨[(8, (.arr true 3 m8z m8)), (9, (.var [(.t (.int .i64 m9_0)), (.t (.str m9_1)), (.t (.int .i64 m9_2))]))], []⟩
noncomputable def VJ28_26 : Env → St → Option Res := fun e st => atV Try.prog hint 28 0 Try.f28 82 (List.reverse PaJ28_26) e st
/-- purfle/lexer.Cut, region 26. -/
noncomputable def J28_26 (s0 : ByteArray) (at7 n8 : Int) (m8z : Bool) (m8 : List T) (m9_0 : Int) (m9_1 : ByteArray) (m9_2 : Int) : Option Res := WJ28_26 VJ28_26 s0 at7 n8 m8z m8 m9_0 m9_1 m9_2
abbrev YL55_2 := Bool → (List T) → Int → Int → Option Res
def PaL55_2 : List Stp := [.blk, .snd, .fst, .snd]
def Ta55 (KL55_2 : Env → St → Option Res) : Tab := [(PaL55_2, KL55_2)]
def WL55_2 (k : Env → St → Option Res) (s0z : Bool) (s0 : List T) (t7 t8 : Int) : Option Res := k [(0, (.t (.list 3 s0z s0))), (1, (.fn 56 [] [])), (7, (.t (.int .i64 t7))), (8, (.t (.int .i64 t8)))] ⟨[], []⟩
noncomputable def VL55_2 : Env → St → Option Res := fun e st => atV Try.prog hint 55 0 Try.f55 19 (List.reverse PaL55_2) e st
/-- slices.IndexFunc[[]purfle/api.Token,purfle/api.Token], region 2. -/
noncomputable def L55_2 (s0z : Bool) (s0 : List T) (t7 t8 : Int) : Option Res := WL55_2 VL55_2 s0z s0 t7 t8
abbrev YL29_2 := Bool → (List T) → Bool → (List T) → Option Res
def PaL29_2 : List Stp := [.blk, .fst, .snd, .snd]
def Ta29 (KL29_2 : Env → St → Option Res) : Tab := [(PaL29_2, KL29_2)]
def WL29_2 (k : Env → St → Option Res) (l0z : Bool) (l0 : List T) (m8z : Bool) (m8 : List T) : Option Res := k [(0, (.t (.list 3 l0z l0))), (3, (.buf 8))] ⟨[(8, (.arr true 1 m8z m8))], []⟩
noncomputable def VL29_2 : Env → St → Option Res := fun e st => atV Try.prog hint 29 0 Try.f29 35 (List.reverse PaL29_2) e st
/-- purfle/lexer.Lines, region 2. -/
noncomputable def L29_2 (l0z : Bool) (l0 : List T) (m8z : Bool) (m8 : List T) : Option Res := WL29_2 VL29_2 l0z l0 m8z m8
abbrev YL58_2 := Bool → (List T) → Int → Int → ByteArray → Option Res
def PaL58_2 : List Stp := [.blk, .snd, .fst, .snd]
def Ta58 (KL58_2 : Env → St → Option Res) : Tab := [(PaL58_2, KL58_2)]
def WL58_2 (k : Env → St → Option Res) (s0z : Bool) (s0 : List T) (t7 t8 : Int) (m0_0 : ByteArray) : Option Res := k [(0, (.t (.list 4 s0z s0))), (1, (.fn 60 [] [(.ptr 0 0 0)])), (7, (.t (.int .i64 t7))), (8, (.t (.int .i64 t8)))] ⟨[(0, (.var [(.t (.str m0_0))]))], []⟩
noncomputable def VL58_2 : Env → St → Option Res := fun e st => atV Try.prog hint 58 0 Try.f58 19 (List.reverse PaL58_2) e st
/-- slices.IndexFunc[[]purfle/code.shape,purfle/code.shape], region 2. -/
noncomputable def L58_2 (s0z : Bool) (s0 : List T) (t7 t8 : Int) (m0_0 : ByteArray) : Option Res := WL58_2 VL58_2 s0z s0 t7 t8 m0_0
abbrev YJ31_6 := Bool → (List T) → Bool → Int → Int → Int → Int → Int → ByteArray → Int → Int → Int → Option Res
def PaJ31_6 : List Stp := [.snd, .snd, .snd, .snd, .snd]
def Ta31 (KJ31_6 : Env → St → Option Res) : Tab := [(PaJ31_6, KJ31_6)]
def WJ31_6 (k : Env → St → Option Res) (m0_0z : Bool) (m0_0 : List T) (m0_1 : Bool) (m8_0 m8_1 m8_2 m8_3 m8_4 : Int) (m9_0 : ByteArray) (m9_1 m9_2 m9_3 : Int) : Option Res := k [(0, (.ptr 0 0 0)), (2, (.ptr 8 0 0)), (4, (.ptr 9 0 0))] ⟨[(0, (.var [(.t (.list 3 m0_0z m0_0)), (.t (.bool m0_1))])), (8, (.var [(.t (.int .i64 m8_0)), (.t (.int .i64 m8_1)), (.t (.int .i64 m8_2)), (.t (.int .i64 m8_3)), (.t (.int .i64 m8_4))])), (9, (.var [(.t (.str m9_0)), (.t (.int .i64 m9_1)), (.t (.int .i64 m9_2)), (.t (.int .i64 m9_3))]))], []⟩
noncomputable def VJ31_6 : Env → St → Option Res := fun e st => atV Try.prog hint 31 0 Try.f31 62 (List.reverse PaJ31_6) e st
/-- (*purfle/code.reader).ins, region 6. -/
noncomputable def J31_6 (m0_0z : Bool) (m0_0 : List T) (m0_1 : Bool) (m8_0 m8_1 m8_2 m8_3 m8_4 : Int) (m9_0 : ByteArray) (m9_1 m9_2 m9_3 : Int) : Option Res := WJ31_6 VJ31_6 m0_0z m0_0 m0_1 m8_0 m8_1 m8_2 m8_3 m8_4 m9_0 m9_1 m9_2 m9_3
abbrev YL68_2 := Bool → (List T) → Int → Int → Int → Int → Int → Bool → (List T) → Option Res
def PaL68_2 : List Stp := [.blk, .snd, .fst, .snd]
def Ta68 (KL68_2 : Env → St → Option Res) : Tab := [(PaL68_2, KL68_2)]
def WL68_2 (k : Env → St → Option Res) (s0z : Bool) (s0 : List T) (t7 t8 m0_0 m0_1 m0_2 : Int) (m0_3z : Bool) (m0_3 : List T) : Option Res := k [(0, (.t (.list 5 s0z s0))), (1, (.fn 36 [] [(.ptr 0 0 0)])), (7, (.t (.int .i64 t7))), (8, (.t (.int .i64 t8)))] ⟨[(0, (.var [(.t (.int .i64 m0_0)), (.t (.int .i64 m0_1)), (.t (.int .i64 m0_2)), (.t (.list 5 m0_3z m0_3))]))], []⟩
noncomputable def VL68_2 : Env → St → Option Res := fun e st => atV Try.prog hint 68 0 Try.f68 19 (List.reverse PaL68_2) e st
/-- slices.IndexFunc[[]purfle/api.Ins,purfle/api.Ins], region 2. -/
noncomputable def L68_2 (s0z : Bool) (s0 : List T) (t7 t8 m0_0 m0_1 m0_2 : Int) (m0_3z : Bool) (m0_3 : List T) : Option Res := WL68_2 VL68_2 s0z s0 t7 t8 m0_0 m0_1 m0_2 m0_3z m0_3
abbrev YL10_8 := Bool → (List T) → Bool → (List T) → Int → Int → Int → Int → Int → Bool → (List T) → Option Res
abbrev YJ10_17 := Bool → (List T) → Int → Bool → (List T) → Int → Int → Int → Int → Int → Bool → (List T) → Bool → (List T) → Bool → Option Res
def PaL10_8 : List Stp := [.blk, .snd, .fst, .snd, .snd, .snd, .snd, .snd]
def PaJ10_17 : List Stp := [.snd, .snd, .snd, .blk, .fst, .snd, .snd, .lp, .blk, .snd, .fst, .snd, .snd, .snd, .snd, .snd]
def Ta10 (KL10_8 KJ10_17 : Env → St → Option Res) : Tab := [(PaL10_8, KL10_8), (PaJ10_17, KJ10_17)]
def WL10_8 (k : Env → St → Option Res) (lines8z : Bool) (lines8 : List T) (t30z : Bool) (t30 : List T) (t31 t32 m8_0 m8_1 m8_2 : Int) (m9z : Bool) (m9 : List T) : Option Res := k [(2, (.ptr 8 0 0)), (8, (.t (.list 1 lines8z lines8))), (30, (.t (.list 1 t30z t30))), (31, (.t (.int .i64 t31))), (32, (.t (.int .i64 t32)))] ⟨[(8, (.var [(.t (.int .i64 m8_0)), (.t (.int .i64 m8_1)), (.t (.int .i64 m8_2)), (.buf 9)])), (9, (.arr true 5 m9z m9))], []⟩
noncomputable def VL10_8 : Env → St → Option Res := fun e st => atV Try.prog hint 10 0 Try.f10 92 (List.reverse PaL10_8) e st
/-- purfle/code.Parse, region 8. -/
noncomputable def L10_8 (lines8z : Bool) (lines8 : List T) (t30z : Bool) (t30 : List T) (t31 t32 m8_0 m8_1 m8_2 : Int) (m9z : Bool) (m9 : List T) : Option Res := WL10_8 VL10_8 lines8z lines8 t30z t30 t31 t32 m8_0 m8_1 m8_2 m9z m9
def WJ10_17 (k : Env → St → Option Res) (lines8z : Bool) (lines8 : List T) (i9 : Int) (t30z : Bool) (t30 : List T) (t31 t32 m8_0 m8_1 m8_2 : Int) (m9z : Bool) (m9 : List T) (m10_0z : Bool) (m10_0 : List T) (m10_1 : Bool) : Option Res := k [(2, (.ptr 8 0 0)), (8, (.t (.list 1 lines8z lines8))), (9, (.t (.int .i64 i9))), (11, (.ptr 10 0 0)), (30, (.t (.list 1 t30z t30))), (31, (.t (.int .i64 t31))), (32, (.t (.int .i64 t32)))] ⟨[(8, (.var [(.t (.int .i64 m8_0)), (.t (.int .i64 m8_1)), (.t (.int .i64 m8_2)), (.buf 9)])), (9, (.arr true 5 m9z m9)), (10, (.var [(.t (.list 3 m10_0z m10_0)), (.t (.bool m10_1))]))], []⟩
noncomputable def VJ10_17 : Env → St → Option Res := fun e st => atV Try.prog hint 10 0 Try.f10 92 (List.reverse PaJ10_17) e st
/-- purfle/code.Parse, region 17. -/
noncomputable def J10_17 (lines8z : Bool) (lines8 : List T) (i9 : Int) (t30z : Bool) (t30 : List T) (t31 t32 m8_0 m8_1 m8_2 : Int) (m9z : Bool) (m9 : List T) (m10_0z : Bool) (m10_0 : List T) (m10_1 : Bool) : Option Res := WJ10_17 VJ10_17 lines8z lines8 i9 t30z t30 t31 t32 m8_0 m8_1 m8_2 m9z m9 m10_0z m10_0 m10_1
abbrev YL4_6 := Bool → Bool → Bool → (List T) → Int → Int → Int → Int → Int → Bool → (List T) → Option Res
abbrev YJ4_12 := Bool → Bool → Int → Bool → (List T) → Int → Int → Int → Int → Int → Bool → (List T) → Int → Int → Int → Int → Int → Bool → (List T) → Option Res
abbrev YL4_13 := Bool → Bool → Int → Bool → (List T) → Int → Int → Int → Int → Int → Int → Int → Bool → (List T) → Int → Int → Int → Int → Int → Bool → (List T) → Option Res
abbrev YL4_20 := Bool → Bool → Bool → (List T) → Int → Int → Int → Int → Int → Int → Int → Bool → (List T) → Bool → (List T) → Option Res
def PaL4_6 : List Stp := [.blk, .snd, .fst, .snd, .snd, .snd, .snd]
def PaJ4_12 : List Stp := [.snd, .snd, .snd, .blk, .fst, .snd, .snd, .lp, .blk, .snd, .fst, .snd, .snd, .snd, .snd]
def PaL4_13 : List Stp := [.blk, .snd, .fst, .snd, .snd, .snd, .blk, .fst, .snd, .snd, .lp, .blk, .snd, .fst, .snd, .snd, .snd, .snd]
def PaL4_20 : List Stp := [.blk, .snd, .snd, .snd, .snd, .snd, .blk, .fst, .snd, .snd, .lp, .blk, .snd, .fst, .snd, .snd, .snd, .snd]
def Ta4 (KL4_6 KJ4_12 KL4_13 KL4_20 : Env → St → Option Res) : Tab := [(PaL4_6, KL4_6), (PaJ4_12, KJ4_12), (PaL4_13, KL4_13), (PaL4_20, KL4_20)]
def WL4_6 (k : Env → St → Option Res) (up3 last4 t25z : Bool) (t25 : List T) (t26 t27 m8_0 m8_1 m8_2 : Int) (m8_3z : Bool) (m8_3 : List T) : Option Res := k [(1, (.ptr 8 0 0)), (3, (.t (.bool up3))), (4, (.t (.bool last4))), (25, (.t (.list 5 t25z t25))), (26, (.t (.int .i64 t26))), (27, (.t (.int .i64 t27)))] ⟨[(8, (.var [(.t (.int .i64 m8_0)), (.t (.int .i64 m8_1)), (.t (.int .i64 m8_2)), (.t (.list 5 m8_3z m8_3))]))], []⟩
noncomputable def VL4_6 : Env → St → Option Res := fun e st => atV Try.prog hint 4 0 Try.f4 104 (List.reverse PaL4_6) e st
/-- purfle/purflelaw14.CodeBends, region 6. -/
noncomputable def L4_6 (up3 last4 t25z : Bool) (t25 : List T) (t26 t27 m8_0 m8_1 m8_2 : Int) (m8_3z : Bool) (m8_3 : List T) : Option Res := WL4_6 VL4_6 up3 last4 t25z t25 t26 t27 m8_0 m8_1 m8_2 m8_3z m8_3
def WJ4_12 (k : Env → St → Option Res) (up3 last4 : Bool) (i5 : Int) (t25z : Bool) (t25 : List T) (t26 t27 m8_0 m8_1 m8_2 : Int) (m8_3z : Bool) (m8_3 : List T) (m9_0 m9_1 m9_2 m9_3 m9_4 : Int) (m10z : Bool) (m10 : List T) : Option Res := k [(1, (.ptr 8 0 0)), (3, (.t (.bool up3))), (4, (.t (.bool last4))), (5, (.t (.int .i64 i5))), (6, (.ptr 9 0 0)), (7, (.buf 10)), (25, (.t (.list 5 t25z t25))), (26, (.t (.int .i64 t26))), (27, (.t (.int .i64 t27)))] ⟨[(8, (.var [(.t (.int .i64 m8_0)), (.t (.int .i64 m8_1)), (.t (.int .i64 m8_2)), (.t (.list 5 m8_3z m8_3))])), (9, (.var [(.t (.int .i64 m9_0)), (.t (.int .i64 m9_1)), (.t (.int .i64 m9_2)), (.t (.int .i64 m9_3)), (.t (.int .i64 m9_4))])), (10, (.arr true 1 m10z m10))], []⟩
noncomputable def VJ4_12 : Env → St → Option Res := fun e st => atV Try.prog hint 4 0 Try.f4 104 (List.reverse PaJ4_12) e st
/-- purfle/purflelaw14.CodeBends, region 12. -/
noncomputable def J4_12 (up3 last4 : Bool) (i5 : Int) (t25z : Bool) (t25 : List T) (t26 t27 m8_0 m8_1 m8_2 : Int) (m8_3z : Bool) (m8_3 : List T) (m9_0 m9_1 m9_2 m9_3 m9_4 : Int) (m10z : Bool) (m10 : List T) : Option Res := WJ4_12 VJ4_12 up3 last4 i5 t25z t25 t26 t27 m8_0 m8_1 m8_2 m8_3z m8_3 m9_0 m9_1 m9_2 m9_3 m9_4 m10z m10
def WL4_13 (k : Env → St → Option Res) (up3 last4 : Bool) (i5 : Int) (t25z : Bool) (t25 : List T) (t26 t27 t45 t46 m8_0 m8_1 m8_2 : Int) (m8_3z : Bool) (m8_3 : List T) (m9_0 m9_1 m9_2 m9_3 m9_4 : Int) (m10z : Bool) (m10 : List T) : Option Res := k [(1, (.ptr 8 0 0)), (3, (.t (.bool up3))), (4, (.t (.bool last4))), (5, (.t (.int .i64 i5))), (6, (.ptr 9 0 0)), (25, (.t (.list 5 t25z t25))), (26, (.t (.int .i64 t26))), (27, (.t (.int .i64 t27))), (44, (.buf 10)), (45, (.t (.int .i64 t45))), (46, (.t (.int .i64 t46)))] ⟨[(8, (.var [(.t (.int .i64 m8_0)), (.t (.int .i64 m8_1)), (.t (.int .i64 m8_2)), (.t (.list 5 m8_3z m8_3))])), (9, (.var [(.t (.int .i64 m9_0)), (.t (.int .i64 m9_1)), (.t (.int .i64 m9_2)), (.t (.int .i64 m9_3)), (.t (.int .i64 m9_4))])), (10, (.arr true 1 m10z m10))], []⟩
noncomputable def VL4_13 : Env → St → Option Res := fun e st => atV Try.prog hint 4 0 Try.f4 104 (List.reverse PaL4_13) e st
/-- purfle/purflelaw14.CodeBends, region 13. -/
noncomputable def L4_13 (up3 last4 : Bool) (i5 : Int) (t25z : Bool) (t25 : List T) (t26 t27 t45 t46 m8_0 m8_1 m8_2 : Int) (m8_3z : Bool) (m8_3 : List T) (m9_0 m9_1 m9_2 m9_3 m9_4 : Int) (m10z : Bool) (m10 : List T) : Option Res := WL4_13 VL4_13 up3 last4 i5 t25z t25 t26 t27 t45 t46 m8_0 m8_1 m8_2 m8_3z m8_3 m9_0 m9_1 m9_2 m9_3 m9_4 m10z m10
def WL4_20 (k : Env → St → Option Res) (up3 last4 t25z : Bool) (t25 : List T) (t26 t27 t70 t71 m8_0 m8_1 m8_2 : Int) (m8_3z : Bool) (m8_3 : List T) (m9z : Bool) (m9 : List T) : Option Res := k [(1, (.ptr 8 0 0)), (3, (.t (.bool up3))), (4, (.t (.bool last4))), (25, (.t (.list 5 t25z t25))), (26, (.t (.int .i64 t26))), (27, (.t (.int .i64 t27))), (69, (.buf 9)), (70, (.t (.int .i64 t70))), (71, (.t (.int .i64 t71)))] ⟨[(8, (.var [(.t (.int .i64 m8_0)), (.t (.int .i64 m8_1)), (.t (.int .i64 m8_2)), (.t (.list 5 m8_3z m8_3))])), (9, (.arr true 1 m9z m9))], []⟩
noncomputable def VL4_20 : Env → St → Option Res := fun e st => atV Try.prog hint 4 0 Try.f4 104 (List.reverse PaL4_20) e st
/-- purfle/purflelaw14.CodeBends, region 20. -/
noncomputable def L4_20 (up3 last4 t25z : Bool) (t25 : List T) (t26 t27 t70 t71 m8_0 m8_1 m8_2 : Int) (m8_3z : Bool) (m8_3 : List T) (m9z : Bool) (m9 : List T) : Option Res := WL4_20 VL4_20 up3 last4 t25z t25 t26 t27 t70 t71 m8_0 m8_1 m8_2 m8_3z m8_3 m9z m9
abbrev YL18_7 := Int → Int → Int → Int → Int → Int → Bool → (List T) → Int → Int → Int → Bool → (List T) → Bool → (List T) → Option Res
abbrev YL18_12 := Int → Bool → (List T) → Int → Int → Int → Int → Int → Bool → (List T) → Int → Int → Int → Bool → (List T) → Bool → (List T) → Option Res
def PaL18_7 : List Stp := [.blk, .snd, .fst, .snd, .snd, .snd]
def PaL18_12 : List Stp := [.blk, .snd, .fst, .snd, .snd, .snd, .snd]
def Ta18 (KL18_7 KL18_12 : Env → St → Option Res) : Tab := [(PaL18_7, KL18_7), (PaL18_12, KL18_12)]
def WL18_7 (k : Env → St → Option Res) (by1 t43 t44 m8_0 m8_1 m8_2 : Int) (m8_3z : Bool) (m8_3 : List T) (m9_0 m9_1 m9_2 : Int) (m9_3z : Bool) (m9_3 : List T) (m10z : Bool) (m10 : List T) : Option Res := k [(1, (.t (.int .i64 by1))), (2, (.ptr 8 0 0)), (4, (.ptr 9 0 0)), (6, (.buf 10)), (43, (.t (.int .i64 t43))), (44, (.t (.int .i64 t44)))] ⟨[(8, (.var [(.t (.int .i64 m8_0)), (.t (.int .i64 m8_1)), (.t (.int .i64 m8_2)), (.t (.list 5 m8_3z m8_3))])), (9, (.var [(.t (.int .i64 m9_0)), (.t (.int .i64 m9_1)), (.t (.int .i64 m9_2)), (.t (.list 5 m9_3z m9_3))])), (10, (.arr true 5 m10z m10))], []⟩
noncomputable def VL18_7 : Env → St → Option Res := fun e st => atV Try.prog hint 18 0 Try.f18 92 (List.reverse PaL18_7) e st
/-- purfle/code.Shift, region 7. -/
noncomputable def L18_7 (by1 t43 t44 m8_0 m8_1 m8_2 : Int) (m8_3z : Bool) (m8_3 : List T) (m9_0 m9_1 m9_2 : Int) (m9_3z : Bool) (m9_3 : List T) (m10z : Bool) (m10 : List T) : Option Res := WL18_7 VL18_7 by1 t43 t44 m8_0 m8_1 m8_2 m8_3z m8_3 m9_0 m9_1 m9_2 m9_3z m9_3 m10z m10
def WL18_12 (k : Env → St → Option Res) (by1 : Int) (t55z : Bool) (t55 : List T) (t56 t57 m8_0 m8_1 m8_2 : Int) (m8_3z : Bool) (m8_3 : List T) (m9_0 m9_1 m9_2 : Int) (m9_3z : Bool) (m9_3 : List T) (m10z : Bool) (m10 : List T) : Option Res := k [(1, (.t (.int .i64 by1))), (2, (.ptr 8 0 0)), (4, (.ptr 9 0 0)), (6, (.buf 10)), (55, (.t (.list 5 t55z t55))), (56, (.t (.int .i64 t56))), (57, (.t (.int .i64 t57)))] ⟨[(8, (.var [(.t (.int .i64 m8_0)), (.t (.int .i64 m8_1)), (.t (.int .i64 m8_2)), (.t (.list 5 m8_3z m8_3))])), (9, (.var [(.t (.int .i64 m9_0)), (.t (.int .i64 m9_1)), (.t (.int .i64 m9_2)), (.t (.list 5 m9_3z m9_3))])), (10, (.arr true 5 m10z m10))], []⟩
noncomputable def VL18_12 : Env → St → Option Res := fun e st => atV Try.prog hint 18 0 Try.f18 92 (List.reverse PaL18_12) e st
/-- purfle/code.Shift, region 12. -/
noncomputable def L18_12 (by1 : Int) (t55z : Bool) (t55 : List T) (t56 t57 m8_0 m8_1 m8_2 : Int) (m8_3z : Bool) (m8_3 : List T) (m9_0 m9_1 m9_2 : Int) (m9_3z : Bool) (m9_3 : List T) (m10z : Bool) (m10 : List T) : Option Res := WL18_12 VL18_12 by1 t55z t55 t56 t57 m8_0 m8_1 m8_2 m8_3z m8_3 m9_0 m9_1 m9_2 m9_3z m9_3 m10z m10
abbrev YL40_4 := Bool → (List T) → Bool → (List T) → Int → Int → Option Res
def PaL40_4 : List Stp := [.blk, .snd, .fst, .snd, .snd]
def Ta40 (KL40_4 : Env → St → Option Res) : Tab := [(PaL40_4, KL40_4)]
def WL40_4 (k : Env → St → Option Res) (s10z : Bool) (s10 : List T) (s21z : Bool) (s21 : List T) (t12 t13 : Int) : Option Res := k [(0, (.t (.list 5 s10z s10))), (1, (.t (.list 5 s21z s21))), (12, (.t (.int .i64 t12))), (13, (.t (.int .i64 t13)))] ⟨[], []⟩
noncomputable def VL40_4 : Env → St → Option Res := fun e st => atV Try.prog hint 40 0 Try.f40 26 (List.reverse PaL40_4) e st
/-- slices.Equal[[]purfle/api.Ins,purfle/api.Ins], region 4. -/
noncomputable def L40_4 (s10z : Bool) (s10 : List T) (s21z : Bool) (s21 : List T) (t12 t13 : Int) : Option Res := WL40_4 VL40_4 s10z s10 s21z s21 t12 t13
abbrev YL20_4 := Bool → (List T) → Bool → (List T) → Int → Int → Option Res
def PaL20_4 : List Stp := [.blk, .snd, .fst, .snd, .snd]
def Ta20 (KL20_4 : Env → St → Option Res) : Tab := [(PaL20_4, KL20_4)]
def WL20_4 (k : Env → St → Option Res) (a0z : Bool) (a0 : List T) (b1z : Bool) (b1 : List T) (t12 t13 : Int) : Option Res := k [(0, (.t (.list 1 a0z a0))), (1, (.t (.list 1 b1z b1))), (12, (.t (.int .i64 t12))), (13, (.t (.int .i64 t13)))] ⟨[], []⟩
noncomputable def VL20_4 : Env → St → Option Res := fun e st => atV Try.prog hint 20 0 Try.f20 26 (List.reverse PaL20_4) e st
/-- purfle/purfleref01.Equal, region 4. -/
noncomputable def L20_4 (a0z : Bool) (a0 : List T) (b1z : Bool) (b1 : List T) (t12 t13 : Int) : Option Res := WL20_4 VL20_4 a0z a0 b1z b1 t12 t13
abbrev YL5_12 := Int → Int → Bool → Bool → (List T) → Int → Int → Int → Int → Int → Bool → (List T) → Option Res
abbrev YL5_21 := Int → Int → Bool → Int → Bool → (List T) → Int → Int → Int → Int → Int → Int → Int → Bool → (List T) → Int → Int → Int → Int → Int → Bool → (List T) → Option Res
def PaL5_12 : List Stp := [.blk, .snd, .fst, .snd, .snd, .snd, .snd, .snd, .snd, .snd, .snd, .snd]
def PaL5_21 : List Stp := [.blk, .snd, .fst, .snd, .snd, .snd, .snd, .snd, .snd, .blk, .fst, .snd, .snd, .lp, .blk, .snd, .fst, .snd, .snd, .snd, .snd, .snd, .snd, .snd, .snd, .snd]
def Ta5 (KL5_12 KL5_21 : Env → St → Option Res) : Tab := [(PaL5_12, KL5_12), (PaL5_21, KL5_21)]
def WL5_12 (k : Env → St → Option Res) (a1 b2 : Int) (up7 t96z : Bool) (t96 : List T) (t97 t98 m8_0 m8_1 m8_2 : Int) (m8_3z : Bool) (m8_3 : List T) : Option Res := k [(1, (.t (.int .i64 a1))), (2, (.t (.int .i64 b2))), (7, (.t (.bool up7))), (12, (.ptr 8 0 0)), (96, (.t (.list 5 t96z t96))), (97, (.t (.int .i64 t97))), (98, (.t (.int .i64 t98)))] ⟨[(8, (.var [(.t (.int .i64 m8_0)), (.t (.int .i64 m8_1)), (.t (.int .i64 m8_2)), (.t (.list 5 m8_3z m8_3))]))], []⟩
noncomputable def VL5_12 : Env → St → Option Res := fun e st => atV Try.prog hint 5 0 Try.f5 168 (List.reverse PaL5_12) e st
/-- purfle/purflelaw14.CodeShifts, region 12. -/
noncomputable def L5_12 (a1 b2 : Int) (up7 t96z : Bool) (t96 : List T) (t97 t98 m8_0 m8_1 m8_2 : Int) (m8_3z : Bool) (m8_3 : List T) : Option Res := WL5_12 VL5_12 a1 b2 up7 t96z t96 t97 t98 m8_0 m8_1 m8_2 m8_3z m8_3
def WL5_21 (k : Env → St → Option Res) (a1 b2 : Int) (up7 : Bool) (i14 : Int) (t96z : Bool) (t96 : List T) (t97 t98 t142 t143 m8_0 m8_1 m8_2 : Int) (m8_3z : Bool) (m8_3 : List T) (m9_0 m9_1 m9_2 m9_3 m9_4 : Int) (m10z : Bool) (m10 : List T) : Option Res := k [(1, (.t (.int .i64 a1))), (2, (.t (.int .i64 b2))), (7, (.t (.bool up7))), (12, (.ptr 8 0 0)), (14, (.t (.int .i64 i14))), (16, (.ptr 9 0 0)), (21, (.buf 10)), (96, (.t (.list 5 t96z t96))), (97, (.t (.int .i64 t97))), (98, (.t (.int .i64 t98))), (142, (.t (.int .i64 t142))), (143, (.t (.int .i64 t143)))] ⟨[(8, (.var [(.t (.int .i64 m8_0)), (.t (.int .i64 m8_1)), (.t (.int .i64 m8_2)), (.t (.list 5 m8_3z m8_3))])), (9, (.var [(.t (.int .i64 m9_0)), (.t (.int .i64 m9_1)), (.t (.int .i64 m9_2)), (.t (.int .i64 m9_3)), (.t (.int .i64 m9_4))])), (10, (.arr true 1 m10z m10))], []⟩
noncomputable def VL5_21 : Env → St → Option Res := fun e st => atV Try.prog hint 5 0 Try.f5 168 (List.reverse PaL5_21) e st
/-- purfle/purflelaw14.CodeShifts, region 21. -/
noncomputable def L5_21 (a1 b2 : Int) (up7 : Bool) (i14 : Int) (t96z : Bool) (t96 : List T) (t97 t98 t142 t143 m8_0 m8_1 m8_2 : Int) (m8_3z : Bool) (m8_3 : List T) (m9_0 m9_1 m9_2 m9_3 m9_4 : Int) (m10z : Bool) (m10 : List T) : Option Res := WL5_21 VL5_21 a1 b2 up7 i14 t96z t96 t97 t98 t142 t143 m8_0 m8_1 m8_2 m8_3z m8_3 m9_0 m9_1 m9_2 m9_3 m9_4 m10z m10
noncomputable def R52  (a0 : ByteArray) (a1 : Int) : Option Res :=
 callK (vr 75 0 [(.t (.str a0)), (.t (.int .u8 a1))] ⟨[], []⟩) fun v_1 b_2 =>
 asT v_1 fun x_3 =>
 asI .i64 x_3 fun x_4 =>
 endB b_2 <|
 some ((.t (.int .i64 x_4)), ⟨[], []⟩)
theorem eq52g  (a0 : ByteArray) (a1 : Int) : codeT Try.prog hint 52 0 8 [] [] (resKV Try.prog Try.f52 (hint.own 52 0)) (nrm hint 52 0 (bodyOf Try.f52) (envV [(.t (.str a0)), (.t (.int .u8 a1))] 0) ⟨[], []⟩).1 (nrm hint 52 0 (bodyOf Try.f52) (envV [(.t (.str a0)), (.t (.int .u8 a1))] 0) ⟨[], []⟩).2 (bodyOf Try.f52) = R52  a0 a1 := by kernel_rfl
/-- strings.IndexByte -/
theorem eq52 (a0 : ByteArray) (a1 : Int) : vr 52 0 [(.t (.str a0)), (.t (.int .u8 a1))] ⟨[], []⟩ = R52  a0 a1 :=
  (call_eq Try.prog hint (fn := Try.f52) (nt := 8) (T := []) [] rfl [(.t (.str a0)), (.t (.int .u8 a1))] ⟨[], []⟩ rfl rfl rfl rfl rfl).trans (eq52g  a0 a1)
noncomputable def R51  (a0 : Int) : Option Res :=
(bif (decide (97 ≤ (bitsI .or .u8 a0 32))) then
(bif (decide ((bitsI .or .u8 a0 32) ≤ 122)) then
 some ((.t (.int .i64 1)), ⟨[], []⟩)
else
(bif (decide (48 ≤ a0)) then
(bif (decide (a0 ≤ 57)) then
 some ((.t (.int .i64 2)), ⟨[], []⟩)
else
 callK (vr 52 0 [(.t (.str ⟨#[43, 45, 42, 40, 41, 91, 93, 44, 61, 58]⟩)), (.t (.int .u8 a0))] ⟨[], []⟩) fun v_1 b_2 =>
 asT v_1 fun x_3 =>
 asI .i64 x_3 fun x_4 =>
 endB b_2 <|
(bif (decide (0 ≤ x_4)) then
 some ((.t (.int .i64 3)), ⟨[], []⟩)
else
(bif (decide (a0 = 32)) then
 some ((.t (.int .i64 4)), ⟨[], []⟩)
else
(bif (decide (a0 = 9)) then
 some ((.t (.int .i64 4)), ⟨[], []⟩)
else
(bif (decide (a0 = 10)) then
 some ((.t (.int .i64 5)), ⟨[], []⟩)
else
(bif (decide (a0 = 35)) then
 some ((.t (.int .i64 6)), ⟨[], []⟩)
else
 some ((.t (.int .i64 0)), ⟨[], []⟩)))))))
else
 callK (vr 52 0 [(.t (.str ⟨#[43, 45, 42, 40, 41, 91, 93, 44, 61, 58]⟩)), (.t (.int .u8 a0))] ⟨[], []⟩) fun v_5 b_6 =>
 asT v_5 fun x_7 =>
 asI .i64 x_7 fun x_8 =>
 endB b_6 <|
(bif (decide (0 ≤ x_8)) then
 some ((.t (.int .i64 3)), ⟨[], []⟩)
else
(bif (decide (a0 = 32)) then
 some ((.t (.int .i64 4)), ⟨[], []⟩)
else
(bif (decide (a0 = 9)) then
 some ((.t (.int .i64 4)), ⟨[], []⟩)
else
(bif (decide (a0 = 10)) then
 some ((.t (.int .i64 5)), ⟨[], []⟩)
else
(bif (decide (a0 = 35)) then
 some ((.t (.int .i64 6)), ⟨[], []⟩)
else
 some ((.t (.int .i64 0)), ⟨[], []⟩))))))))
else
(bif (decide (48 ≤ a0)) then
(bif (decide (a0 ≤ 57)) then
 some ((.t (.int .i64 2)), ⟨[], []⟩)
else
 callK (vr 52 0 [(.t (.str ⟨#[43, 45, 42, 40, 41, 91, 93, 44, 61, 58]⟩)), (.t (.int .u8 a0))] ⟨[], []⟩) fun v_9 b_10 =>
 asT v_9 fun x_11 =>
 asI .i64 x_11 fun x_12 =>
 endB b_10 <|
(bif (decide (0 ≤ x_12)) then
 some ((.t (.int .i64 3)), ⟨[], []⟩)
else
(bif (decide (a0 = 32)) then
 some ((.t (.int .i64 4)), ⟨[], []⟩)
else
(bif (decide (a0 = 9)) then
 some ((.t (.int .i64 4)), ⟨[], []⟩)
else
(bif (decide (a0 = 10)) then
 some ((.t (.int .i64 5)), ⟨[], []⟩)
else
(bif (decide (a0 = 35)) then
 some ((.t (.int .i64 6)), ⟨[], []⟩)
else
 some ((.t (.int .i64 0)), ⟨[], []⟩)))))))
else
 callK (vr 52 0 [(.t (.str ⟨#[43, 45, 42, 40, 41, 91, 93, 44, 61, 58]⟩)), (.t (.int .u8 a0))] ⟨[], []⟩) fun v_13 b_14 =>
 asT v_13 fun x_15 =>
 asI .i64 x_15 fun x_16 =>
 endB b_14 <|
(bif (decide (0 ≤ x_16)) then
 some ((.t (.int .i64 3)), ⟨[], []⟩)
else
(bif (decide (a0 = 32)) then
 some ((.t (.int .i64 4)), ⟨[], []⟩)
else
(bif (decide (a0 = 9)) then
 some ((.t (.int .i64 4)), ⟨[], []⟩)
else
(bif (decide (a0 = 10)) then
 some ((.t (.int .i64 5)), ⟨[], []⟩)
else
(bif (decide (a0 = 35)) then
 some ((.t (.int .i64 6)), ⟨[], []⟩)
else
 some ((.t (.int .i64 0)), ⟨[], []⟩))))))))
theorem eq51g  (a0 : Int) : codeT Try.prog hint 51 0 36 [] [] (resKV Try.prog Try.f51 (hint.own 51 0)) (nrm hint 51 0 (bodyOf Try.f51) (envV [(.t (.int .u8 a0))] 0) ⟨[], []⟩).1 (nrm hint 51 0 (bodyOf Try.f51) (envV [(.t (.int .u8 a0))] 0) ⟨[], []⟩).2 (bodyOf Try.f51) = R51  a0 := by kernel_rfl
/-- purfle/lexer.kind -/
theorem eq51 (a0 : Int) : vr 51 0 [(.t (.int .u8 a0))] ⟨[], []⟩ = R51  a0 :=
  (call_eq Try.prog hint (fn := Try.f51) (nt := 36) (T := []) [] rfl [(.t (.int .u8 a0))] ⟨[], []⟩ rfl rfl rfl rfl rfl).trans (eq51g  a0)
noncomputable def R53 (L53_2 : YL53_2) (a0 : ByteArray) : Option Res :=
 L53_2 (a0) (0)
theorem eq53g (KL53_2 : Env → St → Option Res) (a0 : ByteArray) : codeT Try.prog hint 53 0 25 (Ta53 KL53_2) [] (resKV Try.prog Try.f53 (hint.own 53 0)) (nrm hint 53 0 (bodyOf Try.f53) (envV [(.t (.str a0))] 0) ⟨[], []⟩).1 (nrm hint 53 0 (bodyOf Try.f53) (envV [(.t (.str a0))] 0) ⟨[], []⟩).2 (bodyOf Try.f53) = R53 (WL53_2 KL53_2) a0 := by kernel_rfl
/-- purfle/lexer.run -/
theorem eq53 (a0 : ByteArray) : vr 53 0 [(.t (.str a0))] ⟨[], []⟩ = R53 L53_2 a0 :=
  (call_eq Try.prog hint (fn := Try.f53) (nt := 25) (T := (Ta53 VL53_2)) [PaL53_2] rfl [(.t (.str a0))] ⟨[], []⟩ rfl rfl rfl rfl rfl).trans (eq53g VL53_2 a0)
noncomputable def RL53_2 (L53_2 : YL53_2) (s0 : ByteArray) (n3 : Int) : Option Res :=
(bif (decide (n3 < (s0.size : Int))) then
 needC (decide (0 ≤ n3) && decide (n3 < (s0.size : Int))) fun _ =>
 callK (vr 51 0 [(.t (.int .u8 (((s0 : ByteArray)[(n3).toNat]!).toNat : Int)))] ⟨[], []⟩) fun v_1 b_2 =>
 asT v_1 fun x_3 =>
 asI .i64 x_3 fun x_4 =>
 endB b_2 <|
(bif (decide (x_4 = 1)) then
 L53_2 (s0) ((IntKind.i64.wrap (n3 + 1)))
else
 needC (decide (0 ≤ n3) && decide (n3 < (s0.size : Int))) fun _ =>
 callK (vr 51 0 [(.t (.int .u8 (((s0 : ByteArray)[(n3).toNat]!).toNat : Int)))] ⟨[], []⟩) fun v_5 b_6 =>
 asT v_5 fun x_7 =>
 asI .i64 x_7 fun x_8 =>
 endB b_6 <|
(bif (decide (x_8 = 2)) then
 L53_2 (s0) ((IntKind.i64.wrap (n3 + 1)))
else
 some ((.t (.int .i64 n3)), ⟨[], []⟩)))
else
 some ((.t (.int .i64 n3)), ⟨[], []⟩))
theorem L53_2g (KL53_2 : Env → St → Option Res) (s0 : ByteArray) (n3 : Int) : WL53_2 (fun e st => codeT Try.prog hint 53 0 25 (Ta53 KL53_2) (.lp :: PaL53_2) (ctxT Try.prog hint 53 0 25 (Ta53 KL53_2) [] (List.reverse (.lp :: PaL53_2)) (bodyOf Try.f53) (resKV Try.prog Try.f53 (hint.own 53 0))) e st (nav (List.reverse (.lp :: PaL53_2)) (bodyOf Try.f53))) s0 n3 = RL53_2 (WL53_2 KL53_2) s0 n3 := by kernel_rfl
theorem L53_2_eq (s0 : ByteArray) (n3 : Int) : L53_2 s0 n3 = RL53_2 L53_2 s0 n3 :=
  (congrArg (fun k => WL53_2 k s0 n3) (funext fun e => funext fun st => round_eq Try.prog hint (b := (nav (List.reverse (.lp :: PaL53_2)) (bodyOf Try.f53))) (fn := Try.f53) (nt := 25) (T := (Ta53 VL53_2)) [PaL53_2] rfl PaL53_2 e st rfl rfl rfl)).trans (L53_2g VL53_2 s0 n3)
noncomputable def R76  (a0 : ByteArray) : Option Res :=
(bif (!decide ((a0 : ByteArray) = ⟨#[]⟩)) then
(bif (decide ((a0.size : Int) ≤ 16)) then
 needC (decide (0 ≤ 0) && decide ((0 : Int) < (a0.size : Int))) fun _ =>
 callK (vr 51 0 [(.t (.int .u8 (((a0 : ByteArray)[((0 : Int)).toNat]!).toNat : Int)))] ⟨[], []⟩) fun v_1 b_2 =>
 asT v_1 fun x_3 =>
 asI .i64 x_3 fun x_4 =>
 endB b_2 <|
(bif (decide (x_4 = 1)) then
 callK (vr 53 0 [(.t (.str a0))] ⟨[], []⟩) fun v_5 b_6 =>
 asT v_5 fun x_7 =>
 asI .i64 x_7 fun x_8 =>
 endB b_6 <|
 some ((.t (.bool (decide (x_8 = (a0.size : Int))))), ⟨[], []⟩)
else
 some ((.t (.bool false)), ⟨[], []⟩))
else
 some ((.t (.bool false)), ⟨[], []⟩))
else
 some ((.t (.bool false)), ⟨[], []⟩))
theorem eq76g  (a0 : ByteArray) : codeT Try.prog hint 76 0 23 [] [] (resKV Try.prog Try.f76 (hint.own 76 0)) (nrm hint 76 0 (bodyOf Try.f76) (envV [(.t (.str a0))] 0) ⟨[], []⟩).1 (nrm hint 76 0 (bodyOf Try.f76) (envV [(.t (.str a0))] 0) ⟨[], []⟩).2 (bodyOf Try.f76) = R76  a0 := by kernel_rfl
/-- purfle/lexer.Word -/
theorem eq76 (a0 : ByteArray) : vr 76 0 [(.t (.str a0))] ⟨[], []⟩ = R76  a0 :=
  (call_eq Try.prog hint (fn := Try.f76) (nt := 23) (T := []) [] rfl [(.t (.str a0))] ⟨[], []⟩ rfl rfl rfl rfl rfl).trans (eq76g  a0)
noncomputable def R77 (L77_4 : YL77_4) (a0 : ByteArray) : Option Res :=
(bif (decide ((a0 : ByteArray) = ⟨#[]⟩)) then
 some ((.tup [(.t (.int .i64 0)), (.t (.bool false))]), ⟨[], []⟩)
else
(bif (decide (18 < (a0.size : Int))) then
 some ((.tup [(.t (.int .i64 0)), (.t (.bool false))]), ⟨[], []⟩)
else
(bif (decide (1 < (a0.size : Int))) then
 needC (decide (0 ≤ 0) && decide ((0 : Int) < (a0.size : Int))) fun _ =>
(bif (decide ((((a0 : ByteArray)[((0 : Int)).toNat]!).toNat : Int) = 48)) then
 some ((.tup [(.t (.int .i64 0)), (.t (.bool false))]), ⟨[], []⟩)
else
 L77_4 (a0) (0) ((a0.size : Int)) (0))
else
 L77_4 (a0) (0) ((a0.size : Int)) (0))))
theorem eq77g (KL77_4 : Env → St → Option Res) (a0 : ByteArray) : codeT Try.prog hint 77 0 42 (Ta77 KL77_4) [] (resKV Try.prog Try.f77 (hint.own 77 0)) (nrm hint 77 0 (bodyOf Try.f77) (envV [(.t (.str a0))] 0) ⟨[], []⟩).1 (nrm hint 77 0 (bodyOf Try.f77) (envV [(.t (.str a0))] 0) ⟨[], []⟩).2 (bodyOf Try.f77) = R77 (WL77_4 KL77_4) a0 := by kernel_rfl
/-- purfle/lexer.Number -/
theorem eq77 (a0 : ByteArray) : vr 77 0 [(.t (.str a0))] ⟨[], []⟩ = R77 L77_4 a0 :=
  (call_eq Try.prog hint (fn := Try.f77) (nt := 42) (T := (Ta77 VL77_4)) [PaL77_4] rfl [(.t (.str a0))] ⟨[], []⟩ rfl rfl rfl rfl rfl).trans (eq77g VL77_4 a0)
noncomputable def RL77_4 (L77_4 : YL77_4) (s0 : ByteArray) (n2 t23 t24 : Int) : Option Res :=
(bif (decide (t24 < t23)) then
 needC (decide (0 ≤ t24) && decide (t24 < (s0.size : Int))) fun _ =>
 callK (vr 51 0 [(.t (.int .u8 (((s0 : ByteArray)[(t24).toNat]!).toNat : Int)))] ⟨[], []⟩) fun v_1 b_2 =>
 asT v_1 fun x_3 =>
 asI .i64 x_3 fun x_4 =>
 endB b_2 <|
(bif (!decide (x_4 = 2)) then
 some ((.tup [(.t (.int .i64 0)), (.t (.bool false))]), ⟨[], []⟩)
else
 needC (decide (0 ≤ t24) && decide (t24 < (s0.size : Int))) fun _ =>
 L77_4 (s0) ((IntKind.i64.wrap ((IntKind.i64.wrap ((10 : Int) * n2)) + (IntKind.i64.wrap (IntKind.u8.wrap ((((s0 : ByteArray)[(t24).toNat]!).toNat : Int) - 48)))))) (t23) ((IntKind.i64.wrap (t24 + 1))))
else
 some ((.tup [(.t (.int .i64 n2)), (.t (.bool true))]), ⟨[], []⟩))
theorem L77_4g (KL77_4 : Env → St → Option Res) (s0 : ByteArray) (n2 t23 t24 : Int) : WL77_4 (fun e st => codeT Try.prog hint 77 0 42 (Ta77 KL77_4) (.lp :: PaL77_4) (ctxT Try.prog hint 77 0 42 (Ta77 KL77_4) [] (List.reverse (.lp :: PaL77_4)) (bodyOf Try.f77) (resKV Try.prog Try.f77 (hint.own 77 0))) e st (nav (List.reverse (.lp :: PaL77_4)) (bodyOf Try.f77))) s0 n2 t23 t24 = RL77_4 (WL77_4 KL77_4) s0 n2 t23 t24 := by kernel_rfl
theorem L77_4_eq (s0 : ByteArray) (n2 t23 t24 : Int) : L77_4 s0 n2 t23 t24 = RL77_4 L77_4 s0 n2 t23 t24 :=
  (congrArg (fun k => WL77_4 k s0 n2 t23 t24) (funext fun e => funext fun st => round_eq Try.prog hint (b := (nav (List.reverse (.lp :: PaL77_4)) (bodyOf Try.f77))) (fn := Try.f77) (nt := 42) (T := (Ta77 VL77_4)) [PaL77_4] rfl PaL77_4 e st rfl rfl rfl)).trans (L77_4g VL77_4 s0 n2 t23 t24)
noncomputable def R54  (a0 : ByteArray) : Option Res :=
 callK (vr 76 0 [(.t (.str a0))] ⟨[], []⟩) fun v_1 b_2 =>
 asT v_1 fun x_3 =>
 asB x_3 fun b_4 =>
 endB b_2 <|
(bif b_4 then
 some ((.tup [(.t (.agg [(.int .i64 1), (.str a0), (.int .i64 0)])), (.t (.bool true))]), ⟨[], []⟩)
else
(bif (decide ((a0.size : Int) = 1)) then
 needC (decide (0 ≤ 0) && decide ((0 : Int) < (a0.size : Int))) fun _ =>
 callK (vr 51 0 [(.t (.int .u8 (((a0 : ByteArray)[((0 : Int)).toNat]!).toNat : Int)))] ⟨[], []⟩) fun v_5 b_6 =>
 asT v_5 fun x_7 =>
 asI .i64 x_7 fun x_8 =>
 endB b_6 <|
(bif (decide (x_8 = 3)) then
 some ((.tup [(.t (.agg [(.int .i64 3), (.str a0), (.int .i64 0)])), (.t (.bool true))]), ⟨[], []⟩)
else
 callK (vr 77 0 [(.t (.str a0))] ⟨[], []⟩) fun v_9 b_10 =>
 asTup v_9 fun l_11 =>
 consV l_11 fun v_12 l_13 =>
 asT v_12 fun x_14 =>
 asI .i64 x_14 fun x_15 =>
 consV l_13 fun v_16 l_17 =>
 asT v_16 fun x_18 =>
 asB x_18 fun b_19 =>
 endV l_17 <|
 endB b_10 <|
 some ((.tup [(.t (.agg [(.int .i64 2), (.str a0), (.int .i64 x_15)])), (.t (.bool b_19))]), ⟨[], []⟩))
else
 callK (vr 77 0 [(.t (.str a0))] ⟨[], []⟩) fun v_20 b_21 =>
 asTup v_20 fun l_22 =>
 consV l_22 fun v_23 l_24 =>
 asT v_23 fun x_25 =>
 asI .i64 x_25 fun x_26 =>
 consV l_24 fun v_27 l_28 =>
 asT v_27 fun x_29 =>
 asB x_29 fun b_30 =>
 endV l_28 <|
 endB b_21 <|
 some ((.tup [(.t (.agg [(.int .i64 2), (.str a0), (.int .i64 x_26)])), (.t (.bool b_30))]), ⟨[], []⟩)))
theorem eq54g  (a0 : ByteArray) : codeT Try.prog hint 54 0 31 [] [] (resKV Try.prog Try.f54 (hint.own 54 0)) (nrm hint 54 0 (bodyOf Try.f54) (envV [(.t (.str a0))] 0) ⟨[], []⟩).1 (nrm hint 54 0 (bodyOf Try.f54) (envV [(.t (.str a0))] 0) ⟨[], []⟩).2 (bodyOf Try.f54) = R54  a0 := by kernel_rfl
/-- purfle/lexer.read -/
theorem eq54 (a0 : ByteArray) : vr 54 0 [(.t (.str a0))] ⟨[], []⟩ = R54  a0 :=
  (call_eq Try.prog hint (fn := Try.f54) (nt := 31) (T := []) [] rfl [(.t (.str a0))] ⟨[], []⟩ rfl rfl rfl rfl rfl).trans (eq54g  a0)
noncomputable def R28 (L28_6 : YL28_6) (J28_28 : YJ28_28) (J28_21 : YJ28_21) (J28_26 : YJ28_26) (a0 : ByteArray) : Option Res :=
(bif (decide (65536 < (a0.size : Int))) then
 some ((.tup [(.t (.list 3 false [])), (.t (.int .i64 0)), (.t (.int .i64 2))]), ⟨[], []⟩)
else
 L28_6 (a0) (false) (0) (false) ([]))
theorem eq28g (KL28_6 KJ28_28 KJ28_21 KJ28_26 : Env → St → Option Res) (a0 : ByteArray) : codeT Try.prog hint 28 0 82 (Ta28 KL28_6 KJ28_28 KJ28_21 KJ28_26) [] (resKV Try.prog Try.f28 (hint.own 28 0)) (nrm hint 28 0 (bodyOf Try.f28) (envV [(.t (.str a0))] 0) ⟨[], []⟩).1 (nrm hint 28 0 (bodyOf Try.f28) (envV [(.t (.str a0))] 0) ⟨[], []⟩).2 (bodyOf Try.f28) = R28 (WL28_6 KL28_6) (WJ28_28 KJ28_28) (WJ28_21 KJ28_21) (WJ28_26 KJ28_26) a0 := by kernel_rfl
/-- purfle/lexer.Cut -/
theorem eq28 (a0 : ByteArray) : vr 28 0 [(.t (.str a0))] ⟨[], []⟩ = R28 L28_6 J28_28 J28_21 J28_26 a0 :=
  (call_eq Try.prog hint (fn := Try.f28) (nt := 82) (T := (Ta28 VL28_6 VJ28_28 VJ28_21 VJ28_26)) [PaL28_6, PaJ28_28, PaJ28_21, PaJ28_26] rfl [(.t (.str a0))] ⟨[], []⟩ rfl rfl rfl rfl rfl).trans (eq28g VL28_6 VJ28_28 VJ28_21 VJ28_26 a0)
noncomputable def RL28_6 (L28_6 : YL28_6) (J28_28 : YJ28_28) (J28_21 : YJ28_21) (J28_26 : YJ28_26) (s0 : ByteArray) (ends6 : Bool) (at7 : Int) (m8z : Bool) (m8 : List T) : Option Res :=
(bif (decide (at7 < (s0.size : Int))) then
 needC (decide (0 ≤ at7) && decide (at7 < (s0.size : Int))) fun _ =>
 callK (vr 51 0 [(.t (.int .u8 (((s0 : ByteArray)[(at7).toNat]!).toNat : Int)))] ⟨[], []⟩) fun v_1 b_2 =>
 asT v_1 fun x_3 =>
 asI .i64 x_3 fun x_4 =>
 endB b_2 <|
(bif (decide (x_4 = 5)) then
 L28_6 (s0) ((decide (0 < (m8.length : Int)))) ((IntKind.i64.wrap (at7 + 1))) (m8z) (m8)
else
(bif (decide (x_4 = 4)) then
 L28_6 (s0) (ends6) ((IntKind.i64.wrap (at7 + 1))) (m8z) (m8)
else
(bif (decide (x_4 = 6)) then
 subS s0 (some at7) none fun s_5 =>
 callK (vr 52 0 [(.t (.str s_5)), (.t (.int .u8 10))] ⟨[], []⟩) fun v_6 b_7 =>
 asT v_6 fun x_8 =>
 asI .i64 x_8 fun x_9 =>
 endB b_7 <|
(bif (decide (x_9 < 0)) then
 J28_28 (s0) (m8z) (m8)
else
 L28_6 (s0) (ends6) ((IntKind.i64.wrap (at7 + x_9))) (m8z) (m8))
else
(bif (decide (x_4 = 1)) then
 subS s0 (some at7) none fun s_10 =>
 callK (vr 53 0 [(.t (.str s_10))] ⟨[], []⟩) fun v_11 b_12 =>
 asT v_11 fun x_13 =>
 asI .i64 x_13 fun x_14 =>
 endB b_12 <|
 J28_21 (s0) (ends6) (at7) (x_14) (m8z) (m8)
else
(bif (decide (x_4 = 2)) then
 subS s0 (some at7) none fun s_15 =>
 callK (vr 53 0 [(.t (.str s_15))] ⟨[], []⟩) fun v_16 b_17 =>
 asT v_16 fun x_18 =>
 asI .i64 x_18 fun x_19 =>
 endB b_17 <|
 J28_21 (s0) (ends6) (at7) (x_19) (m8z) (m8)
else
 J28_21 (s0) (ends6) (at7) (1) (m8z) (m8))))))
else
 J28_28 (s0) (m8z) (m8))
theorem L28_6g (KL28_6 KJ28_28 KJ28_21 KJ28_26 : Env → St → Option Res) (s0 : ByteArray) (ends6 : Bool) (at7 : Int) (m8z : Bool) (m8 : List T) : WL28_6 (fun e st => codeT Try.prog hint 28 0 82 (Ta28 KL28_6 KJ28_28 KJ28_21 KJ28_26) (.lp :: PaL28_6) (ctxT Try.prog hint 28 0 82 (Ta28 KL28_6 KJ28_28 KJ28_21 KJ28_26) [] (List.reverse (.lp :: PaL28_6)) (bodyOf Try.f28) (resKV Try.prog Try.f28 (hint.own 28 0))) e st (nav (List.reverse (.lp :: PaL28_6)) (bodyOf Try.f28))) s0 ends6 at7 m8z m8 = RL28_6 (WL28_6 KL28_6) (WJ28_28 KJ28_28) (WJ28_21 KJ28_21) (WJ28_26 KJ28_26) s0 ends6 at7 m8z m8 := by kernel_rfl
theorem L28_6_eq (s0 : ByteArray) (ends6 : Bool) (at7 : Int) (m8z : Bool) (m8 : List T) : L28_6 s0 ends6 at7 m8z m8 = RL28_6 L28_6 J28_28 J28_21 J28_26 s0 ends6 at7 m8z m8 :=
  (congrArg (fun k => WL28_6 k s0 ends6 at7 m8z m8) (funext fun e => funext fun st => round_eq Try.prog hint (b := (nav (List.reverse (.lp :: PaL28_6)) (bodyOf Try.f28))) (fn := Try.f28) (nt := 82) (T := (Ta28 VL28_6 VJ28_28 VJ28_21 VJ28_26)) [PaL28_6, PaJ28_28, PaJ28_21, PaJ28_26] rfl PaL28_6 e st rfl rfl rfl)).trans (L28_6g VL28_6 VJ28_28 VJ28_21 VJ28_26 s0 ends6 at7 m8z m8)
noncomputable def RJ28_28 (L28_6 : YL28_6) (J28_28 : YJ28_28) (J28_21 : YJ28_21) (J28_26 : YJ28_26) (s0 : ByteArray) (m8z : Bool) (m8 : List T) : Option Res :=
(bif (decide (4096 < (m8.length : Int))) then
 some ((.tup [(.t (.list 3 false [])), (.t (.int .i64 0)), (.t (.int .i64 2))]), ⟨[], []⟩)
else
 some ((.tup [(.t (.list 3 m8z m8)), (.t (.int .i64 (s0.size : Int))), (.t (.int .i64 0))]), ⟨[], []⟩))
theorem J28_28g (KL28_6 KJ28_28 KJ28_21 KJ28_26 : Env → St → Option Res) (s0 : ByteArray) (m8z : Bool) (m8 : List T) : WJ28_28 (fun e st => codeT Try.prog hint 28 0 82 (Ta28 KL28_6 KJ28_28 KJ28_21 KJ28_26) PaJ28_28 (ctxT Try.prog hint 28 0 82 (Ta28 KL28_6 KJ28_28 KJ28_21 KJ28_26) [] (List.reverse PaJ28_28) (bodyOf Try.f28) (resKV Try.prog Try.f28 (hint.own 28 0))) e st (nav (List.reverse PaJ28_28) (bodyOf Try.f28))) s0 m8z m8 = RJ28_28 (WL28_6 KL28_6) (WJ28_28 KJ28_28) (WJ28_21 KJ28_21) (WJ28_26 KJ28_26) s0 m8z m8 := by kernel_rfl
theorem J28_28_eq (s0 : ByteArray) (m8z : Bool) (m8 : List T) : J28_28 s0 m8z m8 = RJ28_28 L28_6 J28_28 J28_21 J28_26 s0 m8z m8 :=
  (congrArg (fun k => WJ28_28 k s0 m8z m8) (funext fun e => funext fun st => join_eq Try.prog hint (fn := Try.f28) (nt := 82) (T := (Ta28 VL28_6 VJ28_28 VJ28_21 VJ28_26)) [PaL28_6, PaJ28_28, PaJ28_21, PaJ28_26] rfl PaJ28_28 e st rfl)).trans (J28_28g VL28_6 VJ28_28 VJ28_21 VJ28_26 s0 m8z m8)
noncomputable def RJ28_21 (L28_6 : YL28_6) (J28_28 : YJ28_28) (J28_21 : YJ28_21) (J28_26 : YJ28_26) (s0 : ByteArray) (ends6 : Bool) (at7 n8 : Int) (m8z : Bool) (m8 : List T) : Option Res :=
 subS s0 (some at7) (some (IntKind.i64.wrap (at7 + n8))) fun s_1 =>
 callK (vr 54 0 [(.t (.str s_1))] ⟨[], []⟩) fun v_2 b_3 =>
 asTup v_2 fun l_4 =>
 consV l_4 fun v_5 l_6 =>
 asT v_5 fun x_7 =>
 asA x_7 fun l_8 =>
 consT l_8 fun v_9 l_10 =>
 asI .i64 v_9 fun x_11 =>
 consT l_10 fun v_12 l_13 =>
 asS v_12 fun s_14 =>
 consT l_13 fun v_15 l_16 =>
 asI .i64 v_15 fun x_17 =>
 endT l_16 <|
 consV l_6 fun v_18 l_19 =>
 asT v_18 fun x_20 =>
 asB x_20 fun b_21 =>
 endV l_19 <|
 endB b_3 <|
(bif (!b_21) then
 some ((.tup [(.t (.list 3 false [])), (.t (.int .i64 at7)), (.t (.int .i64 6))]), ⟨[], []⟩)
else
(bif ends6 then
 needC (decide ((m8.length + 1) * (32 + 1) ≤ 70368744177664) && decide (32 ≤ 1048576)) fun _ =>
 J28_26 (s0) (at7) (n8) ((m8z || true)) ((m8 ++ ([(.agg [(.int .i64 4), (.str ByteArray.empty), (.int .i64 0)])] : List T))) (x_11) (s_14) (x_17)
else
 J28_26 (s0) (at7) (n8) (m8z) (m8) (x_11) (s_14) (x_17)))
theorem J28_21g (KL28_6 KJ28_28 KJ28_21 KJ28_26 : Env → St → Option Res) (s0 : ByteArray) (ends6 : Bool) (at7 n8 : Int) (m8z : Bool) (m8 : List T) : WJ28_21 (fun e st => codeT Try.prog hint 28 0 82 (Ta28 KL28_6 KJ28_28 KJ28_21 KJ28_26) PaJ28_21 (ctxT Try.prog hint 28 0 82 (Ta28 KL28_6 KJ28_28 KJ28_21 KJ28_26) [] (List.reverse PaJ28_21) (bodyOf Try.f28) (resKV Try.prog Try.f28 (hint.own 28 0))) e st (nav (List.reverse PaJ28_21) (bodyOf Try.f28))) s0 ends6 at7 n8 m8z m8 = RJ28_21 (WL28_6 KL28_6) (WJ28_28 KJ28_28) (WJ28_21 KJ28_21) (WJ28_26 KJ28_26) s0 ends6 at7 n8 m8z m8 := by kernel_rfl
theorem J28_21_eq (s0 : ByteArray) (ends6 : Bool) (at7 n8 : Int) (m8z : Bool) (m8 : List T) : J28_21 s0 ends6 at7 n8 m8z m8 = RJ28_21 L28_6 J28_28 J28_21 J28_26 s0 ends6 at7 n8 m8z m8 :=
  (congrArg (fun k => WJ28_21 k s0 ends6 at7 n8 m8z m8) (funext fun e => funext fun st => join_eq Try.prog hint (fn := Try.f28) (nt := 82) (T := (Ta28 VL28_6 VJ28_28 VJ28_21 VJ28_26)) [PaL28_6, PaJ28_28, PaJ28_21, PaJ28_26] rfl PaJ28_21 e st rfl)).trans (J28_21g VL28_6 VJ28_28 VJ28_21 VJ28_26 s0 ends6 at7 n8 m8z m8)
noncomputable def RJ28_26 (L28_6 : YL28_6) (J28_28 : YJ28_28) (J28_21 : YJ28_21) (J28_26 : YJ28_26) (s0 : ByteArray) (at7 n8 : Int) (m8z : Bool) (m8 : List T) (m9_0 : Int) (m9_1 : ByteArray) (m9_2 : Int) : Option Res :=
 needC (decide ((m8.length + 1) * (32 + 1) ≤ 70368744177664) && decide (32 ≤ 1048576)) fun _ =>
 L28_6 (s0) (false) ((IntKind.i64.wrap (at7 + n8))) ((m8z || true)) ((m8 ++ ([(.agg [(.int .i64 m9_0), (.str m9_1), (.int .i64 m9_2)])] : List T)))
theorem J28_26g (KL28_6 KJ28_28 KJ28_21 KJ28_26 : Env → St → Option Res) (s0 : ByteArray) (at7 n8 : Int) (m8z : Bool) (m8 : List T) (m9_0 : Int) (m9_1 : ByteArray) (m9_2 : Int) : WJ28_26 (fun e st => codeT Try.prog hint 28 0 82 (Ta28 KL28_6 KJ28_28 KJ28_21 KJ28_26) PaJ28_26 (ctxT Try.prog hint 28 0 82 (Ta28 KL28_6 KJ28_28 KJ28_21 KJ28_26) [] (List.reverse PaJ28_26) (bodyOf Try.f28) (resKV Try.prog Try.f28 (hint.own 28 0))) e st (nav (List.reverse PaJ28_26) (bodyOf Try.f28))) s0 at7 n8 m8z m8 m9_0 m9_1 m9_2 = RJ28_26 (WL28_6 KL28_6) (WJ28_28 KJ28_28) (WJ28_21 KJ28_21) (WJ28_26 KJ28_26) s0 at7 n8 m8z m8 m9_0 m9_1 m9_2 := by kernel_rfl
theorem J28_26_eq (s0 : ByteArray) (at7 n8 : Int) (m8z : Bool) (m8 : List T) (m9_0 : Int) (m9_1 : ByteArray) (m9_2 : Int) : J28_26 s0 at7 n8 m8z m8 m9_0 m9_1 m9_2 = RJ28_26 L28_6 J28_28 J28_21 J28_26 s0 at7 n8 m8z m8 m9_0 m9_1 m9_2 :=
  (congrArg (fun k => WJ28_26 k s0 at7 n8 m8z m8 m9_0 m9_1 m9_2) (funext fun e => funext fun st => join_eq Try.prog hint (fn := Try.f28) (nt := 82) (T := (Ta28 VL28_6 VJ28_28 VJ28_21 VJ28_26)) [PaL28_6, PaJ28_28, PaJ28_21, PaJ28_26] rfl PaJ28_26 e st rfl)).trans (J28_26g VL28_6 VJ28_28 VJ28_21 VJ28_26 s0 at7 n8 m8z m8 m9_0 m9_1 m9_2)
noncomputable def R56  (a0_0 : Int) (a0_1 : ByteArray) (a0_2 : Int) : Option Res :=
 some ((.t (.bool (decide (a0_0 = 4)))), ⟨[], []⟩)
theorem eq56g  (a0_0 : Int) (a0_1 : ByteArray) (a0_2 : Int) : codeT Try.prog hint 56 0 6 [] [] (resKV Try.prog Try.f56 (hint.own 56 0)) (nrm hint 56 0 (bodyOf Try.f56) (envV [(.t (.agg [(.int .i64 a0_0), (.str a0_1), (.int .i64 a0_2)]))] 0) ⟨[], []⟩).1 (nrm hint 56 0 (bodyOf Try.f56) (envV [(.t (.agg [(.int .i64 a0_0), (.str a0_1), (.int .i64 a0_2)]))] 0) ⟨[], []⟩).2 (bodyOf Try.f56) = R56  a0_0 a0_1 a0_2 := by kernel_rfl
/-- purfle/lexer.Lines$1 -/
theorem eq56 (a0_0 : Int) (a0_1 : ByteArray) (a0_2 : Int) : vr 56 0 [(.t (.agg [(.int .i64 a0_0), (.str a0_1), (.int .i64 a0_2)]))] ⟨[], []⟩ = R56  a0_0 a0_1 a0_2 :=
  (call_eq Try.prog hint (fn := Try.f56) (nt := 6) (T := []) [] rfl [(.t (.agg [(.int .i64 a0_0), (.str a0_1), (.int .i64 a0_2)]))] ⟨[], []⟩ rfl rfl rfl rfl rfl).trans (eq56g  a0_0 a0_1 a0_2)
noncomputable def R55 (L55_2 : YL55_2) (a0z : Bool) (a0 : List T) : Option Res :=
 L55_2 (a0z) (a0) ((a0.length : Int)) (0)
theorem eq55g (KL55_2 : Env → St → Option Res) (a0z : Bool) (a0 : List T) : codeT Try.prog hint 55 0 19 (Ta55 KL55_2) [] (resKV Try.prog Try.f55 (hint.own 55 0)) (nrm hint 55 0 (bodyOf Try.f55) (envV [(.t (.list 3 a0z a0)), (.fn 56 [] [])] 0) ⟨[], []⟩).1 (nrm hint 55 0 (bodyOf Try.f55) (envV [(.t (.list 3 a0z a0)), (.fn 56 [] [])] 0) ⟨[], []⟩).2 (bodyOf Try.f55) = R55 (WL55_2 KL55_2) a0z a0 := by kernel_rfl
/-- slices.IndexFunc[[]purfle/api.Token,purfle/api.Token] -/
theorem eq55 (a0z : Bool) (a0 : List T) : vr 55 0 [(.t (.list 3 a0z a0)), (.fn 56 [] [])] ⟨[], []⟩ = R55 L55_2 a0z a0 :=
  (call_eq Try.prog hint (fn := Try.f55) (nt := 19) (T := (Ta55 VL55_2)) [PaL55_2] rfl [(.t (.list 3 a0z a0)), (.fn 56 [] [])] ⟨[], []⟩ rfl rfl rfl rfl rfl).trans (eq55g VL55_2 a0z a0)
noncomputable def RL55_2 (L55_2 : YL55_2) (s0z : Bool) (s0 : List T) (t7 t8 : Int) : Option Res :=
(bif (decide (t8 < t7)) then
 needC (decide (0 ≤ t8)) fun _ =>
 getT s0 (t8).toNat fun e_1 =>
 asA e_1 fun l_2 =>
 consT l_2 fun v_3 l_4 =>
 asI .i64 v_3 fun x_5 =>
 consT l_4 fun v_6 l_7 =>
 asS v_6 fun s_8 =>
 consT l_7 fun v_9 l_10 =>
 asI .i64 v_9 fun x_11 =>
 endT l_10 <|
 callK (vr 56 0 [(.t (.agg [(.int .i64 x_5), (.str s_8), (.int .i64 x_11)]))] ⟨[], []⟩) fun v_12 b_13 =>
 asT v_12 fun x_14 =>
 asB x_14 fun b_15 =>
 endB b_13 <|
(bif b_15 then
 some ((.t (.int .i64 t8)), ⟨[], []⟩)
else
 L55_2 (s0z) (s0) (t7) ((IntKind.i64.wrap (t8 + 1))))
else
 some ((.t (.int .i64 (-1))), ⟨[], []⟩))
theorem L55_2g (KL55_2 : Env → St → Option Res) (s0z : Bool) (s0 : List T) (t7 t8 : Int) : WL55_2 (fun e st => codeT Try.prog hint 55 0 19 (Ta55 KL55_2) (.lp :: PaL55_2) (ctxT Try.prog hint 55 0 19 (Ta55 KL55_2) [] (List.reverse (.lp :: PaL55_2)) (bodyOf Try.f55) (resKV Try.prog Try.f55 (hint.own 55 0))) e st (nav (List.reverse (.lp :: PaL55_2)) (bodyOf Try.f55))) s0z s0 t7 t8 = RL55_2 (WL55_2 KL55_2) s0z s0 t7 t8 := by kernel_rfl
theorem L55_2_eq (s0z : Bool) (s0 : List T) (t7 t8 : Int) : L55_2 s0z s0 t7 t8 = RL55_2 L55_2 s0z s0 t7 t8 :=
  (congrArg (fun k => WL55_2 k s0z s0 t7 t8) (funext fun e => funext fun st => round_eq Try.prog hint (b := (nav (List.reverse (.lp :: PaL55_2)) (bodyOf Try.f55))) (fn := Try.f55) (nt := 19) (T := (Ta55 VL55_2)) [PaL55_2] rfl PaL55_2 e st rfl rfl rfl)).trans (L55_2g VL55_2 s0z s0 t7 t8)
noncomputable def R57  (a0z : Bool) (a0 : List T) : Option Res :=
(bif (!a0z) then
 some ((.t (.list 3 false [])), ⟨[], []⟩)
else
 needC (decide ((0 + a0.length) * (32 + 1) ≤ 70368744177664) && decide (32 ≤ 1048576)) fun _ =>
 some ((.t (.list 3 true (([] : List T) ++ a0))), ⟨[], []⟩))
theorem eq57g  (a0z : Bool) (a0 : List T) : codeT Try.prog hint 57 0 8 [] [] (resKV Try.prog Try.f57 (hint.own 57 0)) (nrm hint 57 0 (bodyOf Try.f57) (envV [(.t (.list 3 a0z a0))] 0) ⟨[], []⟩).1 (nrm hint 57 0 (bodyOf Try.f57) (envV [(.t (.list 3 a0z a0))] 0) ⟨[], []⟩).2 (bodyOf Try.f57) = R57  a0z a0 := by kernel_rfl
/-- slices.Clone[[]purfle/api.Token,purfle/api.Token] -/
theorem eq57 (a0z : Bool) (a0 : List T) : vr 57 0 [(.t (.list 3 a0z a0))] ⟨[], []⟩ = R57  a0z a0 :=
  (call_eq Try.prog hint (fn := Try.f57) (nt := 8) (T := []) [] rfl [(.t (.list 3 a0z a0))] ⟨[], []⟩ rfl rfl rfl rfl rfl).trans (eq57g  a0z a0)
noncomputable def R29 (L29_2 : YL29_2) (a0z : Bool) (a0 : List T) : Option Res :=
 L29_2 (a0z) (a0) (false) ([])
theorem eq29g (KL29_2 : Env → St → Option Res) (a0z : Bool) (a0 : List T) : codeT Try.prog hint 29 0 35 (Ta29 KL29_2) [] (resKV Try.prog Try.f29 (hint.own 29 0)) (nrm hint 29 0 (bodyOf Try.f29) (envV [(.t (.list 3 a0z a0))] 0) ⟨[], []⟩).1 (nrm hint 29 0 (bodyOf Try.f29) (envV [(.t (.list 3 a0z a0))] 0) ⟨[], []⟩).2 (bodyOf Try.f29) = R29 (WL29_2 KL29_2) a0z a0 := by kernel_rfl
/-- purfle/lexer.Lines -/
theorem eq29 (a0z : Bool) (a0 : List T) : vr 29 0 [(.t (.list 3 a0z a0))] ⟨[], []⟩ = R29 L29_2 a0z a0 :=
  (call_eq Try.prog hint (fn := Try.f29) (nt := 35) (T := (Ta29 VL29_2)) [PaL29_2] rfl [(.t (.list 3 a0z a0))] ⟨[], []⟩ rfl rfl rfl rfl rfl).trans (eq29g VL29_2 a0z a0)
noncomputable def RL29_2 (L29_2 : YL29_2) (l0z : Bool) (l0 : List T) (m8z : Bool) (m8 : List T) : Option Res :=
(bif (decide (0 < (l0.length : Int))) then
 callK (vr 55 0 [(.t (.list 3 l0z l0)), (.fn 56 [] [])] ⟨[], []⟩) fun v_1 b_2 =>
 asT v_1 fun x_3 =>
 asI .i64 x_3 fun x_4 =>
 endB b_2 <|
(bif (decide (x_4 < 0)) then
 callK (vr 57 0 [(.t (.list 3 l0z l0))] ⟨[], []⟩) fun v_5 b_6 =>
 asT v_5 fun x_7 =>
 asL 3 x_7 fun nn_8 l_9 =>
 endB b_6 <|
 needC (decide ((m8.length + 1) * (24 + 1) ≤ 70368744177664) && decide (24 ≤ 1048576)) fun _ =>
 some ((.t (.list 1 (m8z || true) (m8 ++ ([(.list 3 nn_8 l_9)] : List T)))), ⟨[], []⟩)
else
 cutL l0 none (some x_4) fun l_10 =>
 callK (vr 57 0 [(.t (.list 3 l0z l_10))] ⟨[], []⟩) fun v_11 b_12 =>
 asT v_11 fun x_13 =>
 asL 3 x_13 fun nn_14 l_15 =>
 endB b_12 <|
 needC (decide ((m8.length + 1) * (24 + 1) ≤ 70368744177664) && decide (24 ≤ 1048576)) fun _ =>
 cutL l0 (some (IntKind.i64.wrap (x_4 + 1))) none fun l_16 =>
(bif (decide ((l_16.length : Int) = 0)) then
 needC (decide ((((m8 ++ ([(.list 3 nn_14 l_15)] : List T))).length + 1) * (24 + 1) ≤ 70368744177664) && decide (24 ≤ 1048576)) fun _ =>
 L29_2 (l0z) (l_16) (((m8z || true) || true)) (((m8 ++ ([(.list 3 nn_14 l_15)] : List T)) ++ ([(.list 3 false [])] : List T)))
else
 L29_2 (l0z) (l_16) ((m8z || true)) ((m8 ++ ([(.list 3 nn_14 l_15)] : List T)))))
else
 some ((.t (.list 1 m8z m8)), ⟨[], []⟩))
theorem L29_2g (KL29_2 : Env → St → Option Res) (l0z : Bool) (l0 : List T) (m8z : Bool) (m8 : List T) : WL29_2 (fun e st => codeT Try.prog hint 29 0 35 (Ta29 KL29_2) (.lp :: PaL29_2) (ctxT Try.prog hint 29 0 35 (Ta29 KL29_2) [] (List.reverse (.lp :: PaL29_2)) (bodyOf Try.f29) (resKV Try.prog Try.f29 (hint.own 29 0))) e st (nav (List.reverse (.lp :: PaL29_2)) (bodyOf Try.f29))) l0z l0 m8z m8 = RL29_2 (WL29_2 KL29_2) l0z l0 m8z m8 := by kernel_rfl
theorem L29_2_eq (l0z : Bool) (l0 : List T) (m8z : Bool) (m8 : List T) : L29_2 l0z l0 m8z m8 = RL29_2 L29_2 l0z l0 m8z m8 :=
  (congrArg (fun k => WL29_2 k l0z l0 m8z m8) (funext fun e => funext fun st => round_eq Try.prog hint (b := (nav (List.reverse (.lp :: PaL29_2)) (bodyOf Try.f29))) (fn := Try.f29) (nt := 35) (T := (Ta29 VL29_2)) [PaL29_2] rfl PaL29_2 e st rfl rfl rfl)).trans (L29_2g VL29_2 l0z l0 m8z m8)
noncomputable def R30  (a1 : Int) (m0_0z : Bool) (m0_0 : List T) (m0_1 : Bool) : Option Res :=
(bif m0_1 then
 some ((.t (.agg [(.int .i64 0), (.str ByteArray.empty), (.int .i64 0)])), ⟨[(0, (.var [(.t (.list 3 m0_0z m0_0)), (.t (.bool true))]))], [500]⟩)
else
(bif (decide ((m0_0.length : Int) = 0)) then
 some ((.t (.agg [(.int .i64 0), (.str ByteArray.empty), (.int .i64 0)])), ⟨[(0, (.var [(.t (.list 3 m0_0z m0_0)), (.t (.bool true))]))], [500]⟩)
else
 needC (decide (0 ≤ 0)) fun _ =>
 getT m0_0 ((0 : Int)).toNat fun e_1 =>
 asA e_1 fun l_2 =>
 consT l_2 fun v_3 l_4 =>
 asI .i64 v_3 fun x_5 =>
 consT l_4 fun v_6 l_7 =>
 asS v_6 fun s_8 =>
 consT l_7 fun v_9 l_10 =>
 asI .i64 v_9 fun x_11 =>
 endT l_10 <|
(bif (!decide (x_5 = a1)) then
 some ((.t (.agg [(.int .i64 0), (.str ByteArray.empty), (.int .i64 0)])), ⟨[(0, (.var [(.t (.list 3 m0_0z m0_0)), (.t (.bool true))]))], [500]⟩)
else
 needC (decide (0 ≤ 0)) fun _ =>
 getT m0_0 ((0 : Int)).toNat fun e_12 =>
 asA e_12 fun l_13 =>
 consT l_13 fun v_14 l_15 =>
 asI .i64 v_14 fun x_16 =>
 consT l_15 fun v_17 l_18 =>
 asS v_17 fun s_19 =>
 consT l_18 fun v_20 l_21 =>
 asI .i64 v_20 fun x_22 =>
 endT l_21 <|
 cutL m0_0 (some 1) none fun l_23 =>
 some ((.t (.agg [(.int .i64 x_16), (.str s_19), (.int .i64 x_22)])), ⟨[(0, (.var [(.t (.list 3 m0_0z l_23)), (.t (.bool m0_1))]))], [500]⟩))))
theorem eq30g  (a1 : Int) (m0_0z : Bool) (m0_0 : List T) (m0_1 : Bool) : codeT Try.prog hint 30 0 47 [] [] (resKV Try.prog Try.f30 (hint.own 30 0)) (nrm hint 30 0 (bodyOf Try.f30) (envV [(.ptr 0 0 0), (.t (.int .i64 a1))] 0) ⟨[(0, (.var [(.t (.list 3 m0_0z m0_0)), (.t (.bool m0_1))]))], []⟩).1 (nrm hint 30 0 (bodyOf Try.f30) (envV [(.ptr 0 0 0), (.t (.int .i64 a1))] 0) ⟨[(0, (.var [(.t (.list 3 m0_0z m0_0)), (.t (.bool m0_1))]))], []⟩).2 (bodyOf Try.f30) = R30  a1 m0_0z m0_0 m0_1 := by kernel_rfl
/-- (*purfle/code.reader).take -/
theorem eq30 (a1 : Int) (m0_0z : Bool) (m0_0 : List T) (m0_1 : Bool) : vr 30 0 [(.ptr 0 0 0), (.t (.int .i64 a1))] ⟨[(0, (.var [(.t (.list 3 m0_0z m0_0)), (.t (.bool m0_1))]))], []⟩ = R30  a1 m0_0z m0_0 m0_1 :=
  (call_eq Try.prog hint (fn := Try.f30) (nt := 47) (T := []) [] rfl [(.ptr 0 0 0), (.t (.int .i64 a1))] ⟨[(0, (.var [(.t (.list 3 m0_0z m0_0)), (.t (.bool m0_1))]))], []⟩ rfl rfl rfl rfl rfl).trans (eq30g  a1 m0_0z m0_0 m0_1)
noncomputable def R59   : Option Res :=
 some ((.t (.list 4 true [(.agg [(.str ⟨#[104, 97, 108, 116]⟩), (.int .i64 0), (.int .i64 0), (.int .i64 0)]), (.agg [(.str ⟨#[115, 101, 116]⟩), (.int .i64 1), (.int .i64 5), (.int .i64 0)]), (.agg [(.str ⟨#[109, 111, 118, 101]⟩), (.int .i64 1), (.int .i64 2), (.int .i64 0)]), (.agg [(.str ⟨#[97, 100, 100]⟩), (.int .i64 1), (.int .i64 2), (.int .i64 2)]), (.agg [(.str ⟨#[115, 117, 98]⟩), (.int .i64 1), (.int .i64 2), (.int .i64 2)]), (.agg [(.str ⟨#[109, 117, 108]⟩), (.int .i64 1), (.int .i64 2), (.int .i64 2)]), (.agg [(.str ⟨#[108, 111, 97, 100]⟩), (.int .i64 1), (.int .i64 3), (.int .i64 2)]), (.agg [(.str ⟨#[115, 116, 111, 114, 101]⟩), (.int .i64 3), (.int .i64 2), (.int .i64 2)]), (.agg [(.str ⟨#[108, 101, 110]⟩), (.int .i64 1), (.int .i64 3), (.int .i64 0)]), (.agg [(.str ⟨#[112, 117, 115, 104]⟩), (.int .i64 3), (.int .i64 2), (.int .i64 0)]), (.agg [(.str ⟨#[106, 117, 109, 112]⟩), (.int .i64 4), (.int .i64 0), (.int .i64 0)]), (.agg [(.str ⟨#[108, 101, 115, 115]⟩), (.int .i64 2), (.int .i64 2), (.int .i64 4)]), (.agg [(.str ⟨#[115, 97, 109, 101]⟩), (.int .i64 2), (.int .i64 2), (.int .i64 4)])])), ⟨[], []⟩)
theorem eq59g   : codeT Try.prog hint 59 0 30 [] [] (resKV Try.prog Try.f59 (hint.own 59 0)) (nrm hint 59 0 (bodyOf Try.f59) (envV [] 0) ⟨[], []⟩).1 (nrm hint 59 0 (bodyOf Try.f59) (envV [] 0) ⟨[], []⟩).2 (bodyOf Try.f59) = R59   := by kernel_rfl
/-- purfle/code.shapes -/
theorem eq59  : vr 59 0 [] ⟨[], []⟩ = R59   :=
  (call_eq Try.prog hint (fn := Try.f59) (nt := 30) (T := []) [] rfl [] ⟨[], []⟩ rfl rfl rfl rfl rfl).trans (eq59g  )
noncomputable def R60  (a0_0 : ByteArray) (a0_1 a0_2 a0_3 : Int) (m0_0 : ByteArray) : Option Res :=
 some ((.t (.bool (decide ((a0_0 : ByteArray) = m0_0)))), ⟨[(0, (.var [(.t (.str m0_0))]))], [500]⟩)
theorem eq60g  (a0_0 : ByteArray) (a0_1 a0_2 a0_3 : Int) (m0_0 : ByteArray) : codeT Try.prog hint 60 0 8 [] [] (resKV Try.prog Try.f60 (hint.own 60 0)) (nrm hint 60 0 (bodyOf Try.f60) (envV [(.t (.agg [(.str a0_0), (.int .i64 a0_1), (.int .i64 a0_2), (.int .i64 a0_3)])), (.ptr 0 0 0)] 0) ⟨[(0, (.var [(.t (.str m0_0))]))], []⟩).1 (nrm hint 60 0 (bodyOf Try.f60) (envV [(.t (.agg [(.str a0_0), (.int .i64 a0_1), (.int .i64 a0_2), (.int .i64 a0_3)])), (.ptr 0 0 0)] 0) ⟨[(0, (.var [(.t (.str m0_0))]))], []⟩).2 (bodyOf Try.f60) = R60  a0_0 a0_1 a0_2 a0_3 m0_0 := by kernel_rfl
/-- (*purfle/code.reader).ins$1 -/
theorem eq60 (a0_0 : ByteArray) (a0_1 a0_2 a0_3 : Int) (m0_0 : ByteArray) : vr 60 0 [(.t (.agg [(.str a0_0), (.int .i64 a0_1), (.int .i64 a0_2), (.int .i64 a0_3)])), (.ptr 0 0 0)] ⟨[(0, (.var [(.t (.str m0_0))]))], []⟩ = R60  a0_0 a0_1 a0_2 a0_3 m0_0 :=
  (call_eq Try.prog hint (fn := Try.f60) (nt := 8) (T := []) [] rfl [(.t (.agg [(.str a0_0), (.int .i64 a0_1), (.int .i64 a0_2), (.int .i64 a0_3)])), (.ptr 0 0 0)] ⟨[(0, (.var [(.t (.str m0_0))]))], []⟩ rfl rfl rfl rfl rfl).trans (eq60g  a0_0 a0_1 a0_2 a0_3 m0_0)
noncomputable def R58 (L58_2 : YL58_2) (a0z : Bool) (a0 : List T) (m0_0 : ByteArray) : Option Res :=
 L58_2 (a0z) (a0) ((a0.length : Int)) (0) (m0_0)
theorem eq58g (KL58_2 : Env → St → Option Res) (a0z : Bool) (a0 : List T) (m0_0 : ByteArray) : codeT Try.prog hint 58 0 19 (Ta58 KL58_2) [] (resKV Try.prog Try.f58 (hint.own 58 0)) (nrm hint 58 0 (bodyOf Try.f58) (envV [(.t (.list 4 a0z a0)), (.fn 60 [] [(.ptr 0 0 0)])] 0) ⟨[(0, (.var [(.t (.str m0_0))]))], []⟩).1 (nrm hint 58 0 (bodyOf Try.f58) (envV [(.t (.list 4 a0z a0)), (.fn 60 [] [(.ptr 0 0 0)])] 0) ⟨[(0, (.var [(.t (.str m0_0))]))], []⟩).2 (bodyOf Try.f58) = R58 (WL58_2 KL58_2) a0z a0 m0_0 := by kernel_rfl
/-- slices.IndexFunc[[]purfle/code.shape,purfle/code.shape] -/
theorem eq58 (a0z : Bool) (a0 : List T) (m0_0 : ByteArray) : vr 58 0 [(.t (.list 4 a0z a0)), (.fn 60 [] [(.ptr 0 0 0)])] ⟨[(0, (.var [(.t (.str m0_0))]))], []⟩ = R58 L58_2 a0z a0 m0_0 :=
  (call_eq Try.prog hint (fn := Try.f58) (nt := 19) (T := (Ta58 VL58_2)) [PaL58_2] rfl [(.t (.list 4 a0z a0)), (.fn 60 [] [(.ptr 0 0 0)])] ⟨[(0, (.var [(.t (.str m0_0))]))], []⟩ rfl rfl rfl rfl rfl).trans (eq58g VL58_2 a0z a0 m0_0)
noncomputable def RL58_2 (L58_2 : YL58_2) (s0z : Bool) (s0 : List T) (t7 t8 : Int) (m0_0 : ByteArray) : Option Res :=
(bif (decide (t8 < t7)) then
 needC (decide (0 ≤ t8)) fun _ =>
 getT s0 (t8).toNat fun e_1 =>
 asA e_1 fun l_2 =>
 consT l_2 fun v_3 l_4 =>
 asS v_3 fun s_5 =>
 consT l_4 fun v_6 l_7 =>
 asI .i64 v_6 fun x_8 =>
 consT l_7 fun v_9 l_10 =>
 asI .i64 v_9 fun x_11 =>
 consT l_10 fun v_12 l_13 =>
 asI .i64 v_12 fun x_14 =>
 endT l_13 <|
 callK (vr 60 0 [(.t (.agg [(.str s_5), (.int .i64 x_8), (.int .i64 x_11), (.int .i64 x_14)])), (.ptr 0 0 0)] ⟨[(0, (.var [(.t (.str m0_0))]))], []⟩) fun v_15 b_16 =>
 asT v_15 fun x_17 =>
 asB x_17 fun b_18 =>
 consB 0 b_16 fun k_19 b_20 =>
 asVar k_19 fun l_21 =>
 consV l_21 fun v_22 l_23 =>
 asT v_22 fun x_24 =>
 asS x_24 fun s_25 =>
 endV l_23 <|
 endB b_20 <|
(bif b_18 then
 some ((.t (.int .i64 t8)), ⟨[(0, (.var [(.t (.str s_25))]))], [500]⟩)
else
 L58_2 (s0z) (s0) (t7) ((IntKind.i64.wrap (t8 + 1))) (s_25))
else
 some ((.t (.int .i64 (-1))), ⟨[(0, (.var [(.t (.str m0_0))]))], [500]⟩))
theorem L58_2g (KL58_2 : Env → St → Option Res) (s0z : Bool) (s0 : List T) (t7 t8 : Int) (m0_0 : ByteArray) : WL58_2 (fun e st => codeT Try.prog hint 58 0 19 (Ta58 KL58_2) (.lp :: PaL58_2) (ctxT Try.prog hint 58 0 19 (Ta58 KL58_2) [] (List.reverse (.lp :: PaL58_2)) (bodyOf Try.f58) (resKV Try.prog Try.f58 (hint.own 58 0))) e st (nav (List.reverse (.lp :: PaL58_2)) (bodyOf Try.f58))) s0z s0 t7 t8 m0_0 = RL58_2 (WL58_2 KL58_2) s0z s0 t7 t8 m0_0 := by kernel_rfl
theorem L58_2_eq (s0z : Bool) (s0 : List T) (t7 t8 : Int) (m0_0 : ByteArray) : L58_2 s0z s0 t7 t8 m0_0 = RL58_2 L58_2 s0z s0 t7 t8 m0_0 :=
  (congrArg (fun k => WL58_2 k s0z s0 t7 t8 m0_0) (funext fun e => funext fun st => round_eq Try.prog hint (b := (nav (List.reverse (.lp :: PaL58_2)) (bodyOf Try.f58))) (fn := Try.f58) (nt := 19) (T := (Ta58 VL58_2)) [PaL58_2] rfl PaL58_2 e st rfl rfl rfl)).trans (L58_2g VL58_2 s0z s0 t7 t8 m0_0)
noncomputable def R38  (a0 : Int) : Option Res :=
 callK (vr 59 0 [] ⟨[], []⟩) fun v_1 b_2 =>
 asT v_1 fun x_3 =>
 asL 4 x_3 fun nn_4 l_5 =>
 endB b_2 <|
(bif (decide (a0 < 0)) then
 some ((.tup [(.t (.agg [(.str ByteArray.empty), (.int .i64 0), (.int .i64 0), (.int .i64 0)])), (.t (.bool false))]), ⟨[], []⟩)
else
(bif (decide ((l_5.length : Int) ≤ a0)) then
 some ((.tup [(.t (.agg [(.str ByteArray.empty), (.int .i64 0), (.int .i64 0), (.int .i64 0)])), (.t (.bool false))]), ⟨[], []⟩)
else
 needC (decide (0 ≤ a0)) fun _ =>
 getT l_5 (a0).toNat fun e_6 =>
 asA e_6 fun l_7 =>
 consT l_7 fun v_8 l_9 =>
 asS v_8 fun s_10 =>
 consT l_9 fun v_11 l_12 =>
 asI .i64 v_11 fun x_13 =>
 consT l_12 fun v_14 l_15 =>
 asI .i64 v_14 fun x_16 =>
 consT l_15 fun v_17 l_18 =>
 asI .i64 v_17 fun x_19 =>
 endT l_18 <|
 some ((.tup [(.t (.agg [(.str s_10), (.int .i64 x_13), (.int .i64 x_16), (.int .i64 x_19)])), (.t (.bool true))]), ⟨[], []⟩)))
theorem eq38g  (a0 : Int) : codeT Try.prog hint 38 0 19 [] [] (resKV Try.prog Try.f38 (hint.own 38 0)) (nrm hint 38 0 (bodyOf Try.f38) (envV [(.t (.int .i64 a0))] 0) ⟨[], []⟩).1 (nrm hint 38 0 (bodyOf Try.f38) (envV [(.t (.int .i64 a0))] 0) ⟨[], []⟩).2 (bodyOf Try.f38) = R38  a0 := by kernel_rfl
/-- purfle/code.of -/
theorem eq38 (a0 : Int) : vr 38 0 [(.t (.int .i64 a0))] ⟨[], []⟩ = R38  a0 :=
  (call_eq Try.prog hint (fn := Try.f38) (nt := 19) (T := []) [] rfl [(.t (.int .i64 a0))] ⟨[], []⟩ rfl rfl rfl rfl rfl).trans (eq38g  a0)
noncomputable def R39  (m0_0 m0_1 m0_2 m0_3 m0_4 : Int) : Option Res :=
 some ((.agg [(.ptr 0 0 1), (.ptr 0 0 2), (.ptr 0 0 3)]), ⟨[(0, (.var [(.t (.int .i64 m0_0)), (.t (.int .i64 m0_1)), (.t (.int .i64 m0_2)), (.t (.int .i64 m0_3)), (.t (.int .i64 m0_4))]))], [500]⟩)
theorem eq39g  (m0_0 m0_1 m0_2 m0_3 m0_4 : Int) : codeT Try.prog hint 39 0 13 [] [] (resKV Try.prog Try.f39 (hint.own 39 0)) (nrm hint 39 0 (bodyOf Try.f39) (envV [(.ptr 0 0 0)] 0) ⟨[(0, (.var [(.t (.int .i64 m0_0)), (.t (.int .i64 m0_1)), (.t (.int .i64 m0_2)), (.t (.int .i64 m0_3)), (.t (.int .i64 m0_4))]))], []⟩).1 (nrm hint 39 0 (bodyOf Try.f39) (envV [(.ptr 0 0 0)] 0) ⟨[(0, (.var [(.t (.int .i64 m0_0)), (.t (.int .i64 m0_1)), (.t (.int .i64 m0_2)), (.t (.int .i64 m0_3)), (.t (.int .i64 m0_4))]))], []⟩).2 (bodyOf Try.f39) = R39  m0_0 m0_1 m0_2 m0_3 m0_4 := by kernel_rfl
/-- purfle/code.fields -/
theorem eq39 (m0_0 m0_1 m0_2 m0_3 m0_4 : Int) : vr 39 0 [(.ptr 0 0 0)] ⟨[(0, (.var [(.t (.int .i64 m0_0)), (.t (.int .i64 m0_1)), (.t (.int .i64 m0_2)), (.t (.int .i64 m0_3)), (.t (.int .i64 m0_4))]))], []⟩ = R39  m0_0 m0_1 m0_2 m0_3 m0_4 :=
  (call_eq Try.prog hint (fn := Try.f39) (nt := 13) (T := []) [] rfl [(.ptr 0 0 0)] ⟨[(0, (.var [(.t (.int .i64 m0_0)), (.t (.int .i64 m0_1)), (.t (.int .i64 m0_2)), (.t (.int .i64 m0_3)), (.t (.int .i64 m0_4))]))], []⟩ rfl rfl rfl rfl rfl).trans (eq39g  m0_0 m0_1 m0_2 m0_3 m0_4)
noncomputable def R87  (a0 a1 : ByteArray) : Option Res :=
(bif (decide ((a1.size : Int) ≤ (a0.size : Int))) then
 subS a0 none (some (a1.size : Int)) fun s_1 =>
 some ((.t (.bool (decide ((s_1 : ByteArray) = a1)))), ⟨[], []⟩)
else
 some ((.t (.bool false)), ⟨[], []⟩))
theorem eq87g  (a0 a1 : ByteArray) : codeT Try.prog hint 87 0 18 [] [] (resKV Try.prog Try.f87 (hint.own 87 0)) (nrm hint 87 0 (bodyOf Try.f87) (envV [(.t (.str a0)), (.t (.str a1))] 0) ⟨[], []⟩).1 (nrm hint 87 0 (bodyOf Try.f87) (envV [(.t (.str a0)), (.t (.str a1))] 0) ⟨[], []⟩).2 (bodyOf Try.f87) = R87  a0 a1 := by kernel_rfl
/-- internal/stringslite.HasPrefix -/
theorem eq87 (a0 a1 : ByteArray) : vr 87 0 [(.t (.str a0)), (.t (.str a1))] ⟨[], []⟩ = R87  a0 a1 :=
  (call_eq Try.prog hint (fn := Try.f87) (nt := 18) (T := []) [] rfl [(.t (.str a0)), (.t (.str a1))] ⟨[], []⟩ rfl rfl rfl rfl rfl).trans (eq87g  a0 a1)
noncomputable def R85  (a0 a1 : ByteArray) : Option Res :=
 callK (vr 87 0 [(.t (.str a0)), (.t (.str a1))] ⟨[], []⟩) fun v_1 b_2 =>
 asT v_1 fun x_3 =>
 asB x_3 fun b_4 =>
 endB b_2 <|
(bif (!b_4) then
 some ((.tup [(.t (.str a0)), (.t (.bool false))]), ⟨[], []⟩)
else
 subS a0 (some (a1.size : Int)) none fun s_5 =>
 some ((.tup [(.t (.str s_5)), (.t (.bool true))]), ⟨[], []⟩))
theorem eq85g  (a0 a1 : ByteArray) : codeT Try.prog hint 85 0 15 [] [] (resKV Try.prog Try.f85 (hint.own 85 0)) (nrm hint 85 0 (bodyOf Try.f85) (envV [(.t (.str a0)), (.t (.str a1))] 0) ⟨[], []⟩).1 (nrm hint 85 0 (bodyOf Try.f85) (envV [(.t (.str a0)), (.t (.str a1))] 0) ⟨[], []⟩).2 (bodyOf Try.f85) = R85  a0 a1 := by kernel_rfl
/-- internal/stringslite.CutPrefix -/
theorem eq85 (a0 a1 : ByteArray) : vr 85 0 [(.t (.str a0)), (.t (.str a1))] ⟨[], []⟩ = R85  a0 a1 :=
  (call_eq Try.prog hint (fn := Try.f85) (nt := 15) (T := []) [] rfl [(.t (.str a0)), (.t (.str a1))] ⟨[], []⟩ rfl rfl rfl rfl rfl).trans (eq85g  a0 a1)
noncomputable def R78  (a0 a1 : ByteArray) : Option Res :=
 callK (vr 85 0 [(.t (.str a0)), (.t (.str a1))] ⟨[], []⟩) fun v_1 b_2 =>
 asTup v_1 fun l_3 =>
 consV l_3 fun v_4 l_5 =>
 asT v_4 fun x_6 =>
 asS x_6 fun s_7 =>
 consV l_5 fun v_8 l_9 =>
 asT v_8 fun x_10 =>
 asB x_10 fun b_11 =>
 endV l_9 <|
 endB b_2 <|
 some ((.tup [(.t (.str s_7)), (.t (.bool b_11))]), ⟨[], []⟩)
theorem eq78g  (a0 a1 : ByteArray) : codeT Try.prog hint 78 0 11 [] [] (resKV Try.prog Try.f78 (hint.own 78 0)) (nrm hint 78 0 (bodyOf Try.f78) (envV [(.t (.str a0)), (.t (.str a1))] 0) ⟨[], []⟩).1 (nrm hint 78 0 (bodyOf Try.f78) (envV [(.t (.str a0)), (.t (.str a1))] 0) ⟨[], []⟩).2 (bodyOf Try.f78) = R78  a0 a1 := by kernel_rfl
/-- strings.CutPrefix -/
theorem eq78 (a0 a1 : ByteArray) : vr 78 0 [(.t (.str a0)), (.t (.str a1))] ⟨[], []⟩ = R78  a0 a1 :=
  (call_eq Try.prog hint (fn := Try.f78) (nt := 11) (T := []) [] rfl [(.t (.str a0)), (.t (.str a1))] ⟨[], []⟩ rfl rfl rfl rfl rfl).trans (eq78g  a0 a1)
noncomputable def R61  (a1 : ByteArray) (m0_0z : Bool) (m0_0 : List T) (m0_1 : Bool) : Option Res :=
 callK (vr 30 0 [(.ptr 0 0 0), (.t (.int .i64 1))] ⟨[(0, (.var [(.t (.list 3 m0_0z m0_0)), (.t (.bool m0_1))]))], []⟩) fun v_1 b_2 =>
 asT v_1 fun x_3 =>
 asA x_3 fun l_4 =>
 consT l_4 fun v_5 l_6 =>
 asI .i64 v_5 fun x_7 =>
 consT l_6 fun v_8 l_9 =>
 asS v_8 fun s_10 =>
 consT l_9 fun v_11 l_12 =>
 asI .i64 v_11 fun x_13 =>
 endT l_12 <|
 consB 0 b_2 fun k_14 b_15 =>
 asVar k_14 fun l_16 =>
 consV l_16 fun v_17 l_18 =>
 asT v_17 fun x_19 =>
 asL 3 x_19 fun nn_20 l_21 =>
 consV l_18 fun v_22 l_23 =>
 asT v_22 fun x_24 =>
 asB x_24 fun b_25 =>
 endV l_23 <|
 endB b_15 <|
 callK (vr 78 0 [(.t (.str s_10)), (.t (.str a1))] ⟨[], []⟩) fun v_26 b_27 =>
 asTup v_26 fun l_28 =>
 consV l_28 fun v_29 l_30 =>
 asT v_29 fun x_31 =>
 asS x_31 fun s_32 =>
 consV l_30 fun v_33 l_34 =>
 asT v_33 fun x_35 =>
 asB x_35 fun b_36 =>
 endV l_34 <|
 endB b_27 <|
 callK (vr 77 0 [(.t (.str s_32))] ⟨[], []⟩) fun v_37 b_38 =>
 asTup v_37 fun l_39 =>
 consV l_39 fun v_40 l_41 =>
 asT v_40 fun x_42 =>
 asI .i64 x_42 fun x_43 =>
 consV l_41 fun v_44 l_45 =>
 asT v_44 fun x_46 =>
 asB x_46 fun b_47 =>
 endV l_45 <|
 endB b_38 <|
(bif (!b_36) then
 some ((.t (.int .i64 x_43)), ⟨[(0, (.var [(.t (.list 3 nn_20 l_21)), (.t (.bool true))]))], [500]⟩)
else
(bif (!b_47) then
 some ((.t (.int .i64 x_43)), ⟨[(0, (.var [(.t (.list 3 nn_20 l_21)), (.t (.bool true))]))], [500]⟩)
else
 some ((.t (.int .i64 x_43)), ⟨[(0, (.var [(.t (.list 3 nn_20 l_21)), (.t (.bool b_25))]))], [500]⟩)))
theorem eq61g  (a1 : ByteArray) (m0_0z : Bool) (m0_0 : List T) (m0_1 : Bool) : codeT Try.prog hint 61 0 32 [] [] (resKV Try.prog Try.f61 (hint.own 61 0)) (nrm hint 61 0 (bodyOf Try.f61) (envV [(.ptr 0 0 0), (.t (.str a1))] 0) ⟨[(0, (.var [(.t (.list 3 m0_0z m0_0)), (.t (.bool m0_1))]))], []⟩).1 (nrm hint 61 0 (bodyOf Try.f61) (envV [(.ptr 0 0 0), (.t (.str a1))] 0) ⟨[(0, (.var [(.t (.list 3 m0_0z m0_0)), (.t (.bool m0_1))]))], []⟩).2 (bodyOf Try.f61) = R61  a1 m0_0z m0_0 m0_1 := by kernel_rfl
/-- (*purfle/code.reader).behind -/
theorem eq61 (a1 : ByteArray) (m0_0z : Bool) (m0_0 : List T) (m0_1 : Bool) : vr 61 0 [(.ptr 0 0 0), (.t (.str a1))] ⟨[(0, (.var [(.t (.list 3 m0_0z m0_0)), (.t (.bool m0_1))]))], []⟩ = R61  a1 m0_0z m0_0 m0_1 :=
  (call_eq Try.prog hint (fn := Try.f61) (nt := 32) (T := []) [] rfl [(.ptr 0 0 0), (.t (.str a1))] ⟨[(0, (.var [(.t (.list 3 m0_0z m0_0)), (.t (.bool m0_1))]))], []⟩ rfl rfl rfl rfl rfl).trans (eq61g  a1 m0_0z m0_0 m0_1)
noncomputable def R62  (m0_0z : Bool) (m0_0 : List T) (m0_1 : Bool) : Option Res :=
(bif (decide ((m0_0.length : Int) = 0)) then
 callK (vr 30 0 [(.ptr 0 0 0), (.t (.int .i64 2))] ⟨[(0, (.var [(.t (.list 3 m0_0z m0_0)), (.t (.bool m0_1))]))], []⟩) fun v_1 b_2 =>
 asT v_1 fun x_3 =>
 asA x_3 fun l_4 =>
 consT l_4 fun v_5 l_6 =>
 asI .i64 v_5 fun x_7 =>
 consT l_6 fun v_8 l_9 =>
 asS v_8 fun s_10 =>
 consT l_9 fun v_11 l_12 =>
 asI .i64 v_11 fun x_13 =>
 endT l_12 <|
 consB 0 b_2 fun k_14 b_15 =>
 asVar k_14 fun l_16 =>
 consV l_16 fun v_17 l_18 =>
 asT v_17 fun x_19 =>
 asL 3 x_19 fun nn_20 l_21 =>
 consV l_18 fun v_22 l_23 =>
 asT v_22 fun x_24 =>
 asB x_24 fun b_25 =>
 endV l_23 <|
 endB b_15 <|
 some ((.t (.int .i64 x_13)), ⟨[(0, (.var [(.t (.list 3 nn_20 l_21)), (.t (.bool b_25))]))], [500]⟩)
else
 needC (decide (0 ≤ 0)) fun _ =>
 getT m0_0 ((0 : Int)).toNat fun e_26 =>
 asA e_26 fun l_27 =>
 consT l_27 fun v_28 l_29 =>
 asI .i64 v_28 fun x_30 =>
 consT l_29 fun v_31 l_32 =>
 asS v_31 fun s_33 =>
 consT l_32 fun v_34 l_35 =>
 asI .i64 v_34 fun x_36 =>
 endT l_35 <|
(bif (!decide ((s_33 : ByteArray) = ⟨#[45]⟩)) then
 callK (vr 30 0 [(.ptr 0 0 0), (.t (.int .i64 2))] ⟨[(0, (.var [(.t (.list 3 m0_0z m0_0)), (.t (.bool m0_1))]))], []⟩) fun v_37 b_38 =>
 asT v_37 fun x_39 =>
 asA x_39 fun l_40 =>
 consT l_40 fun v_41 l_42 =>
 asI .i64 v_41 fun x_43 =>
 consT l_42 fun v_44 l_45 =>
 asS v_44 fun s_46 =>
 consT l_45 fun v_47 l_48 =>
 asI .i64 v_47 fun x_49 =>
 endT l_48 <|
 consB 0 b_38 fun k_50 b_51 =>
 asVar k_50 fun l_52 =>
 consV l_52 fun v_53 l_54 =>
 asT v_53 fun x_55 =>
 asL 3 x_55 fun nn_56 l_57 =>
 consV l_54 fun v_58 l_59 =>
 asT v_58 fun x_60 =>
 asB x_60 fun b_61 =>
 endV l_59 <|
 endB b_51 <|
 some ((.t (.int .i64 x_49)), ⟨[(0, (.var [(.t (.list 3 nn_56 l_57)), (.t (.bool b_61))]))], [500]⟩)
else
 callK (vr 30 0 [(.ptr 0 0 0), (.t (.int .i64 3))] ⟨[(0, (.var [(.t (.list 3 m0_0z m0_0)), (.t (.bool m0_1))]))], []⟩) fun v_62 b_63 =>
 asT v_62 fun x_64 =>
 asA x_64 fun l_65 =>
 consT l_65 fun v_66 l_67 =>
 asI .i64 v_66 fun x_68 =>
 consT l_67 fun v_69 l_70 =>
 asS v_69 fun s_71 =>
 consT l_70 fun v_72 l_73 =>
 asI .i64 v_72 fun x_74 =>
 endT l_73 <|
 consB 0 b_63 fun k_75 b_76 =>
 asVar k_75 fun l_77 =>
 consV l_77 fun v_78 l_79 =>
 asT v_78 fun x_80 =>
 asL 3 x_80 fun nn_81 l_82 =>
 consV l_79 fun v_83 l_84 =>
 asT v_83 fun x_85 =>
 asB x_85 fun b_86 =>
 endV l_84 <|
 endB b_76 <|
 callK (vr 30 0 [(.ptr 0 0 0), (.t (.int .i64 2))] ⟨[(0, (.var [(.t (.list 3 nn_81 l_82)), (.t (.bool b_86))]))], []⟩) fun v_87 b_88 =>
 asT v_87 fun x_89 =>
 asA x_89 fun l_90 =>
 consT l_90 fun v_91 l_92 =>
 asI .i64 v_91 fun x_93 =>
 consT l_92 fun v_94 l_95 =>
 asS v_94 fun s_96 =>
 consT l_95 fun v_97 l_98 =>
 asI .i64 v_97 fun x_99 =>
 endT l_98 <|
 consB 0 b_88 fun k_100 b_101 =>
 asVar k_100 fun l_102 =>
 consV l_102 fun v_103 l_104 =>
 asT v_103 fun x_105 =>
 asL 3 x_105 fun nn_106 l_107 =>
 consV l_104 fun v_108 l_109 =>
 asT v_108 fun x_110 =>
 asB x_110 fun b_111 =>
 endV l_109 <|
 endB b_101 <|
(bif (decide (x_99 = 0)) then
 some ((.t (.int .i64 (IntKind.i64.wrap (0 - x_99)))), ⟨[(0, (.var [(.t (.list 3 nn_106 l_107)), (.t (.bool true))]))], [500]⟩)
else
 some ((.t (.int .i64 (IntKind.i64.wrap (0 - x_99)))), ⟨[(0, (.var [(.t (.list 3 nn_106 l_107)), (.t (.bool b_111))]))], [500]⟩))))
theorem eq62g  (m0_0z : Bool) (m0_0 : List T) (m0_1 : Bool) : codeT Try.prog hint 62 0 35 [] [] (resKV Try.prog Try.f62 (hint.own 62 0)) (nrm hint 62 0 (bodyOf Try.f62) (envV [(.ptr 0 0 0)] 0) ⟨[(0, (.var [(.t (.list 3 m0_0z m0_0)), (.t (.bool m0_1))]))], []⟩).1 (nrm hint 62 0 (bodyOf Try.f62) (envV [(.ptr 0 0 0)] 0) ⟨[(0, (.var [(.t (.list 3 m0_0z m0_0)), (.t (.bool m0_1))]))], []⟩).2 (bodyOf Try.f62) = R62  m0_0z m0_0 m0_1 := by kernel_rfl
/-- (*purfle/code.reader).signed -/
theorem eq62 (m0_0z : Bool) (m0_0 : List T) (m0_1 : Bool) : vr 62 0 [(.ptr 0 0 0)] ⟨[(0, (.var [(.t (.list 3 m0_0z m0_0)), (.t (.bool m0_1))]))], []⟩ = R62  m0_0z m0_0 m0_1 :=
  (call_eq Try.prog hint (fn := Try.f62) (nt := 35) (T := []) [] rfl [(.ptr 0 0 0)] ⟨[(0, (.var [(.t (.list 3 m0_0z m0_0)), (.t (.bool m0_1))]))], []⟩ rfl rfl rfl rfl rfl).trans (eq62g  m0_0z m0_0 m0_1)
noncomputable def R31 (J31_6 : YJ31_6) (m0_0z : Bool) (m0_0 : List T) (m0_1 : Bool) : Option Res :=
 callK (vr 30 0 [(.ptr 0 0 0), (.t (.int .i64 1))] ⟨[(0, (.var [(.t (.list 3 m0_0z m0_0)), (.t (.bool m0_1))]))], []⟩) fun v_1 b_2 =>
 asT v_1 fun x_3 =>
 asA x_3 fun l_4 =>
 consT l_4 fun v_5 l_6 =>
 asI .i64 v_5 fun x_7 =>
 consT l_6 fun v_8 l_9 =>
 asS v_8 fun s_10 =>
 consT l_9 fun v_11 l_12 =>
 asI .i64 v_11 fun x_13 =>
 endT l_12 <|
 consB 0 b_2 fun k_14 b_15 =>
 asVar k_14 fun l_16 =>
 consV l_16 fun v_17 l_18 =>
 asT v_17 fun x_19 =>
 asL 3 x_19 fun nn_20 l_21 =>
 consV l_18 fun v_22 l_23 =>
 asT v_22 fun x_24 =>
 asB x_24 fun b_25 =>
 endV l_23 <|
 endB b_15 <|
 callK (vr 59 0 [] ⟨[], []⟩) fun v_26 b_27 =>
 asT v_26 fun x_28 =>
 asL 4 x_28 fun nn_29 l_30 =>
 endB b_27 <|
 callK (vr 58 0 [(.t (.list 4 nn_29 l_30)), (.fn 60 [] [(.ptr 0 0 0)])] ⟨[(0, (.var [(.t (.str s_10))]))], []⟩) fun v_31 b_32 =>
 asT v_31 fun x_33 =>
 asI .i64 x_33 fun x_34 =>
 consB 0 b_32 fun k_35 b_36 =>
 asVar k_35 fun l_37 =>
 consV l_37 fun v_38 l_39 =>
 asT v_38 fun x_40 =>
 asS x_40 fun s_41 =>
 endV l_39 <|
 endB b_36 <|
 callK (vr 38 0 [(.t (.int .i64 x_34))] ⟨[], []⟩) fun v_42 b_43 =>
 asTup v_42 fun l_44 =>
 consV l_44 fun v_45 l_46 =>
 asT v_45 fun x_47 =>
 asA x_47 fun l_48 =>
 consT l_48 fun v_49 l_50 =>
 asS v_49 fun s_51 =>
 consT l_50 fun v_52 l_53 =>
 asI .i64 v_52 fun x_54 =>
 consT l_53 fun v_55 l_56 =>
 asI .i64 v_55 fun x_57 =>
 consT l_56 fun v_58 l_59 =>
 asI .i64 v_58 fun x_60 =>
 endT l_59 <|
 consV l_46 fun v_61 l_62 =>
 asT v_61 fun x_63 =>
 asB x_63 fun b_64 =>
 endV l_62 <|
 endB b_43 <|
(bif (!b_64) then
 J31_6 (nn_20) (l_21) (true) (x_34) (0) (0) (0) (0) (s_51) (x_54) (x_57) (x_60)
else
 J31_6 (nn_20) (l_21) (b_25) (x_34) (0) (0) (0) (0) (s_51) (x_54) (x_57) (x_60))
theorem eq31g (KJ31_6 : Env → St → Option Res) (m0_0z : Bool) (m0_0 : List T) (m0_1 : Bool) : codeT Try.prog hint 31 0 62 (Ta31 KJ31_6) [] (resKV Try.prog Try.f31 (hint.own 31 0)) (nrm hint 31 0 (bodyOf Try.f31) (envV [(.ptr 0 0 0)] 0) ⟨[(0, (.var [(.t (.list 3 m0_0z m0_0)), (.t (.bool m0_1))]))], []⟩).1 (nrm hint 31 0 (bodyOf Try.f31) (envV [(.ptr 0 0 0)] 0) ⟨[(0, (.var [(.t (.list 3 m0_0z m0_0)), (.t (.bool m0_1))]))], []⟩).2 (bodyOf Try.f31) = R31 (WJ31_6 KJ31_6) m0_0z m0_0 m0_1 := by kernel_rfl
/-- (*purfle/code.reader).ins -/
theorem eq31 (m0_0z : Bool) (m0_0 : List T) (m0_1 : Bool) : vr 31 0 [(.ptr 0 0 0)] ⟨[(0, (.var [(.t (.list 3 m0_0z m0_0)), (.t (.bool m0_1))]))], []⟩ = R31 J31_6 m0_0z m0_0 m0_1 :=
  (call_eq Try.prog hint (fn := Try.f31) (nt := 62) (T := (Ta31 VJ31_6)) [PaJ31_6] rfl [(.ptr 0 0 0)] ⟨[(0, (.var [(.t (.list 3 m0_0z m0_0)), (.t (.bool m0_1))]))], []⟩ rfl rfl rfl rfl rfl).trans (eq31g VJ31_6 m0_0z m0_0 m0_1)
noncomputable def RJ31_6 (J31_6 : YJ31_6) (m0_0z : Bool) (m0_0 : List T) (m0_1 : Bool) (m8_0 m8_1 m8_2 m8_3 m8_4 : Int) (m9_0 : ByteArray) (m9_1 m9_2 m9_3 : Int) : Option Res :=
 callK (vr 39 0 [(.ptr 0 0 0)] ⟨[(0, (.var [(.t (.int .i64 m8_0)), (.t (.int .i64 m8_1)), (.t (.int .i64 m8_2)), (.t (.int .i64 m8_3)), (.t (.int .i64 m8_4))]))], []⟩) fun v_1 b_2 =>
 asG v_1 fun l_3 =>
 consV l_3 fun v_4 l_5 =>
 isPtr 0 0 1 v_4 <|
 consV l_5 fun v_6 l_7 =>
 isPtr 0 0 2 v_6 <|
 consV l_7 fun v_8 l_9 =>
 isPtr 0 0 3 v_8 <|
 endV l_9 <|
 consB 0 b_2 fun k_10 b_11 =>
 asVar k_10 fun l_12 =>
 consV l_12 fun v_13 l_14 =>
 asT v_13 fun x_15 =>
 asI .i64 x_15 fun x_16 =>
 consV l_14 fun v_17 l_18 =>
 asT v_17 fun x_19 =>
 asI .i64 x_19 fun x_20 =>
 consV l_18 fun v_21 l_22 =>
 asT v_21 fun x_23 =>
 asI .i64 x_23 fun x_24 =>
 consV l_22 fun v_25 l_26 =>
 asT v_25 fun x_27 =>
 asI .i64 x_27 fun x_28 =>
 consV l_26 fun v_29 l_30 =>
 asT v_29 fun x_31 =>
 asI .i64 x_31 fun x_32 =>
 endV l_30 <|
 endB b_11 <|
(bif (decide (m9_1 = 1)) then
 callK (vr 61 0 [(.ptr 0 0 0), (.t (.str ⟨#[114]⟩))] ⟨[(0, (.var [(.t (.list 3 m0_0z m0_0)), (.t (.bool m0_1))]))], []⟩) fun v_33 b_34 =>
 asT v_33 fun x_35 =>
 asI .i64 x_35 fun x_36 =>
 consB 0 b_34 fun k_37 b_38 =>
 asVar k_37 fun l_39 =>
 consV l_39 fun v_40 l_41 =>
 asT v_40 fun x_42 =>
 asL 3 x_42 fun nn_43 l_44 =>
 consV l_41 fun v_45 l_46 =>
 asT v_45 fun x_47 =>
 asB x_47 fun b_48 =>
 endV l_46 <|
 endB b_38 <|
(bif (decide (m9_2 = 1)) then
 callK (vr 61 0 [(.ptr 0 0 0), (.t (.str ⟨#[114]⟩))] ⟨[(0, (.var [(.t (.list 3 nn_43 l_44)), (.t (.bool b_48))]))], []⟩) fun v_49 b_50 =>
 asT v_49 fun x_51 =>
 asI .i64 x_51 fun x_52 =>
 consB 0 b_50 fun k_53 b_54 =>
 asVar k_53 fun l_55 =>
 consV l_55 fun v_56 l_57 =>
 asT v_56 fun x_58 =>
 asL 3 x_58 fun nn_59 l_60 =>
 consV l_57 fun v_61 l_62 =>
 asT v_61 fun x_63 =>
 asB x_63 fun b_64 =>
 endV l_62 <|
 endB b_54 <|
(bif (decide (m9_3 = 1)) then
 callK (vr 61 0 [(.ptr 0 0 0), (.t (.str ⟨#[114]⟩))] ⟨[(0, (.var [(.t (.list 3 nn_59 l_60)), (.t (.bool b_64))]))], []⟩) fun v_65 b_66 =>
 asT v_65 fun x_67 =>
 asI .i64 x_67 fun x_68 =>
 consB 0 b_66 fun k_69 b_70 =>
 asVar k_69 fun l_71 =>
 consV l_71 fun v_72 l_73 =>
 asT v_72 fun x_74 =>
 asL 3 x_74 fun nn_75 l_76 =>
 consV l_73 fun v_77 l_78 =>
 asT v_77 fun x_79 =>
 asB x_79 fun b_80 =>
 endV l_78 <|
 endB b_70 <|
 some ((.t (.agg [(.int .i64 x_16), (.int .i64 x_36), (.int .i64 x_52), (.int .i64 x_68), (.int .i64 x_32)])), ⟨[(0, (.var [(.t (.list 3 nn_75 l_76)), (.t (.bool b_80))]))], [500]⟩)
else
(bif (decide (m9_3 = 2)) then
 callK (vr 61 0 [(.ptr 0 0 0), (.t (.str ⟨#[114]⟩))] ⟨[(0, (.var [(.t (.list 3 nn_59 l_60)), (.t (.bool b_64))]))], []⟩) fun v_81 b_82 =>
 asT v_81 fun x_83 =>
 asI .i64 x_83 fun x_84 =>
 consB 0 b_82 fun k_85 b_86 =>
 asVar k_85 fun l_87 =>
 consV l_87 fun v_88 l_89 =>
 asT v_88 fun x_90 =>
 asL 3 x_90 fun nn_91 l_92 =>
 consV l_89 fun v_93 l_94 =>
 asT v_93 fun x_95 =>
 asB x_95 fun b_96 =>
 endV l_94 <|
 endB b_86 <|
 some ((.t (.agg [(.int .i64 x_16), (.int .i64 x_36), (.int .i64 x_52), (.int .i64 x_84), (.int .i64 x_32)])), ⟨[(0, (.var [(.t (.list 3 nn_91 l_92)), (.t (.bool b_96))]))], [500]⟩)
else
(bif (decide (m9_3 = 3)) then
 callK (vr 61 0 [(.ptr 0 0 0), (.t (.str ⟨#[97]⟩))] ⟨[(0, (.var [(.t (.list 3 nn_59 l_60)), (.t (.bool b_64))]))], []⟩) fun v_97 b_98 =>
 asT v_97 fun x_99 =>
 asI .i64 x_99 fun x_100 =>
 consB 0 b_98 fun k_101 b_102 =>
 asVar k_101 fun l_103 =>
 consV l_103 fun v_104 l_105 =>
 asT v_104 fun x_106 =>
 asL 3 x_106 fun nn_107 l_108 =>
 consV l_105 fun v_109 l_110 =>
 asT v_109 fun x_111 =>
 asB x_111 fun b_112 =>
 endV l_110 <|
 endB b_102 <|
 some ((.t (.agg [(.int .i64 x_16), (.int .i64 x_36), (.int .i64 x_52), (.int .i64 x_100), (.int .i64 x_32)])), ⟨[(0, (.var [(.t (.list 3 nn_107 l_108)), (.t (.bool b_112))]))], [500]⟩)
else
(bif (decide (m9_3 = 4)) then
 callK (vr 30 0 [(.ptr 0 0 0), (.t (.int .i64 2))] ⟨[(0, (.var [(.t (.list 3 nn_59 l_60)), (.t (.bool b_64))]))], []⟩) fun v_113 b_114 =>
 asT v_113 fun x_115 =>
 asA x_115 fun l_116 =>
 consT l_116 fun v_117 l_118 =>
 asI .i64 v_117 fun x_119 =>
 consT l_118 fun v_120 l_121 =>
 asS v_120 fun s_122 =>
 consT l_121 fun v_123 l_124 =>
 asI .i64 v_123 fun x_125 =>
 endT l_124 <|
 consB 0 b_114 fun k_126 b_127 =>
 asVar k_126 fun l_128 =>
 consV l_128 fun v_129 l_130 =>
 asT v_129 fun x_131 =>
 asL 3 x_131 fun nn_132 l_133 =>
 consV l_130 fun v_134 l_135 =>
 asT v_134 fun x_136 =>
 asB x_136 fun b_137 =>
 endV l_135 <|
 endB b_127 <|
 some ((.t (.agg [(.int .i64 x_16), (.int .i64 x_36), (.int .i64 x_52), (.int .i64 x_125), (.int .i64 x_32)])), ⟨[(0, (.var [(.t (.list 3 nn_132 l_133)), (.t (.bool b_137))]))], [500]⟩)
else
(bif (decide (m9_3 = 5)) then
 callK (vr 62 0 [(.ptr 0 0 0)] ⟨[(0, (.var [(.t (.list 3 nn_59 l_60)), (.t (.bool b_64))]))], []⟩) fun v_138 b_139 =>
 asT v_138 fun x_140 =>
 asI .i64 x_140 fun x_141 =>
 consB 0 b_139 fun k_142 b_143 =>
 asVar k_142 fun l_144 =>
 consV l_144 fun v_145 l_146 =>
 asT v_145 fun x_147 =>
 asL 3 x_147 fun nn_148 l_149 =>
 consV l_146 fun v_150 l_151 =>
 asT v_150 fun x_152 =>
 asB x_152 fun b_153 =>
 endV l_151 <|
 endB b_143 <|
 some ((.t (.agg [(.int .i64 x_16), (.int .i64 x_36), (.int .i64 x_52), (.int .i64 x_28), (.int .i64 x_141)])), ⟨[(0, (.var [(.t (.list 3 nn_148 l_149)), (.t (.bool b_153))]))], [500]⟩)
else
 some ((.t (.agg [(.int .i64 x_16), (.int .i64 x_36), (.int .i64 x_52), (.int .i64 x_28), (.int .i64 x_32)])), ⟨[(0, (.var [(.t (.list 3 nn_59 l_60)), (.t (.bool b_64))]))], [500]⟩))))))
else
(bif (decide (m9_2 = 2)) then
 callK (vr 61 0 [(.ptr 0 0 0), (.t (.str ⟨#[114]⟩))] ⟨[(0, (.var [(.t (.list 3 nn_43 l_44)), (.t (.bool b_48))]))], []⟩) fun v_154 b_155 =>
 asT v_154 fun x_156 =>
 asI .i64 x_156 fun x_157 =>
 consB 0 b_155 fun k_158 b_159 =>
 asVar k_158 fun l_160 =>
 consV l_160 fun v_161 l_162 =>
 asT v_161 fun x_163 =>
 asL 3 x_163 fun nn_164 l_165 =>
 consV l_162 fun v_166 l_167 =>
 asT v_166 fun x_168 =>
 asB x_168 fun b_169 =>
 endV l_167 <|
 endB b_159 <|
(bif (decide (m9_3 = 1)) then
 callK (vr 61 0 [(.ptr 0 0 0), (.t (.str ⟨#[114]⟩))] ⟨[(0, (.var [(.t (.list 3 nn_164 l_165)), (.t (.bool b_169))]))], []⟩) fun v_170 b_171 =>
 asT v_170 fun x_172 =>
 asI .i64 x_172 fun x_173 =>
 consB 0 b_171 fun k_174 b_175 =>
 asVar k_174 fun l_176 =>
 consV l_176 fun v_177 l_178 =>
 asT v_177 fun x_179 =>
 asL 3 x_179 fun nn_180 l_181 =>
 consV l_178 fun v_182 l_183 =>
 asT v_182 fun x_184 =>
 asB x_184 fun b_185 =>
 endV l_183 <|
 endB b_175 <|
 some ((.t (.agg [(.int .i64 x_16), (.int .i64 x_36), (.int .i64 x_157), (.int .i64 x_173), (.int .i64 x_32)])), ⟨[(0, (.var [(.t (.list 3 nn_180 l_181)), (.t (.bool b_185))]))], [500]⟩)
else
(bif (decide (m9_3 = 2)) then
 callK (vr 61 0 [(.ptr 0 0 0), (.t (.str ⟨#[114]⟩))] ⟨[(0, (.var [(.t (.list 3 nn_164 l_165)), (.t (.bool b_169))]))], []⟩) fun v_186 b_187 =>
 asT v_186 fun x_188 =>
 asI .i64 x_188 fun x_189 =>
 consB 0 b_187 fun k_190 b_191 =>
 asVar k_190 fun l_192 =>
 consV l_192 fun v_193 l_194 =>
 asT v_193 fun x_195 =>
 asL 3 x_195 fun nn_196 l_197 =>
 consV l_194 fun v_198 l_199 =>
 asT v_198 fun x_200 =>
 asB x_200 fun b_201 =>
 endV l_199 <|
 endB b_191 <|
 some ((.t (.agg [(.int .i64 x_16), (.int .i64 x_36), (.int .i64 x_157), (.int .i64 x_189), (.int .i64 x_32)])), ⟨[(0, (.var [(.t (.list 3 nn_196 l_197)), (.t (.bool b_201))]))], [500]⟩)
else
(bif (decide (m9_3 = 3)) then
 callK (vr 61 0 [(.ptr 0 0 0), (.t (.str ⟨#[97]⟩))] ⟨[(0, (.var [(.t (.list 3 nn_164 l_165)), (.t (.bool b_169))]))], []⟩) fun v_202 b_203 =>
 asT v_202 fun x_204 =>
 asI .i64 x_204 fun x_205 =>
 consB 0 b_203 fun k_206 b_207 =>
 asVar k_206 fun l_208 =>
 consV l_208 fun v_209 l_210 =>
 asT v_209 fun x_211 =>
 asL 3 x_211 fun nn_212 l_213 =>
 consV l_210 fun v_214 l_215 =>
 asT v_214 fun x_216 =>
 asB x_216 fun b_217 =>
 endV l_215 <|
 endB b_207 <|
 some ((.t (.agg [(.int .i64 x_16), (.int .i64 x_36), (.int .i64 x_157), (.int .i64 x_205), (.int .i64 x_32)])), ⟨[(0, (.var [(.t (.list 3 nn_212 l_213)), (.t (.bool b_217))]))], [500]⟩)
else
(bif (decide (m9_3 = 4)) then
 callK (vr 30 0 [(.ptr 0 0 0), (.t (.int .i64 2))] ⟨[(0, (.var [(.t (.list 3 nn_164 l_165)), (.t (.bool b_169))]))], []⟩) fun v_218 b_219 =>
 asT v_218 fun x_220 =>
 asA x_220 fun l_221 =>
 consT l_221 fun v_222 l_223 =>
 asI .i64 v_222 fun x_224 =>
 consT l_223 fun v_225 l_226 =>
 asS v_225 fun s_227 =>
 consT l_226 fun v_228 l_229 =>
 asI .i64 v_228 fun x_230 =>
 endT l_229 <|
 consB 0 b_219 fun k_231 b_232 =>
 asVar k_231 fun l_233 =>
 consV l_233 fun v_234 l_235 =>
 asT v_234 fun x_236 =>
 asL 3 x_236 fun nn_237 l_238 =>
 consV l_235 fun v_239 l_240 =>
 asT v_239 fun x_241 =>
 asB x_241 fun b_242 =>
 endV l_240 <|
 endB b_232 <|
 some ((.t (.agg [(.int .i64 x_16), (.int .i64 x_36), (.int .i64 x_157), (.int .i64 x_230), (.int .i64 x_32)])), ⟨[(0, (.var [(.t (.list 3 nn_237 l_238)), (.t (.bool b_242))]))], [500]⟩)
else
(bif (decide (m9_3 = 5)) then
 callK (vr 62 0 [(.ptr 0 0 0)] ⟨[(0, (.var [(.t (.list 3 nn_164 l_165)), (.t (.bool b_169))]))], []⟩) fun v_243 b_244 =>
 asT v_243 fun x_245 =>
 asI .i64 x_245 fun x_246 =>
 consB 0 b_244 fun k_247 b_248 =>
 asVar k_247 fun l_249 =>
 consV l_249 fun v_250 l_251 =>
 asT v_250 fun x_252 =>
 asL 3 x_252 fun nn_253 l_254 =>
 consV l_251 fun v_255 l_256 =>
 asT v_255 fun x_257 =>
 asB x_257 fun b_258 =>
 endV l_256 <|
 endB b_248 <|
 some ((.t (.agg [(.int .i64 x_16), (.int .i64 x_36), (.int .i64 x_157), (.int .i64 x_28), (.int .i64 x_246)])), ⟨[(0, (.var [(.t (.list 3 nn_253 l_254)), (.t (.bool b_258))]))], [500]⟩)
else
 some ((.t (.agg [(.int .i64 x_16), (.int .i64 x_36), (.int .i64 x_157), (.int .i64 x_28), (.int .i64 x_32)])), ⟨[(0, (.var [(.t (.list 3 nn_164 l_165)), (.t (.bool b_169))]))], [500]⟩))))))
else
(bif (decide (m9_2 = 3)) then
 callK (vr 61 0 [(.ptr 0 0 0), (.t (.str ⟨#[97]⟩))] ⟨[(0, (.var [(.t (.list 3 nn_43 l_44)), (.t (.bool b_48))]))], []⟩) fun v_259 b_260 =>
 asT v_259 fun x_261 =>
 asI .i64 x_261 fun x_262 =>
 consB 0 b_260 fun k_263 b_264 =>
 asVar k_263 fun l_265 =>
 consV l_265 fun v_266 l_267 =>
 asT v_266 fun x_268 =>
 asL 3 x_268 fun nn_269 l_270 =>
 consV l_267 fun v_271 l_272 =>
 asT v_271 fun x_273 =>
 asB x_273 fun b_274 =>
 endV l_272 <|
 endB b_264 <|
(bif (decide (m9_3 = 1)) then
 callK (vr 61 0 [(.ptr 0 0 0), (.t (.str ⟨#[114]⟩))] ⟨[(0, (.var [(.t (.list 3 nn_269 l_270)), (.t (.bool b_274))]))], []⟩) fun v_275 b_276 =>
 asT v_275 fun x_277 =>
 asI .i64 x_277 fun x_278 =>
 consB 0 b_276 fun k_279 b_280 =>
 asVar k_279 fun l_281 =>
 consV l_281 fun v_282 l_283 =>
 asT v_282 fun x_284 =>
 asL 3 x_284 fun nn_285 l_286 =>
 consV l_283 fun v_287 l_288 =>
 asT v_287 fun x_289 =>
 asB x_289 fun b_290 =>
 endV l_288 <|
 endB b_280 <|
 some ((.t (.agg [(.int .i64 x_16), (.int .i64 x_36), (.int .i64 x_262), (.int .i64 x_278), (.int .i64 x_32)])), ⟨[(0, (.var [(.t (.list 3 nn_285 l_286)), (.t (.bool b_290))]))], [500]⟩)
else
(bif (decide (m9_3 = 2)) then
 callK (vr 61 0 [(.ptr 0 0 0), (.t (.str ⟨#[114]⟩))] ⟨[(0, (.var [(.t (.list 3 nn_269 l_270)), (.t (.bool b_274))]))], []⟩) fun v_291 b_292 =>
 asT v_291 fun x_293 =>
 asI .i64 x_293 fun x_294 =>
 consB 0 b_292 fun k_295 b_296 =>
 asVar k_295 fun l_297 =>
 consV l_297 fun v_298 l_299 =>
 asT v_298 fun x_300 =>
 asL 3 x_300 fun nn_301 l_302 =>
 consV l_299 fun v_303 l_304 =>
 asT v_303 fun x_305 =>
 asB x_305 fun b_306 =>
 endV l_304 <|
 endB b_296 <|
 some ((.t (.agg [(.int .i64 x_16), (.int .i64 x_36), (.int .i64 x_262), (.int .i64 x_294), (.int .i64 x_32)])), ⟨[(0, (.var [(.t (.list 3 nn_301 l_302)), (.t (.bool b_306))]))], [500]⟩)
else
(bif (decide (m9_3 = 3)) then
 callK (vr 61 0 [(.ptr 0 0 0), (.t (.str ⟨#[97]⟩))] ⟨[(0, (.var [(.t (.list 3 nn_269 l_270)), (.t (.bool b_274))]))], []⟩) fun v_307 b_308 =>
 asT v_307 fun x_309 =>
 asI .i64 x_309 fun x_310 =>
 consB 0 b_308 fun k_311 b_312 =>
 asVar k_311 fun l_313 =>
 consV l_313 fun v_314 l_315 =>
 asT v_314 fun x_316 =>
 asL 3 x_316 fun nn_317 l_318 =>
 consV l_315 fun v_319 l_320 =>
 asT v_319 fun x_321 =>
 asB x_321 fun b_322 =>
 endV l_320 <|
 endB b_312 <|
 some ((.t (.agg [(.int .i64 x_16), (.int .i64 x_36), (.int .i64 x_262), (.int .i64 x_310), (.int .i64 x_32)])), ⟨[(0, (.var [(.t (.list 3 nn_317 l_318)), (.t (.bool b_322))]))], [500]⟩)
else
(bif (decide (m9_3 = 4)) then
 callK (vr 30 0 [(.ptr 0 0 0), (.t (.int .i64 2))] ⟨[(0, (.var [(.t (.list 3 nn_269 l_270)), (.t (.bool b_274))]))], []⟩) fun v_323 b_324 =>
 asT v_323 fun x_325 =>
 asA x_325 fun l_326 =>
 consT l_326 fun v_327 l_328 =>
 asI .i64 v_327 fun x_329 =>
 consT l_328 fun v_330 l_331 =>
 asS v_330 fun s_332 =>
 consT l_331 fun v_333 l_334 =>
 asI .i64 v_333 fun x_335 =>
 endT l_334 <|
 consB 0 b_324 fun k_336 b_337 =>
 asVar k_336 fun l_338 =>
 consV l_338 fun v_339 l_340 =>
 asT v_339 fun x_341 =>
 asL 3 x_341 fun nn_342 l_343 =>
 consV l_340 fun v_344 l_345 =>
 asT v_344 fun x_346 =>
 asB x_346 fun b_347 =>
 endV l_345 <|
 endB b_337 <|
 some ((.t (.agg [(.int .i64 x_16), (.int .i64 x_36), (.int .i64 x_262), (.int .i64 x_335), (.int .i64 x_32)])), ⟨[(0, (.var [(.t (.list 3 nn_342 l_343)), (.t (.bool b_347))]))], [500]⟩)
else
(bif (decide (m9_3 = 5)) then
 callK (vr 62 0 [(.ptr 0 0 0)] ⟨[(0, (.var [(.t (.list 3 nn_269 l_270)), (.t (.bool b_274))]))], []⟩) fun v_348 b_349 =>
 asT v_348 fun x_350 =>
 asI .i64 x_350 fun x_351 =>
 consB 0 b_349 fun k_352 b_353 =>
 asVar k_352 fun l_354 =>
 consV l_354 fun v_355 l_356 =>
 asT v_355 fun x_357 =>
 asL 3 x_357 fun nn_358 l_359 =>
 consV l_356 fun v_360 l_361 =>
 asT v_360 fun x_362 =>
 asB x_362 fun b_363 =>
 endV l_361 <|
 endB b_353 <|
 some ((.t (.agg [(.int .i64 x_16), (.int .i64 x_36), (.int .i64 x_262), (.int .i64 x_28), (.int .i64 x_351)])), ⟨[(0, (.var [(.t (.list 3 nn_358 l_359)), (.t (.bool b_363))]))], [500]⟩)
else
 some ((.t (.agg [(.int .i64 x_16), (.int .i64 x_36), (.int .i64 x_262), (.int .i64 x_28), (.int .i64 x_32)])), ⟨[(0, (.var [(.t (.list 3 nn_269 l_270)), (.t (.bool b_274))]))], [500]⟩))))))
else
(bif (decide (m9_2 = 4)) then
 callK (vr 30 0 [(.ptr 0 0 0), (.t (.int .i64 2))] ⟨[(0, (.var [(.t (.list 3 nn_43 l_44)), (.t (.bool b_48))]))], []⟩) fun v_364 b_365 =>
 asT v_364 fun x_366 =>
 asA x_366 fun l_367 =>
 consT l_367 fun v_368 l_369 =>
 asI .i64 v_368 fun x_370 =>
 consT l_369 fun v_371 l_372 =>
 asS v_371 fun s_373 =>
 consT l_372 fun v_374 l_375 =>
 asI .i64 v_374 fun x_376 =>
 endT l_375 <|
 consB 0 b_365 fun k_377 b_378 =>
 asVar k_377 fun l_379 =>
 consV l_379 fun v_380 l_381 =>
 asT v_380 fun x_382 =>
 asL 3 x_382 fun nn_383 l_384 =>
 consV l_381 fun v_385 l_386 =>
 asT v_385 fun x_387 =>
 asB x_387 fun b_388 =>
 endV l_386 <|
 endB b_378 <|
(bif (decide (m9_3 = 1)) then
 callK (vr 61 0 [(.ptr 0 0 0), (.t (.str ⟨#[114]⟩))] ⟨[(0, (.var [(.t (.list 3 nn_383 l_384)), (.t (.bool b_388))]))], []⟩) fun v_389 b_390 =>
 asT v_389 fun x_391 =>
 asI .i64 x_391 fun x_392 =>
 consB 0 b_390 fun k_393 b_394 =>
 asVar k_393 fun l_395 =>
 consV l_395 fun v_396 l_397 =>
 asT v_396 fun x_398 =>
 asL 3 x_398 fun nn_399 l_400 =>
 consV l_397 fun v_401 l_402 =>
 asT v_401 fun x_403 =>
 asB x_403 fun b_404 =>
 endV l_402 <|
 endB b_394 <|
 some ((.t (.agg [(.int .i64 x_16), (.int .i64 x_36), (.int .i64 x_376), (.int .i64 x_392), (.int .i64 x_32)])), ⟨[(0, (.var [(.t (.list 3 nn_399 l_400)), (.t (.bool b_404))]))], [500]⟩)
else
(bif (decide (m9_3 = 2)) then
 callK (vr 61 0 [(.ptr 0 0 0), (.t (.str ⟨#[114]⟩))] ⟨[(0, (.var [(.t (.list 3 nn_383 l_384)), (.t (.bool b_388))]))], []⟩) fun v_405 b_406 =>
 asT v_405 fun x_407 =>
 asI .i64 x_407 fun x_408 =>
 consB 0 b_406 fun k_409 b_410 =>
 asVar k_409 fun l_411 =>
 consV l_411 fun v_412 l_413 =>
 asT v_412 fun x_414 =>
 asL 3 x_414 fun nn_415 l_416 =>
 consV l_413 fun v_417 l_418 =>
 asT v_417 fun x_419 =>
 asB x_419 fun b_420 =>
 endV l_418 <|
 endB b_410 <|
 some ((.t (.agg [(.int .i64 x_16), (.int .i64 x_36), (.int .i64 x_376), (.int .i64 x_408), (.int .i64 x_32)])), ⟨[(0, (.var [(.t (.list 3 nn_415 l_416)), (.t (.bool b_420))]))], [500]⟩)
else
(bif (decide (m9_3 = 3)) then
 callK (vr 61 0 [(.ptr 0 0 0), (.t (.str ⟨#[97]⟩))] ⟨[(0, (.var [(.t (.list 3 nn_383 l_384)), (.t (.bool b_388))]))], []⟩) fun v_421 b_422 =>
 asT v_421 fun x_423 =>
 asI .i64 x_423 fun x_424 =>
 consB 0 b_422 fun k_425 b_426 =>
 asVar k_425 fun l_427 =>
 consV l_427 fun v_428 l_429 =>
 asT v_428 fun x_430 =>
 asL 3 x_430 fun nn_431 l_432 =>
 consV l_429 fun v_433 l_434 =>
 asT v_433 fun x_435 =>
 asB x_435 fun b_436 =>
 endV l_434 <|
 endB b_426 <|
 some ((.t (.agg [(.int .i64 x_16), (.int .i64 x_36), (.int .i64 x_376), (.int .i64 x_424), (.int .i64 x_32)])), ⟨[(0, (.var [(.t (.list 3 nn_431 l_432)), (.t (.bool b_436))]))], [500]⟩)
else
(bif (decide (m9_3 = 4)) then
 callK (vr 30 0 [(.ptr 0 0 0), (.t (.int .i64 2))] ⟨[(0, (.var [(.t (.list 3 nn_383 l_384)), (.t (.bool b_388))]))], []⟩) fun v_437 b_438 =>
 asT v_437 fun x_439 =>
 asA x_439 fun l_440 =>
 consT l_440 fun v_441 l_442 =>
 asI .i64 v_441 fun x_443 =>
 consT l_442 fun v_444 l_445 =>
 asS v_444 fun s_446 =>
 consT l_445 fun v_447 l_448 =>
 asI .i64 v_447 fun x_449 =>
 endT l_448 <|
 consB 0 b_438 fun k_450 b_451 =>
 asVar k_450 fun l_452 =>
 consV l_452 fun v_453 l_454 =>
 asT v_453 fun x_455 =>
 asL 3 x_455 fun nn_456 l_457 =>
 consV l_454 fun v_458 l_459 =>
 asT v_458 fun x_460 =>
 asB x_460 fun b_461 =>
 endV l_459 <|
 endB b_451 <|
 some ((.t (.agg [(.int .i64 x_16), (.int .i64 x_36), (.int .i64 x_376), (.int .i64 x_449), (.int .i64 x_32)])), ⟨[(0, (.var [(.t (.list 3 nn_456 l_457)), (.t (.bool b_461))]))], [500]⟩)
else
(bif (decide (m9_3 = 5)) then
 callK (vr 62 0 [(.ptr 0 0 0)] ⟨[(0, (.var [(.t (.list 3 nn_383 l_384)), (.t (.bool b_388))]))], []⟩) fun v_462 b_463 =>
 asT v_462 fun x_464 =>
 asI .i64 x_464 fun x_465 =>
 consB 0 b_463 fun k_466 b_467 =>
 asVar k_466 fun l_468 =>
 consV l_468 fun v_469 l_470 =>
 asT v_469 fun x_471 =>
 asL 3 x_471 fun nn_472 l_473 =>
 consV l_470 fun v_474 l_475 =>
 asT v_474 fun x_476 =>
 asB x_476 fun b_477 =>
 endV l_475 <|
 endB b_467 <|
 some ((.t (.agg [(.int .i64 x_16), (.int .i64 x_36), (.int .i64 x_376), (.int .i64 x_28), (.int .i64 x_465)])), ⟨[(0, (.var [(.t (.list 3 nn_472 l_473)), (.t (.bool b_477))]))], [500]⟩)
else
 some ((.t (.agg [(.int .i64 x_16), (.int .i64 x_36), (.int .i64 x_376), (.int .i64 x_28), (.int .i64 x_32)])), ⟨[(0, (.var [(.t (.list 3 nn_383 l_384)), (.t (.bool b_388))]))], [500]⟩))))))
else
(bif (decide (m9_2 = 5)) then
 callK (vr 62 0 [(.ptr 0 0 0)] ⟨[(0, (.var [(.t (.list 3 nn_43 l_44)), (.t (.bool b_48))]))], []⟩) fun v_478 b_479 =>
 asT v_478 fun x_480 =>
 asI .i64 x_480 fun x_481 =>
 consB 0 b_479 fun k_482 b_483 =>
 asVar k_482 fun l_484 =>
 consV l_484 fun v_485 l_486 =>
 asT v_485 fun x_487 =>
 asL 3 x_487 fun nn_488 l_489 =>
 consV l_486 fun v_490 l_491 =>
 asT v_490 fun x_492 =>
 asB x_492 fun b_493 =>
 endV l_491 <|
 endB b_483 <|
(bif (decide (m9_3 = 1)) then
 callK (vr 61 0 [(.ptr 0 0 0), (.t (.str ⟨#[114]⟩))] ⟨[(0, (.var [(.t (.list 3 nn_488 l_489)), (.t (.bool b_493))]))], []⟩) fun v_494 b_495 =>
 asT v_494 fun x_496 =>
 asI .i64 x_496 fun x_497 =>
 consB 0 b_495 fun k_498 b_499 =>
 asVar k_498 fun l_500 =>
 consV l_500 fun v_501 l_502 =>
 asT v_501 fun x_503 =>
 asL 3 x_503 fun nn_504 l_505 =>
 consV l_502 fun v_506 l_507 =>
 asT v_506 fun x_508 =>
 asB x_508 fun b_509 =>
 endV l_507 <|
 endB b_499 <|
 some ((.t (.agg [(.int .i64 x_16), (.int .i64 x_36), (.int .i64 x_24), (.int .i64 x_497), (.int .i64 x_481)])), ⟨[(0, (.var [(.t (.list 3 nn_504 l_505)), (.t (.bool b_509))]))], [500]⟩)
else
(bif (decide (m9_3 = 2)) then
 callK (vr 61 0 [(.ptr 0 0 0), (.t (.str ⟨#[114]⟩))] ⟨[(0, (.var [(.t (.list 3 nn_488 l_489)), (.t (.bool b_493))]))], []⟩) fun v_510 b_511 =>
 asT v_510 fun x_512 =>
 asI .i64 x_512 fun x_513 =>
 consB 0 b_511 fun k_514 b_515 =>
 asVar k_514 fun l_516 =>
 consV l_516 fun v_517 l_518 =>
 asT v_517 fun x_519 =>
 asL 3 x_519 fun nn_520 l_521 =>
 consV l_518 fun v_522 l_523 =>
 asT v_522 fun x_524 =>
 asB x_524 fun b_525 =>
 endV l_523 <|
 endB b_515 <|
 some ((.t (.agg [(.int .i64 x_16), (.int .i64 x_36), (.int .i64 x_24), (.int .i64 x_513), (.int .i64 x_481)])), ⟨[(0, (.var [(.t (.list 3 nn_520 l_521)), (.t (.bool b_525))]))], [500]⟩)
else
(bif (decide (m9_3 = 3)) then
 callK (vr 61 0 [(.ptr 0 0 0), (.t (.str ⟨#[97]⟩))] ⟨[(0, (.var [(.t (.list 3 nn_488 l_489)), (.t (.bool b_493))]))], []⟩) fun v_526 b_527 =>
 asT v_526 fun x_528 =>
 asI .i64 x_528 fun x_529 =>
 consB 0 b_527 fun k_530 b_531 =>
 asVar k_530 fun l_532 =>
 consV l_532 fun v_533 l_534 =>
 asT v_533 fun x_535 =>
 asL 3 x_535 fun nn_536 l_537 =>
 consV l_534 fun v_538 l_539 =>
 asT v_538 fun x_540 =>
 asB x_540 fun b_541 =>
 endV l_539 <|
 endB b_531 <|
 some ((.t (.agg [(.int .i64 x_16), (.int .i64 x_36), (.int .i64 x_24), (.int .i64 x_529), (.int .i64 x_481)])), ⟨[(0, (.var [(.t (.list 3 nn_536 l_537)), (.t (.bool b_541))]))], [500]⟩)
else
(bif (decide (m9_3 = 4)) then
 callK (vr 30 0 [(.ptr 0 0 0), (.t (.int .i64 2))] ⟨[(0, (.var [(.t (.list 3 nn_488 l_489)), (.t (.bool b_493))]))], []⟩) fun v_542 b_543 =>
 asT v_542 fun x_544 =>
 asA x_544 fun l_545 =>
 consT l_545 fun v_546 l_547 =>
 asI .i64 v_546 fun x_548 =>
 consT l_547 fun v_549 l_550 =>
 asS v_549 fun s_551 =>
 consT l_550 fun v_552 l_553 =>
 asI .i64 v_552 fun x_554 =>
 endT l_553 <|
 consB 0 b_543 fun k_555 b_556 =>
 asVar k_555 fun l_557 =>
 consV l_557 fun v_558 l_559 =>
 asT v_558 fun x_560 =>
 asL 3 x_560 fun nn_561 l_562 =>
 consV l_559 fun v_563 l_564 =>
 asT v_563 fun x_565 =>
 asB x_565 fun b_566 =>
 endV l_564 <|
 endB b_556 <|
 some ((.t (.agg [(.int .i64 x_16), (.int .i64 x_36), (.int .i64 x_24), (.int .i64 x_554), (.int .i64 x_481)])), ⟨[(0, (.var [(.t (.list 3 nn_561 l_562)), (.t (.bool b_566))]))], [500]⟩)
else
(bif (decide (m9_3 = 5)) then
 callK (vr 62 0 [(.ptr 0 0 0)] ⟨[(0, (.var [(.t (.list 3 nn_488 l_489)), (.t (.bool b_493))]))], []⟩) fun v_567 b_568 =>
 asT v_567 fun x_569 =>
 asI .i64 x_569 fun x_570 =>
 consB 0 b_568 fun k_571 b_572 =>
 asVar k_571 fun l_573 =>
 consV l_573 fun v_574 l_575 =>
 asT v_574 fun x_576 =>
 asL 3 x_576 fun nn_577 l_578 =>
 consV l_575 fun v_579 l_580 =>
 asT v_579 fun x_581 =>
 asB x_581 fun b_582 =>
 endV l_580 <|
 endB b_572 <|
 some ((.t (.agg [(.int .i64 x_16), (.int .i64 x_36), (.int .i64 x_24), (.int .i64 x_28), (.int .i64 x_570)])), ⟨[(0, (.var [(.t (.list 3 nn_577 l_578)), (.t (.bool b_582))]))], [500]⟩)
else
 some ((.t (.agg [(.int .i64 x_16), (.int .i64 x_36), (.int .i64 x_24), (.int .i64 x_28), (.int .i64 x_481)])), ⟨[(0, (.var [(.t (.list 3 nn_488 l_489)), (.t (.bool b_493))]))], [500]⟩))))))
else
(bif (decide (m9_3 = 1)) then
 callK (vr 61 0 [(.ptr 0 0 0), (.t (.str ⟨#[114]⟩))] ⟨[(0, (.var [(.t (.list 3 nn_43 l_44)), (.t (.bool b_48))]))], []⟩) fun v_583 b_584 =>
 asT v_583 fun x_585 =>
 asI .i64 x_585 fun x_586 =>
 consB 0 b_584 fun k_587 b_588 =>
 asVar k_587 fun l_589 =>
 consV l_589 fun v_590 l_591 =>
 asT v_590 fun x_592 =>
 asL 3 x_592 fun nn_593 l_594 =>
 consV l_591 fun v_595 l_596 =>
 asT v_595 fun x_597 =>
 asB x_597 fun b_598 =>
 endV l_596 <|
 endB b_588 <|
 some ((.t (.agg [(.int .i64 x_16), (.int .i64 x_36), (.int .i64 x_24), (.int .i64 x_586), (.int .i64 x_32)])), ⟨[(0, (.var [(.t (.list 3 nn_593 l_594)), (.t (.bool b_598))]))], [500]⟩)
else
(bif (decide (m9_3 = 2)) then
 callK (vr 61 0 [(.ptr 0 0 0), (.t (.str ⟨#[114]⟩))] ⟨[(0, (.var [(.t (.list 3 nn_43 l_44)), (.t (.bool b_48))]))], []⟩) fun v_599 b_600 =>
 asT v_599 fun x_601 =>
 asI .i64 x_601 fun x_602 =>
 consB 0 b_600 fun k_603 b_604 =>
 asVar k_603 fun l_605 =>
 consV l_605 fun v_606 l_607 =>
 asT v_606 fun x_608 =>
 asL 3 x_608 fun nn_609 l_610 =>
 consV l_607 fun v_611 l_612 =>
 asT v_611 fun x_613 =>
 asB x_613 fun b_614 =>
 endV l_612 <|
 endB b_604 <|
 some ((.t (.agg [(.int .i64 x_16), (.int .i64 x_36), (.int .i64 x_24), (.int .i64 x_602), (.int .i64 x_32)])), ⟨[(0, (.var [(.t (.list 3 nn_609 l_610)), (.t (.bool b_614))]))], [500]⟩)
else
(bif (decide (m9_3 = 3)) then
 callK (vr 61 0 [(.ptr 0 0 0), (.t (.str ⟨#[97]⟩))] ⟨[(0, (.var [(.t (.list 3 nn_43 l_44)), (.t (.bool b_48))]))], []⟩) fun v_615 b_616 =>
 asT v_615 fun x_617 =>
 asI .i64 x_617 fun x_618 =>
 consB 0 b_616 fun k_619 b_620 =>
 asVar k_619 fun l_621 =>
 consV l_621 fun v_622 l_623 =>
 asT v_622 fun x_624 =>
 asL 3 x_624 fun nn_625 l_626 =>
 consV l_623 fun v_627 l_628 =>
 asT v_627 fun x_629 =>
 asB x_629 fun b_630 =>
 endV l_628 <|
 endB b_620 <|
 some ((.t (.agg [(.int .i64 x_16), (.int .i64 x_36), (.int .i64 x_24), (.int .i64 x_618), (.int .i64 x_32)])), ⟨[(0, (.var [(.t (.list 3 nn_625 l_626)), (.t (.bool b_630))]))], [500]⟩)
else
(bif (decide (m9_3 = 4)) then
 callK (vr 30 0 [(.ptr 0 0 0), (.t (.int .i64 2))] ⟨[(0, (.var [(.t (.list 3 nn_43 l_44)), (.t (.bool b_48))]))], []⟩) fun v_631 b_632 =>
 asT v_631 fun x_633 =>
 asA x_633 fun l_634 =>
 consT l_634 fun v_635 l_636 =>
 asI .i64 v_635 fun x_637 =>
 consT l_636 fun v_638 l_639 =>
 asS v_638 fun s_640 =>
 consT l_639 fun v_641 l_642 =>
 asI .i64 v_641 fun x_643 =>
 endT l_642 <|
 consB 0 b_632 fun k_644 b_645 =>
 asVar k_644 fun l_646 =>
 consV l_646 fun v_647 l_648 =>
 asT v_647 fun x_649 =>
 asL 3 x_649 fun nn_650 l_651 =>
 consV l_648 fun v_652 l_653 =>
 asT v_652 fun x_654 =>
 asB x_654 fun b_655 =>
 endV l_653 <|
 endB b_645 <|
 some ((.t (.agg [(.int .i64 x_16), (.int .i64 x_36), (.int .i64 x_24), (.int .i64 x_643), (.int .i64 x_32)])), ⟨[(0, (.var [(.t (.list 3 nn_650 l_651)), (.t (.bool b_655))]))], [500]⟩)
else
(bif (decide (m9_3 = 5)) then
 callK (vr 62 0 [(.ptr 0 0 0)] ⟨[(0, (.var [(.t (.list 3 nn_43 l_44)), (.t (.bool b_48))]))], []⟩) fun v_656 b_657 =>
 asT v_656 fun x_658 =>
 asI .i64 x_658 fun x_659 =>
 consB 0 b_657 fun k_660 b_661 =>
 asVar k_660 fun l_662 =>
 consV l_662 fun v_663 l_664 =>
 asT v_663 fun x_665 =>
 asL 3 x_665 fun nn_666 l_667 =>
 consV l_664 fun v_668 l_669 =>
 asT v_668 fun x_670 =>
 asB x_670 fun b_671 =>
 endV l_669 <|
 endB b_661 <|
 some ((.t (.agg [(.int .i64 x_16), (.int .i64 x_36), (.int .i64 x_24), (.int .i64 x_28), (.int .i64 x_659)])), ⟨[(0, (.var [(.t (.list 3 nn_666 l_667)), (.t (.bool b_671))]))], [500]⟩)
else
 some ((.t (.agg [(.int .i64 x_16), (.int .i64 x_36), (.int .i64 x_24), (.int .i64 x_28), (.int .i64 x_32)])), ⟨[(0, (.var [(.t (.list 3 nn_43 l_44)), (.t (.bool b_48))]))], [500]⟩)))))))))))
else
(bif (decide (m9_1 = 2)) then
 callK (vr 61 0 [(.ptr 0 0 0), (.t (.str ⟨#[114]⟩))] ⟨[(0, (.var [(.t (.list 3 m0_0z m0_0)), (.t (.bool m0_1))]))], []⟩) fun v_672 b_673 =>
 asT v_672 fun x_674 =>
 asI .i64 x_674 fun x_675 =>
 consB 0 b_673 fun k_676 b_677 =>
 asVar k_676 fun l_678 =>
 consV l_678 fun v_679 l_680 =>
 asT v_679 fun x_681 =>
 asL 3 x_681 fun nn_682 l_683 =>
 consV l_680 fun v_684 l_685 =>
 asT v_684 fun x_686 =>
 asB x_686 fun b_687 =>
 endV l_685 <|
 endB b_677 <|
(bif (decide (m9_2 = 1)) then
 callK (vr 61 0 [(.ptr 0 0 0), (.t (.str ⟨#[114]⟩))] ⟨[(0, (.var [(.t (.list 3 nn_682 l_683)), (.t (.bool b_687))]))], []⟩) fun v_688 b_689 =>
 asT v_688 fun x_690 =>
 asI .i64 x_690 fun x_691 =>
 consB 0 b_689 fun k_692 b_693 =>
 asVar k_692 fun l_694 =>
 consV l_694 fun v_695 l_696 =>
 asT v_695 fun x_697 =>
 asL 3 x_697 fun nn_698 l_699 =>
 consV l_696 fun v_700 l_701 =>
 asT v_700 fun x_702 =>
 asB x_702 fun b_703 =>
 endV l_701 <|
 endB b_693 <|
(bif (decide (m9_3 = 1)) then
 callK (vr 61 0 [(.ptr 0 0 0), (.t (.str ⟨#[114]⟩))] ⟨[(0, (.var [(.t (.list 3 nn_698 l_699)), (.t (.bool b_703))]))], []⟩) fun v_704 b_705 =>
 asT v_704 fun x_706 =>
 asI .i64 x_706 fun x_707 =>
 consB 0 b_705 fun k_708 b_709 =>
 asVar k_708 fun l_710 =>
 consV l_710 fun v_711 l_712 =>
 asT v_711 fun x_713 =>
 asL 3 x_713 fun nn_714 l_715 =>
 consV l_712 fun v_716 l_717 =>
 asT v_716 fun x_718 =>
 asB x_718 fun b_719 =>
 endV l_717 <|
 endB b_709 <|
 some ((.t (.agg [(.int .i64 x_16), (.int .i64 x_675), (.int .i64 x_691), (.int .i64 x_707), (.int .i64 x_32)])), ⟨[(0, (.var [(.t (.list 3 nn_714 l_715)), (.t (.bool b_719))]))], [500]⟩)
else
(bif (decide (m9_3 = 2)) then
 callK (vr 61 0 [(.ptr 0 0 0), (.t (.str ⟨#[114]⟩))] ⟨[(0, (.var [(.t (.list 3 nn_698 l_699)), (.t (.bool b_703))]))], []⟩) fun v_720 b_721 =>
 asT v_720 fun x_722 =>
 asI .i64 x_722 fun x_723 =>
 consB 0 b_721 fun k_724 b_725 =>
 asVar k_724 fun l_726 =>
 consV l_726 fun v_727 l_728 =>
 asT v_727 fun x_729 =>
 asL 3 x_729 fun nn_730 l_731 =>
 consV l_728 fun v_732 l_733 =>
 asT v_732 fun x_734 =>
 asB x_734 fun b_735 =>
 endV l_733 <|
 endB b_725 <|
 some ((.t (.agg [(.int .i64 x_16), (.int .i64 x_675), (.int .i64 x_691), (.int .i64 x_723), (.int .i64 x_32)])), ⟨[(0, (.var [(.t (.list 3 nn_730 l_731)), (.t (.bool b_735))]))], [500]⟩)
else
(bif (decide (m9_3 = 3)) then
 callK (vr 61 0 [(.ptr 0 0 0), (.t (.str ⟨#[97]⟩))] ⟨[(0, (.var [(.t (.list 3 nn_698 l_699)), (.t (.bool b_703))]))], []⟩) fun v_736 b_737 =>
 asT v_736 fun x_738 =>
 asI .i64 x_738 fun x_739 =>
 consB 0 b_737 fun k_740 b_741 =>
 asVar k_740 fun l_742 =>
 consV l_742 fun v_743 l_744 =>
 asT v_743 fun x_745 =>
 asL 3 x_745 fun nn_746 l_747 =>
 consV l_744 fun v_748 l_749 =>
 asT v_748 fun x_750 =>
 asB x_750 fun b_751 =>
 endV l_749 <|
 endB b_741 <|
 some ((.t (.agg [(.int .i64 x_16), (.int .i64 x_675), (.int .i64 x_691), (.int .i64 x_739), (.int .i64 x_32)])), ⟨[(0, (.var [(.t (.list 3 nn_746 l_747)), (.t (.bool b_751))]))], [500]⟩)
else
(bif (decide (m9_3 = 4)) then
 callK (vr 30 0 [(.ptr 0 0 0), (.t (.int .i64 2))] ⟨[(0, (.var [(.t (.list 3 nn_698 l_699)), (.t (.bool b_703))]))], []⟩) fun v_752 b_753 =>
 asT v_752 fun x_754 =>
 asA x_754 fun l_755 =>
 consT l_755 fun v_756 l_757 =>
 asI .i64 v_756 fun x_758 =>
 consT l_757 fun v_759 l_760 =>
 asS v_759 fun s_761 =>
 consT l_760 fun v_762 l_763 =>
 asI .i64 v_762 fun x_764 =>
 endT l_763 <|
 consB 0 b_753 fun k_765 b_766 =>
 asVar k_765 fun l_767 =>
 consV l_767 fun v_768 l_769 =>
 asT v_768 fun x_770 =>
 asL 3 x_770 fun nn_771 l_772 =>
 consV l_769 fun v_773 l_774 =>
 asT v_773 fun x_775 =>
 asB x_775 fun b_776 =>
 endV l_774 <|
 endB b_766 <|
 some ((.t (.agg [(.int .i64 x_16), (.int .i64 x_675), (.int .i64 x_691), (.int .i64 x_764), (.int .i64 x_32)])), ⟨[(0, (.var [(.t (.list 3 nn_771 l_772)), (.t (.bool b_776))]))], [500]⟩)
else
(bif (decide (m9_3 = 5)) then
 callK (vr 62 0 [(.ptr 0 0 0)] ⟨[(0, (.var [(.t (.list 3 nn_698 l_699)), (.t (.bool b_703))]))], []⟩) fun v_777 b_778 =>
 asT v_777 fun x_779 =>
 asI .i64 x_779 fun x_780 =>
 consB 0 b_778 fun k_781 b_782 =>
 asVar k_781 fun l_783 =>
 consV l_783 fun v_784 l_785 =>
 asT v_784 fun x_786 =>
 asL 3 x_786 fun nn_787 l_788 =>
 consV l_785 fun v_789 l_790 =>
 asT v_789 fun x_791 =>
 asB x_791 fun b_792 =>
 endV l_790 <|
 endB b_782 <|
 some ((.t (.agg [(.int .i64 x_16), (.int .i64 x_675), (.int .i64 x_691), (.int .i64 x_28), (.int .i64 x_780)])), ⟨[(0, (.var [(.t (.list 3 nn_787 l_788)), (.t (.bool b_792))]))], [500]⟩)
else
 some ((.t (.agg [(.int .i64 x_16), (.int .i64 x_675), (.int .i64 x_691), (.int .i64 x_28), (.int .i64 x_32)])), ⟨[(0, (.var [(.t (.list 3 nn_698 l_699)), (.t (.bool b_703))]))], [500]⟩))))))
else
(bif (decide (m9_2 = 2)) then
 callK (vr 61 0 [(.ptr 0 0 0), (.t (.str ⟨#[114]⟩))] ⟨[(0, (.var [(.t (.list 3 nn_682 l_683)), (.t (.bool b_687))]))], []⟩) fun v_793 b_794 =>
 asT v_793 fun x_795 =>
 asI .i64 x_795 fun x_796 =>
 consB 0 b_794 fun k_797 b_798 =>
 asVar k_797 fun l_799 =>
 consV l_799 fun v_800 l_801 =>
 asT v_800 fun x_802 =>
 asL 3 x_802 fun nn_803 l_804 =>
 consV l_801 fun v_805 l_806 =>
 asT v_805 fun x_807 =>
 asB x_807 fun b_808 =>
 endV l_806 <|
 endB b_798 <|
(bif (decide (m9_3 = 1)) then
 callK (vr 61 0 [(.ptr 0 0 0), (.t (.str ⟨#[114]⟩))] ⟨[(0, (.var [(.t (.list 3 nn_803 l_804)), (.t (.bool b_808))]))], []⟩) fun v_809 b_810 =>
 asT v_809 fun x_811 =>
 asI .i64 x_811 fun x_812 =>
 consB 0 b_810 fun k_813 b_814 =>
 asVar k_813 fun l_815 =>
 consV l_815 fun v_816 l_817 =>
 asT v_816 fun x_818 =>
 asL 3 x_818 fun nn_819 l_820 =>
 consV l_817 fun v_821 l_822 =>
 asT v_821 fun x_823 =>
 asB x_823 fun b_824 =>
 endV l_822 <|
 endB b_814 <|
 some ((.t (.agg [(.int .i64 x_16), (.int .i64 x_675), (.int .i64 x_796), (.int .i64 x_812), (.int .i64 x_32)])), ⟨[(0, (.var [(.t (.list 3 nn_819 l_820)), (.t (.bool b_824))]))], [500]⟩)
else
(bif (decide (m9_3 = 2)) then
 callK (vr 61 0 [(.ptr 0 0 0), (.t (.str ⟨#[114]⟩))] ⟨[(0, (.var [(.t (.list 3 nn_803 l_804)), (.t (.bool b_808))]))], []⟩) fun v_825 b_826 =>
 asT v_825 fun x_827 =>
 asI .i64 x_827 fun x_828 =>
 consB 0 b_826 fun k_829 b_830 =>
 asVar k_829 fun l_831 =>
 consV l_831 fun v_832 l_833 =>
 asT v_832 fun x_834 =>
 asL 3 x_834 fun nn_835 l_836 =>
 consV l_833 fun v_837 l_838 =>
 asT v_837 fun x_839 =>
 asB x_839 fun b_840 =>
 endV l_838 <|
 endB b_830 <|
 some ((.t (.agg [(.int .i64 x_16), (.int .i64 x_675), (.int .i64 x_796), (.int .i64 x_828), (.int .i64 x_32)])), ⟨[(0, (.var [(.t (.list 3 nn_835 l_836)), (.t (.bool b_840))]))], [500]⟩)
else
(bif (decide (m9_3 = 3)) then
 callK (vr 61 0 [(.ptr 0 0 0), (.t (.str ⟨#[97]⟩))] ⟨[(0, (.var [(.t (.list 3 nn_803 l_804)), (.t (.bool b_808))]))], []⟩) fun v_841 b_842 =>
 asT v_841 fun x_843 =>
 asI .i64 x_843 fun x_844 =>
 consB 0 b_842 fun k_845 b_846 =>
 asVar k_845 fun l_847 =>
 consV l_847 fun v_848 l_849 =>
 asT v_848 fun x_850 =>
 asL 3 x_850 fun nn_851 l_852 =>
 consV l_849 fun v_853 l_854 =>
 asT v_853 fun x_855 =>
 asB x_855 fun b_856 =>
 endV l_854 <|
 endB b_846 <|
 some ((.t (.agg [(.int .i64 x_16), (.int .i64 x_675), (.int .i64 x_796), (.int .i64 x_844), (.int .i64 x_32)])), ⟨[(0, (.var [(.t (.list 3 nn_851 l_852)), (.t (.bool b_856))]))], [500]⟩)
else
(bif (decide (m9_3 = 4)) then
 callK (vr 30 0 [(.ptr 0 0 0), (.t (.int .i64 2))] ⟨[(0, (.var [(.t (.list 3 nn_803 l_804)), (.t (.bool b_808))]))], []⟩) fun v_857 b_858 =>
 asT v_857 fun x_859 =>
 asA x_859 fun l_860 =>
 consT l_860 fun v_861 l_862 =>
 asI .i64 v_861 fun x_863 =>
 consT l_862 fun v_864 l_865 =>
 asS v_864 fun s_866 =>
 consT l_865 fun v_867 l_868 =>
 asI .i64 v_867 fun x_869 =>
 endT l_868 <|
 consB 0 b_858 fun k_870 b_871 =>
 asVar k_870 fun l_872 =>
 consV l_872 fun v_873 l_874 =>
 asT v_873 fun x_875 =>
 asL 3 x_875 fun nn_876 l_877 =>
 consV l_874 fun v_878 l_879 =>
 asT v_878 fun x_880 =>
 asB x_880 fun b_881 =>
 endV l_879 <|
 endB b_871 <|
 some ((.t (.agg [(.int .i64 x_16), (.int .i64 x_675), (.int .i64 x_796), (.int .i64 x_869), (.int .i64 x_32)])), ⟨[(0, (.var [(.t (.list 3 nn_876 l_877)), (.t (.bool b_881))]))], [500]⟩)
else
(bif (decide (m9_3 = 5)) then
 callK (vr 62 0 [(.ptr 0 0 0)] ⟨[(0, (.var [(.t (.list 3 nn_803 l_804)), (.t (.bool b_808))]))], []⟩) fun v_882 b_883 =>
 asT v_882 fun x_884 =>
 asI .i64 x_884 fun x_885 =>
 consB 0 b_883 fun k_886 b_887 =>
 asVar k_886 fun l_888 =>
 consV l_888 fun v_889 l_890 =>
 asT v_889 fun x_891 =>
 asL 3 x_891 fun nn_892 l_893 =>
 consV l_890 fun v_894 l_895 =>
 asT v_894 fun x_896 =>
 asB x_896 fun b_897 =>
 endV l_895 <|
 endB b_887 <|
 some ((.t (.agg [(.int .i64 x_16), (.int .i64 x_675), (.int .i64 x_796), (.int .i64 x_28), (.int .i64 x_885)])), ⟨[(0, (.var [(.t (.list 3 nn_892 l_893)), (.t (.bool b_897))]))], [500]⟩)
else
 some ((.t (.agg [(.int .i64 x_16), (.int .i64 x_675), (.int .i64 x_796), (.int .i64 x_28), (.int .i64 x_32)])), ⟨[(0, (.var [(.t (.list 3 nn_803 l_804)), (.t (.bool b_808))]))], [500]⟩))))))
else
(bif (decide (m9_2 = 3)) then
 callK (vr 61 0 [(.ptr 0 0 0), (.t (.str ⟨#[97]⟩))] ⟨[(0, (.var [(.t (.list 3 nn_682 l_683)), (.t (.bool b_687))]))], []⟩) fun v_898 b_899 =>
 asT v_898 fun x_900 =>
 asI .i64 x_900 fun x_901 =>
 consB 0 b_899 fun k_902 b_903 =>
 asVar k_902 fun l_904 =>
 consV l_904 fun v_905 l_906 =>
 asT v_905 fun x_907 =>
 asL 3 x_907 fun nn_908 l_909 =>
 consV l_906 fun v_910 l_911 =>
 asT v_910 fun x_912 =>
 asB x_912 fun b_913 =>
 endV l_911 <|
 endB b_903 <|
(bif (decide (m9_3 = 1)) then
 callK (vr 61 0 [(.ptr 0 0 0), (.t (.str ⟨#[114]⟩))] ⟨[(0, (.var [(.t (.list 3 nn_908 l_909)), (.t (.bool b_913))]))], []⟩) fun v_914 b_915 =>
 asT v_914 fun x_916 =>
 asI .i64 x_916 fun x_917 =>
 consB 0 b_915 fun k_918 b_919 =>
 asVar k_918 fun l_920 =>
 consV l_920 fun v_921 l_922 =>
 asT v_921 fun x_923 =>
 asL 3 x_923 fun nn_924 l_925 =>
 consV l_922 fun v_926 l_927 =>
 asT v_926 fun x_928 =>
 asB x_928 fun b_929 =>
 endV l_927 <|
 endB b_919 <|
 some ((.t (.agg [(.int .i64 x_16), (.int .i64 x_675), (.int .i64 x_901), (.int .i64 x_917), (.int .i64 x_32)])), ⟨[(0, (.var [(.t (.list 3 nn_924 l_925)), (.t (.bool b_929))]))], [500]⟩)
else
(bif (decide (m9_3 = 2)) then
 callK (vr 61 0 [(.ptr 0 0 0), (.t (.str ⟨#[114]⟩))] ⟨[(0, (.var [(.t (.list 3 nn_908 l_909)), (.t (.bool b_913))]))], []⟩) fun v_930 b_931 =>
 asT v_930 fun x_932 =>
 asI .i64 x_932 fun x_933 =>
 consB 0 b_931 fun k_934 b_935 =>
 asVar k_934 fun l_936 =>
 consV l_936 fun v_937 l_938 =>
 asT v_937 fun x_939 =>
 asL 3 x_939 fun nn_940 l_941 =>
 consV l_938 fun v_942 l_943 =>
 asT v_942 fun x_944 =>
 asB x_944 fun b_945 =>
 endV l_943 <|
 endB b_935 <|
 some ((.t (.agg [(.int .i64 x_16), (.int .i64 x_675), (.int .i64 x_901), (.int .i64 x_933), (.int .i64 x_32)])), ⟨[(0, (.var [(.t (.list 3 nn_940 l_941)), (.t (.bool b_945))]))], [500]⟩)
else
(bif (decide (m9_3 = 3)) then
 callK (vr 61 0 [(.ptr 0 0 0), (.t (.str ⟨#[97]⟩))] ⟨[(0, (.var [(.t (.list 3 nn_908 l_909)), (.t (.bool b_913))]))], []⟩) fun v_946 b_947 =>
 asT v_946 fun x_948 =>
 asI .i64 x_948 fun x_949 =>
 consB 0 b_947 fun k_950 b_951 =>
 asVar k_950 fun l_952 =>
 consV l_952 fun v_953 l_954 =>
 asT v_953 fun x_955 =>
 asL 3 x_955 fun nn_956 l_957 =>
 consV l_954 fun v_958 l_959 =>
 asT v_958 fun x_960 =>
 asB x_960 fun b_961 =>
 endV l_959 <|
 endB b_951 <|
 some ((.t (.agg [(.int .i64 x_16), (.int .i64 x_675), (.int .i64 x_901), (.int .i64 x_949), (.int .i64 x_32)])), ⟨[(0, (.var [(.t (.list 3 nn_956 l_957)), (.t (.bool b_961))]))], [500]⟩)
else
(bif (decide (m9_3 = 4)) then
 callK (vr 30 0 [(.ptr 0 0 0), (.t (.int .i64 2))] ⟨[(0, (.var [(.t (.list 3 nn_908 l_909)), (.t (.bool b_913))]))], []⟩) fun v_962 b_963 =>
 asT v_962 fun x_964 =>
 asA x_964 fun l_965 =>
 consT l_965 fun v_966 l_967 =>
 asI .i64 v_966 fun x_968 =>
 consT l_967 fun v_969 l_970 =>
 asS v_969 fun s_971 =>
 consT l_970 fun v_972 l_973 =>
 asI .i64 v_972 fun x_974 =>
 endT l_973 <|
 consB 0 b_963 fun k_975 b_976 =>
 asVar k_975 fun l_977 =>
 consV l_977 fun v_978 l_979 =>
 asT v_978 fun x_980 =>
 asL 3 x_980 fun nn_981 l_982 =>
 consV l_979 fun v_983 l_984 =>
 asT v_983 fun x_985 =>
 asB x_985 fun b_986 =>
 endV l_984 <|
 endB b_976 <|
 some ((.t (.agg [(.int .i64 x_16), (.int .i64 x_675), (.int .i64 x_901), (.int .i64 x_974), (.int .i64 x_32)])), ⟨[(0, (.var [(.t (.list 3 nn_981 l_982)), (.t (.bool b_986))]))], [500]⟩)
else
(bif (decide (m9_3 = 5)) then
 callK (vr 62 0 [(.ptr 0 0 0)] ⟨[(0, (.var [(.t (.list 3 nn_908 l_909)), (.t (.bool b_913))]))], []⟩) fun v_987 b_988 =>
 asT v_987 fun x_989 =>
 asI .i64 x_989 fun x_990 =>
 consB 0 b_988 fun k_991 b_992 =>
 asVar k_991 fun l_993 =>
 consV l_993 fun v_994 l_995 =>
 asT v_994 fun x_996 =>
 asL 3 x_996 fun nn_997 l_998 =>
 consV l_995 fun v_999 l_1000 =>
 asT v_999 fun x_1001 =>
 asB x_1001 fun b_1002 =>
 endV l_1000 <|
 endB b_992 <|
 some ((.t (.agg [(.int .i64 x_16), (.int .i64 x_675), (.int .i64 x_901), (.int .i64 x_28), (.int .i64 x_990)])), ⟨[(0, (.var [(.t (.list 3 nn_997 l_998)), (.t (.bool b_1002))]))], [500]⟩)
else
 some ((.t (.agg [(.int .i64 x_16), (.int .i64 x_675), (.int .i64 x_901), (.int .i64 x_28), (.int .i64 x_32)])), ⟨[(0, (.var [(.t (.list 3 nn_908 l_909)), (.t (.bool b_913))]))], [500]⟩))))))
else
(bif (decide (m9_2 = 4)) then
 callK (vr 30 0 [(.ptr 0 0 0), (.t (.int .i64 2))] ⟨[(0, (.var [(.t (.list 3 nn_682 l_683)), (.t (.bool b_687))]))], []⟩) fun v_1003 b_1004 =>
 asT v_1003 fun x_1005 =>
 asA x_1005 fun l_1006 =>
 consT l_1006 fun v_1007 l_1008 =>
 asI .i64 v_1007 fun x_1009 =>
 consT l_1008 fun v_1010 l_1011 =>
 asS v_1010 fun s_1012 =>
 consT l_1011 fun v_1013 l_1014 =>
 asI .i64 v_1013 fun x_1015 =>
 endT l_1014 <|
 consB 0 b_1004 fun k_1016 b_1017 =>
 asVar k_1016 fun l_1018 =>
 consV l_1018 fun v_1019 l_1020 =>
 asT v_1019 fun x_1021 =>
 asL 3 x_1021 fun nn_1022 l_1023 =>
 consV l_1020 fun v_1024 l_1025 =>
 asT v_1024 fun x_1026 =>
 asB x_1026 fun b_1027 =>
 endV l_1025 <|
 endB b_1017 <|
(bif (decide (m9_3 = 1)) then
 callK (vr 61 0 [(.ptr 0 0 0), (.t (.str ⟨#[114]⟩))] ⟨[(0, (.var [(.t (.list 3 nn_1022 l_1023)), (.t (.bool b_1027))]))], []⟩) fun v_1028 b_1029 =>
 asT v_1028 fun x_1030 =>
 asI .i64 x_1030 fun x_1031 =>
 consB 0 b_1029 fun k_1032 b_1033 =>
 asVar k_1032 fun l_1034 =>
 consV l_1034 fun v_1035 l_1036 =>
 asT v_1035 fun x_1037 =>
 asL 3 x_1037 fun nn_1038 l_1039 =>
 consV l_1036 fun v_1040 l_1041 =>
 asT v_1040 fun x_1042 =>
 asB x_1042 fun b_1043 =>
 endV l_1041 <|
 endB b_1033 <|
 some ((.t (.agg [(.int .i64 x_16), (.int .i64 x_675), (.int .i64 x_1015), (.int .i64 x_1031), (.int .i64 x_32)])), ⟨[(0, (.var [(.t (.list 3 nn_1038 l_1039)), (.t (.bool b_1043))]))], [500]⟩)
else
(bif (decide (m9_3 = 2)) then
 callK (vr 61 0 [(.ptr 0 0 0), (.t (.str ⟨#[114]⟩))] ⟨[(0, (.var [(.t (.list 3 nn_1022 l_1023)), (.t (.bool b_1027))]))], []⟩) fun v_1044 b_1045 =>
 asT v_1044 fun x_1046 =>
 asI .i64 x_1046 fun x_1047 =>
 consB 0 b_1045 fun k_1048 b_1049 =>
 asVar k_1048 fun l_1050 =>
 consV l_1050 fun v_1051 l_1052 =>
 asT v_1051 fun x_1053 =>
 asL 3 x_1053 fun nn_1054 l_1055 =>
 consV l_1052 fun v_1056 l_1057 =>
 asT v_1056 fun x_1058 =>
 asB x_1058 fun b_1059 =>
 endV l_1057 <|
 endB b_1049 <|
 some ((.t (.agg [(.int .i64 x_16), (.int .i64 x_675), (.int .i64 x_1015), (.int .i64 x_1047), (.int .i64 x_32)])), ⟨[(0, (.var [(.t (.list 3 nn_1054 l_1055)), (.t (.bool b_1059))]))], [500]⟩)
else
(bif (decide (m9_3 = 3)) then
 callK (vr 61 0 [(.ptr 0 0 0), (.t (.str ⟨#[97]⟩))] ⟨[(0, (.var [(.t (.list 3 nn_1022 l_1023)), (.t (.bool b_1027))]))], []⟩) fun v_1060 b_1061 =>
 asT v_1060 fun x_1062 =>
 asI .i64 x_1062 fun x_1063 =>
 consB 0 b_1061 fun k_1064 b_1065 =>
 asVar k_1064 fun l_1066 =>
 consV l_1066 fun v_1067 l_1068 =>
 asT v_1067 fun x_1069 =>
 asL 3 x_1069 fun nn_1070 l_1071 =>
 consV l_1068 fun v_1072 l_1073 =>
 asT v_1072 fun x_1074 =>
 asB x_1074 fun b_1075 =>
 endV l_1073 <|
 endB b_1065 <|
 some ((.t (.agg [(.int .i64 x_16), (.int .i64 x_675), (.int .i64 x_1015), (.int .i64 x_1063), (.int .i64 x_32)])), ⟨[(0, (.var [(.t (.list 3 nn_1070 l_1071)), (.t (.bool b_1075))]))], [500]⟩)
else
(bif (decide (m9_3 = 4)) then
 callK (vr 30 0 [(.ptr 0 0 0), (.t (.int .i64 2))] ⟨[(0, (.var [(.t (.list 3 nn_1022 l_1023)), (.t (.bool b_1027))]))], []⟩) fun v_1076 b_1077 =>
 asT v_1076 fun x_1078 =>
 asA x_1078 fun l_1079 =>
 consT l_1079 fun v_1080 l_1081 =>
 asI .i64 v_1080 fun x_1082 =>
 consT l_1081 fun v_1083 l_1084 =>
 asS v_1083 fun s_1085 =>
 consT l_1084 fun v_1086 l_1087 =>
 asI .i64 v_1086 fun x_1088 =>
 endT l_1087 <|
 consB 0 b_1077 fun k_1089 b_1090 =>
 asVar k_1089 fun l_1091 =>
 consV l_1091 fun v_1092 l_1093 =>
 asT v_1092 fun x_1094 =>
 asL 3 x_1094 fun nn_1095 l_1096 =>
 consV l_1093 fun v_1097 l_1098 =>
 asT v_1097 fun x_1099 =>
 asB x_1099 fun b_1100 =>
 endV l_1098 <|
 endB b_1090 <|
 some ((.t (.agg [(.int .i64 x_16), (.int .i64 x_675), (.int .i64 x_1015), (.int .i64 x_1088), (.int .i64 x_32)])), ⟨[(0, (.var [(.t (.list 3 nn_1095 l_1096)), (.t (.bool b_1100))]))], [500]⟩)
else
(bif (decide (m9_3 = 5)) then
 callK (vr 62 0 [(.ptr 0 0 0)] ⟨[(0, (.var [(.t (.list 3 nn_1022 l_1023)), (.t (.bool b_1027))]))], []⟩) fun v_1101 b_1102 =>
 asT v_1101 fun x_1103 =>
 asI .i64 x_1103 fun x_1104 =>
 consB 0 b_1102 fun k_1105 b_1106 =>
 asVar k_1105 fun l_1107 =>
 consV l_1107 fun v_1108 l_1109 =>
 asT v_1108 fun x_1110 =>
 asL 3 x_1110 fun nn_1111 l_1112 =>
 consV l_1109 fun v_1113 l_1114 =>
 asT v_1113 fun x_1115 =>
 asB x_1115 fun b_1116 =>
 endV l_1114 <|
 endB b_1106 <|
 some ((.t (.agg [(.int .i64 x_16), (.int .i64 x_675), (.int .i64 x_1015), (.int .i64 x_28), (.int .i64 x_1104)])), ⟨[(0, (.var [(.t (.list 3 nn_1111 l_1112)), (.t (.bool b_1116))]))], [500]⟩)
else
 some ((.t (.agg [(.int .i64 x_16), (.int .i64 x_675), (.int .i64 x_1015), (.int .i64 x_28), (.int .i64 x_32)])), ⟨[(0, (.var [(.t (.list 3 nn_1022 l_1023)), (.t (.bool b_1027))]))], [500]⟩))))))
else
(bif (decide (m9_2 = 5)) then
 callK (vr 62 0 [(.ptr 0 0 0)] ⟨[(0, (.var [(.t (.list 3 nn_682 l_683)), (.t (.bool b_687))]))], []⟩) fun v_1117 b_1118 =>
 asT v_1117 fun x_1119 =>
 asI .i64 x_1119 fun x_1120 =>
 consB 0 b_1118 fun k_1121 b_1122 =>
 asVar k_1121 fun l_1123 =>
 consV l_1123 fun v_1124 l_1125 =>
 asT v_1124 fun x_1126 =>
 asL 3 x_1126 fun nn_1127 l_1128 =>
 consV l_1125 fun v_1129 l_1130 =>
 asT v_1129 fun x_1131 =>
 asB x_1131 fun b_1132 =>
 endV l_1130 <|
 endB b_1122 <|
(bif (decide (m9_3 = 1)) then
 callK (vr 61 0 [(.ptr 0 0 0), (.t (.str ⟨#[114]⟩))] ⟨[(0, (.var [(.t (.list 3 nn_1127 l_1128)), (.t (.bool b_1132))]))], []⟩) fun v_1133 b_1134 =>
 asT v_1133 fun x_1135 =>
 asI .i64 x_1135 fun x_1136 =>
 consB 0 b_1134 fun k_1137 b_1138 =>
 asVar k_1137 fun l_1139 =>
 consV l_1139 fun v_1140 l_1141 =>
 asT v_1140 fun x_1142 =>
 asL 3 x_1142 fun nn_1143 l_1144 =>
 consV l_1141 fun v_1145 l_1146 =>
 asT v_1145 fun x_1147 =>
 asB x_1147 fun b_1148 =>
 endV l_1146 <|
 endB b_1138 <|
 some ((.t (.agg [(.int .i64 x_16), (.int .i64 x_675), (.int .i64 x_24), (.int .i64 x_1136), (.int .i64 x_1120)])), ⟨[(0, (.var [(.t (.list 3 nn_1143 l_1144)), (.t (.bool b_1148))]))], [500]⟩)
else
(bif (decide (m9_3 = 2)) then
 callK (vr 61 0 [(.ptr 0 0 0), (.t (.str ⟨#[114]⟩))] ⟨[(0, (.var [(.t (.list 3 nn_1127 l_1128)), (.t (.bool b_1132))]))], []⟩) fun v_1149 b_1150 =>
 asT v_1149 fun x_1151 =>
 asI .i64 x_1151 fun x_1152 =>
 consB 0 b_1150 fun k_1153 b_1154 =>
 asVar k_1153 fun l_1155 =>
 consV l_1155 fun v_1156 l_1157 =>
 asT v_1156 fun x_1158 =>
 asL 3 x_1158 fun nn_1159 l_1160 =>
 consV l_1157 fun v_1161 l_1162 =>
 asT v_1161 fun x_1163 =>
 asB x_1163 fun b_1164 =>
 endV l_1162 <|
 endB b_1154 <|
 some ((.t (.agg [(.int .i64 x_16), (.int .i64 x_675), (.int .i64 x_24), (.int .i64 x_1152), (.int .i64 x_1120)])), ⟨[(0, (.var [(.t (.list 3 nn_1159 l_1160)), (.t (.bool b_1164))]))], [500]⟩)
else
(bif (decide (m9_3 = 3)) then
 callK (vr 61 0 [(.ptr 0 0 0), (.t (.str ⟨#[97]⟩))] ⟨[(0, (.var [(.t (.list 3 nn_1127 l_1128)), (.t (.bool b_1132))]))], []⟩) fun v_1165 b_1166 =>
 asT v_1165 fun x_1167 =>
 asI .i64 x_1167 fun x_1168 =>
 consB 0 b_1166 fun k_1169 b_1170 =>
 asVar k_1169 fun l_1171 =>
 consV l_1171 fun v_1172 l_1173 =>
 asT v_1172 fun x_1174 =>
 asL 3 x_1174 fun nn_1175 l_1176 =>
 consV l_1173 fun v_1177 l_1178 =>
 asT v_1177 fun x_1179 =>
 asB x_1179 fun b_1180 =>
 endV l_1178 <|
 endB b_1170 <|
 some ((.t (.agg [(.int .i64 x_16), (.int .i64 x_675), (.int .i64 x_24), (.int .i64 x_1168), (.int .i64 x_1120)])), ⟨[(0, (.var [(.t (.list 3 nn_1175 l_1176)), (.t (.bool b_1180))]))], [500]⟩)
else
(bif (decide (m9_3 = 4)) then
 callK (vr 30 0 [(.ptr 0 0 0), (.t (.int .i64 2))] ⟨[(0, (.var [(.t (.list 3 nn_1127 l_1128)), (.t (.bool b_1132))]))], []⟩) fun v_1181 b_1182 =>
 asT v_1181 fun x_1183 =>
 asA x_1183 fun l_1184 =>
 consT l_1184 fun v_1185 l_1186 =>
 asI .i64 v_1185 fun x_1187 =>
 consT l_1186 fun v_1188 l_1189 =>
 asS v_1188 fun s_1190 =>
 consT l_1189 fun v_1191 l_1192 =>
 asI .i64 v_1191 fun x_1193 =>
 endT l_1192 <|
 consB 0 b_1182 fun k_1194 b_1195 =>
 asVar k_1194 fun l_1196 =>
 consV l_1196 fun v_1197 l_1198 =>
 asT v_1197 fun x_1199 =>
 asL 3 x_1199 fun nn_1200 l_1201 =>
 consV l_1198 fun v_1202 l_1203 =>
 asT v_1202 fun x_1204 =>
 asB x_1204 fun b_1205 =>
 endV l_1203 <|
 endB b_1195 <|
 some ((.t (.agg [(.int .i64 x_16), (.int .i64 x_675), (.int .i64 x_24), (.int .i64 x_1193), (.int .i64 x_1120)])), ⟨[(0, (.var [(.t (.list 3 nn_1200 l_1201)), (.t (.bool b_1205))]))], [500]⟩)
else
(bif (decide (m9_3 = 5)) then
 callK (vr 62 0 [(.ptr 0 0 0)] ⟨[(0, (.var [(.t (.list 3 nn_1127 l_1128)), (.t (.bool b_1132))]))], []⟩) fun v_1206 b_1207 =>
 asT v_1206 fun x_1208 =>
 asI .i64 x_1208 fun x_1209 =>
 consB 0 b_1207 fun k_1210 b_1211 =>
 asVar k_1210 fun l_1212 =>
 consV l_1212 fun v_1213 l_1214 =>
 asT v_1213 fun x_1215 =>
 asL 3 x_1215 fun nn_1216 l_1217 =>
 consV l_1214 fun v_1218 l_1219 =>
 asT v_1218 fun x_1220 =>
 asB x_1220 fun b_1221 =>
 endV l_1219 <|
 endB b_1211 <|
 some ((.t (.agg [(.int .i64 x_16), (.int .i64 x_675), (.int .i64 x_24), (.int .i64 x_28), (.int .i64 x_1209)])), ⟨[(0, (.var [(.t (.list 3 nn_1216 l_1217)), (.t (.bool b_1221))]))], [500]⟩)
else
 some ((.t (.agg [(.int .i64 x_16), (.int .i64 x_675), (.int .i64 x_24), (.int .i64 x_28), (.int .i64 x_1120)])), ⟨[(0, (.var [(.t (.list 3 nn_1127 l_1128)), (.t (.bool b_1132))]))], [500]⟩))))))
else
(bif (decide (m9_3 = 1)) then
 callK (vr 61 0 [(.ptr 0 0 0), (.t (.str ⟨#[114]⟩))] ⟨[(0, (.var [(.t (.list 3 nn_682 l_683)), (.t (.bool b_687))]))], []⟩) fun v_1222 b_1223 =>
 asT v_1222 fun x_1224 =>
 asI .i64 x_1224 fun x_1225 =>
 consB 0 b_1223 fun k_1226 b_1227 =>
 asVar k_1226 fun l_1228 =>
 consV l_1228 fun v_1229 l_1230 =>
 asT v_1229 fun x_1231 =>
 asL 3 x_1231 fun nn_1232 l_1233 =>
 consV l_1230 fun v_1234 l_1235 =>
 asT v_1234 fun x_1236 =>
 asB x_1236 fun b_1237 =>
 endV l_1235 <|
 endB b_1227 <|
 some ((.t (.agg [(.int .i64 x_16), (.int .i64 x_675), (.int .i64 x_24), (.int .i64 x_1225), (.int .i64 x_32)])), ⟨[(0, (.var [(.t (.list 3 nn_1232 l_1233)), (.t (.bool b_1237))]))], [500]⟩)
else
(bif (decide (m9_3 = 2)) then
 callK (vr 61 0 [(.ptr 0 0 0), (.t (.str ⟨#[114]⟩))] ⟨[(0, (.var [(.t (.list 3 nn_682 l_683)), (.t (.bool b_687))]))], []⟩) fun v_1238 b_1239 =>
 asT v_1238 fun x_1240 =>
 asI .i64 x_1240 fun x_1241 =>
 consB 0 b_1239 fun k_1242 b_1243 =>
 asVar k_1242 fun l_1244 =>
 consV l_1244 fun v_1245 l_1246 =>
 asT v_1245 fun x_1247 =>
 asL 3 x_1247 fun nn_1248 l_1249 =>
 consV l_1246 fun v_1250 l_1251 =>
 asT v_1250 fun x_1252 =>
 asB x_1252 fun b_1253 =>
 endV l_1251 <|
 endB b_1243 <|
 some ((.t (.agg [(.int .i64 x_16), (.int .i64 x_675), (.int .i64 x_24), (.int .i64 x_1241), (.int .i64 x_32)])), ⟨[(0, (.var [(.t (.list 3 nn_1248 l_1249)), (.t (.bool b_1253))]))], [500]⟩)
else
(bif (decide (m9_3 = 3)) then
 callK (vr 61 0 [(.ptr 0 0 0), (.t (.str ⟨#[97]⟩))] ⟨[(0, (.var [(.t (.list 3 nn_682 l_683)), (.t (.bool b_687))]))], []⟩) fun v_1254 b_1255 =>
 asT v_1254 fun x_1256 =>
 asI .i64 x_1256 fun x_1257 =>
 consB 0 b_1255 fun k_1258 b_1259 =>
 asVar k_1258 fun l_1260 =>
 consV l_1260 fun v_1261 l_1262 =>
 asT v_1261 fun x_1263 =>
 asL 3 x_1263 fun nn_1264 l_1265 =>
 consV l_1262 fun v_1266 l_1267 =>
 asT v_1266 fun x_1268 =>
 asB x_1268 fun b_1269 =>
 endV l_1267 <|
 endB b_1259 <|
 some ((.t (.agg [(.int .i64 x_16), (.int .i64 x_675), (.int .i64 x_24), (.int .i64 x_1257), (.int .i64 x_32)])), ⟨[(0, (.var [(.t (.list 3 nn_1264 l_1265)), (.t (.bool b_1269))]))], [500]⟩)
else
(bif (decide (m9_3 = 4)) then
 callK (vr 30 0 [(.ptr 0 0 0), (.t (.int .i64 2))] ⟨[(0, (.var [(.t (.list 3 nn_682 l_683)), (.t (.bool b_687))]))], []⟩) fun v_1270 b_1271 =>
 asT v_1270 fun x_1272 =>
 asA x_1272 fun l_1273 =>
 consT l_1273 fun v_1274 l_1275 =>
 asI .i64 v_1274 fun x_1276 =>
 consT l_1275 fun v_1277 l_1278 =>
 asS v_1277 fun s_1279 =>
 consT l_1278 fun v_1280 l_1281 =>
 asI .i64 v_1280 fun x_1282 =>
 endT l_1281 <|
 consB 0 b_1271 fun k_1283 b_1284 =>
 asVar k_1283 fun l_1285 =>
 consV l_1285 fun v_1286 l_1287 =>
 asT v_1286 fun x_1288 =>
 asL 3 x_1288 fun nn_1289 l_1290 =>
 consV l_1287 fun v_1291 l_1292 =>
 asT v_1291 fun x_1293 =>
 asB x_1293 fun b_1294 =>
 endV l_1292 <|
 endB b_1284 <|
 some ((.t (.agg [(.int .i64 x_16), (.int .i64 x_675), (.int .i64 x_24), (.int .i64 x_1282), (.int .i64 x_32)])), ⟨[(0, (.var [(.t (.list 3 nn_1289 l_1290)), (.t (.bool b_1294))]))], [500]⟩)
else
(bif (decide (m9_3 = 5)) then
 callK (vr 62 0 [(.ptr 0 0 0)] ⟨[(0, (.var [(.t (.list 3 nn_682 l_683)), (.t (.bool b_687))]))], []⟩) fun v_1295 b_1296 =>
 asT v_1295 fun x_1297 =>
 asI .i64 x_1297 fun x_1298 =>
 consB 0 b_1296 fun k_1299 b_1300 =>
 asVar k_1299 fun l_1301 =>
 consV l_1301 fun v_1302 l_1303 =>
 asT v_1302 fun x_1304 =>
 asL 3 x_1304 fun nn_1305 l_1306 =>
 consV l_1303 fun v_1307 l_1308 =>
 asT v_1307 fun x_1309 =>
 asB x_1309 fun b_1310 =>
 endV l_1308 <|
 endB b_1300 <|
 some ((.t (.agg [(.int .i64 x_16), (.int .i64 x_675), (.int .i64 x_24), (.int .i64 x_28), (.int .i64 x_1298)])), ⟨[(0, (.var [(.t (.list 3 nn_1305 l_1306)), (.t (.bool b_1310))]))], [500]⟩)
else
 some ((.t (.agg [(.int .i64 x_16), (.int .i64 x_675), (.int .i64 x_24), (.int .i64 x_28), (.int .i64 x_32)])), ⟨[(0, (.var [(.t (.list 3 nn_682 l_683)), (.t (.bool b_687))]))], [500]⟩)))))))))))
else
(bif (decide (m9_1 = 3)) then
 callK (vr 61 0 [(.ptr 0 0 0), (.t (.str ⟨#[97]⟩))] ⟨[(0, (.var [(.t (.list 3 m0_0z m0_0)), (.t (.bool m0_1))]))], []⟩) fun v_1311 b_1312 =>
 asT v_1311 fun x_1313 =>
 asI .i64 x_1313 fun x_1314 =>
 consB 0 b_1312 fun k_1315 b_1316 =>
 asVar k_1315 fun l_1317 =>
 consV l_1317 fun v_1318 l_1319 =>
 asT v_1318 fun x_1320 =>
 asL 3 x_1320 fun nn_1321 l_1322 =>
 consV l_1319 fun v_1323 l_1324 =>
 asT v_1323 fun x_1325 =>
 asB x_1325 fun b_1326 =>
 endV l_1324 <|
 endB b_1316 <|
(bif (decide (m9_2 = 1)) then
 callK (vr 61 0 [(.ptr 0 0 0), (.t (.str ⟨#[114]⟩))] ⟨[(0, (.var [(.t (.list 3 nn_1321 l_1322)), (.t (.bool b_1326))]))], []⟩) fun v_1327 b_1328 =>
 asT v_1327 fun x_1329 =>
 asI .i64 x_1329 fun x_1330 =>
 consB 0 b_1328 fun k_1331 b_1332 =>
 asVar k_1331 fun l_1333 =>
 consV l_1333 fun v_1334 l_1335 =>
 asT v_1334 fun x_1336 =>
 asL 3 x_1336 fun nn_1337 l_1338 =>
 consV l_1335 fun v_1339 l_1340 =>
 asT v_1339 fun x_1341 =>
 asB x_1341 fun b_1342 =>
 endV l_1340 <|
 endB b_1332 <|
(bif (decide (m9_3 = 1)) then
 callK (vr 61 0 [(.ptr 0 0 0), (.t (.str ⟨#[114]⟩))] ⟨[(0, (.var [(.t (.list 3 nn_1337 l_1338)), (.t (.bool b_1342))]))], []⟩) fun v_1343 b_1344 =>
 asT v_1343 fun x_1345 =>
 asI .i64 x_1345 fun x_1346 =>
 consB 0 b_1344 fun k_1347 b_1348 =>
 asVar k_1347 fun l_1349 =>
 consV l_1349 fun v_1350 l_1351 =>
 asT v_1350 fun x_1352 =>
 asL 3 x_1352 fun nn_1353 l_1354 =>
 consV l_1351 fun v_1355 l_1356 =>
 asT v_1355 fun x_1357 =>
 asB x_1357 fun b_1358 =>
 endV l_1356 <|
 endB b_1348 <|
 some ((.t (.agg [(.int .i64 x_16), (.int .i64 x_1314), (.int .i64 x_1330), (.int .i64 x_1346), (.int .i64 x_32)])), ⟨[(0, (.var [(.t (.list 3 nn_1353 l_1354)), (.t (.bool b_1358))]))], [500]⟩)
else
(bif (decide (m9_3 = 2)) then
 callK (vr 61 0 [(.ptr 0 0 0), (.t (.str ⟨#[114]⟩))] ⟨[(0, (.var [(.t (.list 3 nn_1337 l_1338)), (.t (.bool b_1342))]))], []⟩) fun v_1359 b_1360 =>
 asT v_1359 fun x_1361 =>
 asI .i64 x_1361 fun x_1362 =>
 consB 0 b_1360 fun k_1363 b_1364 =>
 asVar k_1363 fun l_1365 =>
 consV l_1365 fun v_1366 l_1367 =>
 asT v_1366 fun x_1368 =>
 asL 3 x_1368 fun nn_1369 l_1370 =>
 consV l_1367 fun v_1371 l_1372 =>
 asT v_1371 fun x_1373 =>
 asB x_1373 fun b_1374 =>
 endV l_1372 <|
 endB b_1364 <|
 some ((.t (.agg [(.int .i64 x_16), (.int .i64 x_1314), (.int .i64 x_1330), (.int .i64 x_1362), (.int .i64 x_32)])), ⟨[(0, (.var [(.t (.list 3 nn_1369 l_1370)), (.t (.bool b_1374))]))], [500]⟩)
else
(bif (decide (m9_3 = 3)) then
 callK (vr 61 0 [(.ptr 0 0 0), (.t (.str ⟨#[97]⟩))] ⟨[(0, (.var [(.t (.list 3 nn_1337 l_1338)), (.t (.bool b_1342))]))], []⟩) fun v_1375 b_1376 =>
 asT v_1375 fun x_1377 =>
 asI .i64 x_1377 fun x_1378 =>
 consB 0 b_1376 fun k_1379 b_1380 =>
 asVar k_1379 fun l_1381 =>
 consV l_1381 fun v_1382 l_1383 =>
 asT v_1382 fun x_1384 =>
 asL 3 x_1384 fun nn_1385 l_1386 =>
 consV l_1383 fun v_1387 l_1388 =>
 asT v_1387 fun x_1389 =>
 asB x_1389 fun b_1390 =>
 endV l_1388 <|
 endB b_1380 <|
 some ((.t (.agg [(.int .i64 x_16), (.int .i64 x_1314), (.int .i64 x_1330), (.int .i64 x_1378), (.int .i64 x_32)])), ⟨[(0, (.var [(.t (.list 3 nn_1385 l_1386)), (.t (.bool b_1390))]))], [500]⟩)
else
(bif (decide (m9_3 = 4)) then
 callK (vr 30 0 [(.ptr 0 0 0), (.t (.int .i64 2))] ⟨[(0, (.var [(.t (.list 3 nn_1337 l_1338)), (.t (.bool b_1342))]))], []⟩) fun v_1391 b_1392 =>
 asT v_1391 fun x_1393 =>
 asA x_1393 fun l_1394 =>
 consT l_1394 fun v_1395 l_1396 =>
 asI .i64 v_1395 fun x_1397 =>
 consT l_1396 fun v_1398 l_1399 =>
 asS v_1398 fun s_1400 =>
 consT l_1399 fun v_1401 l_1402 =>
 asI .i64 v_1401 fun x_1403 =>
 endT l_1402 <|
 consB 0 b_1392 fun k_1404 b_1405 =>
 asVar k_1404 fun l_1406 =>
 consV l_1406 fun v_1407 l_1408 =>
 asT v_1407 fun x_1409 =>
 asL 3 x_1409 fun nn_1410 l_1411 =>
 consV l_1408 fun v_1412 l_1413 =>
 asT v_1412 fun x_1414 =>
 asB x_1414 fun b_1415 =>
 endV l_1413 <|
 endB b_1405 <|
 some ((.t (.agg [(.int .i64 x_16), (.int .i64 x_1314), (.int .i64 x_1330), (.int .i64 x_1403), (.int .i64 x_32)])), ⟨[(0, (.var [(.t (.list 3 nn_1410 l_1411)), (.t (.bool b_1415))]))], [500]⟩)
else
(bif (decide (m9_3 = 5)) then
 callK (vr 62 0 [(.ptr 0 0 0)] ⟨[(0, (.var [(.t (.list 3 nn_1337 l_1338)), (.t (.bool b_1342))]))], []⟩) fun v_1416 b_1417 =>
 asT v_1416 fun x_1418 =>
 asI .i64 x_1418 fun x_1419 =>
 consB 0 b_1417 fun k_1420 b_1421 =>
 asVar k_1420 fun l_1422 =>
 consV l_1422 fun v_1423 l_1424 =>
 asT v_1423 fun x_1425 =>
 asL 3 x_1425 fun nn_1426 l_1427 =>
 consV l_1424 fun v_1428 l_1429 =>
 asT v_1428 fun x_1430 =>
 asB x_1430 fun b_1431 =>
 endV l_1429 <|
 endB b_1421 <|
 some ((.t (.agg [(.int .i64 x_16), (.int .i64 x_1314), (.int .i64 x_1330), (.int .i64 x_28), (.int .i64 x_1419)])), ⟨[(0, (.var [(.t (.list 3 nn_1426 l_1427)), (.t (.bool b_1431))]))], [500]⟩)
else
 some ((.t (.agg [(.int .i64 x_16), (.int .i64 x_1314), (.int .i64 x_1330), (.int .i64 x_28), (.int .i64 x_32)])), ⟨[(0, (.var [(.t (.list 3 nn_1337 l_1338)), (.t (.bool b_1342))]))], [500]⟩))))))
else
(bif (decide (m9_2 = 2)) then
 callK (vr 61 0 [(.ptr 0 0 0), (.t (.str ⟨#[114]⟩))] ⟨[(0, (.var [(.t (.list 3 nn_1321 l_1322)), (.t (.bool b_1326))]))], []⟩) fun v_1432 b_1433 =>
 asT v_1432 fun x_1434 =>
 asI .i64 x_1434 fun x_1435 =>
 consB 0 b_1433 fun k_1436 b_1437 =>
 asVar k_1436 fun l_1438 =>
 consV l_1438 fun v_1439 l_1440 =>
 asT v_1439 fun x_1441 =>
 asL 3 x_1441 fun nn_1442 l_1443 =>
 consV l_1440 fun v_1444 l_1445 =>
 asT v_1444 fun x_1446 =>
 asB x_1446 fun b_1447 =>
 endV l_1445 <|
 endB b_1437 <|
(bif (decide (m9_3 = 1)) then
 callK (vr 61 0 [(.ptr 0 0 0), (.t (.str ⟨#[114]⟩))] ⟨[(0, (.var [(.t (.list 3 nn_1442 l_1443)), (.t (.bool b_1447))]))], []⟩) fun v_1448 b_1449 =>
 asT v_1448 fun x_1450 =>
 asI .i64 x_1450 fun x_1451 =>
 consB 0 b_1449 fun k_1452 b_1453 =>
 asVar k_1452 fun l_1454 =>
 consV l_1454 fun v_1455 l_1456 =>
 asT v_1455 fun x_1457 =>
 asL 3 x_1457 fun nn_1458 l_1459 =>
 consV l_1456 fun v_1460 l_1461 =>
 asT v_1460 fun x_1462 =>
 asB x_1462 fun b_1463 =>
 endV l_1461 <|
 endB b_1453 <|
 some ((.t (.agg [(.int .i64 x_16), (.int .i64 x_1314), (.int .i64 x_1435), (.int .i64 x_1451), (.int .i64 x_32)])), ⟨[(0, (.var [(.t (.list 3 nn_1458 l_1459)), (.t (.bool b_1463))]))], [500]⟩)
else
(bif (decide (m9_3 = 2)) then
 callK (vr 61 0 [(.ptr 0 0 0), (.t (.str ⟨#[114]⟩))] ⟨[(0, (.var [(.t (.list 3 nn_1442 l_1443)), (.t (.bool b_1447))]))], []⟩) fun v_1464 b_1465 =>
 asT v_1464 fun x_1466 =>
 asI .i64 x_1466 fun x_1467 =>
 consB 0 b_1465 fun k_1468 b_1469 =>
 asVar k_1468 fun l_1470 =>
 consV l_1470 fun v_1471 l_1472 =>
 asT v_1471 fun x_1473 =>
 asL 3 x_1473 fun nn_1474 l_1475 =>
 consV l_1472 fun v_1476 l_1477 =>
 asT v_1476 fun x_1478 =>
 asB x_1478 fun b_1479 =>
 endV l_1477 <|
 endB b_1469 <|
 some ((.t (.agg [(.int .i64 x_16), (.int .i64 x_1314), (.int .i64 x_1435), (.int .i64 x_1467), (.int .i64 x_32)])), ⟨[(0, (.var [(.t (.list 3 nn_1474 l_1475)), (.t (.bool b_1479))]))], [500]⟩)
else
(bif (decide (m9_3 = 3)) then
 callK (vr 61 0 [(.ptr 0 0 0), (.t (.str ⟨#[97]⟩))] ⟨[(0, (.var [(.t (.list 3 nn_1442 l_1443)), (.t (.bool b_1447))]))], []⟩) fun v_1480 b_1481 =>
 asT v_1480 fun x_1482 =>
 asI .i64 x_1482 fun x_1483 =>
 consB 0 b_1481 fun k_1484 b_1485 =>
 asVar k_1484 fun l_1486 =>
 consV l_1486 fun v_1487 l_1488 =>
 asT v_1487 fun x_1489 =>
 asL 3 x_1489 fun nn_1490 l_1491 =>
 consV l_1488 fun v_1492 l_1493 =>
 asT v_1492 fun x_1494 =>
 asB x_1494 fun b_1495 =>
 endV l_1493 <|
 endB b_1485 <|
 some ((.t (.agg [(.int .i64 x_16), (.int .i64 x_1314), (.int .i64 x_1435), (.int .i64 x_1483), (.int .i64 x_32)])), ⟨[(0, (.var [(.t (.list 3 nn_1490 l_1491)), (.t (.bool b_1495))]))], [500]⟩)
else
(bif (decide (m9_3 = 4)) then
 callK (vr 30 0 [(.ptr 0 0 0), (.t (.int .i64 2))] ⟨[(0, (.var [(.t (.list 3 nn_1442 l_1443)), (.t (.bool b_1447))]))], []⟩) fun v_1496 b_1497 =>
 asT v_1496 fun x_1498 =>
 asA x_1498 fun l_1499 =>
 consT l_1499 fun v_1500 l_1501 =>
 asI .i64 v_1500 fun x_1502 =>
 consT l_1501 fun v_1503 l_1504 =>
 asS v_1503 fun s_1505 =>
 consT l_1504 fun v_1506 l_1507 =>
 asI .i64 v_1506 fun x_1508 =>
 endT l_1507 <|
 consB 0 b_1497 fun k_1509 b_1510 =>
 asVar k_1509 fun l_1511 =>
 consV l_1511 fun v_1512 l_1513 =>
 asT v_1512 fun x_1514 =>
 asL 3 x_1514 fun nn_1515 l_1516 =>
 consV l_1513 fun v_1517 l_1518 =>
 asT v_1517 fun x_1519 =>
 asB x_1519 fun b_1520 =>
 endV l_1518 <|
 endB b_1510 <|
 some ((.t (.agg [(.int .i64 x_16), (.int .i64 x_1314), (.int .i64 x_1435), (.int .i64 x_1508), (.int .i64 x_32)])), ⟨[(0, (.var [(.t (.list 3 nn_1515 l_1516)), (.t (.bool b_1520))]))], [500]⟩)
else
(bif (decide (m9_3 = 5)) then
 callK (vr 62 0 [(.ptr 0 0 0)] ⟨[(0, (.var [(.t (.list 3 nn_1442 l_1443)), (.t (.bool b_1447))]))], []⟩) fun v_1521 b_1522 =>
 asT v_1521 fun x_1523 =>
 asI .i64 x_1523 fun x_1524 =>
 consB 0 b_1522 fun k_1525 b_1526 =>
 asVar k_1525 fun l_1527 =>
 consV l_1527 fun v_1528 l_1529 =>
 asT v_1528 fun x_1530 =>
 asL 3 x_1530 fun nn_1531 l_1532 =>
 consV l_1529 fun v_1533 l_1534 =>
 asT v_1533 fun x_1535 =>
 asB x_1535 fun b_1536 =>
 endV l_1534 <|
 endB b_1526 <|
 some ((.t (.agg [(.int .i64 x_16), (.int .i64 x_1314), (.int .i64 x_1435), (.int .i64 x_28), (.int .i64 x_1524)])), ⟨[(0, (.var [(.t (.list 3 nn_1531 l_1532)), (.t (.bool b_1536))]))], [500]⟩)
else
 some ((.t (.agg [(.int .i64 x_16), (.int .i64 x_1314), (.int .i64 x_1435), (.int .i64 x_28), (.int .i64 x_32)])), ⟨[(0, (.var [(.t (.list 3 nn_1442 l_1443)), (.t (.bool b_1447))]))], [500]⟩))))))
else
(bif (decide (m9_2 = 3)) then
 callK (vr 61 0 [(.ptr 0 0 0), (.t (.str ⟨#[97]⟩))] ⟨[(0, (.var [(.t (.list 3 nn_1321 l_1322)), (.t (.bool b_1326))]))], []⟩) fun v_1537 b_1538 =>
 asT v_1537 fun x_1539 =>
 asI .i64 x_1539 fun x_1540 =>
 consB 0 b_1538 fun k_1541 b_1542 =>
 asVar k_1541 fun l_1543 =>
 consV l_1543 fun v_1544 l_1545 =>
 asT v_1544 fun x_1546 =>
 asL 3 x_1546 fun nn_1547 l_1548 =>
 consV l_1545 fun v_1549 l_1550 =>
 asT v_1549 fun x_1551 =>
 asB x_1551 fun b_1552 =>
 endV l_1550 <|
 endB b_1542 <|
(bif (decide (m9_3 = 1)) then
 callK (vr 61 0 [(.ptr 0 0 0), (.t (.str ⟨#[114]⟩))] ⟨[(0, (.var [(.t (.list 3 nn_1547 l_1548)), (.t (.bool b_1552))]))], []⟩) fun v_1553 b_1554 =>
 asT v_1553 fun x_1555 =>
 asI .i64 x_1555 fun x_1556 =>
 consB 0 b_1554 fun k_1557 b_1558 =>
 asVar k_1557 fun l_1559 =>
 consV l_1559 fun v_1560 l_1561 =>
 asT v_1560 fun x_1562 =>
 asL 3 x_1562 fun nn_1563 l_1564 =>
 consV l_1561 fun v_1565 l_1566 =>
 asT v_1565 fun x_1567 =>
 asB x_1567 fun b_1568 =>
 endV l_1566 <|
 endB b_1558 <|
 some ((.t (.agg [(.int .i64 x_16), (.int .i64 x_1314), (.int .i64 x_1540), (.int .i64 x_1556), (.int .i64 x_32)])), ⟨[(0, (.var [(.t (.list 3 nn_1563 l_1564)), (.t (.bool b_1568))]))], [500]⟩)
else
(bif (decide (m9_3 = 2)) then
 callK (vr 61 0 [(.ptr 0 0 0), (.t (.str ⟨#[114]⟩))] ⟨[(0, (.var [(.t (.list 3 nn_1547 l_1548)), (.t (.bool b_1552))]))], []⟩) fun v_1569 b_1570 =>
 asT v_1569 fun x_1571 =>
 asI .i64 x_1571 fun x_1572 =>
 consB 0 b_1570 fun k_1573 b_1574 =>
 asVar k_1573 fun l_1575 =>
 consV l_1575 fun v_1576 l_1577 =>
 asT v_1576 fun x_1578 =>
 asL 3 x_1578 fun nn_1579 l_1580 =>
 consV l_1577 fun v_1581 l_1582 =>
 asT v_1581 fun x_1583 =>
 asB x_1583 fun b_1584 =>
 endV l_1582 <|
 endB b_1574 <|
 some ((.t (.agg [(.int .i64 x_16), (.int .i64 x_1314), (.int .i64 x_1540), (.int .i64 x_1572), (.int .i64 x_32)])), ⟨[(0, (.var [(.t (.list 3 nn_1579 l_1580)), (.t (.bool b_1584))]))], [500]⟩)
else
(bif (decide (m9_3 = 3)) then
 callK (vr 61 0 [(.ptr 0 0 0), (.t (.str ⟨#[97]⟩))] ⟨[(0, (.var [(.t (.list 3 nn_1547 l_1548)), (.t (.bool b_1552))]))], []⟩) fun v_1585 b_1586 =>
 asT v_1585 fun x_1587 =>
 asI .i64 x_1587 fun x_1588 =>
 consB 0 b_1586 fun k_1589 b_1590 =>
 asVar k_1589 fun l_1591 =>
 consV l_1591 fun v_1592 l_1593 =>
 asT v_1592 fun x_1594 =>
 asL 3 x_1594 fun nn_1595 l_1596 =>
 consV l_1593 fun v_1597 l_1598 =>
 asT v_1597 fun x_1599 =>
 asB x_1599 fun b_1600 =>
 endV l_1598 <|
 endB b_1590 <|
 some ((.t (.agg [(.int .i64 x_16), (.int .i64 x_1314), (.int .i64 x_1540), (.int .i64 x_1588), (.int .i64 x_32)])), ⟨[(0, (.var [(.t (.list 3 nn_1595 l_1596)), (.t (.bool b_1600))]))], [500]⟩)
else
(bif (decide (m9_3 = 4)) then
 callK (vr 30 0 [(.ptr 0 0 0), (.t (.int .i64 2))] ⟨[(0, (.var [(.t (.list 3 nn_1547 l_1548)), (.t (.bool b_1552))]))], []⟩) fun v_1601 b_1602 =>
 asT v_1601 fun x_1603 =>
 asA x_1603 fun l_1604 =>
 consT l_1604 fun v_1605 l_1606 =>
 asI .i64 v_1605 fun x_1607 =>
 consT l_1606 fun v_1608 l_1609 =>
 asS v_1608 fun s_1610 =>
 consT l_1609 fun v_1611 l_1612 =>
 asI .i64 v_1611 fun x_1613 =>
 endT l_1612 <|
 consB 0 b_1602 fun k_1614 b_1615 =>
 asVar k_1614 fun l_1616 =>
 consV l_1616 fun v_1617 l_1618 =>
 asT v_1617 fun x_1619 =>
 asL 3 x_1619 fun nn_1620 l_1621 =>
 consV l_1618 fun v_1622 l_1623 =>
 asT v_1622 fun x_1624 =>
 asB x_1624 fun b_1625 =>
 endV l_1623 <|
 endB b_1615 <|
 some ((.t (.agg [(.int .i64 x_16), (.int .i64 x_1314), (.int .i64 x_1540), (.int .i64 x_1613), (.int .i64 x_32)])), ⟨[(0, (.var [(.t (.list 3 nn_1620 l_1621)), (.t (.bool b_1625))]))], [500]⟩)
else
(bif (decide (m9_3 = 5)) then
 callK (vr 62 0 [(.ptr 0 0 0)] ⟨[(0, (.var [(.t (.list 3 nn_1547 l_1548)), (.t (.bool b_1552))]))], []⟩) fun v_1626 b_1627 =>
 asT v_1626 fun x_1628 =>
 asI .i64 x_1628 fun x_1629 =>
 consB 0 b_1627 fun k_1630 b_1631 =>
 asVar k_1630 fun l_1632 =>
 consV l_1632 fun v_1633 l_1634 =>
 asT v_1633 fun x_1635 =>
 asL 3 x_1635 fun nn_1636 l_1637 =>
 consV l_1634 fun v_1638 l_1639 =>
 asT v_1638 fun x_1640 =>
 asB x_1640 fun b_1641 =>
 endV l_1639 <|
 endB b_1631 <|
 some ((.t (.agg [(.int .i64 x_16), (.int .i64 x_1314), (.int .i64 x_1540), (.int .i64 x_28), (.int .i64 x_1629)])), ⟨[(0, (.var [(.t (.list 3 nn_1636 l_1637)), (.t (.bool b_1641))]))], [500]⟩)
else
 some ((.t (.agg [(.int .i64 x_16), (.int .i64 x_1314), (.int .i64 x_1540), (.int .i64 x_28), (.int .i64 x_32)])), ⟨[(0, (.var [(.t (.list 3 nn_1547 l_1548)), (.t (.bool b_1552))]))], [500]⟩))))))
else
(bif (decide (m9_2 = 4)) then
 callK (vr 30 0 [(.ptr 0 0 0), (.t (.int .i64 2))] ⟨[(0, (.var [(.t (.list 3 nn_1321 l_1322)), (.t (.bool b_1326))]))], []⟩) fun v_1642 b_1643 =>
 asT v_1642 fun x_1644 =>
 asA x_1644 fun l_1645 =>
 consT l_1645 fun v_1646 l_1647 =>
 asI .i64 v_1646 fun x_1648 =>
 consT l_1647 fun v_1649 l_1650 =>
 asS v_1649 fun s_1651 =>
 consT l_1650 fun v_1652 l_1653 =>
 asI .i64 v_1652 fun x_1654 =>
 endT l_1653 <|
 consB 0 b_1643 fun k_1655 b_1656 =>
 asVar k_1655 fun l_1657 =>
 consV l_1657 fun v_1658 l_1659 =>
 asT v_1658 fun x_1660 =>
 asL 3 x_1660 fun nn_1661 l_1662 =>
 consV l_1659 fun v_1663 l_1664 =>
 asT v_1663 fun x_1665 =>
 asB x_1665 fun b_1666 =>
 endV l_1664 <|
 endB b_1656 <|
(bif (decide (m9_3 = 1)) then
 callK (vr 61 0 [(.ptr 0 0 0), (.t (.str ⟨#[114]⟩))] ⟨[(0, (.var [(.t (.list 3 nn_1661 l_1662)), (.t (.bool b_1666))]))], []⟩) fun v_1667 b_1668 =>
 asT v_1667 fun x_1669 =>
 asI .i64 x_1669 fun x_1670 =>
 consB 0 b_1668 fun k_1671 b_1672 =>
 asVar k_1671 fun l_1673 =>
 consV l_1673 fun v_1674 l_1675 =>
 asT v_1674 fun x_1676 =>
 asL 3 x_1676 fun nn_1677 l_1678 =>
 consV l_1675 fun v_1679 l_1680 =>
 asT v_1679 fun x_1681 =>
 asB x_1681 fun b_1682 =>
 endV l_1680 <|
 endB b_1672 <|
 some ((.t (.agg [(.int .i64 x_16), (.int .i64 x_1314), (.int .i64 x_1654), (.int .i64 x_1670), (.int .i64 x_32)])), ⟨[(0, (.var [(.t (.list 3 nn_1677 l_1678)), (.t (.bool b_1682))]))], [500]⟩)
else
(bif (decide (m9_3 = 2)) then
 callK (vr 61 0 [(.ptr 0 0 0), (.t (.str ⟨#[114]⟩))] ⟨[(0, (.var [(.t (.list 3 nn_1661 l_1662)), (.t (.bool b_1666))]))], []⟩) fun v_1683 b_1684 =>
 asT v_1683 fun x_1685 =>
 asI .i64 x_1685 fun x_1686 =>
 consB 0 b_1684 fun k_1687 b_1688 =>
 asVar k_1687 fun l_1689 =>
 consV l_1689 fun v_1690 l_1691 =>
 asT v_1690 fun x_1692 =>
 asL 3 x_1692 fun nn_1693 l_1694 =>
 consV l_1691 fun v_1695 l_1696 =>
 asT v_1695 fun x_1697 =>
 asB x_1697 fun b_1698 =>
 endV l_1696 <|
 endB b_1688 <|
 some ((.t (.agg [(.int .i64 x_16), (.int .i64 x_1314), (.int .i64 x_1654), (.int .i64 x_1686), (.int .i64 x_32)])), ⟨[(0, (.var [(.t (.list 3 nn_1693 l_1694)), (.t (.bool b_1698))]))], [500]⟩)
else
(bif (decide (m9_3 = 3)) then
 callK (vr 61 0 [(.ptr 0 0 0), (.t (.str ⟨#[97]⟩))] ⟨[(0, (.var [(.t (.list 3 nn_1661 l_1662)), (.t (.bool b_1666))]))], []⟩) fun v_1699 b_1700 =>
 asT v_1699 fun x_1701 =>
 asI .i64 x_1701 fun x_1702 =>
 consB 0 b_1700 fun k_1703 b_1704 =>
 asVar k_1703 fun l_1705 =>
 consV l_1705 fun v_1706 l_1707 =>
 asT v_1706 fun x_1708 =>
 asL 3 x_1708 fun nn_1709 l_1710 =>
 consV l_1707 fun v_1711 l_1712 =>
 asT v_1711 fun x_1713 =>
 asB x_1713 fun b_1714 =>
 endV l_1712 <|
 endB b_1704 <|
 some ((.t (.agg [(.int .i64 x_16), (.int .i64 x_1314), (.int .i64 x_1654), (.int .i64 x_1702), (.int .i64 x_32)])), ⟨[(0, (.var [(.t (.list 3 nn_1709 l_1710)), (.t (.bool b_1714))]))], [500]⟩)
else
(bif (decide (m9_3 = 4)) then
 callK (vr 30 0 [(.ptr 0 0 0), (.t (.int .i64 2))] ⟨[(0, (.var [(.t (.list 3 nn_1661 l_1662)), (.t (.bool b_1666))]))], []⟩) fun v_1715 b_1716 =>
 asT v_1715 fun x_1717 =>
 asA x_1717 fun l_1718 =>
 consT l_1718 fun v_1719 l_1720 =>
 asI .i64 v_1719 fun x_1721 =>
 consT l_1720 fun v_1722 l_1723 =>
 asS v_1722 fun s_1724 =>
 consT l_1723 fun v_1725 l_1726 =>
 asI .i64 v_1725 fun x_1727 =>
 endT l_1726 <|
 consB 0 b_1716 fun k_1728 b_1729 =>
 asVar k_1728 fun l_1730 =>
 consV l_1730 fun v_1731 l_1732 =>
 asT v_1731 fun x_1733 =>
 asL 3 x_1733 fun nn_1734 l_1735 =>
 consV l_1732 fun v_1736 l_1737 =>
 asT v_1736 fun x_1738 =>
 asB x_1738 fun b_1739 =>
 endV l_1737 <|
 endB b_1729 <|
 some ((.t (.agg [(.int .i64 x_16), (.int .i64 x_1314), (.int .i64 x_1654), (.int .i64 x_1727), (.int .i64 x_32)])), ⟨[(0, (.var [(.t (.list 3 nn_1734 l_1735)), (.t (.bool b_1739))]))], [500]⟩)
else
(bif (decide (m9_3 = 5)) then
 callK (vr 62 0 [(.ptr 0 0 0)] ⟨[(0, (.var [(.t (.list 3 nn_1661 l_1662)), (.t (.bool b_1666))]))], []⟩) fun v_1740 b_1741 =>
 asT v_1740 fun x_1742 =>
 asI .i64 x_1742 fun x_1743 =>
 consB 0 b_1741 fun k_1744 b_1745 =>
 asVar k_1744 fun l_1746 =>
 consV l_1746 fun v_1747 l_1748 =>
 asT v_1747 fun x_1749 =>
 asL 3 x_1749 fun nn_1750 l_1751 =>
 consV l_1748 fun v_1752 l_1753 =>
 asT v_1752 fun x_1754 =>
 asB x_1754 fun b_1755 =>
 endV l_1753 <|
 endB b_1745 <|
 some ((.t (.agg [(.int .i64 x_16), (.int .i64 x_1314), (.int .i64 x_1654), (.int .i64 x_28), (.int .i64 x_1743)])), ⟨[(0, (.var [(.t (.list 3 nn_1750 l_1751)), (.t (.bool b_1755))]))], [500]⟩)
else
 some ((.t (.agg [(.int .i64 x_16), (.int .i64 x_1314), (.int .i64 x_1654), (.int .i64 x_28), (.int .i64 x_32)])), ⟨[(0, (.var [(.t (.list 3 nn_1661 l_1662)), (.t (.bool b_1666))]))], [500]⟩))))))
else
(bif (decide (m9_2 = 5)) then
 callK (vr 62 0 [(.ptr 0 0 0)] ⟨[(0, (.var [(.t (.list 3 nn_1321 l_1322)), (.t (.bool b_1326))]))], []⟩) fun v_1756 b_1757 =>
 asT v_1756 fun x_1758 =>
 asI .i64 x_1758 fun x_1759 =>
 consB 0 b_1757 fun k_1760 b_1761 =>
 asVar k_1760 fun l_1762 =>
 consV l_1762 fun v_1763 l_1764 =>
 asT v_1763 fun x_1765 =>
 asL 3 x_1765 fun nn_1766 l_1767 =>
 consV l_1764 fun v_1768 l_1769 =>
 asT v_1768 fun x_1770 =>
 asB x_1770 fun b_1771 =>
 endV l_1769 <|
 endB b_1761 <|
(bif (decide (m9_3 = 1)) then
 callK (vr 61 0 [(.ptr 0 0 0), (.t (.str ⟨#[114]⟩))] ⟨[(0, (.var [(.t (.list 3 nn_1766 l_1767)), (.t (.bool b_1771))]))], []⟩) fun v_1772 b_1773 =>
 asT v_1772 fun x_1774 =>
 asI .i64 x_1774 fun x_1775 =>
 consB 0 b_1773 fun k_1776 b_1777 =>
 asVar k_1776 fun l_1778 =>
 consV l_1778 fun v_1779 l_1780 =>
 asT v_1779 fun x_1781 =>
 asL 3 x_1781 fun nn_1782 l_1783 =>
 consV l_1780 fun v_1784 l_1785 =>
 asT v_1784 fun x_1786 =>
 asB x_1786 fun b_1787 =>
 endV l_1785 <|
 endB b_1777 <|
 some ((.t (.agg [(.int .i64 x_16), (.int .i64 x_1314), (.int .i64 x_24), (.int .i64 x_1775), (.int .i64 x_1759)])), ⟨[(0, (.var [(.t (.list 3 nn_1782 l_1783)), (.t (.bool b_1787))]))], [500]⟩)
else
(bif (decide (m9_3 = 2)) then
 callK (vr 61 0 [(.ptr 0 0 0), (.t (.str ⟨#[114]⟩))] ⟨[(0, (.var [(.t (.list 3 nn_1766 l_1767)), (.t (.bool b_1771))]))], []⟩) fun v_1788 b_1789 =>
 asT v_1788 fun x_1790 =>
 asI .i64 x_1790 fun x_1791 =>
 consB 0 b_1789 fun k_1792 b_1793 =>
 asVar k_1792 fun l_1794 =>
 consV l_1794 fun v_1795 l_1796 =>
 asT v_1795 fun x_1797 =>
 asL 3 x_1797 fun nn_1798 l_1799 =>
 consV l_1796 fun v_1800 l_1801 =>
 asT v_1800 fun x_1802 =>
 asB x_1802 fun b_1803 =>
 endV l_1801 <|
 endB b_1793 <|
 some ((.t (.agg [(.int .i64 x_16), (.int .i64 x_1314), (.int .i64 x_24), (.int .i64 x_1791), (.int .i64 x_1759)])), ⟨[(0, (.var [(.t (.list 3 nn_1798 l_1799)), (.t (.bool b_1803))]))], [500]⟩)
else
(bif (decide (m9_3 = 3)) then
 callK (vr 61 0 [(.ptr 0 0 0), (.t (.str ⟨#[97]⟩))] ⟨[(0, (.var [(.t (.list 3 nn_1766 l_1767)), (.t (.bool b_1771))]))], []⟩) fun v_1804 b_1805 =>
 asT v_1804 fun x_1806 =>
 asI .i64 x_1806 fun x_1807 =>
 consB 0 b_1805 fun k_1808 b_1809 =>
 asVar k_1808 fun l_1810 =>
 consV l_1810 fun v_1811 l_1812 =>
 asT v_1811 fun x_1813 =>
 asL 3 x_1813 fun nn_1814 l_1815 =>
 consV l_1812 fun v_1816 l_1817 =>
 asT v_1816 fun x_1818 =>
 asB x_1818 fun b_1819 =>
 endV l_1817 <|
 endB b_1809 <|
 some ((.t (.agg [(.int .i64 x_16), (.int .i64 x_1314), (.int .i64 x_24), (.int .i64 x_1807), (.int .i64 x_1759)])), ⟨[(0, (.var [(.t (.list 3 nn_1814 l_1815)), (.t (.bool b_1819))]))], [500]⟩)
else
(bif (decide (m9_3 = 4)) then
 callK (vr 30 0 [(.ptr 0 0 0), (.t (.int .i64 2))] ⟨[(0, (.var [(.t (.list 3 nn_1766 l_1767)), (.t (.bool b_1771))]))], []⟩) fun v_1820 b_1821 =>
 asT v_1820 fun x_1822 =>
 asA x_1822 fun l_1823 =>
 consT l_1823 fun v_1824 l_1825 =>
 asI .i64 v_1824 fun x_1826 =>
 consT l_1825 fun v_1827 l_1828 =>
 asS v_1827 fun s_1829 =>
 consT l_1828 fun v_1830 l_1831 =>
 asI .i64 v_1830 fun x_1832 =>
 endT l_1831 <|
 consB 0 b_1821 fun k_1833 b_1834 =>
 asVar k_1833 fun l_1835 =>
 consV l_1835 fun v_1836 l_1837 =>
 asT v_1836 fun x_1838 =>
 asL 3 x_1838 fun nn_1839 l_1840 =>
 consV l_1837 fun v_1841 l_1842 =>
 asT v_1841 fun x_1843 =>
 asB x_1843 fun b_1844 =>
 endV l_1842 <|
 endB b_1834 <|
 some ((.t (.agg [(.int .i64 x_16), (.int .i64 x_1314), (.int .i64 x_24), (.int .i64 x_1832), (.int .i64 x_1759)])), ⟨[(0, (.var [(.t (.list 3 nn_1839 l_1840)), (.t (.bool b_1844))]))], [500]⟩)
else
(bif (decide (m9_3 = 5)) then
 callK (vr 62 0 [(.ptr 0 0 0)] ⟨[(0, (.var [(.t (.list 3 nn_1766 l_1767)), (.t (.bool b_1771))]))], []⟩) fun v_1845 b_1846 =>
 asT v_1845 fun x_1847 =>
 asI .i64 x_1847 fun x_1848 =>
 consB 0 b_1846 fun k_1849 b_1850 =>
 asVar k_1849 fun l_1851 =>
 consV l_1851 fun v_1852 l_1853 =>
 asT v_1852 fun x_1854 =>
 asL 3 x_1854 fun nn_1855 l_1856 =>
 consV l_1853 fun v_1857 l_1858 =>
 asT v_1857 fun x_1859 =>
 asB x_1859 fun b_1860 =>
 endV l_1858 <|
 endB b_1850 <|
 some ((.t (.agg [(.int .i64 x_16), (.int .i64 x_1314), (.int .i64 x_24), (.int .i64 x_28), (.int .i64 x_1848)])), ⟨[(0, (.var [(.t (.list 3 nn_1855 l_1856)), (.t (.bool b_1860))]))], [500]⟩)
else
 some ((.t (.agg [(.int .i64 x_16), (.int .i64 x_1314), (.int .i64 x_24), (.int .i64 x_28), (.int .i64 x_1759)])), ⟨[(0, (.var [(.t (.list 3 nn_1766 l_1767)), (.t (.bool b_1771))]))], [500]⟩))))))
else
(bif (decide (m9_3 = 1)) then
 callK (vr 61 0 [(.ptr 0 0 0), (.t (.str ⟨#[114]⟩))] ⟨[(0, (.var [(.t (.list 3 nn_1321 l_1322)), (.t (.bool b_1326))]))], []⟩) fun v_1861 b_1862 =>
 asT v_1861 fun x_1863 =>
 asI .i64 x_1863 fun x_1864 =>
 consB 0 b_1862 fun k_1865 b_1866 =>
 asVar k_1865 fun l_1867 =>
 consV l_1867 fun v_1868 l_1869 =>
 asT v_1868 fun x_1870 =>
 asL 3 x_1870 fun nn_1871 l_1872 =>
 consV l_1869 fun v_1873 l_1874 =>
 asT v_1873 fun x_1875 =>
 asB x_1875 fun b_1876 =>
 endV l_1874 <|
 endB b_1866 <|
 some ((.t (.agg [(.int .i64 x_16), (.int .i64 x_1314), (.int .i64 x_24), (.int .i64 x_1864), (.int .i64 x_32)])), ⟨[(0, (.var [(.t (.list 3 nn_1871 l_1872)), (.t (.bool b_1876))]))], [500]⟩)
else
(bif (decide (m9_3 = 2)) then
 callK (vr 61 0 [(.ptr 0 0 0), (.t (.str ⟨#[114]⟩))] ⟨[(0, (.var [(.t (.list 3 nn_1321 l_1322)), (.t (.bool b_1326))]))], []⟩) fun v_1877 b_1878 =>
 asT v_1877 fun x_1879 =>
 asI .i64 x_1879 fun x_1880 =>
 consB 0 b_1878 fun k_1881 b_1882 =>
 asVar k_1881 fun l_1883 =>
 consV l_1883 fun v_1884 l_1885 =>
 asT v_1884 fun x_1886 =>
 asL 3 x_1886 fun nn_1887 l_1888 =>
 consV l_1885 fun v_1889 l_1890 =>
 asT v_1889 fun x_1891 =>
 asB x_1891 fun b_1892 =>
 endV l_1890 <|
 endB b_1882 <|
 some ((.t (.agg [(.int .i64 x_16), (.int .i64 x_1314), (.int .i64 x_24), (.int .i64 x_1880), (.int .i64 x_32)])), ⟨[(0, (.var [(.t (.list 3 nn_1887 l_1888)), (.t (.bool b_1892))]))], [500]⟩)
else
(bif (decide (m9_3 = 3)) then
 callK (vr 61 0 [(.ptr 0 0 0), (.t (.str ⟨#[97]⟩))] ⟨[(0, (.var [(.t (.list 3 nn_1321 l_1322)), (.t (.bool b_1326))]))], []⟩) fun v_1893 b_1894 =>
 asT v_1893 fun x_1895 =>
 asI .i64 x_1895 fun x_1896 =>
 consB 0 b_1894 fun k_1897 b_1898 =>
 asVar k_1897 fun l_1899 =>
 consV l_1899 fun v_1900 l_1901 =>
 asT v_1900 fun x_1902 =>
 asL 3 x_1902 fun nn_1903 l_1904 =>
 consV l_1901 fun v_1905 l_1906 =>
 asT v_1905 fun x_1907 =>
 asB x_1907 fun b_1908 =>
 endV l_1906 <|
 endB b_1898 <|
 some ((.t (.agg [(.int .i64 x_16), (.int .i64 x_1314), (.int .i64 x_24), (.int .i64 x_1896), (.int .i64 x_32)])), ⟨[(0, (.var [(.t (.list 3 nn_1903 l_1904)), (.t (.bool b_1908))]))], [500]⟩)
else
(bif (decide (m9_3 = 4)) then
 callK (vr 30 0 [(.ptr 0 0 0), (.t (.int .i64 2))] ⟨[(0, (.var [(.t (.list 3 nn_1321 l_1322)), (.t (.bool b_1326))]))], []⟩) fun v_1909 b_1910 =>
 asT v_1909 fun x_1911 =>
 asA x_1911 fun l_1912 =>
 consT l_1912 fun v_1913 l_1914 =>
 asI .i64 v_1913 fun x_1915 =>
 consT l_1914 fun v_1916 l_1917 =>
 asS v_1916 fun s_1918 =>
 consT l_1917 fun v_1919 l_1920 =>
 asI .i64 v_1919 fun x_1921 =>
 endT l_1920 <|
 consB 0 b_1910 fun k_1922 b_1923 =>
 asVar k_1922 fun l_1924 =>
 consV l_1924 fun v_1925 l_1926 =>
 asT v_1925 fun x_1927 =>
 asL 3 x_1927 fun nn_1928 l_1929 =>
 consV l_1926 fun v_1930 l_1931 =>
 asT v_1930 fun x_1932 =>
 asB x_1932 fun b_1933 =>
 endV l_1931 <|
 endB b_1923 <|
 some ((.t (.agg [(.int .i64 x_16), (.int .i64 x_1314), (.int .i64 x_24), (.int .i64 x_1921), (.int .i64 x_32)])), ⟨[(0, (.var [(.t (.list 3 nn_1928 l_1929)), (.t (.bool b_1933))]))], [500]⟩)
else
(bif (decide (m9_3 = 5)) then
 callK (vr 62 0 [(.ptr 0 0 0)] ⟨[(0, (.var [(.t (.list 3 nn_1321 l_1322)), (.t (.bool b_1326))]))], []⟩) fun v_1934 b_1935 =>
 asT v_1934 fun x_1936 =>
 asI .i64 x_1936 fun x_1937 =>
 consB 0 b_1935 fun k_1938 b_1939 =>
 asVar k_1938 fun l_1940 =>
 consV l_1940 fun v_1941 l_1942 =>
 asT v_1941 fun x_1943 =>
 asL 3 x_1943 fun nn_1944 l_1945 =>
 consV l_1942 fun v_1946 l_1947 =>
 asT v_1946 fun x_1948 =>
 asB x_1948 fun b_1949 =>
 endV l_1947 <|
 endB b_1939 <|
 some ((.t (.agg [(.int .i64 x_16), (.int .i64 x_1314), (.int .i64 x_24), (.int .i64 x_28), (.int .i64 x_1937)])), ⟨[(0, (.var [(.t (.list 3 nn_1944 l_1945)), (.t (.bool b_1949))]))], [500]⟩)
else
 some ((.t (.agg [(.int .i64 x_16), (.int .i64 x_1314), (.int .i64 x_24), (.int .i64 x_28), (.int .i64 x_32)])), ⟨[(0, (.var [(.t (.list 3 nn_1321 l_1322)), (.t (.bool b_1326))]))], [500]⟩)))))))))))
else
(bif (decide (m9_1 = 4)) then
 callK (vr 30 0 [(.ptr 0 0 0), (.t (.int .i64 2))] ⟨[(0, (.var [(.t (.list 3 m0_0z m0_0)), (.t (.bool m0_1))]))], []⟩) fun v_1950 b_1951 =>
 asT v_1950 fun x_1952 =>
 asA x_1952 fun l_1953 =>
 consT l_1953 fun v_1954 l_1955 =>
 asI .i64 v_1954 fun x_1956 =>
 consT l_1955 fun v_1957 l_1958 =>
 asS v_1957 fun s_1959 =>
 consT l_1958 fun v_1960 l_1961 =>
 asI .i64 v_1960 fun x_1962 =>
 endT l_1961 <|
 consB 0 b_1951 fun k_1963 b_1964 =>
 asVar k_1963 fun l_1965 =>
 consV l_1965 fun v_1966 l_1967 =>
 asT v_1966 fun x_1968 =>
 asL 3 x_1968 fun nn_1969 l_1970 =>
 consV l_1967 fun v_1971 l_1972 =>
 asT v_1971 fun x_1973 =>
 asB x_1973 fun b_1974 =>
 endV l_1972 <|
 endB b_1964 <|
(bif (decide (m9_2 = 1)) then
 callK (vr 61 0 [(.ptr 0 0 0), (.t (.str ⟨#[114]⟩))] ⟨[(0, (.var [(.t (.list 3 nn_1969 l_1970)), (.t (.bool b_1974))]))], []⟩) fun v_1975 b_1976 =>
 asT v_1975 fun x_1977 =>
 asI .i64 x_1977 fun x_1978 =>
 consB 0 b_1976 fun k_1979 b_1980 =>
 asVar k_1979 fun l_1981 =>
 consV l_1981 fun v_1982 l_1983 =>
 asT v_1982 fun x_1984 =>
 asL 3 x_1984 fun nn_1985 l_1986 =>
 consV l_1983 fun v_1987 l_1988 =>
 asT v_1987 fun x_1989 =>
 asB x_1989 fun b_1990 =>
 endV l_1988 <|
 endB b_1980 <|
(bif (decide (m9_3 = 1)) then
 callK (vr 61 0 [(.ptr 0 0 0), (.t (.str ⟨#[114]⟩))] ⟨[(0, (.var [(.t (.list 3 nn_1985 l_1986)), (.t (.bool b_1990))]))], []⟩) fun v_1991 b_1992 =>
 asT v_1991 fun x_1993 =>
 asI .i64 x_1993 fun x_1994 =>
 consB 0 b_1992 fun k_1995 b_1996 =>
 asVar k_1995 fun l_1997 =>
 consV l_1997 fun v_1998 l_1999 =>
 asT v_1998 fun x_2000 =>
 asL 3 x_2000 fun nn_2001 l_2002 =>
 consV l_1999 fun v_2003 l_2004 =>
 asT v_2003 fun x_2005 =>
 asB x_2005 fun b_2006 =>
 endV l_2004 <|
 endB b_1996 <|
 some ((.t (.agg [(.int .i64 x_16), (.int .i64 x_1962), (.int .i64 x_1978), (.int .i64 x_1994), (.int .i64 x_32)])), ⟨[(0, (.var [(.t (.list 3 nn_2001 l_2002)), (.t (.bool b_2006))]))], [500]⟩)
else
(bif (decide (m9_3 = 2)) then
 callK (vr 61 0 [(.ptr 0 0 0), (.t (.str ⟨#[114]⟩))] ⟨[(0, (.var [(.t (.list 3 nn_1985 l_1986)), (.t (.bool b_1990))]))], []⟩) fun v_2007 b_2008 =>
 asT v_2007 fun x_2009 =>
 asI .i64 x_2009 fun x_2010 =>
 consB 0 b_2008 fun k_2011 b_2012 =>
 asVar k_2011 fun l_2013 =>
 consV l_2013 fun v_2014 l_2015 =>
 asT v_2014 fun x_2016 =>
 asL 3 x_2016 fun nn_2017 l_2018 =>
 consV l_2015 fun v_2019 l_2020 =>
 asT v_2019 fun x_2021 =>
 asB x_2021 fun b_2022 =>
 endV l_2020 <|
 endB b_2012 <|
 some ((.t (.agg [(.int .i64 x_16), (.int .i64 x_1962), (.int .i64 x_1978), (.int .i64 x_2010), (.int .i64 x_32)])), ⟨[(0, (.var [(.t (.list 3 nn_2017 l_2018)), (.t (.bool b_2022))]))], [500]⟩)
else
(bif (decide (m9_3 = 3)) then
 callK (vr 61 0 [(.ptr 0 0 0), (.t (.str ⟨#[97]⟩))] ⟨[(0, (.var [(.t (.list 3 nn_1985 l_1986)), (.t (.bool b_1990))]))], []⟩) fun v_2023 b_2024 =>
 asT v_2023 fun x_2025 =>
 asI .i64 x_2025 fun x_2026 =>
 consB 0 b_2024 fun k_2027 b_2028 =>
 asVar k_2027 fun l_2029 =>
 consV l_2029 fun v_2030 l_2031 =>
 asT v_2030 fun x_2032 =>
 asL 3 x_2032 fun nn_2033 l_2034 =>
 consV l_2031 fun v_2035 l_2036 =>
 asT v_2035 fun x_2037 =>
 asB x_2037 fun b_2038 =>
 endV l_2036 <|
 endB b_2028 <|
 some ((.t (.agg [(.int .i64 x_16), (.int .i64 x_1962), (.int .i64 x_1978), (.int .i64 x_2026), (.int .i64 x_32)])), ⟨[(0, (.var [(.t (.list 3 nn_2033 l_2034)), (.t (.bool b_2038))]))], [500]⟩)
else
(bif (decide (m9_3 = 4)) then
 callK (vr 30 0 [(.ptr 0 0 0), (.t (.int .i64 2))] ⟨[(0, (.var [(.t (.list 3 nn_1985 l_1986)), (.t (.bool b_1990))]))], []⟩) fun v_2039 b_2040 =>
 asT v_2039 fun x_2041 =>
 asA x_2041 fun l_2042 =>
 consT l_2042 fun v_2043 l_2044 =>
 asI .i64 v_2043 fun x_2045 =>
 consT l_2044 fun v_2046 l_2047 =>
 asS v_2046 fun s_2048 =>
 consT l_2047 fun v_2049 l_2050 =>
 asI .i64 v_2049 fun x_2051 =>
 endT l_2050 <|
 consB 0 b_2040 fun k_2052 b_2053 =>
 asVar k_2052 fun l_2054 =>
 consV l_2054 fun v_2055 l_2056 =>
 asT v_2055 fun x_2057 =>
 asL 3 x_2057 fun nn_2058 l_2059 =>
 consV l_2056 fun v_2060 l_2061 =>
 asT v_2060 fun x_2062 =>
 asB x_2062 fun b_2063 =>
 endV l_2061 <|
 endB b_2053 <|
 some ((.t (.agg [(.int .i64 x_16), (.int .i64 x_1962), (.int .i64 x_1978), (.int .i64 x_2051), (.int .i64 x_32)])), ⟨[(0, (.var [(.t (.list 3 nn_2058 l_2059)), (.t (.bool b_2063))]))], [500]⟩)
else
(bif (decide (m9_3 = 5)) then
 callK (vr 62 0 [(.ptr 0 0 0)] ⟨[(0, (.var [(.t (.list 3 nn_1985 l_1986)), (.t (.bool b_1990))]))], []⟩) fun v_2064 b_2065 =>
 asT v_2064 fun x_2066 =>
 asI .i64 x_2066 fun x_2067 =>
 consB 0 b_2065 fun k_2068 b_2069 =>
 asVar k_2068 fun l_2070 =>
 consV l_2070 fun v_2071 l_2072 =>
 asT v_2071 fun x_2073 =>
 asL 3 x_2073 fun nn_2074 l_2075 =>
 consV l_2072 fun v_2076 l_2077 =>
 asT v_2076 fun x_2078 =>
 asB x_2078 fun b_2079 =>
 endV l_2077 <|
 endB b_2069 <|
 some ((.t (.agg [(.int .i64 x_16), (.int .i64 x_1962), (.int .i64 x_1978), (.int .i64 x_28), (.int .i64 x_2067)])), ⟨[(0, (.var [(.t (.list 3 nn_2074 l_2075)), (.t (.bool b_2079))]))], [500]⟩)
else
 some ((.t (.agg [(.int .i64 x_16), (.int .i64 x_1962), (.int .i64 x_1978), (.int .i64 x_28), (.int .i64 x_32)])), ⟨[(0, (.var [(.t (.list 3 nn_1985 l_1986)), (.t (.bool b_1990))]))], [500]⟩))))))
else
(bif (decide (m9_2 = 2)) then
 callK (vr 61 0 [(.ptr 0 0 0), (.t (.str ⟨#[114]⟩))] ⟨[(0, (.var [(.t (.list 3 nn_1969 l_1970)), (.t (.bool b_1974))]))], []⟩) fun v_2080 b_2081 =>
 asT v_2080 fun x_2082 =>
 asI .i64 x_2082 fun x_2083 =>
 consB 0 b_2081 fun k_2084 b_2085 =>
 asVar k_2084 fun l_2086 =>
 consV l_2086 fun v_2087 l_2088 =>
 asT v_2087 fun x_2089 =>
 asL 3 x_2089 fun nn_2090 l_2091 =>
 consV l_2088 fun v_2092 l_2093 =>
 asT v_2092 fun x_2094 =>
 asB x_2094 fun b_2095 =>
 endV l_2093 <|
 endB b_2085 <|
(bif (decide (m9_3 = 1)) then
 callK (vr 61 0 [(.ptr 0 0 0), (.t (.str ⟨#[114]⟩))] ⟨[(0, (.var [(.t (.list 3 nn_2090 l_2091)), (.t (.bool b_2095))]))], []⟩) fun v_2096 b_2097 =>
 asT v_2096 fun x_2098 =>
 asI .i64 x_2098 fun x_2099 =>
 consB 0 b_2097 fun k_2100 b_2101 =>
 asVar k_2100 fun l_2102 =>
 consV l_2102 fun v_2103 l_2104 =>
 asT v_2103 fun x_2105 =>
 asL 3 x_2105 fun nn_2106 l_2107 =>
 consV l_2104 fun v_2108 l_2109 =>
 asT v_2108 fun x_2110 =>
 asB x_2110 fun b_2111 =>
 endV l_2109 <|
 endB b_2101 <|
 some ((.t (.agg [(.int .i64 x_16), (.int .i64 x_1962), (.int .i64 x_2083), (.int .i64 x_2099), (.int .i64 x_32)])), ⟨[(0, (.var [(.t (.list 3 nn_2106 l_2107)), (.t (.bool b_2111))]))], [500]⟩)
else
(bif (decide (m9_3 = 2)) then
 callK (vr 61 0 [(.ptr 0 0 0), (.t (.str ⟨#[114]⟩))] ⟨[(0, (.var [(.t (.list 3 nn_2090 l_2091)), (.t (.bool b_2095))]))], []⟩) fun v_2112 b_2113 =>
 asT v_2112 fun x_2114 =>
 asI .i64 x_2114 fun x_2115 =>
 consB 0 b_2113 fun k_2116 b_2117 =>
 asVar k_2116 fun l_2118 =>
 consV l_2118 fun v_2119 l_2120 =>
 asT v_2119 fun x_2121 =>
 asL 3 x_2121 fun nn_2122 l_2123 =>
 consV l_2120 fun v_2124 l_2125 =>
 asT v_2124 fun x_2126 =>
 asB x_2126 fun b_2127 =>
 endV l_2125 <|
 endB b_2117 <|
 some ((.t (.agg [(.int .i64 x_16), (.int .i64 x_1962), (.int .i64 x_2083), (.int .i64 x_2115), (.int .i64 x_32)])), ⟨[(0, (.var [(.t (.list 3 nn_2122 l_2123)), (.t (.bool b_2127))]))], [500]⟩)
else
(bif (decide (m9_3 = 3)) then
 callK (vr 61 0 [(.ptr 0 0 0), (.t (.str ⟨#[97]⟩))] ⟨[(0, (.var [(.t (.list 3 nn_2090 l_2091)), (.t (.bool b_2095))]))], []⟩) fun v_2128 b_2129 =>
 asT v_2128 fun x_2130 =>
 asI .i64 x_2130 fun x_2131 =>
 consB 0 b_2129 fun k_2132 b_2133 =>
 asVar k_2132 fun l_2134 =>
 consV l_2134 fun v_2135 l_2136 =>
 asT v_2135 fun x_2137 =>
 asL 3 x_2137 fun nn_2138 l_2139 =>
 consV l_2136 fun v_2140 l_2141 =>
 asT v_2140 fun x_2142 =>
 asB x_2142 fun b_2143 =>
 endV l_2141 <|
 endB b_2133 <|
 some ((.t (.agg [(.int .i64 x_16), (.int .i64 x_1962), (.int .i64 x_2083), (.int .i64 x_2131), (.int .i64 x_32)])), ⟨[(0, (.var [(.t (.list 3 nn_2138 l_2139)), (.t (.bool b_2143))]))], [500]⟩)
else
(bif (decide (m9_3 = 4)) then
 callK (vr 30 0 [(.ptr 0 0 0), (.t (.int .i64 2))] ⟨[(0, (.var [(.t (.list 3 nn_2090 l_2091)), (.t (.bool b_2095))]))], []⟩) fun v_2144 b_2145 =>
 asT v_2144 fun x_2146 =>
 asA x_2146 fun l_2147 =>
 consT l_2147 fun v_2148 l_2149 =>
 asI .i64 v_2148 fun x_2150 =>
 consT l_2149 fun v_2151 l_2152 =>
 asS v_2151 fun s_2153 =>
 consT l_2152 fun v_2154 l_2155 =>
 asI .i64 v_2154 fun x_2156 =>
 endT l_2155 <|
 consB 0 b_2145 fun k_2157 b_2158 =>
 asVar k_2157 fun l_2159 =>
 consV l_2159 fun v_2160 l_2161 =>
 asT v_2160 fun x_2162 =>
 asL 3 x_2162 fun nn_2163 l_2164 =>
 consV l_2161 fun v_2165 l_2166 =>
 asT v_2165 fun x_2167 =>
 asB x_2167 fun b_2168 =>
 endV l_2166 <|
 endB b_2158 <|
 some ((.t (.agg [(.int .i64 x_16), (.int .i64 x_1962), (.int .i64 x_2083), (.int .i64 x_2156), (.int .i64 x_32)])), ⟨[(0, (.var [(.t (.list 3 nn_2163 l_2164)), (.t (.bool b_2168))]))], [500]⟩)
else
(bif (decide (m9_3 = 5)) then
 callK (vr 62 0 [(.ptr 0 0 0)] ⟨[(0, (.var [(.t (.list 3 nn_2090 l_2091)), (.t (.bool b_2095))]))], []⟩) fun v_2169 b_2170 =>
 asT v_2169 fun x_2171 =>
 asI .i64 x_2171 fun x_2172 =>
 consB 0 b_2170 fun k_2173 b_2174 =>
 asVar k_2173 fun l_2175 =>
 consV l_2175 fun v_2176 l_2177 =>
 asT v_2176 fun x_2178 =>
 asL 3 x_2178 fun nn_2179 l_2180 =>
 consV l_2177 fun v_2181 l_2182 =>
 asT v_2181 fun x_2183 =>
 asB x_2183 fun b_2184 =>
 endV l_2182 <|
 endB b_2174 <|
 some ((.t (.agg [(.int .i64 x_16), (.int .i64 x_1962), (.int .i64 x_2083), (.int .i64 x_28), (.int .i64 x_2172)])), ⟨[(0, (.var [(.t (.list 3 nn_2179 l_2180)), (.t (.bool b_2184))]))], [500]⟩)
else
 some ((.t (.agg [(.int .i64 x_16), (.int .i64 x_1962), (.int .i64 x_2083), (.int .i64 x_28), (.int .i64 x_32)])), ⟨[(0, (.var [(.t (.list 3 nn_2090 l_2091)), (.t (.bool b_2095))]))], [500]⟩))))))
else
(bif (decide (m9_2 = 3)) then
 callK (vr 61 0 [(.ptr 0 0 0), (.t (.str ⟨#[97]⟩))] ⟨[(0, (.var [(.t (.list 3 nn_1969 l_1970)), (.t (.bool b_1974))]))], []⟩) fun v_2185 b_2186 =>
 asT v_2185 fun x_2187 =>
 asI .i64 x_2187 fun x_2188 =>
 consB 0 b_2186 fun k_2189 b_2190 =>
 asVar k_2189 fun l_2191 =>
 consV l_2191 fun v_2192 l_2193 =>
 asT v_2192 fun x_2194 =>
 asL 3 x_2194 fun nn_2195 l_2196 =>
 consV l_2193 fun v_2197 l_2198 =>
 asT v_2197 fun x_2199 =>
 asB x_2199 fun b_2200 =>
 endV l_2198 <|
 endB b_2190 <|
(bif (decide (m9_3 = 1)) then
 callK (vr 61 0 [(.ptr 0 0 0), (.t (.str ⟨#[114]⟩))] ⟨[(0, (.var [(.t (.list 3 nn_2195 l_2196)), (.t (.bool b_2200))]))], []⟩) fun v_2201 b_2202 =>
 asT v_2201 fun x_2203 =>
 asI .i64 x_2203 fun x_2204 =>
 consB 0 b_2202 fun k_2205 b_2206 =>
 asVar k_2205 fun l_2207 =>
 consV l_2207 fun v_2208 l_2209 =>
 asT v_2208 fun x_2210 =>
 asL 3 x_2210 fun nn_2211 l_2212 =>
 consV l_2209 fun v_2213 l_2214 =>
 asT v_2213 fun x_2215 =>
 asB x_2215 fun b_2216 =>
 endV l_2214 <|
 endB b_2206 <|
 some ((.t (.agg [(.int .i64 x_16), (.int .i64 x_1962), (.int .i64 x_2188), (.int .i64 x_2204), (.int .i64 x_32)])), ⟨[(0, (.var [(.t (.list 3 nn_2211 l_2212)), (.t (.bool b_2216))]))], [500]⟩)
else
(bif (decide (m9_3 = 2)) then
 callK (vr 61 0 [(.ptr 0 0 0), (.t (.str ⟨#[114]⟩))] ⟨[(0, (.var [(.t (.list 3 nn_2195 l_2196)), (.t (.bool b_2200))]))], []⟩) fun v_2217 b_2218 =>
 asT v_2217 fun x_2219 =>
 asI .i64 x_2219 fun x_2220 =>
 consB 0 b_2218 fun k_2221 b_2222 =>
 asVar k_2221 fun l_2223 =>
 consV l_2223 fun v_2224 l_2225 =>
 asT v_2224 fun x_2226 =>
 asL 3 x_2226 fun nn_2227 l_2228 =>
 consV l_2225 fun v_2229 l_2230 =>
 asT v_2229 fun x_2231 =>
 asB x_2231 fun b_2232 =>
 endV l_2230 <|
 endB b_2222 <|
 some ((.t (.agg [(.int .i64 x_16), (.int .i64 x_1962), (.int .i64 x_2188), (.int .i64 x_2220), (.int .i64 x_32)])), ⟨[(0, (.var [(.t (.list 3 nn_2227 l_2228)), (.t (.bool b_2232))]))], [500]⟩)
else
(bif (decide (m9_3 = 3)) then
 callK (vr 61 0 [(.ptr 0 0 0), (.t (.str ⟨#[97]⟩))] ⟨[(0, (.var [(.t (.list 3 nn_2195 l_2196)), (.t (.bool b_2200))]))], []⟩) fun v_2233 b_2234 =>
 asT v_2233 fun x_2235 =>
 asI .i64 x_2235 fun x_2236 =>
 consB 0 b_2234 fun k_2237 b_2238 =>
 asVar k_2237 fun l_2239 =>
 consV l_2239 fun v_2240 l_2241 =>
 asT v_2240 fun x_2242 =>
 asL 3 x_2242 fun nn_2243 l_2244 =>
 consV l_2241 fun v_2245 l_2246 =>
 asT v_2245 fun x_2247 =>
 asB x_2247 fun b_2248 =>
 endV l_2246 <|
 endB b_2238 <|
 some ((.t (.agg [(.int .i64 x_16), (.int .i64 x_1962), (.int .i64 x_2188), (.int .i64 x_2236), (.int .i64 x_32)])), ⟨[(0, (.var [(.t (.list 3 nn_2243 l_2244)), (.t (.bool b_2248))]))], [500]⟩)
else
(bif (decide (m9_3 = 4)) then
 callK (vr 30 0 [(.ptr 0 0 0), (.t (.int .i64 2))] ⟨[(0, (.var [(.t (.list 3 nn_2195 l_2196)), (.t (.bool b_2200))]))], []⟩) fun v_2249 b_2250 =>
 asT v_2249 fun x_2251 =>
 asA x_2251 fun l_2252 =>
 consT l_2252 fun v_2253 l_2254 =>
 asI .i64 v_2253 fun x_2255 =>
 consT l_2254 fun v_2256 l_2257 =>
 asS v_2256 fun s_2258 =>
 consT l_2257 fun v_2259 l_2260 =>
 asI .i64 v_2259 fun x_2261 =>
 endT l_2260 <|
 consB 0 b_2250 fun k_2262 b_2263 =>
 asVar k_2262 fun l_2264 =>
 consV l_2264 fun v_2265 l_2266 =>
 asT v_2265 fun x_2267 =>
 asL 3 x_2267 fun nn_2268 l_2269 =>
 consV l_2266 fun v_2270 l_2271 =>
 asT v_2270 fun x_2272 =>
 asB x_2272 fun b_2273 =>
 endV l_2271 <|
 endB b_2263 <|
 some ((.t (.agg [(.int .i64 x_16), (.int .i64 x_1962), (.int .i64 x_2188), (.int .i64 x_2261), (.int .i64 x_32)])), ⟨[(0, (.var [(.t (.list 3 nn_2268 l_2269)), (.t (.bool b_2273))]))], [500]⟩)
else
(bif (decide (m9_3 = 5)) then
 callK (vr 62 0 [(.ptr 0 0 0)] ⟨[(0, (.var [(.t (.list 3 nn_2195 l_2196)), (.t (.bool b_2200))]))], []⟩) fun v_2274 b_2275 =>
 asT v_2274 fun x_2276 =>
 asI .i64 x_2276 fun x_2277 =>
 consB 0 b_2275 fun k_2278 b_2279 =>
 asVar k_2278 fun l_2280 =>
 consV l_2280 fun v_2281 l_2282 =>
 asT v_2281 fun x_2283 =>
 asL 3 x_2283 fun nn_2284 l_2285 =>
 consV l_2282 fun v_2286 l_2287 =>
 asT v_2286 fun x_2288 =>
 asB x_2288 fun b_2289 =>
 endV l_2287 <|
 endB b_2279 <|
 some ((.t (.agg [(.int .i64 x_16), (.int .i64 x_1962), (.int .i64 x_2188), (.int .i64 x_28), (.int .i64 x_2277)])), ⟨[(0, (.var [(.t (.list 3 nn_2284 l_2285)), (.t (.bool b_2289))]))], [500]⟩)
else
 some ((.t (.agg [(.int .i64 x_16), (.int .i64 x_1962), (.int .i64 x_2188), (.int .i64 x_28), (.int .i64 x_32)])), ⟨[(0, (.var [(.t (.list 3 nn_2195 l_2196)), (.t (.bool b_2200))]))], [500]⟩))))))
else
(bif (decide (m9_2 = 4)) then
 callK (vr 30 0 [(.ptr 0 0 0), (.t (.int .i64 2))] ⟨[(0, (.var [(.t (.list 3 nn_1969 l_1970)), (.t (.bool b_1974))]))], []⟩) fun v_2290 b_2291 =>
 asT v_2290 fun x_2292 =>
 asA x_2292 fun l_2293 =>
 consT l_2293 fun v_2294 l_2295 =>
 asI .i64 v_2294 fun x_2296 =>
 consT l_2295 fun v_2297 l_2298 =>
 asS v_2297 fun s_2299 =>
 consT l_2298 fun v_2300 l_2301 =>
 asI .i64 v_2300 fun x_2302 =>
 endT l_2301 <|
 consB 0 b_2291 fun k_2303 b_2304 =>
 asVar k_2303 fun l_2305 =>
 consV l_2305 fun v_2306 l_2307 =>
 asT v_2306 fun x_2308 =>
 asL 3 x_2308 fun nn_2309 l_2310 =>
 consV l_2307 fun v_2311 l_2312 =>
 asT v_2311 fun x_2313 =>
 asB x_2313 fun b_2314 =>
 endV l_2312 <|
 endB b_2304 <|
(bif (decide (m9_3 = 1)) then
 callK (vr 61 0 [(.ptr 0 0 0), (.t (.str ⟨#[114]⟩))] ⟨[(0, (.var [(.t (.list 3 nn_2309 l_2310)), (.t (.bool b_2314))]))], []⟩) fun v_2315 b_2316 =>
 asT v_2315 fun x_2317 =>
 asI .i64 x_2317 fun x_2318 =>
 consB 0 b_2316 fun k_2319 b_2320 =>
 asVar k_2319 fun l_2321 =>
 consV l_2321 fun v_2322 l_2323 =>
 asT v_2322 fun x_2324 =>
 asL 3 x_2324 fun nn_2325 l_2326 =>
 consV l_2323 fun v_2327 l_2328 =>
 asT v_2327 fun x_2329 =>
 asB x_2329 fun b_2330 =>
 endV l_2328 <|
 endB b_2320 <|
 some ((.t (.agg [(.int .i64 x_16), (.int .i64 x_1962), (.int .i64 x_2302), (.int .i64 x_2318), (.int .i64 x_32)])), ⟨[(0, (.var [(.t (.list 3 nn_2325 l_2326)), (.t (.bool b_2330))]))], [500]⟩)
else
(bif (decide (m9_3 = 2)) then
 callK (vr 61 0 [(.ptr 0 0 0), (.t (.str ⟨#[114]⟩))] ⟨[(0, (.var [(.t (.list 3 nn_2309 l_2310)), (.t (.bool b_2314))]))], []⟩) fun v_2331 b_2332 =>
 asT v_2331 fun x_2333 =>
 asI .i64 x_2333 fun x_2334 =>
 consB 0 b_2332 fun k_2335 b_2336 =>
 asVar k_2335 fun l_2337 =>
 consV l_2337 fun v_2338 l_2339 =>
 asT v_2338 fun x_2340 =>
 asL 3 x_2340 fun nn_2341 l_2342 =>
 consV l_2339 fun v_2343 l_2344 =>
 asT v_2343 fun x_2345 =>
 asB x_2345 fun b_2346 =>
 endV l_2344 <|
 endB b_2336 <|
 some ((.t (.agg [(.int .i64 x_16), (.int .i64 x_1962), (.int .i64 x_2302), (.int .i64 x_2334), (.int .i64 x_32)])), ⟨[(0, (.var [(.t (.list 3 nn_2341 l_2342)), (.t (.bool b_2346))]))], [500]⟩)
else
(bif (decide (m9_3 = 3)) then
 callK (vr 61 0 [(.ptr 0 0 0), (.t (.str ⟨#[97]⟩))] ⟨[(0, (.var [(.t (.list 3 nn_2309 l_2310)), (.t (.bool b_2314))]))], []⟩) fun v_2347 b_2348 =>
 asT v_2347 fun x_2349 =>
 asI .i64 x_2349 fun x_2350 =>
 consB 0 b_2348 fun k_2351 b_2352 =>
 asVar k_2351 fun l_2353 =>
 consV l_2353 fun v_2354 l_2355 =>
 asT v_2354 fun x_2356 =>
 asL 3 x_2356 fun nn_2357 l_2358 =>
 consV l_2355 fun v_2359 l_2360 =>
 asT v_2359 fun x_2361 =>
 asB x_2361 fun b_2362 =>
 endV l_2360 <|
 endB b_2352 <|
 some ((.t (.agg [(.int .i64 x_16), (.int .i64 x_1962), (.int .i64 x_2302), (.int .i64 x_2350), (.int .i64 x_32)])), ⟨[(0, (.var [(.t (.list 3 nn_2357 l_2358)), (.t (.bool b_2362))]))], [500]⟩)
else
(bif (decide (m9_3 = 4)) then
 callK (vr 30 0 [(.ptr 0 0 0), (.t (.int .i64 2))] ⟨[(0, (.var [(.t (.list 3 nn_2309 l_2310)), (.t (.bool b_2314))]))], []⟩) fun v_2363 b_2364 =>
 asT v_2363 fun x_2365 =>
 asA x_2365 fun l_2366 =>
 consT l_2366 fun v_2367 l_2368 =>
 asI .i64 v_2367 fun x_2369 =>
 consT l_2368 fun v_2370 l_2371 =>
 asS v_2370 fun s_2372 =>
 consT l_2371 fun v_2373 l_2374 =>
 asI .i64 v_2373 fun x_2375 =>
 endT l_2374 <|
 consB 0 b_2364 fun k_2376 b_2377 =>
 asVar k_2376 fun l_2378 =>
 consV l_2378 fun v_2379 l_2380 =>
 asT v_2379 fun x_2381 =>
 asL 3 x_2381 fun nn_2382 l_2383 =>
 consV l_2380 fun v_2384 l_2385 =>
 asT v_2384 fun x_2386 =>
 asB x_2386 fun b_2387 =>
 endV l_2385 <|
 endB b_2377 <|
 some ((.t (.agg [(.int .i64 x_16), (.int .i64 x_1962), (.int .i64 x_2302), (.int .i64 x_2375), (.int .i64 x_32)])), ⟨[(0, (.var [(.t (.list 3 nn_2382 l_2383)), (.t (.bool b_2387))]))], [500]⟩)
else
(bif (decide (m9_3 = 5)) then
 callK (vr 62 0 [(.ptr 0 0 0)] ⟨[(0, (.var [(.t (.list 3 nn_2309 l_2310)), (.t (.bool b_2314))]))], []⟩) fun v_2388 b_2389 =>
 asT v_2388 fun x_2390 =>
 asI .i64 x_2390 fun x_2391 =>
 consB 0 b_2389 fun k_2392 b_2393 =>
 asVar k_2392 fun l_2394 =>
 consV l_2394 fun v_2395 l_2396 =>
 asT v_2395 fun x_2397 =>
 asL 3 x_2397 fun nn_2398 l_2399 =>
 consV l_2396 fun v_2400 l_2401 =>
 asT v_2400 fun x_2402 =>
 asB x_2402 fun b_2403 =>
 endV l_2401 <|
 endB b_2393 <|
 some ((.t (.agg [(.int .i64 x_16), (.int .i64 x_1962), (.int .i64 x_2302), (.int .i64 x_28), (.int .i64 x_2391)])), ⟨[(0, (.var [(.t (.list 3 nn_2398 l_2399)), (.t (.bool b_2403))]))], [500]⟩)
else
 some ((.t (.agg [(.int .i64 x_16), (.int .i64 x_1962), (.int .i64 x_2302), (.int .i64 x_28), (.int .i64 x_32)])), ⟨[(0, (.var [(.t (.list 3 nn_2309 l_2310)), (.t (.bool b_2314))]))], [500]⟩))))))
else
(bif (decide (m9_2 = 5)) then
 callK (vr 62 0 [(.ptr 0 0 0)] ⟨[(0, (.var [(.t (.list 3 nn_1969 l_1970)), (.t (.bool b_1974))]))], []⟩) fun v_2404 b_2405 =>
 asT v_2404 fun x_2406 =>
 asI .i64 x_2406 fun x_2407 =>
 consB 0 b_2405 fun k_2408 b_2409 =>
 asVar k_2408 fun l_2410 =>
 consV l_2410 fun v_2411 l_2412 =>
 asT v_2411 fun x_2413 =>
 asL 3 x_2413 fun nn_2414 l_2415 =>
 consV l_2412 fun v_2416 l_2417 =>
 asT v_2416 fun x_2418 =>
 asB x_2418 fun b_2419 =>
 endV l_2417 <|
 endB b_2409 <|
(bif (decide (m9_3 = 1)) then
 callK (vr 61 0 [(.ptr 0 0 0), (.t (.str ⟨#[114]⟩))] ⟨[(0, (.var [(.t (.list 3 nn_2414 l_2415)), (.t (.bool b_2419))]))], []⟩) fun v_2420 b_2421 =>
 asT v_2420 fun x_2422 =>
 asI .i64 x_2422 fun x_2423 =>
 consB 0 b_2421 fun k_2424 b_2425 =>
 asVar k_2424 fun l_2426 =>
 consV l_2426 fun v_2427 l_2428 =>
 asT v_2427 fun x_2429 =>
 asL 3 x_2429 fun nn_2430 l_2431 =>
 consV l_2428 fun v_2432 l_2433 =>
 asT v_2432 fun x_2434 =>
 asB x_2434 fun b_2435 =>
 endV l_2433 <|
 endB b_2425 <|
 some ((.t (.agg [(.int .i64 x_16), (.int .i64 x_1962), (.int .i64 x_24), (.int .i64 x_2423), (.int .i64 x_2407)])), ⟨[(0, (.var [(.t (.list 3 nn_2430 l_2431)), (.t (.bool b_2435))]))], [500]⟩)
else
(bif (decide (m9_3 = 2)) then
 callK (vr 61 0 [(.ptr 0 0 0), (.t (.str ⟨#[114]⟩))] ⟨[(0, (.var [(.t (.list 3 nn_2414 l_2415)), (.t (.bool b_2419))]))], []⟩) fun v_2436 b_2437 =>
 asT v_2436 fun x_2438 =>
 asI .i64 x_2438 fun x_2439 =>
 consB 0 b_2437 fun k_2440 b_2441 =>
 asVar k_2440 fun l_2442 =>
 consV l_2442 fun v_2443 l_2444 =>
 asT v_2443 fun x_2445 =>
 asL 3 x_2445 fun nn_2446 l_2447 =>
 consV l_2444 fun v_2448 l_2449 =>
 asT v_2448 fun x_2450 =>
 asB x_2450 fun b_2451 =>
 endV l_2449 <|
 endB b_2441 <|
 some ((.t (.agg [(.int .i64 x_16), (.int .i64 x_1962), (.int .i64 x_24), (.int .i64 x_2439), (.int .i64 x_2407)])), ⟨[(0, (.var [(.t (.list 3 nn_2446 l_2447)), (.t (.bool b_2451))]))], [500]⟩)
else
(bif (decide (m9_3 = 3)) then
 callK (vr 61 0 [(.ptr 0 0 0), (.t (.str ⟨#[97]⟩))] ⟨[(0, (.var [(.t (.list 3 nn_2414 l_2415)), (.t (.bool b_2419))]))], []⟩) fun v_2452 b_2453 =>
 asT v_2452 fun x_2454 =>
 asI .i64 x_2454 fun x_2455 =>
 consB 0 b_2453 fun k_2456 b_2457 =>
 asVar k_2456 fun l_2458 =>
 consV l_2458 fun v_2459 l_2460 =>
 asT v_2459 fun x_2461 =>
 asL 3 x_2461 fun nn_2462 l_2463 =>
 consV l_2460 fun v_2464 l_2465 =>
 asT v_2464 fun x_2466 =>
 asB x_2466 fun b_2467 =>
 endV l_2465 <|
 endB b_2457 <|
 some ((.t (.agg [(.int .i64 x_16), (.int .i64 x_1962), (.int .i64 x_24), (.int .i64 x_2455), (.int .i64 x_2407)])), ⟨[(0, (.var [(.t (.list 3 nn_2462 l_2463)), (.t (.bool b_2467))]))], [500]⟩)
else
(bif (decide (m9_3 = 4)) then
 callK (vr 30 0 [(.ptr 0 0 0), (.t (.int .i64 2))] ⟨[(0, (.var [(.t (.list 3 nn_2414 l_2415)), (.t (.bool b_2419))]))], []⟩) fun v_2468 b_2469 =>
 asT v_2468 fun x_2470 =>
 asA x_2470 fun l_2471 =>
 consT l_2471 fun v_2472 l_2473 =>
 asI .i64 v_2472 fun x_2474 =>
 consT l_2473 fun v_2475 l_2476 =>
 asS v_2475 fun s_2477 =>
 consT l_2476 fun v_2478 l_2479 =>
 asI .i64 v_2478 fun x_2480 =>
 endT l_2479 <|
 consB 0 b_2469 fun k_2481 b_2482 =>
 asVar k_2481 fun l_2483 =>
 consV l_2483 fun v_2484 l_2485 =>
 asT v_2484 fun x_2486 =>
 asL 3 x_2486 fun nn_2487 l_2488 =>
 consV l_2485 fun v_2489 l_2490 =>
 asT v_2489 fun x_2491 =>
 asB x_2491 fun b_2492 =>
 endV l_2490 <|
 endB b_2482 <|
 some ((.t (.agg [(.int .i64 x_16), (.int .i64 x_1962), (.int .i64 x_24), (.int .i64 x_2480), (.int .i64 x_2407)])), ⟨[(0, (.var [(.t (.list 3 nn_2487 l_2488)), (.t (.bool b_2492))]))], [500]⟩)
else
(bif (decide (m9_3 = 5)) then
 callK (vr 62 0 [(.ptr 0 0 0)] ⟨[(0, (.var [(.t (.list 3 nn_2414 l_2415)), (.t (.bool b_2419))]))], []⟩) fun v_2493 b_2494 =>
 asT v_2493 fun x_2495 =>
 asI .i64 x_2495 fun x_2496 =>
 consB 0 b_2494 fun k_2497 b_2498 =>
 asVar k_2497 fun l_2499 =>
 consV l_2499 fun v_2500 l_2501 =>
 asT v_2500 fun x_2502 =>
 asL 3 x_2502 fun nn_2503 l_2504 =>
 consV l_2501 fun v_2505 l_2506 =>
 asT v_2505 fun x_2507 =>
 asB x_2507 fun b_2508 =>
 endV l_2506 <|
 endB b_2498 <|
 some ((.t (.agg [(.int .i64 x_16), (.int .i64 x_1962), (.int .i64 x_24), (.int .i64 x_28), (.int .i64 x_2496)])), ⟨[(0, (.var [(.t (.list 3 nn_2503 l_2504)), (.t (.bool b_2508))]))], [500]⟩)
else
 some ((.t (.agg [(.int .i64 x_16), (.int .i64 x_1962), (.int .i64 x_24), (.int .i64 x_28), (.int .i64 x_2407)])), ⟨[(0, (.var [(.t (.list 3 nn_2414 l_2415)), (.t (.bool b_2419))]))], [500]⟩))))))
else
(bif (decide (m9_3 = 1)) then
 callK (vr 61 0 [(.ptr 0 0 0), (.t (.str ⟨#[114]⟩))] ⟨[(0, (.var [(.t (.list 3 nn_1969 l_1970)), (.t (.bool b_1974))]))], []⟩) fun v_2509 b_2510 =>
 asT v_2509 fun x_2511 =>
 asI .i64 x_2511 fun x_2512 =>
 consB 0 b_2510 fun k_2513 b_2514 =>
 asVar k_2513 fun l_2515 =>
 consV l_2515 fun v_2516 l_2517 =>
 asT v_2516 fun x_2518 =>
 asL 3 x_2518 fun nn_2519 l_2520 =>
 consV l_2517 fun v_2521 l_2522 =>
 asT v_2521 fun x_2523 =>
 asB x_2523 fun b_2524 =>
 endV l_2522 <|
 endB b_2514 <|
 some ((.t (.agg [(.int .i64 x_16), (.int .i64 x_1962), (.int .i64 x_24), (.int .i64 x_2512), (.int .i64 x_32)])), ⟨[(0, (.var [(.t (.list 3 nn_2519 l_2520)), (.t (.bool b_2524))]))], [500]⟩)
else
(bif (decide (m9_3 = 2)) then
 callK (vr 61 0 [(.ptr 0 0 0), (.t (.str ⟨#[114]⟩))] ⟨[(0, (.var [(.t (.list 3 nn_1969 l_1970)), (.t (.bool b_1974))]))], []⟩) fun v_2525 b_2526 =>
 asT v_2525 fun x_2527 =>
 asI .i64 x_2527 fun x_2528 =>
 consB 0 b_2526 fun k_2529 b_2530 =>
 asVar k_2529 fun l_2531 =>
 consV l_2531 fun v_2532 l_2533 =>
 asT v_2532 fun x_2534 =>
 asL 3 x_2534 fun nn_2535 l_2536 =>
 consV l_2533 fun v_2537 l_2538 =>
 asT v_2537 fun x_2539 =>
 asB x_2539 fun b_2540 =>
 endV l_2538 <|
 endB b_2530 <|
 some ((.t (.agg [(.int .i64 x_16), (.int .i64 x_1962), (.int .i64 x_24), (.int .i64 x_2528), (.int .i64 x_32)])), ⟨[(0, (.var [(.t (.list 3 nn_2535 l_2536)), (.t (.bool b_2540))]))], [500]⟩)
else
(bif (decide (m9_3 = 3)) then
 callK (vr 61 0 [(.ptr 0 0 0), (.t (.str ⟨#[97]⟩))] ⟨[(0, (.var [(.t (.list 3 nn_1969 l_1970)), (.t (.bool b_1974))]))], []⟩) fun v_2541 b_2542 =>
 asT v_2541 fun x_2543 =>
 asI .i64 x_2543 fun x_2544 =>
 consB 0 b_2542 fun k_2545 b_2546 =>
 asVar k_2545 fun l_2547 =>
 consV l_2547 fun v_2548 l_2549 =>
 asT v_2548 fun x_2550 =>
 asL 3 x_2550 fun nn_2551 l_2552 =>
 consV l_2549 fun v_2553 l_2554 =>
 asT v_2553 fun x_2555 =>
 asB x_2555 fun b_2556 =>
 endV l_2554 <|
 endB b_2546 <|
 some ((.t (.agg [(.int .i64 x_16), (.int .i64 x_1962), (.int .i64 x_24), (.int .i64 x_2544), (.int .i64 x_32)])), ⟨[(0, (.var [(.t (.list 3 nn_2551 l_2552)), (.t (.bool b_2556))]))], [500]⟩)
else
(bif (decide (m9_3 = 4)) then
 callK (vr 30 0 [(.ptr 0 0 0), (.t (.int .i64 2))] ⟨[(0, (.var [(.t (.list 3 nn_1969 l_1970)), (.t (.bool b_1974))]))], []⟩) fun v_2557 b_2558 =>
 asT v_2557 fun x_2559 =>
 asA x_2559 fun l_2560 =>
 consT l_2560 fun v_2561 l_2562 =>
 asI .i64 v_2561 fun x_2563 =>
 consT l_2562 fun v_2564 l_2565 =>
 asS v_2564 fun s_2566 =>
 consT l_2565 fun v_2567 l_2568 =>
 asI .i64 v_2567 fun x_2569 =>
 endT l_2568 <|
 consB 0 b_2558 fun k_2570 b_2571 =>
 asVar k_2570 fun l_2572 =>
 consV l_2572 fun v_2573 l_2574 =>
 asT v_2573 fun x_2575 =>
 asL 3 x_2575 fun nn_2576 l_2577 =>
 consV l_2574 fun v_2578 l_2579 =>
 asT v_2578 fun x_2580 =>
 asB x_2580 fun b_2581 =>
 endV l_2579 <|
 endB b_2571 <|
 some ((.t (.agg [(.int .i64 x_16), (.int .i64 x_1962), (.int .i64 x_24), (.int .i64 x_2569), (.int .i64 x_32)])), ⟨[(0, (.var [(.t (.list 3 nn_2576 l_2577)), (.t (.bool b_2581))]))], [500]⟩)
else
(bif (decide (m9_3 = 5)) then
 callK (vr 62 0 [(.ptr 0 0 0)] ⟨[(0, (.var [(.t (.list 3 nn_1969 l_1970)), (.t (.bool b_1974))]))], []⟩) fun v_2582 b_2583 =>
 asT v_2582 fun x_2584 =>
 asI .i64 x_2584 fun x_2585 =>
 consB 0 b_2583 fun k_2586 b_2587 =>
 asVar k_2586 fun l_2588 =>
 consV l_2588 fun v_2589 l_2590 =>
 asT v_2589 fun x_2591 =>
 asL 3 x_2591 fun nn_2592 l_2593 =>
 consV l_2590 fun v_2594 l_2595 =>
 asT v_2594 fun x_2596 =>
 asB x_2596 fun b_2597 =>
 endV l_2595 <|
 endB b_2587 <|
 some ((.t (.agg [(.int .i64 x_16), (.int .i64 x_1962), (.int .i64 x_24), (.int .i64 x_28), (.int .i64 x_2585)])), ⟨[(0, (.var [(.t (.list 3 nn_2592 l_2593)), (.t (.bool b_2597))]))], [500]⟩)
else
 some ((.t (.agg [(.int .i64 x_16), (.int .i64 x_1962), (.int .i64 x_24), (.int .i64 x_28), (.int .i64 x_32)])), ⟨[(0, (.var [(.t (.list 3 nn_1969 l_1970)), (.t (.bool b_1974))]))], [500]⟩)))))))))))
else
(bif (decide (m9_1 = 5)) then
 callK (vr 62 0 [(.ptr 0 0 0)] ⟨[(0, (.var [(.t (.list 3 m0_0z m0_0)), (.t (.bool m0_1))]))], []⟩) fun v_2598 b_2599 =>
 asT v_2598 fun x_2600 =>
 asI .i64 x_2600 fun x_2601 =>
 consB 0 b_2599 fun k_2602 b_2603 =>
 asVar k_2602 fun l_2604 =>
 consV l_2604 fun v_2605 l_2606 =>
 asT v_2605 fun x_2607 =>
 asL 3 x_2607 fun nn_2608 l_2609 =>
 consV l_2606 fun v_2610 l_2611 =>
 asT v_2610 fun x_2612 =>
 asB x_2612 fun b_2613 =>
 endV l_2611 <|
 endB b_2603 <|
(bif (decide (m9_2 = 1)) then
 callK (vr 61 0 [(.ptr 0 0 0), (.t (.str ⟨#[114]⟩))] ⟨[(0, (.var [(.t (.list 3 nn_2608 l_2609)), (.t (.bool b_2613))]))], []⟩) fun v_2614 b_2615 =>
 asT v_2614 fun x_2616 =>
 asI .i64 x_2616 fun x_2617 =>
 consB 0 b_2615 fun k_2618 b_2619 =>
 asVar k_2618 fun l_2620 =>
 consV l_2620 fun v_2621 l_2622 =>
 asT v_2621 fun x_2623 =>
 asL 3 x_2623 fun nn_2624 l_2625 =>
 consV l_2622 fun v_2626 l_2627 =>
 asT v_2626 fun x_2628 =>
 asB x_2628 fun b_2629 =>
 endV l_2627 <|
 endB b_2619 <|
(bif (decide (m9_3 = 1)) then
 callK (vr 61 0 [(.ptr 0 0 0), (.t (.str ⟨#[114]⟩))] ⟨[(0, (.var [(.t (.list 3 nn_2624 l_2625)), (.t (.bool b_2629))]))], []⟩) fun v_2630 b_2631 =>
 asT v_2630 fun x_2632 =>
 asI .i64 x_2632 fun x_2633 =>
 consB 0 b_2631 fun k_2634 b_2635 =>
 asVar k_2634 fun l_2636 =>
 consV l_2636 fun v_2637 l_2638 =>
 asT v_2637 fun x_2639 =>
 asL 3 x_2639 fun nn_2640 l_2641 =>
 consV l_2638 fun v_2642 l_2643 =>
 asT v_2642 fun x_2644 =>
 asB x_2644 fun b_2645 =>
 endV l_2643 <|
 endB b_2635 <|
 some ((.t (.agg [(.int .i64 x_16), (.int .i64 x_20), (.int .i64 x_2617), (.int .i64 x_2633), (.int .i64 x_2601)])), ⟨[(0, (.var [(.t (.list 3 nn_2640 l_2641)), (.t (.bool b_2645))]))], [500]⟩)
else
(bif (decide (m9_3 = 2)) then
 callK (vr 61 0 [(.ptr 0 0 0), (.t (.str ⟨#[114]⟩))] ⟨[(0, (.var [(.t (.list 3 nn_2624 l_2625)), (.t (.bool b_2629))]))], []⟩) fun v_2646 b_2647 =>
 asT v_2646 fun x_2648 =>
 asI .i64 x_2648 fun x_2649 =>
 consB 0 b_2647 fun k_2650 b_2651 =>
 asVar k_2650 fun l_2652 =>
 consV l_2652 fun v_2653 l_2654 =>
 asT v_2653 fun x_2655 =>
 asL 3 x_2655 fun nn_2656 l_2657 =>
 consV l_2654 fun v_2658 l_2659 =>
 asT v_2658 fun x_2660 =>
 asB x_2660 fun b_2661 =>
 endV l_2659 <|
 endB b_2651 <|
 some ((.t (.agg [(.int .i64 x_16), (.int .i64 x_20), (.int .i64 x_2617), (.int .i64 x_2649), (.int .i64 x_2601)])), ⟨[(0, (.var [(.t (.list 3 nn_2656 l_2657)), (.t (.bool b_2661))]))], [500]⟩)
else
(bif (decide (m9_3 = 3)) then
 callK (vr 61 0 [(.ptr 0 0 0), (.t (.str ⟨#[97]⟩))] ⟨[(0, (.var [(.t (.list 3 nn_2624 l_2625)), (.t (.bool b_2629))]))], []⟩) fun v_2662 b_2663 =>
 asT v_2662 fun x_2664 =>
 asI .i64 x_2664 fun x_2665 =>
 consB 0 b_2663 fun k_2666 b_2667 =>
 asVar k_2666 fun l_2668 =>
 consV l_2668 fun v_2669 l_2670 =>
 asT v_2669 fun x_2671 =>
 asL 3 x_2671 fun nn_2672 l_2673 =>
 consV l_2670 fun v_2674 l_2675 =>
 asT v_2674 fun x_2676 =>
 asB x_2676 fun b_2677 =>
 endV l_2675 <|
 endB b_2667 <|
 some ((.t (.agg [(.int .i64 x_16), (.int .i64 x_20), (.int .i64 x_2617), (.int .i64 x_2665), (.int .i64 x_2601)])), ⟨[(0, (.var [(.t (.list 3 nn_2672 l_2673)), (.t (.bool b_2677))]))], [500]⟩)
else
(bif (decide (m9_3 = 4)) then
 callK (vr 30 0 [(.ptr 0 0 0), (.t (.int .i64 2))] ⟨[(0, (.var [(.t (.list 3 nn_2624 l_2625)), (.t (.bool b_2629))]))], []⟩) fun v_2678 b_2679 =>
 asT v_2678 fun x_2680 =>
 asA x_2680 fun l_2681 =>
 consT l_2681 fun v_2682 l_2683 =>
 asI .i64 v_2682 fun x_2684 =>
 consT l_2683 fun v_2685 l_2686 =>
 asS v_2685 fun s_2687 =>
 consT l_2686 fun v_2688 l_2689 =>
 asI .i64 v_2688 fun x_2690 =>
 endT l_2689 <|
 consB 0 b_2679 fun k_2691 b_2692 =>
 asVar k_2691 fun l_2693 =>
 consV l_2693 fun v_2694 l_2695 =>
 asT v_2694 fun x_2696 =>
 asL 3 x_2696 fun nn_2697 l_2698 =>
 consV l_2695 fun v_2699 l_2700 =>
 asT v_2699 fun x_2701 =>
 asB x_2701 fun b_2702 =>
 endV l_2700 <|
 endB b_2692 <|
 some ((.t (.agg [(.int .i64 x_16), (.int .i64 x_20), (.int .i64 x_2617), (.int .i64 x_2690), (.int .i64 x_2601)])), ⟨[(0, (.var [(.t (.list 3 nn_2697 l_2698)), (.t (.bool b_2702))]))], [500]⟩)
else
(bif (decide (m9_3 = 5)) then
 callK (vr 62 0 [(.ptr 0 0 0)] ⟨[(0, (.var [(.t (.list 3 nn_2624 l_2625)), (.t (.bool b_2629))]))], []⟩) fun v_2703 b_2704 =>
 asT v_2703 fun x_2705 =>
 asI .i64 x_2705 fun x_2706 =>
 consB 0 b_2704 fun k_2707 b_2708 =>
 asVar k_2707 fun l_2709 =>
 consV l_2709 fun v_2710 l_2711 =>
 asT v_2710 fun x_2712 =>
 asL 3 x_2712 fun nn_2713 l_2714 =>
 consV l_2711 fun v_2715 l_2716 =>
 asT v_2715 fun x_2717 =>
 asB x_2717 fun b_2718 =>
 endV l_2716 <|
 endB b_2708 <|
 some ((.t (.agg [(.int .i64 x_16), (.int .i64 x_20), (.int .i64 x_2617), (.int .i64 x_28), (.int .i64 x_2706)])), ⟨[(0, (.var [(.t (.list 3 nn_2713 l_2714)), (.t (.bool b_2718))]))], [500]⟩)
else
 some ((.t (.agg [(.int .i64 x_16), (.int .i64 x_20), (.int .i64 x_2617), (.int .i64 x_28), (.int .i64 x_2601)])), ⟨[(0, (.var [(.t (.list 3 nn_2624 l_2625)), (.t (.bool b_2629))]))], [500]⟩))))))
else
(bif (decide (m9_2 = 2)) then
 callK (vr 61 0 [(.ptr 0 0 0), (.t (.str ⟨#[114]⟩))] ⟨[(0, (.var [(.t (.list 3 nn_2608 l_2609)), (.t (.bool b_2613))]))], []⟩) fun v_2719 b_2720 =>
 asT v_2719 fun x_2721 =>
 asI .i64 x_2721 fun x_2722 =>
 consB 0 b_2720 fun k_2723 b_2724 =>
 asVar k_2723 fun l_2725 =>
 consV l_2725 fun v_2726 l_2727 =>
 asT v_2726 fun x_2728 =>
 asL 3 x_2728 fun nn_2729 l_2730 =>
 consV l_2727 fun v_2731 l_2732 =>
 asT v_2731 fun x_2733 =>
 asB x_2733 fun b_2734 =>
 endV l_2732 <|
 endB b_2724 <|
(bif (decide (m9_3 = 1)) then
 callK (vr 61 0 [(.ptr 0 0 0), (.t (.str ⟨#[114]⟩))] ⟨[(0, (.var [(.t (.list 3 nn_2729 l_2730)), (.t (.bool b_2734))]))], []⟩) fun v_2735 b_2736 =>
 asT v_2735 fun x_2737 =>
 asI .i64 x_2737 fun x_2738 =>
 consB 0 b_2736 fun k_2739 b_2740 =>
 asVar k_2739 fun l_2741 =>
 consV l_2741 fun v_2742 l_2743 =>
 asT v_2742 fun x_2744 =>
 asL 3 x_2744 fun nn_2745 l_2746 =>
 consV l_2743 fun v_2747 l_2748 =>
 asT v_2747 fun x_2749 =>
 asB x_2749 fun b_2750 =>
 endV l_2748 <|
 endB b_2740 <|
 some ((.t (.agg [(.int .i64 x_16), (.int .i64 x_20), (.int .i64 x_2722), (.int .i64 x_2738), (.int .i64 x_2601)])), ⟨[(0, (.var [(.t (.list 3 nn_2745 l_2746)), (.t (.bool b_2750))]))], [500]⟩)
else
(bif (decide (m9_3 = 2)) then
 callK (vr 61 0 [(.ptr 0 0 0), (.t (.str ⟨#[114]⟩))] ⟨[(0, (.var [(.t (.list 3 nn_2729 l_2730)), (.t (.bool b_2734))]))], []⟩) fun v_2751 b_2752 =>
 asT v_2751 fun x_2753 =>
 asI .i64 x_2753 fun x_2754 =>
 consB 0 b_2752 fun k_2755 b_2756 =>
 asVar k_2755 fun l_2757 =>
 consV l_2757 fun v_2758 l_2759 =>
 asT v_2758 fun x_2760 =>
 asL 3 x_2760 fun nn_2761 l_2762 =>
 consV l_2759 fun v_2763 l_2764 =>
 asT v_2763 fun x_2765 =>
 asB x_2765 fun b_2766 =>
 endV l_2764 <|
 endB b_2756 <|
 some ((.t (.agg [(.int .i64 x_16), (.int .i64 x_20), (.int .i64 x_2722), (.int .i64 x_2754), (.int .i64 x_2601)])), ⟨[(0, (.var [(.t (.list 3 nn_2761 l_2762)), (.t (.bool b_2766))]))], [500]⟩)
else
(bif (decide (m9_3 = 3)) then
 callK (vr 61 0 [(.ptr 0 0 0), (.t (.str ⟨#[97]⟩))] ⟨[(0, (.var [(.t (.list 3 nn_2729 l_2730)), (.t (.bool b_2734))]))], []⟩) fun v_2767 b_2768 =>
 asT v_2767 fun x_2769 =>
 asI .i64 x_2769 fun x_2770 =>
 consB 0 b_2768 fun k_2771 b_2772 =>
 asVar k_2771 fun l_2773 =>
 consV l_2773 fun v_2774 l_2775 =>
 asT v_2774 fun x_2776 =>
 asL 3 x_2776 fun nn_2777 l_2778 =>
 consV l_2775 fun v_2779 l_2780 =>
 asT v_2779 fun x_2781 =>
 asB x_2781 fun b_2782 =>
 endV l_2780 <|
 endB b_2772 <|
 some ((.t (.agg [(.int .i64 x_16), (.int .i64 x_20), (.int .i64 x_2722), (.int .i64 x_2770), (.int .i64 x_2601)])), ⟨[(0, (.var [(.t (.list 3 nn_2777 l_2778)), (.t (.bool b_2782))]))], [500]⟩)
else
(bif (decide (m9_3 = 4)) then
 callK (vr 30 0 [(.ptr 0 0 0), (.t (.int .i64 2))] ⟨[(0, (.var [(.t (.list 3 nn_2729 l_2730)), (.t (.bool b_2734))]))], []⟩) fun v_2783 b_2784 =>
 asT v_2783 fun x_2785 =>
 asA x_2785 fun l_2786 =>
 consT l_2786 fun v_2787 l_2788 =>
 asI .i64 v_2787 fun x_2789 =>
 consT l_2788 fun v_2790 l_2791 =>
 asS v_2790 fun s_2792 =>
 consT l_2791 fun v_2793 l_2794 =>
 asI .i64 v_2793 fun x_2795 =>
 endT l_2794 <|
 consB 0 b_2784 fun k_2796 b_2797 =>
 asVar k_2796 fun l_2798 =>
 consV l_2798 fun v_2799 l_2800 =>
 asT v_2799 fun x_2801 =>
 asL 3 x_2801 fun nn_2802 l_2803 =>
 consV l_2800 fun v_2804 l_2805 =>
 asT v_2804 fun x_2806 =>
 asB x_2806 fun b_2807 =>
 endV l_2805 <|
 endB b_2797 <|
 some ((.t (.agg [(.int .i64 x_16), (.int .i64 x_20), (.int .i64 x_2722), (.int .i64 x_2795), (.int .i64 x_2601)])), ⟨[(0, (.var [(.t (.list 3 nn_2802 l_2803)), (.t (.bool b_2807))]))], [500]⟩)
else
(bif (decide (m9_3 = 5)) then
 callK (vr 62 0 [(.ptr 0 0 0)] ⟨[(0, (.var [(.t (.list 3 nn_2729 l_2730)), (.t (.bool b_2734))]))], []⟩) fun v_2808 b_2809 =>
 asT v_2808 fun x_2810 =>
 asI .i64 x_2810 fun x_2811 =>
 consB 0 b_2809 fun k_2812 b_2813 =>
 asVar k_2812 fun l_2814 =>
 consV l_2814 fun v_2815 l_2816 =>
 asT v_2815 fun x_2817 =>
 asL 3 x_2817 fun nn_2818 l_2819 =>
 consV l_2816 fun v_2820 l_2821 =>
 asT v_2820 fun x_2822 =>
 asB x_2822 fun b_2823 =>
 endV l_2821 <|
 endB b_2813 <|
 some ((.t (.agg [(.int .i64 x_16), (.int .i64 x_20), (.int .i64 x_2722), (.int .i64 x_28), (.int .i64 x_2811)])), ⟨[(0, (.var [(.t (.list 3 nn_2818 l_2819)), (.t (.bool b_2823))]))], [500]⟩)
else
 some ((.t (.agg [(.int .i64 x_16), (.int .i64 x_20), (.int .i64 x_2722), (.int .i64 x_28), (.int .i64 x_2601)])), ⟨[(0, (.var [(.t (.list 3 nn_2729 l_2730)), (.t (.bool b_2734))]))], [500]⟩))))))
else
(bif (decide (m9_2 = 3)) then
 callK (vr 61 0 [(.ptr 0 0 0), (.t (.str ⟨#[97]⟩))] ⟨[(0, (.var [(.t (.list 3 nn_2608 l_2609)), (.t (.bool b_2613))]))], []⟩) fun v_2824 b_2825 =>
 asT v_2824 fun x_2826 =>
 asI .i64 x_2826 fun x_2827 =>
 consB 0 b_2825 fun k_2828 b_2829 =>
 asVar k_2828 fun l_2830 =>
 consV l_2830 fun v_2831 l_2832 =>
 asT v_2831 fun x_2833 =>
 asL 3 x_2833 fun nn_2834 l_2835 =>
 consV l_2832 fun v_2836 l_2837 =>
 asT v_2836 fun x_2838 =>
 asB x_2838 fun b_2839 =>
 endV l_2837 <|
 endB b_2829 <|
(bif (decide (m9_3 = 1)) then
 callK (vr 61 0 [(.ptr 0 0 0), (.t (.str ⟨#[114]⟩))] ⟨[(0, (.var [(.t (.list 3 nn_2834 l_2835)), (.t (.bool b_2839))]))], []⟩) fun v_2840 b_2841 =>
 asT v_2840 fun x_2842 =>
 asI .i64 x_2842 fun x_2843 =>
 consB 0 b_2841 fun k_2844 b_2845 =>
 asVar k_2844 fun l_2846 =>
 consV l_2846 fun v_2847 l_2848 =>
 asT v_2847 fun x_2849 =>
 asL 3 x_2849 fun nn_2850 l_2851 =>
 consV l_2848 fun v_2852 l_2853 =>
 asT v_2852 fun x_2854 =>
 asB x_2854 fun b_2855 =>
 endV l_2853 <|
 endB b_2845 <|
 some ((.t (.agg [(.int .i64 x_16), (.int .i64 x_20), (.int .i64 x_2827), (.int .i64 x_2843), (.int .i64 x_2601)])), ⟨[(0, (.var [(.t (.list 3 nn_2850 l_2851)), (.t (.bool b_2855))]))], [500]⟩)
else
(bif (decide (m9_3 = 2)) then
 callK (vr 61 0 [(.ptr 0 0 0), (.t (.str ⟨#[114]⟩))] ⟨[(0, (.var [(.t (.list 3 nn_2834 l_2835)), (.t (.bool b_2839))]))], []⟩) fun v_2856 b_2857 =>
 asT v_2856 fun x_2858 =>
 asI .i64 x_2858 fun x_2859 =>
 consB 0 b_2857 fun k_2860 b_2861 =>
 asVar k_2860 fun l_2862 =>
 consV l_2862 fun v_2863 l_2864 =>
 asT v_2863 fun x_2865 =>
 asL 3 x_2865 fun nn_2866 l_2867 =>
 consV l_2864 fun v_2868 l_2869 =>
 asT v_2868 fun x_2870 =>
 asB x_2870 fun b_2871 =>
 endV l_2869 <|
 endB b_2861 <|
 some ((.t (.agg [(.int .i64 x_16), (.int .i64 x_20), (.int .i64 x_2827), (.int .i64 x_2859), (.int .i64 x_2601)])), ⟨[(0, (.var [(.t (.list 3 nn_2866 l_2867)), (.t (.bool b_2871))]))], [500]⟩)
else
(bif (decide (m9_3 = 3)) then
 callK (vr 61 0 [(.ptr 0 0 0), (.t (.str ⟨#[97]⟩))] ⟨[(0, (.var [(.t (.list 3 nn_2834 l_2835)), (.t (.bool b_2839))]))], []⟩) fun v_2872 b_2873 =>
 asT v_2872 fun x_2874 =>
 asI .i64 x_2874 fun x_2875 =>
 consB 0 b_2873 fun k_2876 b_2877 =>
 asVar k_2876 fun l_2878 =>
 consV l_2878 fun v_2879 l_2880 =>
 asT v_2879 fun x_2881 =>
 asL 3 x_2881 fun nn_2882 l_2883 =>
 consV l_2880 fun v_2884 l_2885 =>
 asT v_2884 fun x_2886 =>
 asB x_2886 fun b_2887 =>
 endV l_2885 <|
 endB b_2877 <|
 some ((.t (.agg [(.int .i64 x_16), (.int .i64 x_20), (.int .i64 x_2827), (.int .i64 x_2875), (.int .i64 x_2601)])), ⟨[(0, (.var [(.t (.list 3 nn_2882 l_2883)), (.t (.bool b_2887))]))], [500]⟩)
else
(bif (decide (m9_3 = 4)) then
 callK (vr 30 0 [(.ptr 0 0 0), (.t (.int .i64 2))] ⟨[(0, (.var [(.t (.list 3 nn_2834 l_2835)), (.t (.bool b_2839))]))], []⟩) fun v_2888 b_2889 =>
 asT v_2888 fun x_2890 =>
 asA x_2890 fun l_2891 =>
 consT l_2891 fun v_2892 l_2893 =>
 asI .i64 v_2892 fun x_2894 =>
 consT l_2893 fun v_2895 l_2896 =>
 asS v_2895 fun s_2897 =>
 consT l_2896 fun v_2898 l_2899 =>
 asI .i64 v_2898 fun x_2900 =>
 endT l_2899 <|
 consB 0 b_2889 fun k_2901 b_2902 =>
 asVar k_2901 fun l_2903 =>
 consV l_2903 fun v_2904 l_2905 =>
 asT v_2904 fun x_2906 =>
 asL 3 x_2906 fun nn_2907 l_2908 =>
 consV l_2905 fun v_2909 l_2910 =>
 asT v_2909 fun x_2911 =>
 asB x_2911 fun b_2912 =>
 endV l_2910 <|
 endB b_2902 <|
 some ((.t (.agg [(.int .i64 x_16), (.int .i64 x_20), (.int .i64 x_2827), (.int .i64 x_2900), (.int .i64 x_2601)])), ⟨[(0, (.var [(.t (.list 3 nn_2907 l_2908)), (.t (.bool b_2912))]))], [500]⟩)
else
(bif (decide (m9_3 = 5)) then
 callK (vr 62 0 [(.ptr 0 0 0)] ⟨[(0, (.var [(.t (.list 3 nn_2834 l_2835)), (.t (.bool b_2839))]))], []⟩) fun v_2913 b_2914 =>
 asT v_2913 fun x_2915 =>
 asI .i64 x_2915 fun x_2916 =>
 consB 0 b_2914 fun k_2917 b_2918 =>
 asVar k_2917 fun l_2919 =>
 consV l_2919 fun v_2920 l_2921 =>
 asT v_2920 fun x_2922 =>
 asL 3 x_2922 fun nn_2923 l_2924 =>
 consV l_2921 fun v_2925 l_2926 =>
 asT v_2925 fun x_2927 =>
 asB x_2927 fun b_2928 =>
 endV l_2926 <|
 endB b_2918 <|
 some ((.t (.agg [(.int .i64 x_16), (.int .i64 x_20), (.int .i64 x_2827), (.int .i64 x_28), (.int .i64 x_2916)])), ⟨[(0, (.var [(.t (.list 3 nn_2923 l_2924)), (.t (.bool b_2928))]))], [500]⟩)
else
 some ((.t (.agg [(.int .i64 x_16), (.int .i64 x_20), (.int .i64 x_2827), (.int .i64 x_28), (.int .i64 x_2601)])), ⟨[(0, (.var [(.t (.list 3 nn_2834 l_2835)), (.t (.bool b_2839))]))], [500]⟩))))))
else
(bif (decide (m9_2 = 4)) then
 callK (vr 30 0 [(.ptr 0 0 0), (.t (.int .i64 2))] ⟨[(0, (.var [(.t (.list 3 nn_2608 l_2609)), (.t (.bool b_2613))]))], []⟩) fun v_2929 b_2930 =>
 asT v_2929 fun x_2931 =>
 asA x_2931 fun l_2932 =>
 consT l_2932 fun v_2933 l_2934 =>
 asI .i64 v_2933 fun x_2935 =>
 consT l_2934 fun v_2936 l_2937 =>
 asS v_2936 fun s_2938 =>
 consT l_2937 fun v_2939 l_2940 =>
 asI .i64 v_2939 fun x_2941 =>
 endT l_2940 <|
 consB 0 b_2930 fun k_2942 b_2943 =>
 asVar k_2942 fun l_2944 =>
 consV l_2944 fun v_2945 l_2946 =>
 asT v_2945 fun x_2947 =>
 asL 3 x_2947 fun nn_2948 l_2949 =>
 consV l_2946 fun v_2950 l_2951 =>
 asT v_2950 fun x_2952 =>
 asB x_2952 fun b_2953 =>
 endV l_2951 <|
 endB b_2943 <|
(bif (decide (m9_3 = 1)) then
 callK (vr 61 0 [(.ptr 0 0 0), (.t (.str ⟨#[114]⟩))] ⟨[(0, (.var [(.t (.list 3 nn_2948 l_2949)), (.t (.bool b_2953))]))], []⟩) fun v_2954 b_2955 =>
 asT v_2954 fun x_2956 =>
 asI .i64 x_2956 fun x_2957 =>
 consB 0 b_2955 fun k_2958 b_2959 =>
 asVar k_2958 fun l_2960 =>
 consV l_2960 fun v_2961 l_2962 =>
 asT v_2961 fun x_2963 =>
 asL 3 x_2963 fun nn_2964 l_2965 =>
 consV l_2962 fun v_2966 l_2967 =>
 asT v_2966 fun x_2968 =>
 asB x_2968 fun b_2969 =>
 endV l_2967 <|
 endB b_2959 <|
 some ((.t (.agg [(.int .i64 x_16), (.int .i64 x_20), (.int .i64 x_2941), (.int .i64 x_2957), (.int .i64 x_2601)])), ⟨[(0, (.var [(.t (.list 3 nn_2964 l_2965)), (.t (.bool b_2969))]))], [500]⟩)
else
(bif (decide (m9_3 = 2)) then
 callK (vr 61 0 [(.ptr 0 0 0), (.t (.str ⟨#[114]⟩))] ⟨[(0, (.var [(.t (.list 3 nn_2948 l_2949)), (.t (.bool b_2953))]))], []⟩) fun v_2970 b_2971 =>
 asT v_2970 fun x_2972 =>
 asI .i64 x_2972 fun x_2973 =>
 consB 0 b_2971 fun k_2974 b_2975 =>
 asVar k_2974 fun l_2976 =>
 consV l_2976 fun v_2977 l_2978 =>
 asT v_2977 fun x_2979 =>
 asL 3 x_2979 fun nn_2980 l_2981 =>
 consV l_2978 fun v_2982 l_2983 =>
 asT v_2982 fun x_2984 =>
 asB x_2984 fun b_2985 =>
 endV l_2983 <|
 endB b_2975 <|
 some ((.t (.agg [(.int .i64 x_16), (.int .i64 x_20), (.int .i64 x_2941), (.int .i64 x_2973), (.int .i64 x_2601)])), ⟨[(0, (.var [(.t (.list 3 nn_2980 l_2981)), (.t (.bool b_2985))]))], [500]⟩)
else
(bif (decide (m9_3 = 3)) then
 callK (vr 61 0 [(.ptr 0 0 0), (.t (.str ⟨#[97]⟩))] ⟨[(0, (.var [(.t (.list 3 nn_2948 l_2949)), (.t (.bool b_2953))]))], []⟩) fun v_2986 b_2987 =>
 asT v_2986 fun x_2988 =>
 asI .i64 x_2988 fun x_2989 =>
 consB 0 b_2987 fun k_2990 b_2991 =>
 asVar k_2990 fun l_2992 =>
 consV l_2992 fun v_2993 l_2994 =>
 asT v_2993 fun x_2995 =>
 asL 3 x_2995 fun nn_2996 l_2997 =>
 consV l_2994 fun v_2998 l_2999 =>
 asT v_2998 fun x_3000 =>
 asB x_3000 fun b_3001 =>
 endV l_2999 <|
 endB b_2991 <|
 some ((.t (.agg [(.int .i64 x_16), (.int .i64 x_20), (.int .i64 x_2941), (.int .i64 x_2989), (.int .i64 x_2601)])), ⟨[(0, (.var [(.t (.list 3 nn_2996 l_2997)), (.t (.bool b_3001))]))], [500]⟩)
else
(bif (decide (m9_3 = 4)) then
 callK (vr 30 0 [(.ptr 0 0 0), (.t (.int .i64 2))] ⟨[(0, (.var [(.t (.list 3 nn_2948 l_2949)), (.t (.bool b_2953))]))], []⟩) fun v_3002 b_3003 =>
 asT v_3002 fun x_3004 =>
 asA x_3004 fun l_3005 =>
 consT l_3005 fun v_3006 l_3007 =>
 asI .i64 v_3006 fun x_3008 =>
 consT l_3007 fun v_3009 l_3010 =>
 asS v_3009 fun s_3011 =>
 consT l_3010 fun v_3012 l_3013 =>
 asI .i64 v_3012 fun x_3014 =>
 endT l_3013 <|
 consB 0 b_3003 fun k_3015 b_3016 =>
 asVar k_3015 fun l_3017 =>
 consV l_3017 fun v_3018 l_3019 =>
 asT v_3018 fun x_3020 =>
 asL 3 x_3020 fun nn_3021 l_3022 =>
 consV l_3019 fun v_3023 l_3024 =>
 asT v_3023 fun x_3025 =>
 asB x_3025 fun b_3026 =>
 endV l_3024 <|
 endB b_3016 <|
 some ((.t (.agg [(.int .i64 x_16), (.int .i64 x_20), (.int .i64 x_2941), (.int .i64 x_3014), (.int .i64 x_2601)])), ⟨[(0, (.var [(.t (.list 3 nn_3021 l_3022)), (.t (.bool b_3026))]))], [500]⟩)
else
(bif (decide (m9_3 = 5)) then
 callK (vr 62 0 [(.ptr 0 0 0)] ⟨[(0, (.var [(.t (.list 3 nn_2948 l_2949)), (.t (.bool b_2953))]))], []⟩) fun v_3027 b_3028 =>
 asT v_3027 fun x_3029 =>
 asI .i64 x_3029 fun x_3030 =>
 consB 0 b_3028 fun k_3031 b_3032 =>
 asVar k_3031 fun l_3033 =>
 consV l_3033 fun v_3034 l_3035 =>
 asT v_3034 fun x_3036 =>
 asL 3 x_3036 fun nn_3037 l_3038 =>
 consV l_3035 fun v_3039 l_3040 =>
 asT v_3039 fun x_3041 =>
 asB x_3041 fun b_3042 =>
 endV l_3040 <|
 endB b_3032 <|
 some ((.t (.agg [(.int .i64 x_16), (.int .i64 x_20), (.int .i64 x_2941), (.int .i64 x_28), (.int .i64 x_3030)])), ⟨[(0, (.var [(.t (.list 3 nn_3037 l_3038)), (.t (.bool b_3042))]))], [500]⟩)
else
 some ((.t (.agg [(.int .i64 x_16), (.int .i64 x_20), (.int .i64 x_2941), (.int .i64 x_28), (.int .i64 x_2601)])), ⟨[(0, (.var [(.t (.list 3 nn_2948 l_2949)), (.t (.bool b_2953))]))], [500]⟩))))))
else
(bif (decide (m9_2 = 5)) then
 callK (vr 62 0 [(.ptr 0 0 0)] ⟨[(0, (.var [(.t (.list 3 nn_2608 l_2609)), (.t (.bool b_2613))]))], []⟩) fun v_3043 b_3044 =>
 asT v_3043 fun x_3045 =>
 asI .i64 x_3045 fun x_3046 =>
 consB 0 b_3044 fun k_3047 b_3048 =>
 asVar k_3047 fun l_3049 =>
 consV l_3049 fun v_3050 l_3051 =>
 asT v_3050 fun x_3052 =>
 asL 3 x_3052 fun nn_3053 l_3054 =>
 consV l_3051 fun v_3055 l_3056 =>
 asT v_3055 fun x_3057 =>
 asB x_3057 fun b_3058 =>
 endV l_3056 <|
 endB b_3048 <|
(bif (decide (m9_3 = 1)) then
 callK (vr 61 0 [(.ptr 0 0 0), (.t (.str ⟨#[114]⟩))] ⟨[(0, (.var [(.t (.list 3 nn_3053 l_3054)), (.t (.bool b_3058))]))], []⟩) fun v_3059 b_3060 =>
 asT v_3059 fun x_3061 =>
 asI .i64 x_3061 fun x_3062 =>
 consB 0 b_3060 fun k_3063 b_3064 =>
 asVar k_3063 fun l_3065 =>
 consV l_3065 fun v_3066 l_3067 =>
 asT v_3066 fun x_3068 =>
 asL 3 x_3068 fun nn_3069 l_3070 =>
 consV l_3067 fun v_3071 l_3072 =>
 asT v_3071 fun x_3073 =>
 asB x_3073 fun b_3074 =>
 endV l_3072 <|
 endB b_3064 <|
 some ((.t (.agg [(.int .i64 x_16), (.int .i64 x_20), (.int .i64 x_24), (.int .i64 x_3062), (.int .i64 x_3046)])), ⟨[(0, (.var [(.t (.list 3 nn_3069 l_3070)), (.t (.bool b_3074))]))], [500]⟩)
else
(bif (decide (m9_3 = 2)) then
 callK (vr 61 0 [(.ptr 0 0 0), (.t (.str ⟨#[114]⟩))] ⟨[(0, (.var [(.t (.list 3 nn_3053 l_3054)), (.t (.bool b_3058))]))], []⟩) fun v_3075 b_3076 =>
 asT v_3075 fun x_3077 =>
 asI .i64 x_3077 fun x_3078 =>
 consB 0 b_3076 fun k_3079 b_3080 =>
 asVar k_3079 fun l_3081 =>
 consV l_3081 fun v_3082 l_3083 =>
 asT v_3082 fun x_3084 =>
 asL 3 x_3084 fun nn_3085 l_3086 =>
 consV l_3083 fun v_3087 l_3088 =>
 asT v_3087 fun x_3089 =>
 asB x_3089 fun b_3090 =>
 endV l_3088 <|
 endB b_3080 <|
 some ((.t (.agg [(.int .i64 x_16), (.int .i64 x_20), (.int .i64 x_24), (.int .i64 x_3078), (.int .i64 x_3046)])), ⟨[(0, (.var [(.t (.list 3 nn_3085 l_3086)), (.t (.bool b_3090))]))], [500]⟩)
else
(bif (decide (m9_3 = 3)) then
 callK (vr 61 0 [(.ptr 0 0 0), (.t (.str ⟨#[97]⟩))] ⟨[(0, (.var [(.t (.list 3 nn_3053 l_3054)), (.t (.bool b_3058))]))], []⟩) fun v_3091 b_3092 =>
 asT v_3091 fun x_3093 =>
 asI .i64 x_3093 fun x_3094 =>
 consB 0 b_3092 fun k_3095 b_3096 =>
 asVar k_3095 fun l_3097 =>
 consV l_3097 fun v_3098 l_3099 =>
 asT v_3098 fun x_3100 =>
 asL 3 x_3100 fun nn_3101 l_3102 =>
 consV l_3099 fun v_3103 l_3104 =>
 asT v_3103 fun x_3105 =>
 asB x_3105 fun b_3106 =>
 endV l_3104 <|
 endB b_3096 <|
 some ((.t (.agg [(.int .i64 x_16), (.int .i64 x_20), (.int .i64 x_24), (.int .i64 x_3094), (.int .i64 x_3046)])), ⟨[(0, (.var [(.t (.list 3 nn_3101 l_3102)), (.t (.bool b_3106))]))], [500]⟩)
else
(bif (decide (m9_3 = 4)) then
 callK (vr 30 0 [(.ptr 0 0 0), (.t (.int .i64 2))] ⟨[(0, (.var [(.t (.list 3 nn_3053 l_3054)), (.t (.bool b_3058))]))], []⟩) fun v_3107 b_3108 =>
 asT v_3107 fun x_3109 =>
 asA x_3109 fun l_3110 =>
 consT l_3110 fun v_3111 l_3112 =>
 asI .i64 v_3111 fun x_3113 =>
 consT l_3112 fun v_3114 l_3115 =>
 asS v_3114 fun s_3116 =>
 consT l_3115 fun v_3117 l_3118 =>
 asI .i64 v_3117 fun x_3119 =>
 endT l_3118 <|
 consB 0 b_3108 fun k_3120 b_3121 =>
 asVar k_3120 fun l_3122 =>
 consV l_3122 fun v_3123 l_3124 =>
 asT v_3123 fun x_3125 =>
 asL 3 x_3125 fun nn_3126 l_3127 =>
 consV l_3124 fun v_3128 l_3129 =>
 asT v_3128 fun x_3130 =>
 asB x_3130 fun b_3131 =>
 endV l_3129 <|
 endB b_3121 <|
 some ((.t (.agg [(.int .i64 x_16), (.int .i64 x_20), (.int .i64 x_24), (.int .i64 x_3119), (.int .i64 x_3046)])), ⟨[(0, (.var [(.t (.list 3 nn_3126 l_3127)), (.t (.bool b_3131))]))], [500]⟩)
else
(bif (decide (m9_3 = 5)) then
 callK (vr 62 0 [(.ptr 0 0 0)] ⟨[(0, (.var [(.t (.list 3 nn_3053 l_3054)), (.t (.bool b_3058))]))], []⟩) fun v_3132 b_3133 =>
 asT v_3132 fun x_3134 =>
 asI .i64 x_3134 fun x_3135 =>
 consB 0 b_3133 fun k_3136 b_3137 =>
 asVar k_3136 fun l_3138 =>
 consV l_3138 fun v_3139 l_3140 =>
 asT v_3139 fun x_3141 =>
 asL 3 x_3141 fun nn_3142 l_3143 =>
 consV l_3140 fun v_3144 l_3145 =>
 asT v_3144 fun x_3146 =>
 asB x_3146 fun b_3147 =>
 endV l_3145 <|
 endB b_3137 <|
 some ((.t (.agg [(.int .i64 x_16), (.int .i64 x_20), (.int .i64 x_24), (.int .i64 x_28), (.int .i64 x_3135)])), ⟨[(0, (.var [(.t (.list 3 nn_3142 l_3143)), (.t (.bool b_3147))]))], [500]⟩)
else
 some ((.t (.agg [(.int .i64 x_16), (.int .i64 x_20), (.int .i64 x_24), (.int .i64 x_28), (.int .i64 x_3046)])), ⟨[(0, (.var [(.t (.list 3 nn_3053 l_3054)), (.t (.bool b_3058))]))], [500]⟩))))))
else
(bif (decide (m9_3 = 1)) then
 callK (vr 61 0 [(.ptr 0 0 0), (.t (.str ⟨#[114]⟩))] ⟨[(0, (.var [(.t (.list 3 nn_2608 l_2609)), (.t (.bool b_2613))]))], []⟩) fun v_3148 b_3149 =>
 asT v_3148 fun x_3150 =>
 asI .i64 x_3150 fun x_3151 =>
 consB 0 b_3149 fun k_3152 b_3153 =>
 asVar k_3152 fun l_3154 =>
 consV l_3154 fun v_3155 l_3156 =>
 asT v_3155 fun x_3157 =>
 asL 3 x_3157 fun nn_3158 l_3159 =>
 consV l_3156 fun v_3160 l_3161 =>
 asT v_3160 fun x_3162 =>
 asB x_3162 fun b_3163 =>
 endV l_3161 <|
 endB b_3153 <|
 some ((.t (.agg [(.int .i64 x_16), (.int .i64 x_20), (.int .i64 x_24), (.int .i64 x_3151), (.int .i64 x_2601)])), ⟨[(0, (.var [(.t (.list 3 nn_3158 l_3159)), (.t (.bool b_3163))]))], [500]⟩)
else
(bif (decide (m9_3 = 2)) then
 callK (vr 61 0 [(.ptr 0 0 0), (.t (.str ⟨#[114]⟩))] ⟨[(0, (.var [(.t (.list 3 nn_2608 l_2609)), (.t (.bool b_2613))]))], []⟩) fun v_3164 b_3165 =>
 asT v_3164 fun x_3166 =>
 asI .i64 x_3166 fun x_3167 =>
 consB 0 b_3165 fun k_3168 b_3169 =>
 asVar k_3168 fun l_3170 =>
 consV l_3170 fun v_3171 l_3172 =>
 asT v_3171 fun x_3173 =>
 asL 3 x_3173 fun nn_3174 l_3175 =>
 consV l_3172 fun v_3176 l_3177 =>
 asT v_3176 fun x_3178 =>
 asB x_3178 fun b_3179 =>
 endV l_3177 <|
 endB b_3169 <|
 some ((.t (.agg [(.int .i64 x_16), (.int .i64 x_20), (.int .i64 x_24), (.int .i64 x_3167), (.int .i64 x_2601)])), ⟨[(0, (.var [(.t (.list 3 nn_3174 l_3175)), (.t (.bool b_3179))]))], [500]⟩)
else
(bif (decide (m9_3 = 3)) then
 callK (vr 61 0 [(.ptr 0 0 0), (.t (.str ⟨#[97]⟩))] ⟨[(0, (.var [(.t (.list 3 nn_2608 l_2609)), (.t (.bool b_2613))]))], []⟩) fun v_3180 b_3181 =>
 asT v_3180 fun x_3182 =>
 asI .i64 x_3182 fun x_3183 =>
 consB 0 b_3181 fun k_3184 b_3185 =>
 asVar k_3184 fun l_3186 =>
 consV l_3186 fun v_3187 l_3188 =>
 asT v_3187 fun x_3189 =>
 asL 3 x_3189 fun nn_3190 l_3191 =>
 consV l_3188 fun v_3192 l_3193 =>
 asT v_3192 fun x_3194 =>
 asB x_3194 fun b_3195 =>
 endV l_3193 <|
 endB b_3185 <|
 some ((.t (.agg [(.int .i64 x_16), (.int .i64 x_20), (.int .i64 x_24), (.int .i64 x_3183), (.int .i64 x_2601)])), ⟨[(0, (.var [(.t (.list 3 nn_3190 l_3191)), (.t (.bool b_3195))]))], [500]⟩)
else
(bif (decide (m9_3 = 4)) then
 callK (vr 30 0 [(.ptr 0 0 0), (.t (.int .i64 2))] ⟨[(0, (.var [(.t (.list 3 nn_2608 l_2609)), (.t (.bool b_2613))]))], []⟩) fun v_3196 b_3197 =>
 asT v_3196 fun x_3198 =>
 asA x_3198 fun l_3199 =>
 consT l_3199 fun v_3200 l_3201 =>
 asI .i64 v_3200 fun x_3202 =>
 consT l_3201 fun v_3203 l_3204 =>
 asS v_3203 fun s_3205 =>
 consT l_3204 fun v_3206 l_3207 =>
 asI .i64 v_3206 fun x_3208 =>
 endT l_3207 <|
 consB 0 b_3197 fun k_3209 b_3210 =>
 asVar k_3209 fun l_3211 =>
 consV l_3211 fun v_3212 l_3213 =>
 asT v_3212 fun x_3214 =>
 asL 3 x_3214 fun nn_3215 l_3216 =>
 consV l_3213 fun v_3217 l_3218 =>
 asT v_3217 fun x_3219 =>
 asB x_3219 fun b_3220 =>
 endV l_3218 <|
 endB b_3210 <|
 some ((.t (.agg [(.int .i64 x_16), (.int .i64 x_20), (.int .i64 x_24), (.int .i64 x_3208), (.int .i64 x_2601)])), ⟨[(0, (.var [(.t (.list 3 nn_3215 l_3216)), (.t (.bool b_3220))]))], [500]⟩)
else
(bif (decide (m9_3 = 5)) then
 callK (vr 62 0 [(.ptr 0 0 0)] ⟨[(0, (.var [(.t (.list 3 nn_2608 l_2609)), (.t (.bool b_2613))]))], []⟩) fun v_3221 b_3222 =>
 asT v_3221 fun x_3223 =>
 asI .i64 x_3223 fun x_3224 =>
 consB 0 b_3222 fun k_3225 b_3226 =>
 asVar k_3225 fun l_3227 =>
 consV l_3227 fun v_3228 l_3229 =>
 asT v_3228 fun x_3230 =>
 asL 3 x_3230 fun nn_3231 l_3232 =>
 consV l_3229 fun v_3233 l_3234 =>
 asT v_3233 fun x_3235 =>
 asB x_3235 fun b_3236 =>
 endV l_3234 <|
 endB b_3226 <|
 some ((.t (.agg [(.int .i64 x_16), (.int .i64 x_20), (.int .i64 x_24), (.int .i64 x_28), (.int .i64 x_3224)])), ⟨[(0, (.var [(.t (.list 3 nn_3231 l_3232)), (.t (.bool b_3236))]))], [500]⟩)
else
 some ((.t (.agg [(.int .i64 x_16), (.int .i64 x_20), (.int .i64 x_24), (.int .i64 x_28), (.int .i64 x_2601)])), ⟨[(0, (.var [(.t (.list 3 nn_2608 l_2609)), (.t (.bool b_2613))]))], [500]⟩)))))))))))
else
(bif (decide (m9_2 = 1)) then
 callK (vr 61 0 [(.ptr 0 0 0), (.t (.str ⟨#[114]⟩))] ⟨[(0, (.var [(.t (.list 3 m0_0z m0_0)), (.t (.bool m0_1))]))], []⟩) fun v_3237 b_3238 =>
 asT v_3237 fun x_3239 =>
 asI .i64 x_3239 fun x_3240 =>
 consB 0 b_3238 fun k_3241 b_3242 =>
 asVar k_3241 fun l_3243 =>
 consV l_3243 fun v_3244 l_3245 =>
 asT v_3244 fun x_3246 =>
 asL 3 x_3246 fun nn_3247 l_3248 =>
 consV l_3245 fun v_3249 l_3250 =>
 asT v_3249 fun x_3251 =>
 asB x_3251 fun b_3252 =>
 endV l_3250 <|
 endB b_3242 <|
(bif (decide (m9_3 = 1)) then
 callK (vr 61 0 [(.ptr 0 0 0), (.t (.str ⟨#[114]⟩))] ⟨[(0, (.var [(.t (.list 3 nn_3247 l_3248)), (.t (.bool b_3252))]))], []⟩) fun v_3253 b_3254 =>
 asT v_3253 fun x_3255 =>
 asI .i64 x_3255 fun x_3256 =>
 consB 0 b_3254 fun k_3257 b_3258 =>
 asVar k_3257 fun l_3259 =>
 consV l_3259 fun v_3260 l_3261 =>
 asT v_3260 fun x_3262 =>
 asL 3 x_3262 fun nn_3263 l_3264 =>
 consV l_3261 fun v_3265 l_3266 =>
 asT v_3265 fun x_3267 =>
 asB x_3267 fun b_3268 =>
 endV l_3266 <|
 endB b_3258 <|
 some ((.t (.agg [(.int .i64 x_16), (.int .i64 x_20), (.int .i64 x_3240), (.int .i64 x_3256), (.int .i64 x_32)])), ⟨[(0, (.var [(.t (.list 3 nn_3263 l_3264)), (.t (.bool b_3268))]))], [500]⟩)
else
(bif (decide (m9_3 = 2)) then
 callK (vr 61 0 [(.ptr 0 0 0), (.t (.str ⟨#[114]⟩))] ⟨[(0, (.var [(.t (.list 3 nn_3247 l_3248)), (.t (.bool b_3252))]))], []⟩) fun v_3269 b_3270 =>
 asT v_3269 fun x_3271 =>
 asI .i64 x_3271 fun x_3272 =>
 consB 0 b_3270 fun k_3273 b_3274 =>
 asVar k_3273 fun l_3275 =>
 consV l_3275 fun v_3276 l_3277 =>
 asT v_3276 fun x_3278 =>
 asL 3 x_3278 fun nn_3279 l_3280 =>
 consV l_3277 fun v_3281 l_3282 =>
 asT v_3281 fun x_3283 =>
 asB x_3283 fun b_3284 =>
 endV l_3282 <|
 endB b_3274 <|
 some ((.t (.agg [(.int .i64 x_16), (.int .i64 x_20), (.int .i64 x_3240), (.int .i64 x_3272), (.int .i64 x_32)])), ⟨[(0, (.var [(.t (.list 3 nn_3279 l_3280)), (.t (.bool b_3284))]))], [500]⟩)
else
(bif (decide (m9_3 = 3)) then
 callK (vr 61 0 [(.ptr 0 0 0), (.t (.str ⟨#[97]⟩))] ⟨[(0, (.var [(.t (.list 3 nn_3247 l_3248)), (.t (.bool b_3252))]))], []⟩) fun v_3285 b_3286 =>
 asT v_3285 fun x_3287 =>
 asI .i64 x_3287 fun x_3288 =>
 consB 0 b_3286 fun k_3289 b_3290 =>
 asVar k_3289 fun l_3291 =>
 consV l_3291 fun v_3292 l_3293 =>
 asT v_3292 fun x_3294 =>
 asL 3 x_3294 fun nn_3295 l_3296 =>
 consV l_3293 fun v_3297 l_3298 =>
 asT v_3297 fun x_3299 =>
 asB x_3299 fun b_3300 =>
 endV l_3298 <|
 endB b_3290 <|
 some ((.t (.agg [(.int .i64 x_16), (.int .i64 x_20), (.int .i64 x_3240), (.int .i64 x_3288), (.int .i64 x_32)])), ⟨[(0, (.var [(.t (.list 3 nn_3295 l_3296)), (.t (.bool b_3300))]))], [500]⟩)
else
(bif (decide (m9_3 = 4)) then
 callK (vr 30 0 [(.ptr 0 0 0), (.t (.int .i64 2))] ⟨[(0, (.var [(.t (.list 3 nn_3247 l_3248)), (.t (.bool b_3252))]))], []⟩) fun v_3301 b_3302 =>
 asT v_3301 fun x_3303 =>
 asA x_3303 fun l_3304 =>
 consT l_3304 fun v_3305 l_3306 =>
 asI .i64 v_3305 fun x_3307 =>
 consT l_3306 fun v_3308 l_3309 =>
 asS v_3308 fun s_3310 =>
 consT l_3309 fun v_3311 l_3312 =>
 asI .i64 v_3311 fun x_3313 =>
 endT l_3312 <|
 consB 0 b_3302 fun k_3314 b_3315 =>
 asVar k_3314 fun l_3316 =>
 consV l_3316 fun v_3317 l_3318 =>
 asT v_3317 fun x_3319 =>
 asL 3 x_3319 fun nn_3320 l_3321 =>
 consV l_3318 fun v_3322 l_3323 =>
 asT v_3322 fun x_3324 =>
 asB x_3324 fun b_3325 =>
 endV l_3323 <|
 endB b_3315 <|
 some ((.t (.agg [(.int .i64 x_16), (.int .i64 x_20), (.int .i64 x_3240), (.int .i64 x_3313), (.int .i64 x_32)])), ⟨[(0, (.var [(.t (.list 3 nn_3320 l_3321)), (.t (.bool b_3325))]))], [500]⟩)
else
(bif (decide (m9_3 = 5)) then
 callK (vr 62 0 [(.ptr 0 0 0)] ⟨[(0, (.var [(.t (.list 3 nn_3247 l_3248)), (.t (.bool b_3252))]))], []⟩) fun v_3326 b_3327 =>
 asT v_3326 fun x_3328 =>
 asI .i64 x_3328 fun x_3329 =>
 consB 0 b_3327 fun k_3330 b_3331 =>
 asVar k_3330 fun l_3332 =>
 consV l_3332 fun v_3333 l_3334 =>
 asT v_3333 fun x_3335 =>
 asL 3 x_3335 fun nn_3336 l_3337 =>
 consV l_3334 fun v_3338 l_3339 =>
 asT v_3338 fun x_3340 =>
 asB x_3340 fun b_3341 =>
 endV l_3339 <|
 endB b_3331 <|
 some ((.t (.agg [(.int .i64 x_16), (.int .i64 x_20), (.int .i64 x_3240), (.int .i64 x_28), (.int .i64 x_3329)])), ⟨[(0, (.var [(.t (.list 3 nn_3336 l_3337)), (.t (.bool b_3341))]))], [500]⟩)
else
 some ((.t (.agg [(.int .i64 x_16), (.int .i64 x_20), (.int .i64 x_3240), (.int .i64 x_28), (.int .i64 x_32)])), ⟨[(0, (.var [(.t (.list 3 nn_3247 l_3248)), (.t (.bool b_3252))]))], [500]⟩))))))
else
(bif (decide (m9_2 = 2)) then
 callK (vr 61 0 [(.ptr 0 0 0), (.t (.str ⟨#[114]⟩))] ⟨[(0, (.var [(.t (.list 3 m0_0z m0_0)), (.t (.bool m0_1))]))], []⟩) fun v_3342 b_3343 =>
 asT v_3342 fun x_3344 =>
 asI .i64 x_3344 fun x_3345 =>
 consB 0 b_3343 fun k_3346 b_3347 =>
 asVar k_3346 fun l_3348 =>
 consV l_3348 fun v_3349 l_3350 =>
 asT v_3349 fun x_3351 =>
 asL 3 x_3351 fun nn_3352 l_3353 =>
 consV l_3350 fun v_3354 l_3355 =>
 asT v_3354 fun x_3356 =>
 asB x_3356 fun b_3357 =>
 endV l_3355 <|
 endB b_3347 <|
(bif (decide (m9_3 = 1)) then
 callK (vr 61 0 [(.ptr 0 0 0), (.t (.str ⟨#[114]⟩))] ⟨[(0, (.var [(.t (.list 3 nn_3352 l_3353)), (.t (.bool b_3357))]))], []⟩) fun v_3358 b_3359 =>
 asT v_3358 fun x_3360 =>
 asI .i64 x_3360 fun x_3361 =>
 consB 0 b_3359 fun k_3362 b_3363 =>
 asVar k_3362 fun l_3364 =>
 consV l_3364 fun v_3365 l_3366 =>
 asT v_3365 fun x_3367 =>
 asL 3 x_3367 fun nn_3368 l_3369 =>
 consV l_3366 fun v_3370 l_3371 =>
 asT v_3370 fun x_3372 =>
 asB x_3372 fun b_3373 =>
 endV l_3371 <|
 endB b_3363 <|
 some ((.t (.agg [(.int .i64 x_16), (.int .i64 x_20), (.int .i64 x_3345), (.int .i64 x_3361), (.int .i64 x_32)])), ⟨[(0, (.var [(.t (.list 3 nn_3368 l_3369)), (.t (.bool b_3373))]))], [500]⟩)
else
(bif (decide (m9_3 = 2)) then
 callK (vr 61 0 [(.ptr 0 0 0), (.t (.str ⟨#[114]⟩))] ⟨[(0, (.var [(.t (.list 3 nn_3352 l_3353)), (.t (.bool b_3357))]))], []⟩) fun v_3374 b_3375 =>
 asT v_3374 fun x_3376 =>
 asI .i64 x_3376 fun x_3377 =>
 consB 0 b_3375 fun k_3378 b_3379 =>
 asVar k_3378 fun l_3380 =>
 consV l_3380 fun v_3381 l_3382 =>
 asT v_3381 fun x_3383 =>
 asL 3 x_3383 fun nn_3384 l_3385 =>
 consV l_3382 fun v_3386 l_3387 =>
 asT v_3386 fun x_3388 =>
 asB x_3388 fun b_3389 =>
 endV l_3387 <|
 endB b_3379 <|
 some ((.t (.agg [(.int .i64 x_16), (.int .i64 x_20), (.int .i64 x_3345), (.int .i64 x_3377), (.int .i64 x_32)])), ⟨[(0, (.var [(.t (.list 3 nn_3384 l_3385)), (.t (.bool b_3389))]))], [500]⟩)
else
(bif (decide (m9_3 = 3)) then
 callK (vr 61 0 [(.ptr 0 0 0), (.t (.str ⟨#[97]⟩))] ⟨[(0, (.var [(.t (.list 3 nn_3352 l_3353)), (.t (.bool b_3357))]))], []⟩) fun v_3390 b_3391 =>
 asT v_3390 fun x_3392 =>
 asI .i64 x_3392 fun x_3393 =>
 consB 0 b_3391 fun k_3394 b_3395 =>
 asVar k_3394 fun l_3396 =>
 consV l_3396 fun v_3397 l_3398 =>
 asT v_3397 fun x_3399 =>
 asL 3 x_3399 fun nn_3400 l_3401 =>
 consV l_3398 fun v_3402 l_3403 =>
 asT v_3402 fun x_3404 =>
 asB x_3404 fun b_3405 =>
 endV l_3403 <|
 endB b_3395 <|
 some ((.t (.agg [(.int .i64 x_16), (.int .i64 x_20), (.int .i64 x_3345), (.int .i64 x_3393), (.int .i64 x_32)])), ⟨[(0, (.var [(.t (.list 3 nn_3400 l_3401)), (.t (.bool b_3405))]))], [500]⟩)
else
(bif (decide (m9_3 = 4)) then
 callK (vr 30 0 [(.ptr 0 0 0), (.t (.int .i64 2))] ⟨[(0, (.var [(.t (.list 3 nn_3352 l_3353)), (.t (.bool b_3357))]))], []⟩) fun v_3406 b_3407 =>
 asT v_3406 fun x_3408 =>
 asA x_3408 fun l_3409 =>
 consT l_3409 fun v_3410 l_3411 =>
 asI .i64 v_3410 fun x_3412 =>
 consT l_3411 fun v_3413 l_3414 =>
 asS v_3413 fun s_3415 =>
 consT l_3414 fun v_3416 l_3417 =>
 asI .i64 v_3416 fun x_3418 =>
 endT l_3417 <|
 consB 0 b_3407 fun k_3419 b_3420 =>
 asVar k_3419 fun l_3421 =>
 consV l_3421 fun v_3422 l_3423 =>
 asT v_3422 fun x_3424 =>
 asL 3 x_3424 fun nn_3425 l_3426 =>
 consV l_3423 fun v_3427 l_3428 =>
 asT v_3427 fun x_3429 =>
 asB x_3429 fun b_3430 =>
 endV l_3428 <|
 endB b_3420 <|
 some ((.t (.agg [(.int .i64 x_16), (.int .i64 x_20), (.int .i64 x_3345), (.int .i64 x_3418), (.int .i64 x_32)])), ⟨[(0, (.var [(.t (.list 3 nn_3425 l_3426)), (.t (.bool b_3430))]))], [500]⟩)
else
(bif (decide (m9_3 = 5)) then
 callK (vr 62 0 [(.ptr 0 0 0)] ⟨[(0, (.var [(.t (.list 3 nn_3352 l_3353)), (.t (.bool b_3357))]))], []⟩) fun v_3431 b_3432 =>
 asT v_3431 fun x_3433 =>
 asI .i64 x_3433 fun x_3434 =>
 consB 0 b_3432 fun k_3435 b_3436 =>
 asVar k_3435 fun l_3437 =>
 consV l_3437 fun v_3438 l_3439 =>
 asT v_3438 fun x_3440 =>
 asL 3 x_3440 fun nn_3441 l_3442 =>
 consV l_3439 fun v_3443 l_3444 =>
 asT v_3443 fun x_3445 =>
 asB x_3445 fun b_3446 =>
 endV l_3444 <|
 endB b_3436 <|
 some ((.t (.agg [(.int .i64 x_16), (.int .i64 x_20), (.int .i64 x_3345), (.int .i64 x_28), (.int .i64 x_3434)])), ⟨[(0, (.var [(.t (.list 3 nn_3441 l_3442)), (.t (.bool b_3446))]))], [500]⟩)
else
 some ((.t (.agg [(.int .i64 x_16), (.int .i64 x_20), (.int .i64 x_3345), (.int .i64 x_28), (.int .i64 x_32)])), ⟨[(0, (.var [(.t (.list 3 nn_3352 l_3353)), (.t (.bool b_3357))]))], [500]⟩))))))
else
(bif (decide (m9_2 = 3)) then
 callK (vr 61 0 [(.ptr 0 0 0), (.t (.str ⟨#[97]⟩))] ⟨[(0, (.var [(.t (.list 3 m0_0z m0_0)), (.t (.bool m0_1))]))], []⟩) fun v_3447 b_3448 =>
 asT v_3447 fun x_3449 =>
 asI .i64 x_3449 fun x_3450 =>
 consB 0 b_3448 fun k_3451 b_3452 =>
 asVar k_3451 fun l_3453 =>
 consV l_3453 fun v_3454 l_3455 =>
 asT v_3454 fun x_3456 =>
 asL 3 x_3456 fun nn_3457 l_3458 =>
 consV l_3455 fun v_3459 l_3460 =>
 asT v_3459 fun x_3461 =>
 asB x_3461 fun b_3462 =>
 endV l_3460 <|
 endB b_3452 <|
(bif (decide (m9_3 = 1)) then
 callK (vr 61 0 [(.ptr 0 0 0), (.t (.str ⟨#[114]⟩))] ⟨[(0, (.var [(.t (.list 3 nn_3457 l_3458)), (.t (.bool b_3462))]))], []⟩) fun v_3463 b_3464 =>
 asT v_3463 fun x_3465 =>
 asI .i64 x_3465 fun x_3466 =>
 consB 0 b_3464 fun k_3467 b_3468 =>
 asVar k_3467 fun l_3469 =>
 consV l_3469 fun v_3470 l_3471 =>
 asT v_3470 fun x_3472 =>
 asL 3 x_3472 fun nn_3473 l_3474 =>
 consV l_3471 fun v_3475 l_3476 =>
 asT v_3475 fun x_3477 =>
 asB x_3477 fun b_3478 =>
 endV l_3476 <|
 endB b_3468 <|
 some ((.t (.agg [(.int .i64 x_16), (.int .i64 x_20), (.int .i64 x_3450), (.int .i64 x_3466), (.int .i64 x_32)])), ⟨[(0, (.var [(.t (.list 3 nn_3473 l_3474)), (.t (.bool b_3478))]))], [500]⟩)
else
(bif (decide (m9_3 = 2)) then
 callK (vr 61 0 [(.ptr 0 0 0), (.t (.str ⟨#[114]⟩))] ⟨[(0, (.var [(.t (.list 3 nn_3457 l_3458)), (.t (.bool b_3462))]))], []⟩) fun v_3479 b_3480 =>
 asT v_3479 fun x_3481 =>
 asI .i64 x_3481 fun x_3482 =>
 consB 0 b_3480 fun k_3483 b_3484 =>
 asVar k_3483 fun l_3485 =>
 consV l_3485 fun v_3486 l_3487 =>
 asT v_3486 fun x_3488 =>
 asL 3 x_3488 fun nn_3489 l_3490 =>
 consV l_3487 fun v_3491 l_3492 =>
 asT v_3491 fun x_3493 =>
 asB x_3493 fun b_3494 =>
 endV l_3492 <|
 endB b_3484 <|
 some ((.t (.agg [(.int .i64 x_16), (.int .i64 x_20), (.int .i64 x_3450), (.int .i64 x_3482), (.int .i64 x_32)])), ⟨[(0, (.var [(.t (.list 3 nn_3489 l_3490)), (.t (.bool b_3494))]))], [500]⟩)
else
(bif (decide (m9_3 = 3)) then
 callK (vr 61 0 [(.ptr 0 0 0), (.t (.str ⟨#[97]⟩))] ⟨[(0, (.var [(.t (.list 3 nn_3457 l_3458)), (.t (.bool b_3462))]))], []⟩) fun v_3495 b_3496 =>
 asT v_3495 fun x_3497 =>
 asI .i64 x_3497 fun x_3498 =>
 consB 0 b_3496 fun k_3499 b_3500 =>
 asVar k_3499 fun l_3501 =>
 consV l_3501 fun v_3502 l_3503 =>
 asT v_3502 fun x_3504 =>
 asL 3 x_3504 fun nn_3505 l_3506 =>
 consV l_3503 fun v_3507 l_3508 =>
 asT v_3507 fun x_3509 =>
 asB x_3509 fun b_3510 =>
 endV l_3508 <|
 endB b_3500 <|
 some ((.t (.agg [(.int .i64 x_16), (.int .i64 x_20), (.int .i64 x_3450), (.int .i64 x_3498), (.int .i64 x_32)])), ⟨[(0, (.var [(.t (.list 3 nn_3505 l_3506)), (.t (.bool b_3510))]))], [500]⟩)
else
(bif (decide (m9_3 = 4)) then
 callK (vr 30 0 [(.ptr 0 0 0), (.t (.int .i64 2))] ⟨[(0, (.var [(.t (.list 3 nn_3457 l_3458)), (.t (.bool b_3462))]))], []⟩) fun v_3511 b_3512 =>
 asT v_3511 fun x_3513 =>
 asA x_3513 fun l_3514 =>
 consT l_3514 fun v_3515 l_3516 =>
 asI .i64 v_3515 fun x_3517 =>
 consT l_3516 fun v_3518 l_3519 =>
 asS v_3518 fun s_3520 =>
 consT l_3519 fun v_3521 l_3522 =>
 asI .i64 v_3521 fun x_3523 =>
 endT l_3522 <|
 consB 0 b_3512 fun k_3524 b_3525 =>
 asVar k_3524 fun l_3526 =>
 consV l_3526 fun v_3527 l_3528 =>
 asT v_3527 fun x_3529 =>
 asL 3 x_3529 fun nn_3530 l_3531 =>
 consV l_3528 fun v_3532 l_3533 =>
 asT v_3532 fun x_3534 =>
 asB x_3534 fun b_3535 =>
 endV l_3533 <|
 endB b_3525 <|
 some ((.t (.agg [(.int .i64 x_16), (.int .i64 x_20), (.int .i64 x_3450), (.int .i64 x_3523), (.int .i64 x_32)])), ⟨[(0, (.var [(.t (.list 3 nn_3530 l_3531)), (.t (.bool b_3535))]))], [500]⟩)
else
(bif (decide (m9_3 = 5)) then
 callK (vr 62 0 [(.ptr 0 0 0)] ⟨[(0, (.var [(.t (.list 3 nn_3457 l_3458)), (.t (.bool b_3462))]))], []⟩) fun v_3536 b_3537 =>
 asT v_3536 fun x_3538 =>
 asI .i64 x_3538 fun x_3539 =>
 consB 0 b_3537 fun k_3540 b_3541 =>
 asVar k_3540 fun l_3542 =>
 consV l_3542 fun v_3543 l_3544 =>
 asT v_3543 fun x_3545 =>
 asL 3 x_3545 fun nn_3546 l_3547 =>
 consV l_3544 fun v_3548 l_3549 =>
 asT v_3548 fun x_3550 =>
 asB x_3550 fun b_3551 =>
 endV l_3549 <|
 endB b_3541 <|
 some ((.t (.agg [(.int .i64 x_16), (.int .i64 x_20), (.int .i64 x_3450), (.int .i64 x_28), (.int .i64 x_3539)])), ⟨[(0, (.var [(.t (.list 3 nn_3546 l_3547)), (.t (.bool b_3551))]))], [500]⟩)
else
 some ((.t (.agg [(.int .i64 x_16), (.int .i64 x_20), (.int .i64 x_3450), (.int .i64 x_28), (.int .i64 x_32)])), ⟨[(0, (.var [(.t (.list 3 nn_3457 l_3458)), (.t (.bool b_3462))]))], [500]⟩))))))
else
(bif (decide (m9_2 = 4)) then
 callK (vr 30 0 [(.ptr 0 0 0), (.t (.int .i64 2))] ⟨[(0, (.var [(.t (.list 3 m0_0z m0_0)), (.t (.bool m0_1))]))], []⟩) fun v_3552 b_3553 =>
 asT v_3552 fun x_3554 =>
 asA x_3554 fun l_3555 =>
 consT l_3555 fun v_3556 l_3557 =>
 asI .i64 v_3556 fun x_3558 =>
 consT l_3557 fun v_3559 l_3560 =>
 asS v_3559 fun s_3561 =>
 consT l_3560 fun v_3562 l_3563 =>
 asI .i64 v_3562 fun x_3564 =>
 endT l_3563 <|
 consB 0 b_3553 fun k_3565 b_3566 =>
 asVar k_3565 fun l_3567 =>
 consV l_3567 fun v_3568 l_3569 =>
 asT v_3568 fun x_3570 =>
 asL 3 x_3570 fun nn_3571 l_3572 =>
 consV l_3569 fun v_3573 l_3574 =>
 asT v_3573 fun x_3575 =>
 asB x_3575 fun b_3576 =>
 endV l_3574 <|
 endB b_3566 <|
(bif (decide (m9_3 = 1)) then
 callK (vr 61 0 [(.ptr 0 0 0), (.t (.str ⟨#[114]⟩))] ⟨[(0, (.var [(.t (.list 3 nn_3571 l_3572)), (.t (.bool b_3576))]))], []⟩) fun v_3577 b_3578 =>
 asT v_3577 fun x_3579 =>
 asI .i64 x_3579 fun x_3580 =>
 consB 0 b_3578 fun k_3581 b_3582 =>
 asVar k_3581 fun l_3583 =>
 consV l_3583 fun v_3584 l_3585 =>
 asT v_3584 fun x_3586 =>
 asL 3 x_3586 fun nn_3587 l_3588 =>
 consV l_3585 fun v_3589 l_3590 =>
 asT v_3589 fun x_3591 =>
 asB x_3591 fun b_3592 =>
 endV l_3590 <|
 endB b_3582 <|
 some ((.t (.agg [(.int .i64 x_16), (.int .i64 x_20), (.int .i64 x_3564), (.int .i64 x_3580), (.int .i64 x_32)])), ⟨[(0, (.var [(.t (.list 3 nn_3587 l_3588)), (.t (.bool b_3592))]))], [500]⟩)
else
(bif (decide (m9_3 = 2)) then
 callK (vr 61 0 [(.ptr 0 0 0), (.t (.str ⟨#[114]⟩))] ⟨[(0, (.var [(.t (.list 3 nn_3571 l_3572)), (.t (.bool b_3576))]))], []⟩) fun v_3593 b_3594 =>
 asT v_3593 fun x_3595 =>
 asI .i64 x_3595 fun x_3596 =>
 consB 0 b_3594 fun k_3597 b_3598 =>
 asVar k_3597 fun l_3599 =>
 consV l_3599 fun v_3600 l_3601 =>
 asT v_3600 fun x_3602 =>
 asL 3 x_3602 fun nn_3603 l_3604 =>
 consV l_3601 fun v_3605 l_3606 =>
 asT v_3605 fun x_3607 =>
 asB x_3607 fun b_3608 =>
 endV l_3606 <|
 endB b_3598 <|
 some ((.t (.agg [(.int .i64 x_16), (.int .i64 x_20), (.int .i64 x_3564), (.int .i64 x_3596), (.int .i64 x_32)])), ⟨[(0, (.var [(.t (.list 3 nn_3603 l_3604)), (.t (.bool b_3608))]))], [500]⟩)
else
(bif (decide (m9_3 = 3)) then
 callK (vr 61 0 [(.ptr 0 0 0), (.t (.str ⟨#[97]⟩))] ⟨[(0, (.var [(.t (.list 3 nn_3571 l_3572)), (.t (.bool b_3576))]))], []⟩) fun v_3609 b_3610 =>
 asT v_3609 fun x_3611 =>
 asI .i64 x_3611 fun x_3612 =>
 consB 0 b_3610 fun k_3613 b_3614 =>
 asVar k_3613 fun l_3615 =>
 consV l_3615 fun v_3616 l_3617 =>
 asT v_3616 fun x_3618 =>
 asL 3 x_3618 fun nn_3619 l_3620 =>
 consV l_3617 fun v_3621 l_3622 =>
 asT v_3621 fun x_3623 =>
 asB x_3623 fun b_3624 =>
 endV l_3622 <|
 endB b_3614 <|
 some ((.t (.agg [(.int .i64 x_16), (.int .i64 x_20), (.int .i64 x_3564), (.int .i64 x_3612), (.int .i64 x_32)])), ⟨[(0, (.var [(.t (.list 3 nn_3619 l_3620)), (.t (.bool b_3624))]))], [500]⟩)
else
(bif (decide (m9_3 = 4)) then
 callK (vr 30 0 [(.ptr 0 0 0), (.t (.int .i64 2))] ⟨[(0, (.var [(.t (.list 3 nn_3571 l_3572)), (.t (.bool b_3576))]))], []⟩) fun v_3625 b_3626 =>
 asT v_3625 fun x_3627 =>
 asA x_3627 fun l_3628 =>
 consT l_3628 fun v_3629 l_3630 =>
 asI .i64 v_3629 fun x_3631 =>
 consT l_3630 fun v_3632 l_3633 =>
 asS v_3632 fun s_3634 =>
 consT l_3633 fun v_3635 l_3636 =>
 asI .i64 v_3635 fun x_3637 =>
 endT l_3636 <|
 consB 0 b_3626 fun k_3638 b_3639 =>
 asVar k_3638 fun l_3640 =>
 consV l_3640 fun v_3641 l_3642 =>
 asT v_3641 fun x_3643 =>
 asL 3 x_3643 fun nn_3644 l_3645 =>
 consV l_3642 fun v_3646 l_3647 =>
 asT v_3646 fun x_3648 =>
 asB x_3648 fun b_3649 =>
 endV l_3647 <|
 endB b_3639 <|
 some ((.t (.agg [(.int .i64 x_16), (.int .i64 x_20), (.int .i64 x_3564), (.int .i64 x_3637), (.int .i64 x_32)])), ⟨[(0, (.var [(.t (.list 3 nn_3644 l_3645)), (.t (.bool b_3649))]))], [500]⟩)
else
(bif (decide (m9_3 = 5)) then
 callK (vr 62 0 [(.ptr 0 0 0)] ⟨[(0, (.var [(.t (.list 3 nn_3571 l_3572)), (.t (.bool b_3576))]))], []⟩) fun v_3650 b_3651 =>
 asT v_3650 fun x_3652 =>
 asI .i64 x_3652 fun x_3653 =>
 consB 0 b_3651 fun k_3654 b_3655 =>
 asVar k_3654 fun l_3656 =>
 consV l_3656 fun v_3657 l_3658 =>
 asT v_3657 fun x_3659 =>
 asL 3 x_3659 fun nn_3660 l_3661 =>
 consV l_3658 fun v_3662 l_3663 =>
 asT v_3662 fun x_3664 =>
 asB x_3664 fun b_3665 =>
 endV l_3663 <|
 endB b_3655 <|
 some ((.t (.agg [(.int .i64 x_16), (.int .i64 x_20), (.int .i64 x_3564), (.int .i64 x_28), (.int .i64 x_3653)])), ⟨[(0, (.var [(.t (.list 3 nn_3660 l_3661)), (.t (.bool b_3665))]))], [500]⟩)
else
 some ((.t (.agg [(.int .i64 x_16), (.int .i64 x_20), (.int .i64 x_3564), (.int .i64 x_28), (.int .i64 x_32)])), ⟨[(0, (.var [(.t (.list 3 nn_3571 l_3572)), (.t (.bool b_3576))]))], [500]⟩))))))
else
(bif (decide (m9_2 = 5)) then
 callK (vr 62 0 [(.ptr 0 0 0)] ⟨[(0, (.var [(.t (.list 3 m0_0z m0_0)), (.t (.bool m0_1))]))], []⟩) fun v_3666 b_3667 =>
 asT v_3666 fun x_3668 =>
 asI .i64 x_3668 fun x_3669 =>
 consB 0 b_3667 fun k_3670 b_3671 =>
 asVar k_3670 fun l_3672 =>
 consV l_3672 fun v_3673 l_3674 =>
 asT v_3673 fun x_3675 =>
 asL 3 x_3675 fun nn_3676 l_3677 =>
 consV l_3674 fun v_3678 l_3679 =>
 asT v_3678 fun x_3680 =>
 asB x_3680 fun b_3681 =>
 endV l_3679 <|
 endB b_3671 <|
(bif (decide (m9_3 = 1)) then
 callK (vr 61 0 [(.ptr 0 0 0), (.t (.str ⟨#[114]⟩))] ⟨[(0, (.var [(.t (.list 3 nn_3676 l_3677)), (.t (.bool b_3681))]))], []⟩) fun v_3682 b_3683 =>
 asT v_3682 fun x_3684 =>
 asI .i64 x_3684 fun x_3685 =>
 consB 0 b_3683 fun k_3686 b_3687 =>
 asVar k_3686 fun l_3688 =>
 consV l_3688 fun v_3689 l_3690 =>
 asT v_3689 fun x_3691 =>
 asL 3 x_3691 fun nn_3692 l_3693 =>
 consV l_3690 fun v_3694 l_3695 =>
 asT v_3694 fun x_3696 =>
 asB x_3696 fun b_3697 =>
 endV l_3695 <|
 endB b_3687 <|
 some ((.t (.agg [(.int .i64 x_16), (.int .i64 x_20), (.int .i64 x_24), (.int .i64 x_3685), (.int .i64 x_3669)])), ⟨[(0, (.var [(.t (.list 3 nn_3692 l_3693)), (.t (.bool b_3697))]))], [500]⟩)
else
(bif (decide (m9_3 = 2)) then
 callK (vr 61 0 [(.ptr 0 0 0), (.t (.str ⟨#[114]⟩))] ⟨[(0, (.var [(.t (.list 3 nn_3676 l_3677)), (.t (.bool b_3681))]))], []⟩) fun v_3698 b_3699 =>
 asT v_3698 fun x_3700 =>
 asI .i64 x_3700 fun x_3701 =>
 consB 0 b_3699 fun k_3702 b_3703 =>
 asVar k_3702 fun l_3704 =>
 consV l_3704 fun v_3705 l_3706 =>
 asT v_3705 fun x_3707 =>
 asL 3 x_3707 fun nn_3708 l_3709 =>
 consV l_3706 fun v_3710 l_3711 =>
 asT v_3710 fun x_3712 =>
 asB x_3712 fun b_3713 =>
 endV l_3711 <|
 endB b_3703 <|
 some ((.t (.agg [(.int .i64 x_16), (.int .i64 x_20), (.int .i64 x_24), (.int .i64 x_3701), (.int .i64 x_3669)])), ⟨[(0, (.var [(.t (.list 3 nn_3708 l_3709)), (.t (.bool b_3713))]))], [500]⟩)
else
(bif (decide (m9_3 = 3)) then
 callK (vr 61 0 [(.ptr 0 0 0), (.t (.str ⟨#[97]⟩))] ⟨[(0, (.var [(.t (.list 3 nn_3676 l_3677)), (.t (.bool b_3681))]))], []⟩) fun v_3714 b_3715 =>
 asT v_3714 fun x_3716 =>
 asI .i64 x_3716 fun x_3717 =>
 consB 0 b_3715 fun k_3718 b_3719 =>
 asVar k_3718 fun l_3720 =>
 consV l_3720 fun v_3721 l_3722 =>
 asT v_3721 fun x_3723 =>
 asL 3 x_3723 fun nn_3724 l_3725 =>
 consV l_3722 fun v_3726 l_3727 =>
 asT v_3726 fun x_3728 =>
 asB x_3728 fun b_3729 =>
 endV l_3727 <|
 endB b_3719 <|
 some ((.t (.agg [(.int .i64 x_16), (.int .i64 x_20), (.int .i64 x_24), (.int .i64 x_3717), (.int .i64 x_3669)])), ⟨[(0, (.var [(.t (.list 3 nn_3724 l_3725)), (.t (.bool b_3729))]))], [500]⟩)
else
(bif (decide (m9_3 = 4)) then
 callK (vr 30 0 [(.ptr 0 0 0), (.t (.int .i64 2))] ⟨[(0, (.var [(.t (.list 3 nn_3676 l_3677)), (.t (.bool b_3681))]))], []⟩) fun v_3730 b_3731 =>
 asT v_3730 fun x_3732 =>
 asA x_3732 fun l_3733 =>
 consT l_3733 fun v_3734 l_3735 =>
 asI .i64 v_3734 fun x_3736 =>
 consT l_3735 fun v_3737 l_3738 =>
 asS v_3737 fun s_3739 =>
 consT l_3738 fun v_3740 l_3741 =>
 asI .i64 v_3740 fun x_3742 =>
 endT l_3741 <|
 consB 0 b_3731 fun k_3743 b_3744 =>
 asVar k_3743 fun l_3745 =>
 consV l_3745 fun v_3746 l_3747 =>
 asT v_3746 fun x_3748 =>
 asL 3 x_3748 fun nn_3749 l_3750 =>
 consV l_3747 fun v_3751 l_3752 =>
 asT v_3751 fun x_3753 =>
 asB x_3753 fun b_3754 =>
 endV l_3752 <|
 endB b_3744 <|
 some ((.t (.agg [(.int .i64 x_16), (.int .i64 x_20), (.int .i64 x_24), (.int .i64 x_3742), (.int .i64 x_3669)])), ⟨[(0, (.var [(.t (.list 3 nn_3749 l_3750)), (.t (.bool b_3754))]))], [500]⟩)
else
(bif (decide (m9_3 = 5)) then
 callK (vr 62 0 [(.ptr 0 0 0)] ⟨[(0, (.var [(.t (.list 3 nn_3676 l_3677)), (.t (.bool b_3681))]))], []⟩) fun v_3755 b_3756 =>
 asT v_3755 fun x_3757 =>
 asI .i64 x_3757 fun x_3758 =>
 consB 0 b_3756 fun k_3759 b_3760 =>
 asVar k_3759 fun l_3761 =>
 consV l_3761 fun v_3762 l_3763 =>
 asT v_3762 fun x_3764 =>
 asL 3 x_3764 fun nn_3765 l_3766 =>
 consV l_3763 fun v_3767 l_3768 =>
 asT v_3767 fun x_3769 =>
 asB x_3769 fun b_3770 =>
 endV l_3768 <|
 endB b_3760 <|
 some ((.t (.agg [(.int .i64 x_16), (.int .i64 x_20), (.int .i64 x_24), (.int .i64 x_28), (.int .i64 x_3758)])), ⟨[(0, (.var [(.t (.list 3 nn_3765 l_3766)), (.t (.bool b_3770))]))], [500]⟩)
else
 some ((.t (.agg [(.int .i64 x_16), (.int .i64 x_20), (.int .i64 x_24), (.int .i64 x_28), (.int .i64 x_3669)])), ⟨[(0, (.var [(.t (.list 3 nn_3676 l_3677)), (.t (.bool b_3681))]))], [500]⟩))))))
else
(bif (decide (m9_3 = 1)) then
 callK (vr 61 0 [(.ptr 0 0 0), (.t (.str ⟨#[114]⟩))] ⟨[(0, (.var [(.t (.list 3 m0_0z m0_0)), (.t (.bool m0_1))]))], []⟩) fun v_3771 b_3772 =>
 asT v_3771 fun x_3773 =>
 asI .i64 x_3773 fun x_3774 =>
 consB 0 b_3772 fun k_3775 b_3776 =>
 asVar k_3775 fun l_3777 =>
 consV l_3777 fun v_3778 l_3779 =>
 asT v_3778 fun x_3780 =>
 asL 3 x_3780 fun nn_3781 l_3782 =>
 consV l_3779 fun v_3783 l_3784 =>
 asT v_3783 fun x_3785 =>
 asB x_3785 fun b_3786 =>
 endV l_3784 <|
 endB b_3776 <|
 some ((.t (.agg [(.int .i64 x_16), (.int .i64 x_20), (.int .i64 x_24), (.int .i64 x_3774), (.int .i64 x_32)])), ⟨[(0, (.var [(.t (.list 3 nn_3781 l_3782)), (.t (.bool b_3786))]))], [500]⟩)
else
(bif (decide (m9_3 = 2)) then
 callK (vr 61 0 [(.ptr 0 0 0), (.t (.str ⟨#[114]⟩))] ⟨[(0, (.var [(.t (.list 3 m0_0z m0_0)), (.t (.bool m0_1))]))], []⟩) fun v_3787 b_3788 =>
 asT v_3787 fun x_3789 =>
 asI .i64 x_3789 fun x_3790 =>
 consB 0 b_3788 fun k_3791 b_3792 =>
 asVar k_3791 fun l_3793 =>
 consV l_3793 fun v_3794 l_3795 =>
 asT v_3794 fun x_3796 =>
 asL 3 x_3796 fun nn_3797 l_3798 =>
 consV l_3795 fun v_3799 l_3800 =>
 asT v_3799 fun x_3801 =>
 asB x_3801 fun b_3802 =>
 endV l_3800 <|
 endB b_3792 <|
 some ((.t (.agg [(.int .i64 x_16), (.int .i64 x_20), (.int .i64 x_24), (.int .i64 x_3790), (.int .i64 x_32)])), ⟨[(0, (.var [(.t (.list 3 nn_3797 l_3798)), (.t (.bool b_3802))]))], [500]⟩)
else
(bif (decide (m9_3 = 3)) then
 callK (vr 61 0 [(.ptr 0 0 0), (.t (.str ⟨#[97]⟩))] ⟨[(0, (.var [(.t (.list 3 m0_0z m0_0)), (.t (.bool m0_1))]))], []⟩) fun v_3803 b_3804 =>
 asT v_3803 fun x_3805 =>
 asI .i64 x_3805 fun x_3806 =>
 consB 0 b_3804 fun k_3807 b_3808 =>
 asVar k_3807 fun l_3809 =>
 consV l_3809 fun v_3810 l_3811 =>
 asT v_3810 fun x_3812 =>
 asL 3 x_3812 fun nn_3813 l_3814 =>
 consV l_3811 fun v_3815 l_3816 =>
 asT v_3815 fun x_3817 =>
 asB x_3817 fun b_3818 =>
 endV l_3816 <|
 endB b_3808 <|
 some ((.t (.agg [(.int .i64 x_16), (.int .i64 x_20), (.int .i64 x_24), (.int .i64 x_3806), (.int .i64 x_32)])), ⟨[(0, (.var [(.t (.list 3 nn_3813 l_3814)), (.t (.bool b_3818))]))], [500]⟩)
else
(bif (decide (m9_3 = 4)) then
 callK (vr 30 0 [(.ptr 0 0 0), (.t (.int .i64 2))] ⟨[(0, (.var [(.t (.list 3 m0_0z m0_0)), (.t (.bool m0_1))]))], []⟩) fun v_3819 b_3820 =>
 asT v_3819 fun x_3821 =>
 asA x_3821 fun l_3822 =>
 consT l_3822 fun v_3823 l_3824 =>
 asI .i64 v_3823 fun x_3825 =>
 consT l_3824 fun v_3826 l_3827 =>
 asS v_3826 fun s_3828 =>
 consT l_3827 fun v_3829 l_3830 =>
 asI .i64 v_3829 fun x_3831 =>
 endT l_3830 <|
 consB 0 b_3820 fun k_3832 b_3833 =>
 asVar k_3832 fun l_3834 =>
 consV l_3834 fun v_3835 l_3836 =>
 asT v_3835 fun x_3837 =>
 asL 3 x_3837 fun nn_3838 l_3839 =>
 consV l_3836 fun v_3840 l_3841 =>
 asT v_3840 fun x_3842 =>
 asB x_3842 fun b_3843 =>
 endV l_3841 <|
 endB b_3833 <|
 some ((.t (.agg [(.int .i64 x_16), (.int .i64 x_20), (.int .i64 x_24), (.int .i64 x_3831), (.int .i64 x_32)])), ⟨[(0, (.var [(.t (.list 3 nn_3838 l_3839)), (.t (.bool b_3843))]))], [500]⟩)
else
(bif (decide (m9_3 = 5)) then
 callK (vr 62 0 [(.ptr 0 0 0)] ⟨[(0, (.var [(.t (.list 3 m0_0z m0_0)), (.t (.bool m0_1))]))], []⟩) fun v_3844 b_3845 =>
 asT v_3844 fun x_3846 =>
 asI .i64 x_3846 fun x_3847 =>
 consB 0 b_3845 fun k_3848 b_3849 =>
 asVar k_3848 fun l_3850 =>
 consV l_3850 fun v_3851 l_3852 =>
 asT v_3851 fun x_3853 =>
 asL 3 x_3853 fun nn_3854 l_3855 =>
 consV l_3852 fun v_3856 l_3857 =>
 asT v_3856 fun x_3858 =>
 asB x_3858 fun b_3859 =>
 endV l_3857 <|
 endB b_3849 <|
 some ((.t (.agg [(.int .i64 x_16), (.int .i64 x_20), (.int .i64 x_24), (.int .i64 x_28), (.int .i64 x_3847)])), ⟨[(0, (.var [(.t (.list 3 nn_3854 l_3855)), (.t (.bool b_3859))]))], [500]⟩)
else
 some ((.t (.agg [(.int .i64 x_16), (.int .i64 x_20), (.int .i64 x_24), (.int .i64 x_28), (.int .i64 x_32)])), ⟨[(0, (.var [(.t (.list 3 m0_0z m0_0)), (.t (.bool m0_1))]))], [500]⟩))))))))))))))))
theorem J31_6g (KJ31_6 : Env → St → Option Res) (m0_0z : Bool) (m0_0 : List T) (m0_1 : Bool) (m8_0 m8_1 m8_2 m8_3 m8_4 : Int) (m9_0 : ByteArray) (m9_1 m9_2 m9_3 : Int) : WJ31_6 (fun e st => codeT Try.prog hint 31 0 62 (Ta31 KJ31_6) PaJ31_6 (ctxT Try.prog hint 31 0 62 (Ta31 KJ31_6) [] (List.reverse PaJ31_6) (bodyOf Try.f31) (resKV Try.prog Try.f31 (hint.own 31 0))) e st (nav (List.reverse PaJ31_6) (bodyOf Try.f31))) m0_0z m0_0 m0_1 m8_0 m8_1 m8_2 m8_3 m8_4 m9_0 m9_1 m9_2 m9_3 = RJ31_6 (WJ31_6 KJ31_6) m0_0z m0_0 m0_1 m8_0 m8_1 m8_2 m8_3 m8_4 m9_0 m9_1 m9_2 m9_3 := by kernel_rfl
theorem J31_6_eq (m0_0z : Bool) (m0_0 : List T) (m0_1 : Bool) (m8_0 m8_1 m8_2 m8_3 m8_4 : Int) (m9_0 : ByteArray) (m9_1 m9_2 m9_3 : Int) : J31_6 m0_0z m0_0 m0_1 m8_0 m8_1 m8_2 m8_3 m8_4 m9_0 m9_1 m9_2 m9_3 = RJ31_6 J31_6 m0_0z m0_0 m0_1 m8_0 m8_1 m8_2 m8_3 m8_4 m9_0 m9_1 m9_2 m9_3 :=
  (congrArg (fun k => WJ31_6 k m0_0z m0_0 m0_1 m8_0 m8_1 m8_2 m8_3 m8_4 m9_0 m9_1 m9_2 m9_3) (funext fun e => funext fun st => join_eq Try.prog hint (fn := Try.f31) (nt := 62) (T := (Ta31 VJ31_6)) [PaJ31_6] rfl PaJ31_6 e st rfl)).trans (J31_6g VJ31_6 m0_0z m0_0 m0_1 m8_0 m8_1 m8_2 m8_3 m8_4 m9_0 m9_1 m9_2 m9_3)
end Go.Proofs.Ytifkgdmiojnllaa.VM
