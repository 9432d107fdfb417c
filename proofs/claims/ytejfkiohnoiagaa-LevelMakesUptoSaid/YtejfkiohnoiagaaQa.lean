/- The equations of the functions, as the small evaluator gives them (printed by vgen.py). Conditions: none. -/
import Derived.Test.YtejfkiohnoiagaaVmD
import Derived.Test.YtejfkiohnoiagaaProg
set_option linter.all false
set_option linter.all false
namespace Go.Proofs.Ytejfkiohnoiagaa.VM
open Go AM
def normTab : List (Nat × Nat × List (Nat × Norm)) := [
  (43, 0, [(2, { slots := [(0, 0), (3, 0)], cells := [] })]),
  (33, 0, [(9, { slots := [(2, 0)], cells := [] }), (11, { slots := [(1, 0), (2, 0)], cells := [] })]),
  (44, 0, [(2, { slots := [(0, 0), (1, 0), (7, 0), (8, 0)], cells := [] })]),
  (36, 0, [(9, { slots := [(1, 0), (3, 0)], cells := [] }), (10, { slots := [(1, 0), (3, 0), (22, 0), (23, 0), (24, 0)], cells := [] }), (14, { slots := [(1, 0), (3, 0), (6, 0), (7, 0), (22, 0), (23, 0), (24, 0)], cells := [] })]),
  (10, 0, [(9, { slots := [(0, 0), (2, 1), (6, 0), (8, 0)], cells := [(8, 2, 3), (8, 3, 3)] }), (10, { slots := [(0, 0), (2, 0), (6, 0), (8, 0), (30, 0), (31, 0), (32, 0)], cells := [] })]),
  (16, 0, [(4, { slots := [(0, 0), (1, 0), (12, 0), (13, 0)], cells := [] })]),
  (10, 1, [(9, { slots := [(0, 0), (2, 1), (6, 0), (8, 0)], cells := [(8, 2, 3), (8, 3, 3)] }), (10, { slots := [(0, 0), (2, 0), (6, 0), (8, 0), (30, 0), (31, 0), (32, 0)], cells := [] })]),
  (42, 0, [(14, { slots := [(2, 0), (75, 0), (76, 0)], cells := [] })]),
  (28, 0, [(9, { slots := [(1, 0), (2, 0), (43, 0), (44, 0), (45, 0)], cells := [] }), (17, { slots := [(2, 0), (65, 0), (66, 0)], cells := [] }), (20, { slots := [(2, 0), (8, 0), (9, 0), (65, 0), (66, 0)], cells := [] })]),
  (11, 0, [(5, { slots := [(2, 0), (6, 0), (8, 0), (20, 0), (21, 0), (22, 0)], cells := [(8, 2, 3), (8, 3, 3)] }), (15, { slots := [(2, 0), (6, 0), (8, 0), (44, 0), (45, 0), (46, 0)], cells := [(8, 3, 3)] }), (20, { slots := [(2, 0), (6, 0), (8, 0)], cells := [(8, 2, 3), (8, 3, 3)] })]),
  (3, 0, [(4, { slots := [(0, 0), (1, 0), (2, 0), (7, 0), (8, 0), (19, 0), (20, 0), (21, 0)], cells := [] }), (15, { slots := [(0, 0), (1, 0), (2, 0), (7, 0), (11, 0), (13, 0), (14, 0), (63, 0), (64, 0)], cells := [(11, 3, 3)] })]),
  (31, 0, [(7, { slots := [(1, 0), (2, 0)], cells := [] })]),
  (15, 0, [(7, { slots := [(3, 0), (9, 0), (10, 0), (11, 0), (12, 0)], cells := [] }), (12, { slots := [(3, 0), (9, 0), (10, 0), (11, 0), (12, 0), (13, 0)], cells := [] })]),
  (4, 0, [(17, { slots := [(2, 0), (3, 0), (9, 0), (12, 0), (14, 0), (16, 0), (132, 0), (133, 0)], cells := [] }), (24, { slots := [(2, 0), (3, 0), (9, 0), (12, 0), (14, 0), (16, 0), (23, 0), (25, 0), (132, 0), (133, 0), (172, 0), (173, 0)], cells := [] })]),
  (32, 0, [(4, { slots := [(0, 0), (1, 0), (12, 0), (13, 0)], cells := [] })]),
  (5, 0, [(5, { slots := [(0, 0), (1, 0), (2, 0), (7, 0), (27, 0), (28, 0), (29, 0)], cells := [] }), (15, { slots := [(0, 0), (1, 0), (2, 0), (7, 0), (10, 0), (12, 3), (56, 0), (57, 0), (58, 0)], cells := [] }), (22, { slots := [(0, 0), (1, 0), (2, 0), (7, 0), (10, 0), (12, 0), (14, 0), (17, 3), (56, 0), (57, 0), (58, 0), (73, 0), (74, 0), (75, 0)], cells := [] })]),
  (37, 0, [(3, { slots := [(0, 0), (1, 0), (6, 0), (7, 0), (8, 0)], cells := [] })]),
  (20, 0, [(8, { slots := [(12, 0), (14, 0), (15, 0)], cells := [] })]),
  (6, 0, [(10, { slots := [(1, 0), (2, 0), (3, 0), (7, 0), (10, 0), (56, 0), (57, 0), (58, 0)], cells := [] }), (16, { slots := [(1, 0), (2, 0), (3, 0), (7, 0), (10, 0), (13, 0), (14, 0)], cells := [] })]),
  (38, 0, [(3, { slots := [(0, 0), (1, 0), (2, 0), (8, 0), (9, 0), (10, 0)], cells := [] })]),
  (7, 0, [(6, { slots := [(1, 0), (2, 0), (5, 0), (6, 0), (54, 0), (55, 0)], cells := [] }), (12, { slots := [(1, 0), (2, 0), (5, 0), (6, 0), (7, 0), (8, 0), (54, 0), (55, 0), (67, 0), (68, 0), (69, 0)], cells := [] }), (23, { slots := [(1, 0), (2, 0), (5, 0), (6, 0), (7, 0), (8, 0), (10, 0), (11, 0), (54, 0), (55, 0), (67, 0), (68, 0), (69, 0)], cells := [] })])]
def callTab : List (Nat × Nat × List (Nat × Nat × CallH)) := [
  (3, 0, [(10, 3, { w := 1, own := [], pre := [], out := (.tup [(.agg [(.t (.int .i64)), (.t (.int .i64)), (.t (.list 1)), (.buf 500)]), (.t (.one (.int .i64)))]), blks := [(500, (.arr 1))] })]),
  (19, 0, [(5, 3, { w := 0, own := [], pre := [], out := (.one (.t (.one .bool))), blks := [(0, (.var [(.t (.int .i64)), (.t (.int .i64)), (.t (.list 1)), (.t (.list 1))]))] })]),
  (34, 0, [(1, 2, { w := 0, own := [], pre := [], out := (.one (.t (.one (.int .i64)))), blks := [(0, (.var [(.t (.int .i64)), (.t (.int .i64)), (.t (.list 1)), (.t (.list 1))]))] })]),
  (44, 0, [(4, 5, { w := 0, own := [], pre := [], out := (.one (.t (.one .bool))), blks := [(0, (.var [(.t (.int .i64)), (.t (.int .i64)), (.t (.list 1)), (.t (.list 1))]))] })])]
def unrollTab : List (Nat × Nat × Nat) := []
def ownTab : List (Nat × Nat × List Nat) := [(10, 1, [3011000])]
def eqtTab : List (Nat × List Value) := [(56, [.int .i64 0, .int .i64 0])]
def ovSet : List Nat := []
def hint : Hint := mkHint eqtTab normTab callTab ownTab unrollTab ovSet
noncomputable def vr (f w : Nat) (args : List V) (st : St) : Option (V × St) := vrun Try.prog hint f w args st
def PaL43_2 : List Stp := [.blk, .snd, .fst, .snd]
def Ta43 (KL43_2 : Env → St → Option Res) : Tab := [(PaL43_2, KL43_2)]
/-- slices.IsSorted[[]int,int], region 2. -/
noncomputable def L43_2 (x0z : Bool) (x0 : List T) (i3 : Int) : Option (V × St) := atV Try.prog hint 43 0 Try.f43 21 (List.reverse PaL43_2) [(0, (.t (.list 1 x0z x0))), (3, (.t (.int .i64 i3)))] ⟨[], []⟩
def PaJ33_9 : List Stp := [.snd, .blk, .fst, .blk, .fst, .blk, .snd, .fst, .snd]
def PaJ33_11 : List Stp := [.snd, .blk, .snd, .fst, .snd]
def Ta33 (KJ33_9 KJ33_11 : Env → St → Option Res) : Tab := [(PaJ33_9, KJ33_9), (PaJ33_11, KJ33_11)]
/-- purfle/level.formed, region 9. -/
noncomputable def J33_9 (m8_0 : Int) (m8_1 : Int) (m8_2z : Bool) (m8_2 : List T) (m8_3z : Bool) (m8_3 : List T) : Option (V × St) := atV Try.prog hint 33 0 Try.f33 69 (List.reverse PaJ33_9) [(2, (.ptr 8 0 0))] ⟨[(8, (.var [(.t (.int .i64 m8_0)), (.t (.int .i64 m8_1)), (.t (.list 1 m8_2z m8_2)), (.t (.list 1 m8_3z m8_3))]))], []⟩
/-- purfle/level.formed, region 11. -/
noncomputable def J33_11 (ahead1 : Int) (m8_0 : Int) (m8_1 : Int) (m8_2z : Bool) (m8_2 : List T) (m8_3z : Bool) (m8_3 : List T) : Option (V × St) := atV Try.prog hint 33 0 Try.f33 69 (List.reverse PaJ33_11) [(1, (.t (.int .i64 ahead1))), (2, (.ptr 8 0 0))] ⟨[(8, (.var [(.t (.int .i64 m8_0)), (.t (.int .i64 m8_1)), (.t (.list 1 m8_2z m8_2)), (.t (.list 1 m8_3z m8_3))]))], []⟩
def PaL44_2 : List Stp := [.blk, .snd, .fst, .snd]
def Ta44 (KL44_2 : Env → St → Option Res) : Tab := [(PaL44_2, KL44_2)]
/-- slices.IndexFunc[[]int,int], region 2. -/
noncomputable def L44_2 (s0z : Bool) (s0 : List T) (t7 : Int) (t8 : Int) (m0_0 : Int) (m0_1 : Int) (m0_2z : Bool) (m0_2 : List T) (m0_3z : Bool) (m0_3 : List T) : Option (V × St) := atV Try.prog hint 44 0 Try.f44 19 (List.reverse PaL44_2) [(0, (.t (.list 1 s0z s0))), (1, (.fn 35 [] [(.ptr 0 0 0)])), (7, (.t (.int .i64 t7))), (8, (.t (.int .i64 t8)))] ⟨[(0, (.var [(.t (.int .i64 m0_0)), (.t (.int .i64 m0_1)), (.t (.list 1 m0_2z m0_2)), (.t (.list 1 m0_3z m0_3))]))], []⟩
def PaJ36_9 : List Stp := [.snd, .snd, .snd]
def PaL36_10 : List Stp := [.blk, .snd, .fst, .snd, .snd, .snd]
def PaL36_14 : List Stp := [.blk, .snd, .snd, .snd, .blk, .fst, .snd, .snd, .lp, .blk, .snd, .fst, .snd, .snd, .snd]
def Ta36 (KJ36_9 KL36_10 KL36_14 : Env → St → Option Res) : Tab := [(PaJ36_9, KJ36_9), (PaL36_10, KL36_10), (PaL36_14, KL36_14)]
/-- purfle/level.rising, region 9. -/
noncomputable def J36_9 (least3 : Int) (m8_0 : Int) (m8_1 : Int) (m8_2z : Bool) (m8_2 : List T) (m8_3z : Bool) (m8_3 : List T) : Option (V × St) := atV Try.prog hint 36 0 Try.f36 58 (List.reverse PaJ36_9) [(1, (.ptr 8 0 0)), (3, (.t (.int .i64 least3)))] ⟨[(8, (.var [(.t (.int .i64 m8_0)), (.t (.int .i64 m8_1)), (.t (.list 1 m8_2z m8_2)), (.t (.list 1 m8_3z m8_3))]))], []⟩
/-- purfle/level.rising, region 10. -/
noncomputable def L36_10 (least3 : Int) (t22z : Bool) (t22 : List T) (t23 : Int) (t24 : Int) (m8_0 : Int) (m8_1 : Int) (m8_2z : Bool) (m8_2 : List T) (m8_3z : Bool) (m8_3 : List T) : Option (V × St) := atV Try.prog hint 36 0 Try.f36 58 (List.reverse PaL36_10) [(1, (.ptr 8 0 0)), (3, (.t (.int .i64 least3))), (22, (.t (.list 1 t22z t22))), (23, (.t (.int .i64 t23))), (24, (.t (.int .i64 t24)))] ⟨[(8, (.var [(.t (.int .i64 m8_0)), (.t (.int .i64 m8_1)), (.t (.list 1 m8_2z m8_2)), (.t (.list 1 m8_3z m8_3))]))], []⟩
/-- purfle/level.rising, region 14. -/
noncomputable def L36_14 (least3 : Int) (part6z : Bool) (part6 : List T) (i7 : Int) (t22z : Bool) (t22 : List T) (t23 : Int) (t24 : Int) (m8_0 : Int) (m8_1 : Int) (m8_2z : Bool) (m8_2 : List T) (m8_3z : Bool) (m8_3 : List T) : Option (V × St) := atV Try.prog hint 36 0 Try.f36 58 (List.reverse PaL36_14) [(1, (.ptr 8 0 0)), (3, (.t (.int .i64 least3))), (6, (.t (.list 1 part6z part6))), (7, (.t (.int .i64 i7))), (22, (.t (.list 1 t22z t22))), (23, (.t (.int .i64 t23))), (24, (.t (.int .i64 t24)))] ⟨[(8, (.var [(.t (.int .i64 m8_0)), (.t (.int .i64 m8_1)), (.t (.list 1 m8_2z m8_2)), (.t (.list 1 m8_3z m8_3))]))], []⟩
def PaJ10_9 : List Stp := [.snd, .snd, .snd]
def PaL10_10 : List Stp := [.blk, .snd, .fst, .snd, .snd, .snd]
def Ta10 (KJ10_9 KL10_10 : Env → St → Option Res) : Tab := [(PaJ10_9, KJ10_9), (PaL10_10, KL10_10)]
/-- purfle/level.Make, region 9. -/
noncomputable def J10_9 (kind0 : Int) (groups2z : Bool) (groups2 : List T) (m8_0 : Int) (m8_1 : Int) (m8_2z : Bool) (m8_2 : List T) (m8_3z : Bool) (m8_3 : List T) (m9_0 : Int) (m9_1 : Int) (m10z : Bool) (m10 : List T) (m11z : Bool) (m11 : List T) : Option (V × St) := atV Try.prog hint 10 0 Try.f10 70 (List.reverse PaJ10_9) [(0, (.t (.int .i64 kind0))), (2, (.t (.list 1 groups2z groups2))), (6, (.ptr 8 0 0)), (8, (.ptr 9 0 0))] ⟨[(8, (.var [(.t (.int .i64 m8_0)), (.t (.int .i64 m8_1)), (.t (.list 1 m8_2z m8_2)), (.t (.list 1 m8_3z m8_3))])), (9, (.var [(.t (.int .i64 m9_0)), (.t (.int .i64 m9_1)), (.buf 10), (.buf 11)])), (10, (.arr true 1 m10z m10)), (11, (.arr true 1 m11z m11))], []⟩
/-- purfle/level.Make, region 10. -/
noncomputable def L10_10 (kind0 : Int) (groups2z : Bool) (groups2 : List T) (t30z : Bool) (t30 : List T) (t31 : Int) (t32 : Int) (m8_0 : Int) (m8_1 : Int) (m8_2z : Bool) (m8_2 : List T) (m8_3z : Bool) (m8_3 : List T) (m9_0 : Int) (m9_1 : Int) (m10z : Bool) (m10 : List T) (m11z : Bool) (m11 : List T) : Option (V × St) := atV Try.prog hint 10 0 Try.f10 70 (List.reverse PaL10_10) [(0, (.t (.int .i64 kind0))), (2, (.t (.list 1 groups2z groups2))), (6, (.ptr 8 0 0)), (8, (.ptr 9 0 0)), (30, (.t (.list 1 t30z t30))), (31, (.t (.int .i64 t31))), (32, (.t (.int .i64 t32)))] ⟨[(8, (.var [(.t (.int .i64 m8_0)), (.t (.int .i64 m8_1)), (.t (.list 1 m8_2z m8_2)), (.t (.list 1 m8_3z m8_3))])), (9, (.var [(.t (.int .i64 m9_0)), (.t (.int .i64 m9_1)), (.buf 10), (.buf 11)])), (10, (.arr true 1 m10z m10)), (11, (.arr true 1 m11z m11))], []⟩
def PaL16_4 : List Stp := [.blk, .snd, .fst, .snd, .snd]
def Ta16 (KL16_4 : Env → St → Option Res) : Tab := [(PaL16_4, KL16_4)]
/-- purfle/purfleref01.Equal, region 4. -/
noncomputable def L16_4 (a0z : Bool) (a0 : List T) (b1z : Bool) (b1 : List T) (t12 : Int) (t13 : Int) : Option (V × St) := atV Try.prog hint 16 0 Try.f16 26 (List.reverse PaL16_4) [(0, (.t (.list 1 a0z a0))), (1, (.t (.list 1 b1z b1))), (12, (.t (.int .i64 t12))), (13, (.t (.int .i64 t13)))] ⟨[], []⟩
def PaJ10v1_9 : List Stp := [.snd, .snd, .snd]
def PaL10v1_10 : List Stp := [.blk, .snd, .fst, .snd, .snd, .snd]
def Ta10v1 (KJ10v1_9 KL10v1_10 : Env → St → Option Res) : Tab := [(PaJ10v1_9, KJ10v1_9), (PaL10v1_10, KL10v1_10)]
/-- purfle/level.Make, region 9. -/
noncomputable def J10v1_9 (kind0 : Int) (groups2z : Bool) (groups2 : List T) (m8_0 : Int) (m8_1 : Int) (m8_2z : Bool) (m8_2 : List T) (m8_3z : Bool) (m8_3 : List T) (m9_0 : Int) (m9_1 : Int) (m10z : Bool) (m10 : List T) (m11z : Bool) (m11 : List T) : Option (V × St) := atV Try.prog hint 10 1 Try.f10 70 (List.reverse PaJ10v1_9) [(0, (.t (.int .i64 kind0))), (2, (.t (.list 1 groups2z groups2))), (6, (.ptr 8 0 0)), (8, (.ptr 9 0 0))] ⟨[(8, (.var [(.t (.int .i64 m8_0)), (.t (.int .i64 m8_1)), (.t (.list 1 m8_2z m8_2)), (.t (.list 1 m8_3z m8_3))])), (9, (.var [(.t (.int .i64 m9_0)), (.t (.int .i64 m9_1)), (.buf 10), (.buf 11)])), (10, (.arr true 1 m10z m10)), (11, (.arr true 1 m11z m11))], []⟩
/-- purfle/level.Make, region 10. -/
noncomputable def L10v1_10 (kind0 : Int) (groups2z : Bool) (groups2 : List T) (t30z : Bool) (t30 : List T) (t31 : Int) (t32 : Int) (m8_0 : Int) (m8_1 : Int) (m8_2z : Bool) (m8_2 : List T) (m8_3z : Bool) (m8_3 : List T) (m9_0 : Int) (m9_1 : Int) (m10z : Bool) (m10 : List T) (m11z : Bool) (m11 : List T) : Option (V × St) := atV Try.prog hint 10 1 Try.f10 70 (List.reverse PaL10v1_10) [(0, (.t (.int .i64 kind0))), (2, (.t (.list 1 groups2z groups2))), (6, (.ptr 8 0 0)), (8, (.ptr 9 0 0)), (30, (.t (.list 1 t30z t30))), (31, (.t (.int .i64 t31))), (32, (.t (.int .i64 t32)))] ⟨[(8, (.var [(.t (.int .i64 m8_0)), (.t (.int .i64 m8_1)), (.t (.list 1 m8_2z m8_2)), (.t (.list 1 m8_3z m8_3))])), (9, (.var [(.t (.int .i64 m9_0)), (.t (.int .i64 m9_1)), (.buf 10), (.buf 11)])), (10, (.arr true 1 m10z m10)), (11, (.arr true 1 m11z m11))], []⟩
def PaL42_14 : List Stp := [.blk, .snd, .fst, .snd, .snd, .snd]
def Ta42 (KL42_14 : Env → St → Option Res) : Tab := [(PaL42_14, KL42_14)]
/-- purfle/purfleref04.form, region 14. -/
noncomputable def L42_14 (t75 : Int) (t76 : Int) (m8_0 : Int) (m8_1 : Int) (m8_2z : Bool) (m8_2 : List T) (m8_3z : Bool) (m8_3 : List T) : Option (V × St) := atV Try.prog hint 42 0 Try.f42 92 (List.reverse PaL42_14) [(2, (.ptr 8 0 0)), (75, (.t (.int .i64 t75))), (76, (.t (.int .i64 t76)))] ⟨[(8, (.var [(.t (.int .i64 m8_0)), (.t (.int .i64 m8_1)), (.t (.list 1 m8_2z m8_2)), (.t (.list 1 m8_3z m8_3))]))], []⟩
def PaL28_9 : List Stp := [.blk, .snd, .fst, .snd, .snd, .snd, .snd]
def PaL28_17 : List Stp := [.blk, .snd, .fst, .snd, .snd, .snd, .snd, .snd, .snd]
def PaL28_20 : List Stp := [.blk, .snd, .snd, .blk, .fst, .snd, .snd, .lp, .blk, .snd, .fst, .snd, .snd, .snd, .snd, .snd, .snd]
def Ta28 (KL28_9 KL28_17 KL28_20 : Env → St → Option Res) : Tab := [(PaL28_9, KL28_9), (PaL28_17, KL28_17), (PaL28_20, KL28_20)]
/-- purfle/purfleref04.Check, region 9. -/
noncomputable def L28_9 (ahead1 : Int) (t43z : Bool) (t43 : List T) (t44 : Int) (t45 : Int) (m8_0 : Int) (m8_1 : Int) (m8_2z : Bool) (m8_2 : List T) (m8_3z : Bool) (m8_3 : List T) : Option (V × St) := atV Try.prog hint 28 0 Try.f28 117 (List.reverse PaL28_9) [(1, (.t (.int .i64 ahead1))), (2, (.ptr 8 0 0)), (43, (.t (.list 1 t43z t43))), (44, (.t (.int .i64 t44))), (45, (.t (.int .i64 t45)))] ⟨[(8, (.var [(.t (.int .i64 m8_0)), (.t (.int .i64 m8_1)), (.t (.list 1 m8_2z m8_2)), (.t (.list 1 m8_3z m8_3))]))], []⟩
/-- purfle/purfleref04.Check, region 17. -/
noncomputable def L28_17 (t65 : Int) (t66 : Int) (m8_0 : Int) (m8_1 : Int) (m8_2z : Bool) (m8_2 : List T) (m8_3z : Bool) (m8_3 : List T) : Option (V × St) := atV Try.prog hint 28 0 Try.f28 117 (List.reverse PaL28_17) [(2, (.ptr 8 0 0)), (65, (.t (.int .i64 t65))), (66, (.t (.int .i64 t66)))] ⟨[(8, (.var [(.t (.int .i64 m8_0)), (.t (.int .i64 m8_1)), (.t (.list 1 m8_2z m8_2)), (.t (.list 1 m8_3z m8_3))]))], []⟩
/-- purfle/purfleref04.Check, region 20. -/
noncomputable def L28_20 (p8 : Int) (n9 : Int) (t65 : Int) (t66 : Int) (m8_0 : Int) (m8_1 : Int) (m8_2z : Bool) (m8_2 : List T) (m8_3z : Bool) (m8_3 : List T) : Option (V × St) := atV Try.prog hint 28 0 Try.f28 117 (List.reverse PaL28_20) [(2, (.ptr 8 0 0)), (8, (.t (.int .i64 p8))), (9, (.t (.int .i64 n9))), (65, (.t (.int .i64 t65))), (66, (.t (.int .i64 t66)))] ⟨[(8, (.var [(.t (.int .i64 m8_0)), (.t (.int .i64 m8_1)), (.t (.list 1 m8_2z m8_2)), (.t (.list 1 m8_3z m8_3))]))], []⟩
def PaL11_5 : List Stp := [.blk, .snd, .yes, .snd, .blk, .snd, .fst, .snd, .snd]
def PaL11_15 : List Stp := [.blk, .snd, .snd, .yes, .snd, .no, .snd, .blk, .snd, .fst, .snd, .snd]
def PaJ11_20 : List Stp := [.snd, .snd, .snd]
def Ta11 (KL11_5 KL11_15 KJ11_20 : Env → St → Option Res) : Tab := [(PaL11_5, KL11_5), (PaL11_15, KL11_15), (PaJ11_20, KJ11_20)]
/-- purfle/purfleref04.Make, region 5. -/
noncomputable def L11_5 (groups2z : Bool) (groups2 : List T) (t20z : Bool) (t20 : List T) (t21 : Int) (t22 : Int) (m8_0 : Int) (m8_1 : Int) (m8_2z : Bool) (m8_2 : List T) (m8_3z : Bool) (m8_3 : List T) (m9_0 : Int) (m9_1 : Int) (m10z : Bool) (m10 : List T) (m11z : Bool) (m11 : List T) : Option (V × St) := atV Try.prog hint 11 0 Try.f11 73 (List.reverse PaL11_5) [(2, (.t (.list 1 groups2z groups2))), (6, (.ptr 8 0 0)), (8, (.ptr 9 0 0)), (20, (.t (.list 1 t20z t20))), (21, (.t (.int .i64 t21))), (22, (.t (.int .i64 t22)))] ⟨[(8, (.var [(.t (.int .i64 m8_0)), (.t (.int .i64 m8_1)), (.t (.list 1 m8_2z m8_2)), (.t (.list 1 m8_3z m8_3))])), (9, (.var [(.t (.int .i64 m9_0)), (.t (.int .i64 m9_1)), (.buf 10), (.buf 11)])), (10, (.arr true 1 m10z m10)), (11, (.arr true 1 m11z m11))], []⟩
/-- purfle/purfleref04.Make, region 15. -/
noncomputable def L11_15 (groups2z : Bool) (groups2 : List T) (t44z : Bool) (t44 : List T) (t45 : Int) (t46 : Int) (m8_0 : Int) (m8_1 : Int) (m8_2z : Bool) (m8_2 : List T) (m8_3z : Bool) (m8_3 : List T) (m9_0 : Int) (m9_1 : Int) (m10z : Bool) (m10 : List T) (m11z : Bool) (m11 : List T) : Option (V × St) := atV Try.prog hint 11 0 Try.f11 73 (List.reverse PaL11_15) [(2, (.t (.list 1 groups2z groups2))), (6, (.ptr 8 0 0)), (8, (.ptr 9 0 0)), (44, (.t (.list 1 t44z t44))), (45, (.t (.int .i64 t45))), (46, (.t (.int .i64 t46)))] ⟨[(8, (.var [(.t (.int .i64 m8_0)), (.t (.int .i64 m8_1)), (.t (.list 1 m8_2z m8_2)), (.t (.list 1 m8_3z m8_3))])), (9, (.var [(.t (.int .i64 m9_0)), (.t (.int .i64 m9_1)), (.buf 10), (.buf 11)])), (10, (.arr true 1 m10z m10)), (11, (.arr true 1 m11z m11))], []⟩
/-- purfle/purfleref04.Make, region 20. -/
noncomputable def J11_20 (groups2z : Bool) (groups2 : List T) (m8_0 : Int) (m8_1 : Int) (m8_2z : Bool) (m8_2 : List T) (m8_3z : Bool) (m8_3 : List T) (m9_0 : Int) (m9_1 : Int) (m10z : Bool) (m10 : List T) (m11z : Bool) (m11 : List T) : Option (V × St) := atV Try.prog hint 11 0 Try.f11 73 (List.reverse PaJ11_20) [(2, (.t (.list 1 groups2z groups2))), (6, (.ptr 8 0 0)), (8, (.ptr 9 0 0))] ⟨[(8, (.var [(.t (.int .i64 m8_0)), (.t (.int .i64 m8_1)), (.t (.list 1 m8_2z m8_2)), (.t (.list 1 m8_3z m8_3))])), (9, (.var [(.t (.int .i64 m9_0)), (.t (.int .i64 m9_1)), (.buf 10), (.buf 11)])), (10, (.arr true 1 m10z m10)), (11, (.arr true 1 m11z m11))], []⟩
def PaL3_4 : List Stp := [.blk, .snd, .fst, .snd, .snd, .snd]
def PaL3_15 : List Stp := [.blk, .snd, .fst, .snd, .snd, .snd, .snd, .snd, .snd, .snd, .snd]
def Ta3 (KL3_4 KL3_15 : Env → St → Option Res) : Tab := [(PaL3_4, KL3_4), (PaL3_15, KL3_15)]
/-- purfle/purflelaw04.LevelMakes, region 4. -/
noncomputable def L3_4 (kind0 : Int) (size1 : Int) (groups2z : Bool) (groups2 : List T) (up7 : Bool) (many8 : Int) (t19z : Bool) (t19 : List T) (t20 : Int) (t21 : Int) : Option (V × St) := atV Try.prog hint 3 0 Try.f3 93 (List.reverse PaL3_4) [(0, (.t (.int .i64 kind0))), (1, (.t (.int .i64 size1))), (2, (.t (.list 1 groups2z groups2))), (7, (.t (.bool up7))), (8, (.t (.int .i64 many8))), (19, (.t (.list 1 t19z t19))), (20, (.t (.int .i64 t20))), (21, (.t (.int .i64 t21)))] ⟨[], []⟩
/-- purfle/purflelaw04.LevelMakes, region 15. -/
noncomputable def L3_15 (kind0 : Int) (size1 : Int) (groups2z : Bool) (groups2 : List T) (up7 : Bool) (f14 : Int) (t63 : Int) (t64 : Int) (m8_0 : Int) (m8_1 : Int) (m8_2z : Bool) (m8_2 : List T) (m9z : Bool) (m9 : List T) (m10_0 : Int) (m10_1 : Int) (m10_2z : Bool) (m10_2 : List T) (m10_3z : Bool) (m10_3 : List T) : Option (V × St) := atV Try.prog hint 3 0 Try.f3 93 (List.reverse PaL3_15) [(0, (.t (.int .i64 kind0))), (1, (.t (.int .i64 size1))), (2, (.t (.list 1 groups2z groups2))), (7, (.t (.bool up7))), (11, (.ptr 8 0 0)), (13, (.ptr 10 0 0)), (14, (.t (.int .i64 f14))), (63, (.t (.int .i64 t63))), (64, (.t (.int .i64 t64)))] ⟨[(8, (.var [(.t (.int .i64 m8_0)), (.t (.int .i64 m8_1)), (.t (.list 1 m8_2z m8_2)), (.buf 9)])), (9, (.arr true 1 m9z m9)), (10, (.var [(.t (.int .i64 m10_0)), (.t (.int .i64 m10_1)), (.t (.list 1 m10_2z m10_2)), (.t (.list 1 m10_3z m10_3))]))], []⟩
def PaJ31_7 : List Stp := [.snd, .snd]
def Ta31 (KJ31_7 : Env → St → Option Res) : Tab := [(PaJ31_7, KJ31_7)]
/-- purfle/level.segment, region 7. -/
noncomputable def J31_7 (p1 : Int) (m8_0 : Int) (m8_1 : Int) (m8_2z : Bool) (m8_2 : List T) (m8_3z : Bool) (m8_3 : List T) : Option (V × St) := atV Try.prog hint 31 0 Try.f31 36 (List.reverse PaJ31_7) [(1, (.t (.int .i64 p1))), (2, (.ptr 8 0 0))] ⟨[(8, (.var [(.t (.int .i64 m8_0)), (.t (.int .i64 m8_1)), (.t (.list 1 m8_2z m8_2)), (.t (.list 1 m8_3z m8_3))]))], []⟩
def PaL15_7 : List Stp := [.blk, .snd, .fst, .snd, .snd, .snd, .snd]
def PaJ15_12 : List Stp := [.snd, .snd, .blk, .fst, .snd, .lp, .blk, .snd, .fst, .snd, .snd, .snd, .snd]
def Ta15 (KL15_7 KJ15_12 : Env → St → Option Res) : Tab := [(PaL15_7, KL15_7), (PaJ15_12, KJ15_12)]
/-- purfle/level.Children, region 7. -/
noncomputable def L15_7 (from9 : Int) (to10 : Int) (n12 : Int) (m8_0 : Int) (m8_1 : Int) (m8_2z : Bool) (m8_2 : List T) (m8_3z : Bool) (m8_3 : List T) (m9z : Bool) (m9 : List T) : Option (V × St) := atV Try.prog hint 15 0 Try.f15 55 (List.reverse PaL15_7) [(3, (.ptr 8 0 0)), (9, (.t (.int .i64 from9))), (10, (.t (.int .i64 to10))), (11, (.buf 9)), (12, (.t (.int .i64 n12)))] ⟨[(8, (.var [(.t (.int .i64 m8_0)), (.t (.int .i64 m8_1)), (.t (.list 1 m8_2z m8_2)), (.t (.list 1 m8_3z m8_3))])), (9, (.arr true 2 m9z m9))], []⟩
/-- purfle/level.Children, region 12. -/
noncomputable def J15_12 (from9 : Int) (to10 : Int) (n12 : Int) (at13 : Int) (m8_0 : Int) (m8_1 : Int) (m8_2z : Bool) (m8_2 : List T) (m8_3z : Bool) (m8_3 : List T) (m9z : Bool) (m9 : List T) : Option (V × St) := atV Try.prog hint 15 0 Try.f15 55 (List.reverse PaJ15_12) [(3, (.ptr 8 0 0)), (9, (.t (.int .i64 from9))), (10, (.t (.int .i64 to10))), (11, (.buf 9)), (12, (.t (.int .i64 n12))), (13, (.t (.int .i64 at13)))] ⟨[(8, (.var [(.t (.int .i64 m8_0)), (.t (.int .i64 m8_1)), (.t (.list 1 m8_2z m8_2)), (.t (.list 1 m8_3z m8_3))])), (9, (.arr true 2 m9z m9))], []⟩
def PaL4_17 : List Stp := [.blk, .snd, .fst, .snd, .snd, .snd, .snd, .snd, .snd, .snd, .snd, .snd, .snd, .snd, .snd]
def PaL4_24 : List Stp := [.blk, .snd, .snd, .snd, .snd, .snd, .blk, .fst, .snd, .snd, .lp, .blk, .snd, .fst, .snd, .snd, .snd, .snd, .snd, .snd, .snd, .snd, .snd, .snd, .snd, .snd]
def Ta4 (KL4_17 KL4_24 : Env → St → Option Res) : Tab := [(PaL4_17, KL4_17), (PaL4_24, KL4_24)]
/-- purfle/purflelaw04.LevelJoins, region 17. -/
noncomputable def L4_17 (a2z : Bool) (a2 : List T) (b3z : Bool) (b3 : List T) (up9 : Bool) (n16 : Int) (t132 : Int) (t133 : Int) (m8_0 : Int) (m8_1 : Int) (m8_2z : Bool) (m8_2 : List T) (m8_3z : Bool) (m8_3 : List T) (m9_0 : Int) (m9_1 : Int) (m9_2z : Bool) (m9_2 : List T) (m9_3z : Bool) (m9_3 : List T) : Option (V × St) := atV Try.prog hint 4 0 Try.f4 205 (List.reverse PaL4_17) [(2, (.t (.list 1 a2z a2))), (3, (.t (.list 1 b3z b3))), (9, (.t (.bool up9))), (12, (.ptr 8 0 0)), (14, (.ptr 9 0 0)), (16, (.t (.int .i64 n16))), (132, (.t (.int .i64 t132))), (133, (.t (.int .i64 t133)))] ⟨[(8, (.var [(.t (.int .i64 m8_0)), (.t (.int .i64 m8_1)), (.t (.list 1 m8_2z m8_2)), (.t (.list 1 m8_3z m8_3))])), (9, (.var [(.t (.int .i64 m9_0)), (.t (.int .i64 m9_1)), (.t (.list 1 m9_2z m9_2)), (.t (.list 1 m9_3z m9_3))]))], []⟩
/-- purfle/purflelaw04.LevelJoins, region 24. -/
noncomputable def L4_24 (a2z : Bool) (a2 : List T) (b3z : Bool) (b3 : List T) (up9 : Bool) (n16 : Int) (c23z : Bool) (c23 : List T) (d25z : Bool) (d25 : List T) (t132 : Int) (t133 : Int) (t172 : Int) (t173 : Int) (m8_0 : Int) (m8_1 : Int) (m8_2z : Bool) (m8_2 : List T) (m8_3z : Bool) (m8_3 : List T) (m9_0 : Int) (m9_1 : Int) (m9_2z : Bool) (m9_2 : List T) (m9_3z : Bool) (m9_3 : List T) : Option (V × St) := atV Try.prog hint 4 0 Try.f4 205 (List.reverse PaL4_24) [(2, (.t (.list 1 a2z a2))), (3, (.t (.list 1 b3z b3))), (9, (.t (.bool up9))), (12, (.ptr 8 0 0)), (14, (.ptr 9 0 0)), (16, (.t (.int .i64 n16))), (23, (.t (.list 2 c23z c23))), (25, (.t (.list 2 d25z d25))), (132, (.t (.int .i64 t132))), (133, (.t (.int .i64 t133))), (172, (.t (.int .i64 t172))), (173, (.t (.int .i64 t173)))] ⟨[(8, (.var [(.t (.int .i64 m8_0)), (.t (.int .i64 m8_1)), (.t (.list 1 m8_2z m8_2)), (.t (.list 1 m8_3z m8_3))])), (9, (.var [(.t (.int .i64 m9_0)), (.t (.int .i64 m9_1)), (.t (.list 1 m9_2z m9_2)), (.t (.list 1 m9_3z m9_3))]))], []⟩
def PaL32_4 : List Stp := [.blk, .snd, .fst, .snd, .snd]
def Ta32 (KL32_4 : Env → St → Option Res) : Tab := [(PaL32_4, KL32_4)]
/-- slices.Equal[[]int,int], region 4. -/
noncomputable def L32_4 (s10z : Bool) (s10 : List T) (s21z : Bool) (s21 : List T) (t12 : Int) (t13 : Int) : Option (V × St) := atV Try.prog hint 32 0 Try.f32 26 (List.reverse PaL32_4) [(0, (.t (.list 1 s10z s10))), (1, (.t (.list 1 s21z s21))), (12, (.t (.int .i64 t12))), (13, (.t (.int .i64 t13)))] ⟨[], []⟩
def PaL5_5 : List Stp := [.blk, .snd, .fst, .snd, .snd, .snd]
def PaL5_15 : List Stp := [.blk, .snd, .fst, .snd, .snd, .snd, .snd, .snd, .snd, .snd]
def PaL5_22 : List Stp := [.blk, .snd, .fst, .snd, .snd, .snd, .snd, .blk, .fst, .snd, .snd, .lp, .blk, .snd, .fst, .snd, .snd, .snd, .snd, .snd, .snd, .snd]
def Ta5 (KL5_5 KL5_15 KL5_22 : Env → St → Option Res) : Tab := [(PaL5_5, KL5_5), (PaL5_15, KL5_15), (PaL5_22, KL5_22)]
/-- purfle/purflelaw04.LevelBack, region 5. -/
noncomputable def L5_5 (kind0 : Int) (size1 : Int) (groups2z : Bool) (groups2 : List T) (up7 : Bool) (t27z : Bool) (t27 : List T) (t28 : Int) (t29 : Int) : Option (V × St) := atV Try.prog hint 5 0 Try.f5 126 (List.reverse PaL5_5) [(0, (.t (.int .i64 kind0))), (1, (.t (.int .i64 size1))), (2, (.t (.list 1 groups2z groups2))), (7, (.t (.bool up7))), (27, (.t (.list 1 t27z t27))), (28, (.t (.int .i64 t28))), (29, (.t (.int .i64 t29)))] ⟨[], []⟩
/-- purfle/purflelaw04.LevelBack, region 15. -/
noncomputable def L5_15 (kind0 : Int) (size1 : Int) (groups2z : Bool) (groups2 : List T) (up7 : Bool) (t56z : Bool) (t56 : List T) (t57 : Int) (t58 : Int) (m8_0 : Int) (m8_1 : Int) (m8_2z : Bool) (m8_2 : List T) (m8_3z : Bool) (m8_3 : List T) (m9z : Bool) (m9 : List T) : Option (V × St) := atV Try.prog hint 5 0 Try.f5 126 (List.reverse PaL5_15) [(0, (.t (.int .i64 kind0))), (1, (.t (.int .i64 size1))), (2, (.t (.list 1 groups2z groups2))), (7, (.t (.bool up7))), (10, (.ptr 8 0 0)), (12, (.buf 9)), (56, (.t (.list 1 t56z t56))), (57, (.t (.int .i64 t57))), (58, (.t (.int .i64 t58)))] ⟨[(8, (.var [(.t (.int .i64 m8_0)), (.t (.int .i64 m8_1)), (.t (.list 1 m8_2z m8_2)), (.t (.list 1 m8_3z m8_3))])), (9, (.arr true 1 m9z m9))], []⟩
/-- purfle/purflelaw04.LevelBack, region 22. -/
noncomputable def L5_22 (kind0 : Int) (size1 : Int) (groups2z : Bool) (groups2 : List T) (up7 : Bool) (g14z : Bool) (g14 : List T) (t56z : Bool) (t56 : List T) (t57 : Int) (t58 : Int) (t73z : Bool) (t73 : List T) (t74 : Int) (t75 : Int) (m8_0 : Int) (m8_1 : Int) (m8_2z : Bool) (m8_2 : List T) (m8_3z : Bool) (m8_3 : List T) (m9z : Bool) (m9 : List T) (m10z : Bool) (m10 : List T) : Option (V × St) := atV Try.prog hint 5 0 Try.f5 126 (List.reverse PaL5_22) [(0, (.t (.int .i64 kind0))), (1, (.t (.int .i64 size1))), (2, (.t (.list 1 groups2z groups2))), (7, (.t (.bool up7))), (10, (.ptr 8 0 0)), (12, (.buf 9)), (14, (.t (.list 1 g14z g14))), (17, (.buf 10)), (56, (.t (.list 1 t56z t56))), (57, (.t (.int .i64 t57))), (58, (.t (.int .i64 t58))), (73, (.t (.list 2 t73z t73))), (74, (.t (.int .i64 t74))), (75, (.t (.int .i64 t75)))] ⟨[(8, (.var [(.t (.int .i64 m8_0)), (.t (.int .i64 m8_1)), (.t (.list 1 m8_2z m8_2)), (.t (.list 1 m8_3z m8_3))])), (9, (.arr true 1 m9z m9)), (10, (.arr true 1 m10z m10))], []⟩
def PaL37_3 : List Stp := [.blk, .fst, .snd, .snd, .snd]
def Ta37 (KL37_3 : Env → St → Option Res) : Tab := [(PaL37_3, KL37_3)]
/-- slices.BinarySearch[[]int,int], region 3. -/
noncomputable def L37_3 (x0z : Bool) (x0 : List T) (target1 : Int) (n6 : Int) (i7 : Int) (j8 : Int) : Option (V × St) := atV Try.prog hint 37 0 Try.f37 54 (List.reverse PaL37_3) [(0, (.t (.list 1 x0z x0))), (1, (.t (.int .i64 target1))), (6, (.t (.int .i64 n6))), (7, (.t (.int .i64 i7))), (8, (.t (.int .i64 j8)))] ⟨[], []⟩
def PaJ20_8 : List Stp := [.snd, .snd, .snd, .snd, .snd]
def Ta20 (KJ20_8 : Env → St → Option Res) : Tab := [(PaJ20_8, KJ20_8)]
/-- purfle/level.Find, region 8. -/
noncomputable def J20_8 (from12 : Int) (i14 : Int) (is15 : Bool) : Option (V × St) := atV Try.prog hint 20 0 Try.f20 56 (List.reverse PaJ20_8) [(12, (.t (.int .i64 from12))), (14, (.t (.int .i64 i14))), (15, (.t (.bool is15)))] ⟨[], []⟩
def PaL6_10 : List Stp := [.blk, .snd, .fst, .snd, .snd, .snd, .snd, .snd, .snd, .snd]
def PaL6_16 : List Stp := [.blk, .snd, .fst, .snd, .snd, .snd, .snd, .snd, .snd, .snd, .snd, .snd]
def Ta6 (KL6_10 KL6_16 : Env → St → Option Res) : Tab := [(PaL6_10, KL6_10), (PaL6_16, KL6_16)]
/-- purfle/purflelaw04.LevelPlaces, region 10. -/
noncomputable def L6_10 (ahead1 : Int) (p2 : Int) (up7 : Bool) (t56z : Bool) (t56 : List T) (t57 : Int) (t58 : Int) (m8_0 : Int) (m8_1 : Int) (m8_2z : Bool) (m8_2 : List T) (m8_3z : Bool) (m8_3 : List T) (m9 : List (T × T)) : Option (V × St) := atV Try.prog hint 6 0 Try.f6 100 (List.reverse PaL6_10) [(1, (.t (.int .i64 ahead1))), (2, (.t (.int .i64 p2))), (3, (.ptr 8 0 0)), (7, (.t (.bool up7))), (10, (.map 9)), (56, (.t (.list 2 t56z t56))), (57, (.t (.int .i64 t57))), (58, (.t (.int .i64 t58)))] ⟨[(8, (.var [(.t (.int .i64 m8_0)), (.t (.int .i64 m8_1)), (.t (.list 1 m8_2z m8_2)), (.t (.list 1 m8_3z m8_3))])), (9, (.map m9))], []⟩
/-- purfle/purflelaw04.LevelPlaces, region 16. -/
noncomputable def L6_16 (ahead1 : Int) (p2 : Int) (up7 : Bool) (many13 : Int) (at14 : Int) (m8_0 : Int) (m8_1 : Int) (m8_2z : Bool) (m8_2 : List T) (m8_3z : Bool) (m8_3 : List T) (m9 : List (T × T)) : Option (V × St) := atV Try.prog hint 6 0 Try.f6 100 (List.reverse PaL6_16) [(1, (.t (.int .i64 ahead1))), (2, (.t (.int .i64 p2))), (3, (.ptr 8 0 0)), (7, (.t (.bool up7))), (10, (.map 9)), (13, (.t (.int .i64 many13))), (14, (.t (.int .i64 at14)))] ⟨[(8, (.var [(.t (.int .i64 m8_0)), (.t (.int .i64 m8_1)), (.t (.list 1 m8_2z m8_2)), (.t (.list 1 m8_3z m8_3))])), (9, (.map m9))], []⟩
def PaL38_3 : List Stp := [.blk, .fst, .snd, .snd, .snd]
def Ta38 (KL38_3 : Env → St → Option Res) : Tab := [(PaL38_3, KL38_3)]
/-- slices.BinarySearchFunc[[]int,int,int], region 3. -/
noncomputable def L38_3 (x0z : Bool) (x0 : List T) (target1 : Int) (n8 : Int) (i9 : Int) (j10 : Int) : Option (V × St) := atV Try.prog hint 38 0 Try.f38 49 (List.reverse PaL38_3) [(0, (.t (.list 1 x0z x0))), (1, (.t (.int .i64 target1))), (2, (.fn 39 [] [])), (8, (.t (.int .i64 n8))), (9, (.t (.int .i64 i9))), (10, (.t (.int .i64 j10)))] ⟨[], []⟩
def PaL7_6 : List Stp := [.blk, .snd, .fst, .snd, .snd, .snd, .snd]
def PaL7_12 : List Stp := [.blk, .snd, .snd, .snd, .snd, .blk, .fst, .snd, .snd, .lp, .blk, .snd, .fst, .snd, .snd, .snd, .snd]
def PaJ7_23 : List Stp := [.snd, .snd, .snd, .snd, .snd, .blk, .fst, .snd, .snd, .lp, .blk, .snd, .snd, .snd, .snd, .blk, .fst, .snd, .snd, .lp, .blk, .snd, .fst, .snd, .snd, .snd, .snd]
def Ta7 (KL7_6 KL7_12 KJ7_23 : Env → St → Option Res) : Tab := [(PaL7_6, KL7_6), (PaL7_12, KL7_12), (PaJ7_23, KJ7_23)]
/-- purfle/purflelaw04.LevelAll, region 6. -/
noncomputable def L7_6 (ahead1 : Int) (up5 : Bool) (n6 : Int) (t54 : Int) (t55 : Int) (m8_0 : Int) (m8_1 : Int) (m8_2z : Bool) (m8_2 : List T) (m8_3z : Bool) (m8_3 : List T) : Option (V × St) := atV Try.prog hint 7 0 Try.f7 203 (List.reverse PaL7_6) [(1, (.t (.int .i64 ahead1))), (2, (.ptr 8 0 0)), (5, (.t (.bool up5))), (6, (.t (.int .i64 n6))), (54, (.t (.int .i64 t54))), (55, (.t (.int .i64 t55)))] ⟨[(8, (.var [(.t (.int .i64 m8_0)), (.t (.int .i64 m8_1)), (.t (.list 1 m8_2z m8_2)), (.t (.list 1 m8_3z m8_3))]))], []⟩
/-- purfle/purflelaw04.LevelAll, region 12. -/
noncomputable def L7_12 (ahead1 : Int) (up5 : Bool) (n6 : Int) (p7 : Int) (c8z : Bool) (c8 : List T) (t54 : Int) (t55 : Int) (t67z : Bool) (t67 : List T) (t68 : Int) (t69 : Int) (m8_0 : Int) (m8_1 : Int) (m8_2z : Bool) (m8_2 : List T) (m8_3z : Bool) (m8_3 : List T) : Option (V × St) := atV Try.prog hint 7 0 Try.f7 203 (List.reverse PaL7_12) [(1, (.t (.int .i64 ahead1))), (2, (.ptr 8 0 0)), (5, (.t (.bool up5))), (6, (.t (.int .i64 n6))), (7, (.t (.int .i64 p7))), (8, (.t (.list 2 c8z c8))), (54, (.t (.int .i64 t54))), (55, (.t (.int .i64 t55))), (67, (.t (.list 2 t67z t67))), (68, (.t (.int .i64 t68))), (69, (.t (.int .i64 t69)))] ⟨[(8, (.var [(.t (.int .i64 m8_0)), (.t (.int .i64 m8_1)), (.t (.list 1 m8_2z m8_2)), (.t (.list 1 m8_3z m8_3))]))], []⟩
/-- purfle/purflelaw04.LevelAll, region 23. -/
noncomputable def J7_23 (ahead1 : Int) (up5 : Bool) (n6 : Int) (p7 : Int) (c8z : Bool) (c8 : List T) (i10 : Int) (t54 : Int) (t55 : Int) (t67z : Bool) (t67 : List T) (t68 : Int) (t69 : Int) (m8_0 : Int) (m8_1 : Int) (m8_2z : Bool) (m8_2 : List T) (m8_3z : Bool) (m8_3 : List T) (m9_0 : Int) (m9_1 : Int) : Option (V × St) := atV Try.prog hint 7 0 Try.f7 203 (List.reverse PaJ7_23) [(1, (.t (.int .i64 ahead1))), (2, (.ptr 8 0 0)), (5, (.t (.bool up5))), (6, (.t (.int .i64 n6))), (7, (.t (.int .i64 p7))), (8, (.t (.list 2 c8z c8))), (10, (.t (.int .i64 i10))), (11, (.ptr 9 0 0)), (54, (.t (.int .i64 t54))), (55, (.t (.int .i64 t55))), (67, (.t (.list 2 t67z t67))), (68, (.t (.int .i64 t68))), (69, (.t (.int .i64 t69)))] ⟨[(8, (.var [(.t (.int .i64 m8_0)), (.t (.int .i64 m8_1)), (.t (.list 1 m8_2z m8_2)), (.t (.list 1 m8_3z m8_3))])), (9, (.var [(.t (.int .i64 m9_0)), (.t (.int .i64 m9_1))]))], []⟩
noncomputable def R47  (a0 : Int) : Option Res :=
 some ((.t (.bool (!decide (a0 = a0)))), ⟨[], []⟩)
theorem eq47g  (a0 : Int) : codeT Try.prog hint 47 0 6 [] [] (resKV Try.prog Try.f47 (hint.own 47 0)) (nrm hint 47 0 (bodyOf Try.f47) (envV [(.t (.int .i64 a0))] 0) ⟨[], []⟩).1 (nrm hint 47 0 (bodyOf Try.f47) (envV [(.t (.int .i64 a0))] 0) ⟨[], []⟩).2 (bodyOf Try.f47) = R47  a0 := by kernel_rfl
/-- cmp.isNaN[int] -/
theorem eq47 (a0 : Int) : vr 47 0 [(.t (.int .i64 a0))] ⟨[], []⟩ = R47  a0 :=
  (call_eq Try.prog hint (fn := Try.f47) (nt := 6) (T := []) [] rfl [(.t (.int .i64 a0))] ⟨[], []⟩ rfl rfl rfl rfl rfl).trans (eq47g  a0)
noncomputable def R45  (a0 : Int) (a1 : Int) : Option Res :=
 callK (vr 47 0 [(.t (.int .i64 a0))] ⟨[], []⟩) fun v_1 b_2 =>
 asT v_1 fun x_3 =>
 asB x_3 fun b_4 =>
 endB b_2 <|
(bif b_4 then
 callK (vr 47 0 [(.t (.int .i64 a1))] ⟨[], []⟩) fun v_5 b_6 =>
 asT v_5 fun x_7 =>
 asB x_7 fun b_8 =>
 endB b_6 <|
(bif (!b_8) then
 some ((.t (.bool true)), ⟨[], []⟩)
else
 some ((.t (.bool (decide (a0 < a1)))), ⟨[], []⟩))
else
 some ((.t (.bool (decide (a0 < a1)))), ⟨[], []⟩))
theorem eq45g  (a0 : Int) (a1 : Int) : codeT Try.prog hint 45 0 17 [] [] (resKV Try.prog Try.f45 (hint.own 45 0)) (nrm hint 45 0 (bodyOf Try.f45) (envV [(.t (.int .i64 a0)), (.t (.int .i64 a1))] 0) ⟨[], []⟩).1 (nrm hint 45 0 (bodyOf Try.f45) (envV [(.t (.int .i64 a0)), (.t (.int .i64 a1))] 0) ⟨[], []⟩).2 (bodyOf Try.f45) = R45  a0 a1 := by kernel_rfl
/-- cmp.Less[int] -/
theorem eq45 (a0 : Int) (a1 : Int) : vr 45 0 [(.t (.int .i64 a0)), (.t (.int .i64 a1))] ⟨[], []⟩ = R45  a0 a1 :=
  (call_eq Try.prog hint (fn := Try.f45) (nt := 17) (T := []) [] rfl [(.t (.int .i64 a0)), (.t (.int .i64 a1))] ⟨[], []⟩ rfl rfl rfl rfl rfl).trans (eq45g  a0 a1)
noncomputable def R43 (L43_2 : Bool → (List T) → Int → Option Res) (a0z : Bool) (a0 : List T) : Option Res :=
 L43_2 (a0z) (a0) ((IntKind.i64.wrap ((a0.length : Int) - 1)))
theorem eq43g (KL43_2 : Env → St → Option Res) (a0z : Bool) (a0 : List T) : codeT Try.prog hint 43 0 21 (Ta43 KL43_2) [] (resKV Try.prog Try.f43 (hint.own 43 0)) (nrm hint 43 0 (bodyOf Try.f43) (envV [(.t (.list 1 a0z a0))] 0) ⟨[], []⟩).1 (nrm hint 43 0 (bodyOf Try.f43) (envV [(.t (.list 1 a0z a0))] 0) ⟨[], []⟩).2 (bodyOf Try.f43) = R43 (fun x0z x0 i3 => KL43_2 [(0, (.t (.list 1 x0z x0))), (3, (.t (.int .i64 i3)))] ⟨[], []⟩) a0z a0 := by kernel_rfl
/-- slices.IsSorted[[]int,int] -/
theorem eq43 (a0z : Bool) (a0 : List T) : vr 43 0 [(.t (.list 1 a0z a0))] ⟨[], []⟩ = R43 L43_2 a0z a0 :=
  (call_eq Try.prog hint (fn := Try.f43) (nt := 21) (T := (Ta43 (fun e st => atV Try.prog hint 43 0 Try.f43 21 (List.reverse PaL43_2) e st))) [PaL43_2] rfl [(.t (.list 1 a0z a0))] ⟨[], []⟩ rfl rfl rfl rfl rfl).trans (eq43g (fun e st => atV Try.prog hint 43 0 Try.f43 21 (List.reverse PaL43_2) e st) a0z a0)
noncomputable def RL43_2 (L43_2 : Bool → (List T) → Int → Option Res) (x0z : Bool) (x0 : List T) (i3 : Int) : Option Res :=
(bif (decide (0 < i3)) then
 needC (decide (0 ≤ i3)) fun _ =>
 getT x0 (i3).toNat fun e_1 =>
 asI .i64 e_1 fun x_2 =>
 needC (decide (0 ≤ (IntKind.i64.wrap (i3 - 1)))) fun _ =>
 getT x0 ((IntKind.i64.wrap (i3 - 1))).toNat fun e_3 =>
 asI .i64 e_3 fun x_4 =>
 callK (vr 45 0 [(.t (.int .i64 x_2)), (.t (.int .i64 x_4))] ⟨[], []⟩) fun v_5 b_6 =>
 asT v_5 fun x_7 =>
 asB x_7 fun b_8 =>
 endB b_6 <|
(bif b_8 then
 some ((.t (.bool false)), ⟨[], []⟩)
else
 L43_2 (x0z) (x0) ((IntKind.i64.wrap (i3 - 1))))
else
 some ((.t (.bool true)), ⟨[], []⟩))
theorem L43_2g (KL43_2 : Env → St → Option Res) (x0z : Bool) (x0 : List T) (i3 : Int) : codeT Try.prog hint 43 0 21 (Ta43 KL43_2) (.lp :: PaL43_2) (ctxT Try.prog hint 43 0 21 (Ta43 KL43_2) [] (List.reverse (.lp :: PaL43_2)) (bodyOf Try.f43) (resKV Try.prog Try.f43 (hint.own 43 0))) [(0, (.t (.list 1 x0z x0))), (3, (.t (.int .i64 i3)))] ⟨[], []⟩ (nav (List.reverse (.lp :: PaL43_2)) (bodyOf Try.f43)) = RL43_2 (fun x0z x0 i3 => KL43_2 [(0, (.t (.list 1 x0z x0))), (3, (.t (.int .i64 i3)))] ⟨[], []⟩) x0z x0 i3 := by kernel_rfl
theorem L43_2_eq (x0z : Bool) (x0 : List T) (i3 : Int) : L43_2 x0z x0 i3 = RL43_2 L43_2 x0z x0 i3 :=
  (round_eq Try.prog hint (b := (nav (List.reverse (.lp :: PaL43_2)) (bodyOf Try.f43))) (fn := Try.f43) (nt := 21) (T := (Ta43 (fun e st => atV Try.prog hint 43 0 Try.f43 21 (List.reverse PaL43_2) e st))) [PaL43_2] rfl PaL43_2 [(0, (.t (.list 1 x0z x0))), (3, (.t (.int .i64 i3)))] ⟨[], []⟩ rfl rfl rfl).trans (L43_2g (fun e st => atV Try.prog hint 43 0 Try.f43 21 (List.reverse PaL43_2) e st) x0z x0 i3)
noncomputable def R33 (J33_9 : Int → Int → Bool → (List T) → Bool → (List T) → Option Res) (J33_11 : Int → Int → Int → Bool → (List T) → Bool → (List T) → Option Res) (a0_0 : Int) (a0_1 : Int) (a0_2z : Bool) (a0_2 : List T) (a0_3z : Bool) (a0_3 : List T) (a1 : Int) : Option Res :=
(bif (decide (a0_0 = 4)) then
(bif (decide (a0_1 = 0)) then
 some ((.t (.bool false)), ⟨[], []⟩)
else
 J33_9 (a0_0) (a0_1) (a0_2z) (a0_2) (a0_3z) (a0_3))
else
(bif (decide (a0_0 = 0)) then
 J33_9 (a0_0) (a0_1) (a0_2z) (a0_2) (a0_3z) (a0_3)
else
(bif (decide (a0_0 = 3)) then
(bif (decide ((a0_2.length : Int) = 0)) then
 some ((.t (.bool (decide ((a0_3.length : Int) = a1)))), ⟨[], []⟩)
else
 some ((.t (.bool false)), ⟨[], []⟩))
else
(bif (decide (a0_0 = 1)) then
 J33_11 (a1) (a0_0) (a0_1) (a0_2z) (a0_2) (a0_3z) (a0_3)
else
(bif (decide (a0_0 = 2)) then
 J33_11 (a1) (a0_0) (a0_1) (a0_2z) (a0_2) (a0_3z) (a0_3)
else
 some ((.t (.bool false)), ⟨[], []⟩))))))
theorem eq33g (KJ33_9 KJ33_11 : Env → St → Option Res) (a0_0 : Int) (a0_1 : Int) (a0_2z : Bool) (a0_2 : List T) (a0_3z : Bool) (a0_3 : List T) (a1 : Int) : codeT Try.prog hint 33 0 69 (Ta33 KJ33_9 KJ33_11) [] (resKV Try.prog Try.f33 (hint.own 33 0)) (nrm hint 33 0 (bodyOf Try.f33) (envV [(.t (.agg [(.int .i64 a0_0), (.int .i64 a0_1), (.list 1 a0_2z a0_2), (.list 1 a0_3z a0_3)])), (.t (.int .i64 a1))] 0) ⟨[], []⟩).1 (nrm hint 33 0 (bodyOf Try.f33) (envV [(.t (.agg [(.int .i64 a0_0), (.int .i64 a0_1), (.list 1 a0_2z a0_2), (.list 1 a0_3z a0_3)])), (.t (.int .i64 a1))] 0) ⟨[], []⟩).2 (bodyOf Try.f33) = R33 (fun m8_0 m8_1 m8_2z m8_2 m8_3z m8_3 => KJ33_9 [(2, (.ptr 8 0 0))] ⟨[(8, (.var [(.t (.int .i64 m8_0)), (.t (.int .i64 m8_1)), (.t (.list 1 m8_2z m8_2)), (.t (.list 1 m8_3z m8_3))]))], []⟩) (fun ahead1 m8_0 m8_1 m8_2z m8_2 m8_3z m8_3 => KJ33_11 [(1, (.t (.int .i64 ahead1))), (2, (.ptr 8 0 0))] ⟨[(8, (.var [(.t (.int .i64 m8_0)), (.t (.int .i64 m8_1)), (.t (.list 1 m8_2z m8_2)), (.t (.list 1 m8_3z m8_3))]))], []⟩) a0_0 a0_1 a0_2z a0_2 a0_3z a0_3 a1 := by kernel_rfl
/-- purfle/level.formed -/
theorem eq33 (a0_0 : Int) (a0_1 : Int) (a0_2z : Bool) (a0_2 : List T) (a0_3z : Bool) (a0_3 : List T) (a1 : Int) : vr 33 0 [(.t (.agg [(.int .i64 a0_0), (.int .i64 a0_1), (.list 1 a0_2z a0_2), (.list 1 a0_3z a0_3)])), (.t (.int .i64 a1))] ⟨[], []⟩ = R33 J33_9 J33_11 a0_0 a0_1 a0_2z a0_2 a0_3z a0_3 a1 :=
  (call_eq Try.prog hint (fn := Try.f33) (nt := 69) (T := (Ta33 (fun e st => atV Try.prog hint 33 0 Try.f33 69 (List.reverse PaJ33_9) e st) (fun e st => atV Try.prog hint 33 0 Try.f33 69 (List.reverse PaJ33_11) e st))) [PaJ33_9, PaJ33_11] rfl [(.t (.agg [(.int .i64 a0_0), (.int .i64 a0_1), (.list 1 a0_2z a0_2), (.list 1 a0_3z a0_3)])), (.t (.int .i64 a1))] ⟨[], []⟩ rfl rfl rfl rfl rfl).trans (eq33g (fun e st => atV Try.prog hint 33 0 Try.f33 69 (List.reverse PaJ33_9) e st) (fun e st => atV Try.prog hint 33 0 Try.f33 69 (List.reverse PaJ33_11) e st) a0_0 a0_1 a0_2z a0_2 a0_3z a0_3 a1)
noncomputable def RJ33_9 (J33_9 : Int → Int → Bool → (List T) → Bool → (List T) → Option Res) (J33_11 : Int → Int → Int → Bool → (List T) → Bool → (List T) → Option Res) (m8_0 : Int) (m8_1 : Int) (m8_2z : Bool) (m8_2 : List T) (m8_3z : Bool) (m8_3 : List T) : Option Res :=
(bif (decide ((m8_2.length : Int) = 0)) then
 some ((.t (.bool (decide ((m8_3.length : Int) = 0)))), ⟨[], []⟩)
else
 some ((.t (.bool false)), ⟨[], []⟩))
theorem J33_9g (KJ33_9 KJ33_11 : Env → St → Option Res) (m8_0 : Int) (m8_1 : Int) (m8_2z : Bool) (m8_2 : List T) (m8_3z : Bool) (m8_3 : List T) : codeT Try.prog hint 33 0 69 (Ta33 KJ33_9 KJ33_11) PaJ33_9 (ctxT Try.prog hint 33 0 69 (Ta33 KJ33_9 KJ33_11) [] (List.reverse PaJ33_9) (bodyOf Try.f33) (resKV Try.prog Try.f33 (hint.own 33 0))) [(2, (.ptr 8 0 0))] ⟨[(8, (.var [(.t (.int .i64 m8_0)), (.t (.int .i64 m8_1)), (.t (.list 1 m8_2z m8_2)), (.t (.list 1 m8_3z m8_3))]))], []⟩ (nav (List.reverse PaJ33_9) (bodyOf Try.f33)) = RJ33_9 (fun m8_0 m8_1 m8_2z m8_2 m8_3z m8_3 => KJ33_9 [(2, (.ptr 8 0 0))] ⟨[(8, (.var [(.t (.int .i64 m8_0)), (.t (.int .i64 m8_1)), (.t (.list 1 m8_2z m8_2)), (.t (.list 1 m8_3z m8_3))]))], []⟩) (fun ahead1 m8_0 m8_1 m8_2z m8_2 m8_3z m8_3 => KJ33_11 [(1, (.t (.int .i64 ahead1))), (2, (.ptr 8 0 0))] ⟨[(8, (.var [(.t (.int .i64 m8_0)), (.t (.int .i64 m8_1)), (.t (.list 1 m8_2z m8_2)), (.t (.list 1 m8_3z m8_3))]))], []⟩) m8_0 m8_1 m8_2z m8_2 m8_3z m8_3 := by kernel_rfl
theorem J33_9_eq (m8_0 : Int) (m8_1 : Int) (m8_2z : Bool) (m8_2 : List T) (m8_3z : Bool) (m8_3 : List T) : J33_9 m8_0 m8_1 m8_2z m8_2 m8_3z m8_3 = RJ33_9 J33_9 J33_11 m8_0 m8_1 m8_2z m8_2 m8_3z m8_3 :=
  (join_eq Try.prog hint (fn := Try.f33) (nt := 69) (T := (Ta33 (fun e st => atV Try.prog hint 33 0 Try.f33 69 (List.reverse PaJ33_9) e st) (fun e st => atV Try.prog hint 33 0 Try.f33 69 (List.reverse PaJ33_11) e st))) [PaJ33_9, PaJ33_11] rfl PaJ33_9 [(2, (.ptr 8 0 0))] ⟨[(8, (.var [(.t (.int .i64 m8_0)), (.t (.int .i64 m8_1)), (.t (.list 1 m8_2z m8_2)), (.t (.list 1 m8_3z m8_3))]))], []⟩ rfl).trans (J33_9g (fun e st => atV Try.prog hint 33 0 Try.f33 69 (List.reverse PaJ33_9) e st) (fun e st => atV Try.prog hint 33 0 Try.f33 69 (List.reverse PaJ33_11) e st) m8_0 m8_1 m8_2z m8_2 m8_3z m8_3)
noncomputable def RJ33_11 (J33_9 : Int → Int → Bool → (List T) → Bool → (List T) → Option Res) (J33_11 : Int → Int → Int → Bool → (List T) → Bool → (List T) → Option Res) (ahead1 : Int) (m8_0 : Int) (m8_1 : Int) (m8_2z : Bool) (m8_2 : List T) (m8_3z : Bool) (m8_3 : List T) : Option Res :=
(bif (decide ((m8_2.length : Int) = (IntKind.i64.wrap (ahead1 + 1)))) then
 needC (decide (0 ≤ 0)) fun _ =>
 getT m8_2 ((0 : Int)).toNat fun e_1 =>
 asI .i64 e_1 fun x_2 =>
(bif (decide (x_2 = 0)) then
 needC (decide (0 ≤ ahead1)) fun _ =>
 getT m8_2 (ahead1).toNat fun e_3 =>
 asI .i64 e_3 fun x_4 =>
(bif (decide (x_4 = (m8_3.length : Int))) then
 callK (vr 43 0 [(.t (.list 1 m8_2z m8_2))] ⟨[], []⟩) fun v_5 b_6 =>
 asT v_5 fun x_7 =>
 asB x_7 fun b_8 =>
 endB b_6 <|
 some ((.t (.bool b_8)), ⟨[], []⟩)
else
 some ((.t (.bool false)), ⟨[], []⟩))
else
 some ((.t (.bool false)), ⟨[], []⟩))
else
 some ((.t (.bool false)), ⟨[], []⟩))
theorem J33_11g (KJ33_9 KJ33_11 : Env → St → Option Res) (ahead1 : Int) (m8_0 : Int) (m8_1 : Int) (m8_2z : Bool) (m8_2 : List T) (m8_3z : Bool) (m8_3 : List T) : codeT Try.prog hint 33 0 69 (Ta33 KJ33_9 KJ33_11) PaJ33_11 (ctxT Try.prog hint 33 0 69 (Ta33 KJ33_9 KJ33_11) [] (List.reverse PaJ33_11) (bodyOf Try.f33) (resKV Try.prog Try.f33 (hint.own 33 0))) [(1, (.t (.int .i64 ahead1))), (2, (.ptr 8 0 0))] ⟨[(8, (.var [(.t (.int .i64 m8_0)), (.t (.int .i64 m8_1)), (.t (.list 1 m8_2z m8_2)), (.t (.list 1 m8_3z m8_3))]))], []⟩ (nav (List.reverse PaJ33_11) (bodyOf Try.f33)) = RJ33_11 (fun m8_0 m8_1 m8_2z m8_2 m8_3z m8_3 => KJ33_9 [(2, (.ptr 8 0 0))] ⟨[(8, (.var [(.t (.int .i64 m8_0)), (.t (.int .i64 m8_1)), (.t (.list 1 m8_2z m8_2)), (.t (.list 1 m8_3z m8_3))]))], []⟩) (fun ahead1 m8_0 m8_1 m8_2z m8_2 m8_3z m8_3 => KJ33_11 [(1, (.t (.int .i64 ahead1))), (2, (.ptr 8 0 0))] ⟨[(8, (.var [(.t (.int .i64 m8_0)), (.t (.int .i64 m8_1)), (.t (.list 1 m8_2z m8_2)), (.t (.list 1 m8_3z m8_3))]))], []⟩) ahead1 m8_0 m8_1 m8_2z m8_2 m8_3z m8_3 := by kernel_rfl
theorem J33_11_eq (ahead1 : Int) (m8_0 : Int) (m8_1 : Int) (m8_2z : Bool) (m8_2 : List T) (m8_3z : Bool) (m8_3 : List T) : J33_11 ahead1 m8_0 m8_1 m8_2z m8_2 m8_3z m8_3 = RJ33_11 J33_9 J33_11 ahead1 m8_0 m8_1 m8_2z m8_2 m8_3z m8_3 :=
  (join_eq Try.prog hint (fn := Try.f33) (nt := 69) (T := (Ta33 (fun e st => atV Try.prog hint 33 0 Try.f33 69 (List.reverse PaJ33_9) e st) (fun e st => atV Try.prog hint 33 0 Try.f33 69 (List.reverse PaJ33_11) e st))) [PaJ33_9, PaJ33_11] rfl PaJ33_11 [(1, (.t (.int .i64 ahead1))), (2, (.ptr 8 0 0))] ⟨[(8, (.var [(.t (.int .i64 m8_0)), (.t (.int .i64 m8_1)), (.t (.list 1 m8_2z m8_2)), (.t (.list 1 m8_3z m8_3))]))], []⟩ rfl).trans (J33_11g (fun e st => atV Try.prog hint 33 0 Try.f33 69 (List.reverse PaJ33_9) e st) (fun e st => atV Try.prog hint 33 0 Try.f33 69 (List.reverse PaJ33_11) e st) ahead1 m8_0 m8_1 m8_2z m8_2 m8_3z m8_3)
noncomputable def R14  (a0_0 : Int) (a0_1 : Int) (a0_2z : Bool) (a0_2 : List T) (a0_3z : Bool) (a0_3 : List T) : Option Res :=
(bif (decide (a0_0 = 0)) then
 some ((.t (.bool true)), ⟨[], []⟩)
else
 some ((.t (.bool (decide (a0_0 = 4)))), ⟨[], []⟩))
theorem eq14g  (a0_0 : Int) (a0_1 : Int) (a0_2z : Bool) (a0_2 : List T) (a0_3z : Bool) (a0_3 : List T) : codeT Try.prog hint 14 0 11 [] [] (resKV Try.prog Try.f14 (hint.own 14 0)) (nrm hint 14 0 (bodyOf Try.f14) (envV [(.t (.agg [(.int .i64 a0_0), (.int .i64 a0_1), (.list 1 a0_2z a0_2), (.list 1 a0_3z a0_3)]))] 0) ⟨[], []⟩).1 (nrm hint 14 0 (bodyOf Try.f14) (envV [(.t (.agg [(.int .i64 a0_0), (.int .i64 a0_1), (.list 1 a0_2z a0_2), (.list 1 a0_3z a0_3)]))] 0) ⟨[], []⟩).2 (bodyOf Try.f14) = R14  a0_0 a0_1 a0_2z a0_2 a0_3z a0_3 := by kernel_rfl
/-- purfle/level.Whole -/
theorem eq14 (a0_0 : Int) (a0_1 : Int) (a0_2z : Bool) (a0_2 : List T) (a0_3z : Bool) (a0_3 : List T) : vr 14 0 [(.t (.agg [(.int .i64 a0_0), (.int .i64 a0_1), (.list 1 a0_2z a0_2), (.list 1 a0_3z a0_3)]))] ⟨[], []⟩ = R14  a0_0 a0_1 a0_2z a0_2 a0_3z a0_3 :=
  (call_eq Try.prog hint (fn := Try.f14) (nt := 11) (T := []) [] rfl [(.t (.agg [(.int .i64 a0_0), (.int .i64 a0_1), (.list 1 a0_2z a0_2), (.list 1 a0_3z a0_3)]))] ⟨[], []⟩ rfl rfl rfl rfl rfl).trans (eq14g  a0_0 a0_1 a0_2z a0_2 a0_3z a0_3)
noncomputable def R29  (a0_0 : Int) (a0_1 : Int) (a0_2z : Bool) (a0_2 : List T) (a0_3z : Bool) (a0_3 : List T) (a1 : Int) : Option Res :=
 callK (vr 14 0 [(.t (.agg [(.int .i64 a0_0), (.int .i64 a0_1), (.list 1 a0_2z a0_2), (.list 1 a0_3z a0_3)]))] ⟨[], []⟩) fun v_1 b_2 =>
 asT v_1 fun x_3 =>
 asB x_3 fun b_4 =>
 endB b_2 <|
(bif b_4 then
 some ((.t (.int .i64 (IntKind.i64.wrap (a1 * a0_1)))), ⟨[], []⟩)
else
 some ((.t (.int .i64 (a0_3.length : Int))), ⟨[], []⟩))
theorem eq29g  (a0_0 : Int) (a0_1 : Int) (a0_2z : Bool) (a0_2 : List T) (a0_3z : Bool) (a0_3 : List T) (a1 : Int) : codeT Try.prog hint 29 0 14 [] [] (resKV Try.prog Try.f29 (hint.own 29 0)) (nrm hint 29 0 (bodyOf Try.f29) (envV [(.t (.agg [(.int .i64 a0_0), (.int .i64 a0_1), (.list 1 a0_2z a0_2), (.list 1 a0_3z a0_3)])), (.t (.int .i64 a1))] 0) ⟨[], []⟩).1 (nrm hint 29 0 (bodyOf Try.f29) (envV [(.t (.agg [(.int .i64 a0_0), (.int .i64 a0_1), (.list 1 a0_2z a0_2), (.list 1 a0_3z a0_3)])), (.t (.int .i64 a1))] 0) ⟨[], []⟩).2 (bodyOf Try.f29) = R29  a0_0 a0_1 a0_2z a0_2 a0_3z a0_3 a1 := by kernel_rfl
/-- purfle/level.below -/
theorem eq29 (a0_0 : Int) (a0_1 : Int) (a0_2z : Bool) (a0_2 : List T) (a0_3z : Bool) (a0_3 : List T) (a1 : Int) : vr 29 0 [(.t (.agg [(.int .i64 a0_0), (.int .i64 a0_1), (.list 1 a0_2z a0_2), (.list 1 a0_3z a0_3)])), (.t (.int .i64 a1))] ⟨[], []⟩ = R29  a0_0 a0_1 a0_2z a0_2 a0_3z a0_3 a1 :=
  (call_eq Try.prog hint (fn := Try.f29) (nt := 14) (T := []) [] rfl [(.t (.agg [(.int .i64 a0_0), (.int .i64 a0_1), (.list 1 a0_2z a0_2), (.list 1 a0_3z a0_3)])), (.t (.int .i64 a1))] ⟨[], []⟩ rfl rfl rfl rfl rfl).trans (eq29g  a0_0 a0_1 a0_2z a0_2 a0_3z a0_3 a1)
noncomputable def R35  (a0 : Int) (m0_0 : Int) (m0_1 : Int) (m0_2z : Bool) (m0_2 : List T) (m0_3z : Bool) (m0_3 : List T) : Option Res :=
(bif (decide (a0 < 0)) then
 some ((.t (.bool true)), ⟨[(0, (.var [(.t (.int .i64 m0_0)), (.t (.int .i64 m0_1)), (.t (.list 1 m0_2z m0_2)), (.t (.list 1 m0_3z m0_3))]))], [500]⟩)
else
 some ((.t (.bool (decide (m0_1 ≤ a0)))), ⟨[(0, (.var [(.t (.int .i64 m0_0)), (.t (.int .i64 m0_1)), (.t (.list 1 m0_2z m0_2)), (.t (.list 1 m0_3z m0_3))]))], [500]⟩))
theorem eq35g  (a0 : Int) (m0_0 : Int) (m0_1 : Int) (m0_2z : Bool) (m0_2 : List T) (m0_3z : Bool) (m0_3 : List T) : codeT Try.prog hint 35 0 12 [] [] (resKV Try.prog Try.f35 (hint.own 35 0)) (nrm hint 35 0 (bodyOf Try.f35) (envV [(.t (.int .i64 a0)), (.ptr 0 0 0)] 0) ⟨[(0, (.var [(.t (.int .i64 m0_0)), (.t (.int .i64 m0_1)), (.t (.list 1 m0_2z m0_2)), (.t (.list 1 m0_3z m0_3))]))], []⟩).1 (nrm hint 35 0 (bodyOf Try.f35) (envV [(.t (.int .i64 a0)), (.ptr 0 0 0)] 0) ⟨[(0, (.var [(.t (.int .i64 m0_0)), (.t (.int .i64 m0_1)), (.t (.list 1 m0_2z m0_2)), (.t (.list 1 m0_3z m0_3))]))], []⟩).2 (bodyOf Try.f35) = R35  a0 m0_0 m0_1 m0_2z m0_2 m0_3z m0_3 := by kernel_rfl
/-- purfle/level.Check$1 -/
theorem eq35 (a0 : Int) (m0_0 : Int) (m0_1 : Int) (m0_2z : Bool) (m0_2 : List T) (m0_3z : Bool) (m0_3 : List T) : vr 35 0 [(.t (.int .i64 a0)), (.ptr 0 0 0)] ⟨[(0, (.var [(.t (.int .i64 m0_0)), (.t (.int .i64 m0_1)), (.t (.list 1 m0_2z m0_2)), (.t (.list 1 m0_3z m0_3))]))], []⟩ = R35  a0 m0_0 m0_1 m0_2z m0_2 m0_3z m0_3 :=
  (call_eq Try.prog hint (fn := Try.f35) (nt := 12) (T := []) [] rfl [(.t (.int .i64 a0)), (.ptr 0 0 0)] ⟨[(0, (.var [(.t (.int .i64 m0_0)), (.t (.int .i64 m0_1)), (.t (.list 1 m0_2z m0_2)), (.t (.list 1 m0_3z m0_3))]))], []⟩ rfl rfl rfl rfl rfl).trans (eq35g  a0 m0_0 m0_1 m0_2z m0_2 m0_3z m0_3)
noncomputable def R44 (L44_2 : Bool → (List T) → Int → Int → Int → Int → Bool → (List T) → Bool → (List T) → Option Res) (a0z : Bool) (a0 : List T) (m0_0 : Int) (m0_1 : Int) (m0_2z : Bool) (m0_2 : List T) (m0_3z : Bool) (m0_3 : List T) : Option Res :=
 L44_2 (a0z) (a0) ((a0.length : Int)) (0) (m0_0) (m0_1) (m0_2z) (m0_2) (m0_3z) (m0_3)
theorem eq44g (KL44_2 : Env → St → Option Res) (a0z : Bool) (a0 : List T) (m0_0 : Int) (m0_1 : Int) (m0_2z : Bool) (m0_2 : List T) (m0_3z : Bool) (m0_3 : List T) : codeT Try.prog hint 44 0 19 (Ta44 KL44_2) [] (resKV Try.prog Try.f44 (hint.own 44 0)) (nrm hint 44 0 (bodyOf Try.f44) (envV [(.t (.list 1 a0z a0)), (.fn 35 [] [(.ptr 0 0 0)])] 0) ⟨[(0, (.var [(.t (.int .i64 m0_0)), (.t (.int .i64 m0_1)), (.t (.list 1 m0_2z m0_2)), (.t (.list 1 m0_3z m0_3))]))], []⟩).1 (nrm hint 44 0 (bodyOf Try.f44) (envV [(.t (.list 1 a0z a0)), (.fn 35 [] [(.ptr 0 0 0)])] 0) ⟨[(0, (.var [(.t (.int .i64 m0_0)), (.t (.int .i64 m0_1)), (.t (.list 1 m0_2z m0_2)), (.t (.list 1 m0_3z m0_3))]))], []⟩).2 (bodyOf Try.f44) = R44 (fun s0z s0 t7 t8 m0_0 m0_1 m0_2z m0_2 m0_3z m0_3 => KL44_2 [(0, (.t (.list 1 s0z s0))), (1, (.fn 35 [] [(.ptr 0 0 0)])), (7, (.t (.int .i64 t7))), (8, (.t (.int .i64 t8)))] ⟨[(0, (.var [(.t (.int .i64 m0_0)), (.t (.int .i64 m0_1)), (.t (.list 1 m0_2z m0_2)), (.t (.list 1 m0_3z m0_3))]))], []⟩) a0z a0 m0_0 m0_1 m0_2z m0_2 m0_3z m0_3 := by kernel_rfl
/-- slices.IndexFunc[[]int,int] -/
theorem eq44 (a0z : Bool) (a0 : List T) (m0_0 : Int) (m0_1 : Int) (m0_2z : Bool) (m0_2 : List T) (m0_3z : Bool) (m0_3 : List T) : vr 44 0 [(.t (.list 1 a0z a0)), (.fn 35 [] [(.ptr 0 0 0)])] ⟨[(0, (.var [(.t (.int .i64 m0_0)), (.t (.int .i64 m0_1)), (.t (.list 1 m0_2z m0_2)), (.t (.list 1 m0_3z m0_3))]))], []⟩ = R44 L44_2 a0z a0 m0_0 m0_1 m0_2z m0_2 m0_3z m0_3 :=
  (call_eq Try.prog hint (fn := Try.f44) (nt := 19) (T := (Ta44 (fun e st => atV Try.prog hint 44 0 Try.f44 19 (List.reverse PaL44_2) e st))) [PaL44_2] rfl [(.t (.list 1 a0z a0)), (.fn 35 [] [(.ptr 0 0 0)])] ⟨[(0, (.var [(.t (.int .i64 m0_0)), (.t (.int .i64 m0_1)), (.t (.list 1 m0_2z m0_2)), (.t (.list 1 m0_3z m0_3))]))], []⟩ rfl rfl rfl rfl rfl).trans (eq44g (fun e st => atV Try.prog hint 44 0 Try.f44 19 (List.reverse PaL44_2) e st) a0z a0 m0_0 m0_1 m0_2z m0_2 m0_3z m0_3)
noncomputable def RL44_2 (L44_2 : Bool → (List T) → Int → Int → Int → Int → Bool → (List T) → Bool → (List T) → Option Res) (s0z : Bool) (s0 : List T) (t7 : Int) (t8 : Int) (m0_0 : Int) (m0_1 : Int) (m0_2z : Bool) (m0_2 : List T) (m0_3z : Bool) (m0_3 : List T) : Option Res :=
(bif (decide (t8 < t7)) then
 needC (decide (0 ≤ t8)) fun _ =>
 getT s0 (t8).toNat fun e_1 =>
 asI .i64 e_1 fun x_2 =>
 callK (vr 35 0 [(.t (.int .i64 x_2)), (.ptr 0 0 0)] ⟨[(0, (.var [(.t (.int .i64 m0_0)), (.t (.int .i64 m0_1)), (.t (.list 1 m0_2z m0_2)), (.t (.list 1 m0_3z m0_3))]))], []⟩) fun v_3 b_4 =>
 asT v_3 fun x_5 =>
 asB x_5 fun b_6 =>
 consB 0 b_4 fun k_7 b_8 =>
 asVar k_7 fun l_9 =>
 consV l_9 fun v_10 l_11 =>
 asT v_10 fun x_12 =>
 asI .i64 x_12 fun x_13 =>
 consV l_11 fun v_14 l_15 =>
 asT v_14 fun x_16 =>
 asI .i64 x_16 fun x_17 =>
 consV l_15 fun v_18 l_19 =>
 asT v_18 fun x_20 =>
 asL 1 x_20 fun nn_21 l_22 =>
 consV l_19 fun v_23 l_24 =>
 asT v_23 fun x_25 =>
 asL 1 x_25 fun nn_26 l_27 =>
 endV l_24 <|
 endB b_8 <|
(bif b_6 then
 some ((.t (.int .i64 t8)), ⟨[(0, (.var [(.t (.int .i64 x_13)), (.t (.int .i64 x_17)), (.t (.list 1 nn_21 l_22)), (.t (.list 1 nn_26 l_27))]))], [500]⟩)
else
 L44_2 (s0z) (s0) (t7) ((IntKind.i64.wrap (t8 + 1))) (x_13) (x_17) (nn_21) (l_22) (nn_26) (l_27))
else
 some ((.t (.int .i64 (-1))), ⟨[(0, (.var [(.t (.int .i64 m0_0)), (.t (.int .i64 m0_1)), (.t (.list 1 m0_2z m0_2)), (.t (.list 1 m0_3z m0_3))]))], [500]⟩))
theorem L44_2g (KL44_2 : Env → St → Option Res) (s0z : Bool) (s0 : List T) (t7 : Int) (t8 : Int) (m0_0 : Int) (m0_1 : Int) (m0_2z : Bool) (m0_2 : List T) (m0_3z : Bool) (m0_3 : List T) : codeT Try.prog hint 44 0 19 (Ta44 KL44_2) (.lp :: PaL44_2) (ctxT Try.prog hint 44 0 19 (Ta44 KL44_2) [] (List.reverse (.lp :: PaL44_2)) (bodyOf Try.f44) (resKV Try.prog Try.f44 (hint.own 44 0))) [(0, (.t (.list 1 s0z s0))), (1, (.fn 35 [] [(.ptr 0 0 0)])), (7, (.t (.int .i64 t7))), (8, (.t (.int .i64 t8)))] ⟨[(0, (.var [(.t (.int .i64 m0_0)), (.t (.int .i64 m0_1)), (.t (.list 1 m0_2z m0_2)), (.t (.list 1 m0_3z m0_3))]))], []⟩ (nav (List.reverse (.lp :: PaL44_2)) (bodyOf Try.f44)) = RL44_2 (fun s0z s0 t7 t8 m0_0 m0_1 m0_2z m0_2 m0_3z m0_3 => KL44_2 [(0, (.t (.list 1 s0z s0))), (1, (.fn 35 [] [(.ptr 0 0 0)])), (7, (.t (.int .i64 t7))), (8, (.t (.int .i64 t8)))] ⟨[(0, (.var [(.t (.int .i64 m0_0)), (.t (.int .i64 m0_1)), (.t (.list 1 m0_2z m0_2)), (.t (.list 1 m0_3z m0_3))]))], []⟩) s0z s0 t7 t8 m0_0 m0_1 m0_2z m0_2 m0_3z m0_3 := by kernel_rfl
theorem L44_2_eq (s0z : Bool) (s0 : List T) (t7 : Int) (t8 : Int) (m0_0 : Int) (m0_1 : Int) (m0_2z : Bool) (m0_2 : List T) (m0_3z : Bool) (m0_3 : List T) : L44_2 s0z s0 t7 t8 m0_0 m0_1 m0_2z m0_2 m0_3z m0_3 = RL44_2 L44_2 s0z s0 t7 t8 m0_0 m0_1 m0_2z m0_2 m0_3z m0_3 :=
  (round_eq Try.prog hint (b := (nav (List.reverse (.lp :: PaL44_2)) (bodyOf Try.f44))) (fn := Try.f44) (nt := 19) (T := (Ta44 (fun e st => atV Try.prog hint 44 0 Try.f44 19 (List.reverse PaL44_2) e st))) [PaL44_2] rfl PaL44_2 [(0, (.t (.list 1 s0z s0))), (1, (.fn 35 [] [(.ptr 0 0 0)])), (7, (.t (.int .i64 t7))), (8, (.t (.int .i64 t8)))] ⟨[(0, (.var [(.t (.int .i64 m0_0)), (.t (.int .i64 m0_1)), (.t (.list 1 m0_2z m0_2)), (.t (.list 1 m0_3z m0_3))]))], []⟩ rfl rfl rfl).trans (L44_2g (fun e st => atV Try.prog hint 44 0 Try.f44 19 (List.reverse PaL44_2) e st) s0z s0 t7 t8 m0_0 m0_1 m0_2z m0_2 m0_3z m0_3)
noncomputable def R34  (a0z : Bool) (a0 : List T) (m0_0 : Int) (m0_1 : Int) (m0_2z : Bool) (m0_2 : List T) (m0_3z : Bool) (m0_3 : List T) : Option Res :=
 callK (vr 44 0 [(.t (.list 1 a0z a0)), (.fn 35 [] [(.ptr 0 0 0)])] ⟨[(0, (.var [(.t (.int .i64 m0_0)), (.t (.int .i64 m0_1)), (.t (.list 1 m0_2z m0_2)), (.t (.list 1 m0_3z m0_3))]))], []⟩) fun v_1 b_2 =>
 asT v_1 fun x_3 =>
 asI .i64 x_3 fun x_4 =>
 consB 0 b_2 fun k_5 b_6 =>
 asVar k_5 fun l_7 =>
 consV l_7 fun v_8 l_9 =>
 asT v_8 fun x_10 =>
 asI .i64 x_10 fun x_11 =>
 consV l_9 fun v_12 l_13 =>
 asT v_12 fun x_14 =>
 asI .i64 x_14 fun x_15 =>
 consV l_13 fun v_16 l_17 =>
 asT v_16 fun x_18 =>
 asL 1 x_18 fun nn_19 l_20 =>
 consV l_17 fun v_21 l_22 =>
 asT v_21 fun x_23 =>
 asL 1 x_23 fun nn_24 l_25 =>
 endV l_22 <|
 endB b_6 <|
 some ((.t (.bool (decide (0 ≤ x_4)))), ⟨[(0, (.var [(.t (.int .i64 x_11)), (.t (.int .i64 x_15)), (.t (.list 1 nn_19 l_20)), (.t (.list 1 nn_24 l_25))]))], [500]⟩)
theorem eq34g  (a0z : Bool) (a0 : List T) (m0_0 : Int) (m0_1 : Int) (m0_2z : Bool) (m0_2 : List T) (m0_3z : Bool) (m0_3 : List T) : codeT Try.prog hint 34 0 9 [] [] (resKV Try.prog Try.f34 (hint.own 34 0)) (nrm hint 34 0 (bodyOf Try.f34) (envV [(.t (.list 1 a0z a0)), (.fn 35 [] [(.ptr 0 0 0)])] 0) ⟨[(0, (.var [(.t (.int .i64 m0_0)), (.t (.int .i64 m0_1)), (.t (.list 1 m0_2z m0_2)), (.t (.list 1 m0_3z m0_3))]))], []⟩).1 (nrm hint 34 0 (bodyOf Try.f34) (envV [(.t (.list 1 a0z a0)), (.fn 35 [] [(.ptr 0 0 0)])] 0) ⟨[(0, (.var [(.t (.int .i64 m0_0)), (.t (.int .i64 m0_1)), (.t (.list 1 m0_2z m0_2)), (.t (.list 1 m0_3z m0_3))]))], []⟩).2 (bodyOf Try.f34) = R34  a0z a0 m0_0 m0_1 m0_2z m0_2 m0_3z m0_3 := by kernel_rfl
/-- slices.ContainsFunc[[]int,int] -/
theorem eq34 (a0z : Bool) (a0 : List T) (m0_0 : Int) (m0_1 : Int) (m0_2z : Bool) (m0_2 : List T) (m0_3z : Bool) (m0_3 : List T) : vr 34 0 [(.t (.list 1 a0z a0)), (.fn 35 [] [(.ptr 0 0 0)])] ⟨[(0, (.var [(.t (.int .i64 m0_0)), (.t (.int .i64 m0_1)), (.t (.list 1 m0_2z m0_2)), (.t (.list 1 m0_3z m0_3))]))], []⟩ = R34  a0z a0 m0_0 m0_1 m0_2z m0_2 m0_3z m0_3 :=
  (call_eq Try.prog hint (fn := Try.f34) (nt := 9) (T := []) [] rfl [(.t (.list 1 a0z a0)), (.fn 35 [] [(.ptr 0 0 0)])] ⟨[(0, (.var [(.t (.int .i64 m0_0)), (.t (.int .i64 m0_1)), (.t (.list 1 m0_2z m0_2)), (.t (.list 1 m0_3z m0_3))]))], []⟩ rfl rfl rfl rfl rfl).trans (eq34g  a0z a0 m0_0 m0_1 m0_2z m0_2 m0_3z m0_3)
noncomputable def R36 (J36_9 : Int → Int → Int → Bool → (List T) → Bool → (List T) → Option Res) (L36_10 : Int → Bool → (List T) → Int → Int → Int → Int → Bool → (List T) → Bool → (List T) → Option Res) (L36_14 : Int → Bool → (List T) → Int → Bool → (List T) → Int → Int → Int → Int → Bool → (List T) → Bool → (List T) → Option Res) (a0_0 : Int) (a0_1 : Int) (a0_2z : Bool) (a0_2 : List T) (a0_3z : Bool) (a0_3 : List T) : Option Res :=
(bif (decide (a0_0 = 2)) then
 J36_9 (0) (a0_0) (a0_1) (a0_2z) (a0_2) (a0_3z) (a0_3)
else
(bif (decide (a0_0 = 3)) then
 some ((.t (.bool true)), ⟨[], []⟩)
else
(bif (decide (a0_0 = 0)) then
 some ((.t (.bool true)), ⟨[], []⟩)
else
(bif (decide (a0_0 = 4)) then
 some ((.t (.bool true)), ⟨[], []⟩)
else
 J36_9 (1) (a0_0) (a0_1) (a0_2z) (a0_2) (a0_3z) (a0_3)))))
theorem eq36g (KJ36_9 KL36_10 KL36_14 : Env → St → Option Res) (a0_0 : Int) (a0_1 : Int) (a0_2z : Bool) (a0_2 : List T) (a0_3z : Bool) (a0_3 : List T) : codeT Try.prog hint 36 0 58 (Ta36 KJ36_9 KL36_10 KL36_14) [] (resKV Try.prog Try.f36 (hint.own 36 0)) (nrm hint 36 0 (bodyOf Try.f36) (envV [(.t (.agg [(.int .i64 a0_0), (.int .i64 a0_1), (.list 1 a0_2z a0_2), (.list 1 a0_3z a0_3)]))] 0) ⟨[], []⟩).1 (nrm hint 36 0 (bodyOf Try.f36) (envV [(.t (.agg [(.int .i64 a0_0), (.int .i64 a0_1), (.list 1 a0_2z a0_2), (.list 1 a0_3z a0_3)]))] 0) ⟨[], []⟩).2 (bodyOf Try.f36) = R36 (fun least3 m8_0 m8_1 m8_2z m8_2 m8_3z m8_3 => KJ36_9 [(1, (.ptr 8 0 0)), (3, (.t (.int .i64 least3)))] ⟨[(8, (.var [(.t (.int .i64 m8_0)), (.t (.int .i64 m8_1)), (.t (.list 1 m8_2z m8_2)), (.t (.list 1 m8_3z m8_3))]))], []⟩) (fun least3 t22z t22 t23 t24 m8_0 m8_1 m8_2z m8_2 m8_3z m8_3 => KL36_10 [(1, (.ptr 8 0 0)), (3, (.t (.int .i64 least3))), (22, (.t (.list 1 t22z t22))), (23, (.t (.int .i64 t23))), (24, (.t (.int .i64 t24)))] ⟨[(8, (.var [(.t (.int .i64 m8_0)), (.t (.int .i64 m8_1)), (.t (.list 1 m8_2z m8_2)), (.t (.list 1 m8_3z m8_3))]))], []⟩) (fun least3 part6z part6 i7 t22z t22 t23 t24 m8_0 m8_1 m8_2z m8_2 m8_3z m8_3 => KL36_14 [(1, (.ptr 8 0 0)), (3, (.t (.int .i64 least3))), (6, (.t (.list 1 part6z part6))), (7, (.t (.int .i64 i7))), (22, (.t (.list 1 t22z t22))), (23, (.t (.int .i64 t23))), (24, (.t (.int .i64 t24)))] ⟨[(8, (.var [(.t (.int .i64 m8_0)), (.t (.int .i64 m8_1)), (.t (.list 1 m8_2z m8_2)), (.t (.list 1 m8_3z m8_3))]))], []⟩) a0_0 a0_1 a0_2z a0_2 a0_3z a0_3 := by kernel_rfl
/-- purfle/level.rising -/
theorem eq36 (a0_0 : Int) (a0_1 : Int) (a0_2z : Bool) (a0_2 : List T) (a0_3z : Bool) (a0_3 : List T) : vr 36 0 [(.t (.agg [(.int .i64 a0_0), (.int .i64 a0_1), (.list 1 a0_2z a0_2), (.list 1 a0_3z a0_3)]))] ⟨[], []⟩ = R36 J36_9 L36_10 L36_14 a0_0 a0_1 a0_2z a0_2 a0_3z a0_3 :=
  (call_eq Try.prog hint (fn := Try.f36) (nt := 58) (T := (Ta36 (fun e st => atV Try.prog hint 36 0 Try.f36 58 (List.reverse PaJ36_9) e st) (fun e st => atV Try.prog hint 36 0 Try.f36 58 (List.reverse PaL36_10) e st) (fun e st => atV Try.prog hint 36 0 Try.f36 58 (List.reverse PaL36_14) e st))) [PaJ36_9, PaL36_10, PaL36_14] rfl [(.t (.agg [(.int .i64 a0_0), (.int .i64 a0_1), (.list 1 a0_2z a0_2), (.list 1 a0_3z a0_3)]))] ⟨[], []⟩ rfl rfl rfl rfl rfl).trans (eq36g (fun e st => atV Try.prog hint 36 0 Try.f36 58 (List.reverse PaJ36_9) e st) (fun e st => atV Try.prog hint 36 0 Try.f36 58 (List.reverse PaL36_10) e st) (fun e st => atV Try.prog hint 36 0 Try.f36 58 (List.reverse PaL36_14) e st) a0_0 a0_1 a0_2z a0_2 a0_3z a0_3)
noncomputable def RJ36_9 (J36_9 : Int → Int → Int → Bool → (List T) → Bool → (List T) → Option Res) (L36_10 : Int → Bool → (List T) → Int → Int → Int → Int → Bool → (List T) → Bool → (List T) → Option Res) (L36_14 : Int → Bool → (List T) → Int → Bool → (List T) → Int → Int → Int → Int → Bool → (List T) → Bool → (List T) → Option Res) (least3 : Int) (m8_0 : Int) (m8_1 : Int) (m8_2z : Bool) (m8_2 : List T) (m8_3z : Bool) (m8_3 : List T) : Option Res :=
 cutL m8_2 none (some (IntKind.i64.wrap ((m8_2.length : Int) - 1))) fun l_1 =>
 L36_10 (least3) (m8_2z) (l_1) ((l_1.length : Int)) (0) (m8_0) (m8_1) (m8_2z) (m8_2) (m8_3z) (m8_3)
theorem J36_9g (KJ36_9 KL36_10 KL36_14 : Env → St → Option Res) (least3 : Int) (m8_0 : Int) (m8_1 : Int) (m8_2z : Bool) (m8_2 : List T) (m8_3z : Bool) (m8_3 : List T) : codeT Try.prog hint 36 0 58 (Ta36 KJ36_9 KL36_10 KL36_14) PaJ36_9 (ctxT Try.prog hint 36 0 58 (Ta36 KJ36_9 KL36_10 KL36_14) [] (List.reverse PaJ36_9) (bodyOf Try.f36) (resKV Try.prog Try.f36 (hint.own 36 0))) [(1, (.ptr 8 0 0)), (3, (.t (.int .i64 least3)))] ⟨[(8, (.var [(.t (.int .i64 m8_0)), (.t (.int .i64 m8_1)), (.t (.list 1 m8_2z m8_2)), (.t (.list 1 m8_3z m8_3))]))], []⟩ (nav (List.reverse PaJ36_9) (bodyOf Try.f36)) = RJ36_9 (fun least3 m8_0 m8_1 m8_2z m8_2 m8_3z m8_3 => KJ36_9 [(1, (.ptr 8 0 0)), (3, (.t (.int .i64 least3)))] ⟨[(8, (.var [(.t (.int .i64 m8_0)), (.t (.int .i64 m8_1)), (.t (.list 1 m8_2z m8_2)), (.t (.list 1 m8_3z m8_3))]))], []⟩) (fun least3 t22z t22 t23 t24 m8_0 m8_1 m8_2z m8_2 m8_3z m8_3 => KL36_10 [(1, (.ptr 8 0 0)), (3, (.t (.int .i64 least3))), (22, (.t (.list 1 t22z t22))), (23, (.t (.int .i64 t23))), (24, (.t (.int .i64 t24)))] ⟨[(8, (.var [(.t (.int .i64 m8_0)), (.t (.int .i64 m8_1)), (.t (.list 1 m8_2z m8_2)), (.t (.list 1 m8_3z m8_3))]))], []⟩) (fun least3 part6z part6 i7 t22z t22 t23 t24 m8_0 m8_1 m8_2z m8_2 m8_3z m8_3 => KL36_14 [(1, (.ptr 8 0 0)), (3, (.t (.int .i64 least3))), (6, (.t (.list 1 part6z part6))), (7, (.t (.int .i64 i7))), (22, (.t (.list 1 t22z t22))), (23, (.t (.int .i64 t23))), (24, (.t (.int .i64 t24)))] ⟨[(8, (.var [(.t (.int .i64 m8_0)), (.t (.int .i64 m8_1)), (.t (.list 1 m8_2z m8_2)), (.t (.list 1 m8_3z m8_3))]))], []⟩) least3 m8_0 m8_1 m8_2z m8_2 m8_3z m8_3 := by kernel_rfl
theorem J36_9_eq (least3 : Int) (m8_0 : Int) (m8_1 : Int) (m8_2z : Bool) (m8_2 : List T) (m8_3z : Bool) (m8_3 : List T) : J36_9 least3 m8_0 m8_1 m8_2z m8_2 m8_3z m8_3 = RJ36_9 J36_9 L36_10 L36_14 least3 m8_0 m8_1 m8_2z m8_2 m8_3z m8_3 :=
  (join_eq Try.prog hint (fn := Try.f36) (nt := 58) (T := (Ta36 (fun e st => atV Try.prog hint 36 0 Try.f36 58 (List.reverse PaJ36_9) e st) (fun e st => atV Try.prog hint 36 0 Try.f36 58 (List.reverse PaL36_10) e st) (fun e st => atV Try.prog hint 36 0 Try.f36 58 (List.reverse PaL36_14) e st))) [PaJ36_9, PaL36_10, PaL36_14] rfl PaJ36_9 [(1, (.ptr 8 0 0)), (3, (.t (.int .i64 least3)))] ⟨[(8, (.var [(.t (.int .i64 m8_0)), (.t (.int .i64 m8_1)), (.t (.list 1 m8_2z m8_2)), (.t (.list 1 m8_3z m8_3))]))], []⟩ rfl).trans (J36_9g (fun e st => atV Try.prog hint 36 0 Try.f36 58 (List.reverse PaJ36_9) e st) (fun e st => atV Try.prog hint 36 0 Try.f36 58 (List.reverse PaL36_10) e st) (fun e st => atV Try.prog hint 36 0 Try.f36 58 (List.reverse PaL36_14) e st) least3 m8_0 m8_1 m8_2z m8_2 m8_3z m8_3)
noncomputable def RL36_10 (J36_9 : Int → Int → Int → Bool → (List T) → Bool → (List T) → Option Res) (L36_10 : Int → Bool → (List T) → Int → Int → Int → Int → Bool → (List T) → Bool → (List T) → Option Res) (L36_14 : Int → Bool → (List T) → Int → Bool → (List T) → Int → Int → Int → Int → Bool → (List T) → Bool → (List T) → Option Res) (least3 : Int) (t22z : Bool) (t22 : List T) (t23 : Int) (t24 : Int) (m8_0 : Int) (m8_1 : Int) (m8_2z : Bool) (m8_2 : List T) (m8_3z : Bool) (m8_3 : List T) : Option Res :=
(bif (decide (t24 < t23)) then
 needC (decide (0 ≤ t24)) fun _ =>
 getT t22 (t24).toNat fun e_1 =>
 asI .i64 e_1 fun x_2 =>
 needC (decide (0 ≤ (IntKind.i64.wrap (t24 + 1)))) fun _ =>
 getT m8_2 ((IntKind.i64.wrap (t24 + 1))).toNat fun e_3 =>
 asI .i64 e_3 fun x_4 =>
 cutL m8_3 (some x_2) (some x_4) fun l_5 =>
 L36_14 (least3) (m8_3z) (l_5) (1) (t22z) (t22) (t23) (t24) (m8_0) (m8_1) (m8_2z) (m8_2) (m8_3z) (m8_3)
else
 some ((.t (.bool true)), ⟨[], []⟩))
theorem L36_10g (KJ36_9 KL36_10 KL36_14 : Env → St → Option Res) (least3 : Int) (t22z : Bool) (t22 : List T) (t23 : Int) (t24 : Int) (m8_0 : Int) (m8_1 : Int) (m8_2z : Bool) (m8_2 : List T) (m8_3z : Bool) (m8_3 : List T) : codeT Try.prog hint 36 0 58 (Ta36 KJ36_9 KL36_10 KL36_14) (.lp :: PaL36_10) (ctxT Try.prog hint 36 0 58 (Ta36 KJ36_9 KL36_10 KL36_14) [] (List.reverse (.lp :: PaL36_10)) (bodyOf Try.f36) (resKV Try.prog Try.f36 (hint.own 36 0))) [(1, (.ptr 8 0 0)), (3, (.t (.int .i64 least3))), (22, (.t (.list 1 t22z t22))), (23, (.t (.int .i64 t23))), (24, (.t (.int .i64 t24)))] ⟨[(8, (.var [(.t (.int .i64 m8_0)), (.t (.int .i64 m8_1)), (.t (.list 1 m8_2z m8_2)), (.t (.list 1 m8_3z m8_3))]))], []⟩ (nav (List.reverse (.lp :: PaL36_10)) (bodyOf Try.f36)) = RL36_10 (fun least3 m8_0 m8_1 m8_2z m8_2 m8_3z m8_3 => KJ36_9 [(1, (.ptr 8 0 0)), (3, (.t (.int .i64 least3)))] ⟨[(8, (.var [(.t (.int .i64 m8_0)), (.t (.int .i64 m8_1)), (.t (.list 1 m8_2z m8_2)), (.t (.list 1 m8_3z m8_3))]))], []⟩) (fun least3 t22z t22 t23 t24 m8_0 m8_1 m8_2z m8_2 m8_3z m8_3 => KL36_10 [(1, (.ptr 8 0 0)), (3, (.t (.int .i64 least3))), (22, (.t (.list 1 t22z t22))), (23, (.t (.int .i64 t23))), (24, (.t (.int .i64 t24)))] ⟨[(8, (.var [(.t (.int .i64 m8_0)), (.t (.int .i64 m8_1)), (.t (.list 1 m8_2z m8_2)), (.t (.list 1 m8_3z m8_3))]))], []⟩) (fun least3 part6z part6 i7 t22z t22 t23 t24 m8_0 m8_1 m8_2z m8_2 m8_3z m8_3 => KL36_14 [(1, (.ptr 8 0 0)), (3, (.t (.int .i64 least3))), (6, (.t (.list 1 part6z part6))), (7, (.t (.int .i64 i7))), (22, (.t (.list 1 t22z t22))), (23, (.t (.int .i64 t23))), (24, (.t (.int .i64 t24)))] ⟨[(8, (.var [(.t (.int .i64 m8_0)), (.t (.int .i64 m8_1)), (.t (.list 1 m8_2z m8_2)), (.t (.list 1 m8_3z m8_3))]))], []⟩) least3 t22z t22 t23 t24 m8_0 m8_1 m8_2z m8_2 m8_3z m8_3 := by kernel_rfl
theorem L36_10_eq (least3 : Int) (t22z : Bool) (t22 : List T) (t23 : Int) (t24 : Int) (m8_0 : Int) (m8_1 : Int) (m8_2z : Bool) (m8_2 : List T) (m8_3z : Bool) (m8_3 : List T) : L36_10 least3 t22z t22 t23 t24 m8_0 m8_1 m8_2z m8_2 m8_3z m8_3 = RL36_10 J36_9 L36_10 L36_14 least3 t22z t22 t23 t24 m8_0 m8_1 m8_2z m8_2 m8_3z m8_3 :=
  (round_eq Try.prog hint (b := (nav (List.reverse (.lp :: PaL36_10)) (bodyOf Try.f36))) (fn := Try.f36) (nt := 58) (T := (Ta36 (fun e st => atV Try.prog hint 36 0 Try.f36 58 (List.reverse PaJ36_9) e st) (fun e st => atV Try.prog hint 36 0 Try.f36 58 (List.reverse PaL36_10) e st) (fun e st => atV Try.prog hint 36 0 Try.f36 58 (List.reverse PaL36_14) e st))) [PaJ36_9, PaL36_10, PaL36_14] rfl PaL36_10 [(1, (.ptr 8 0 0)), (3, (.t (.int .i64 least3))), (22, (.t (.list 1 t22z t22))), (23, (.t (.int .i64 t23))), (24, (.t (.int .i64 t24)))] ⟨[(8, (.var [(.t (.int .i64 m8_0)), (.t (.int .i64 m8_1)), (.t (.list 1 m8_2z m8_2)), (.t (.list 1 m8_3z m8_3))]))], []⟩ rfl rfl rfl).trans (L36_10g (fun e st => atV Try.prog hint 36 0 Try.f36 58 (List.reverse PaJ36_9) e st) (fun e st => atV Try.prog hint 36 0 Try.f36 58 (List.reverse PaL36_10) e st) (fun e st => atV Try.prog hint 36 0 Try.f36 58 (List.reverse PaL36_14) e st) least3 t22z t22 t23 t24 m8_0 m8_1 m8_2z m8_2 m8_3z m8_3)
noncomputable def RL36_14 (J36_9 : Int → Int → Int → Bool → (List T) → Bool → (List T) → Option Res) (L36_10 : Int → Bool → (List T) → Int → Int → Int → Int → Bool → (List T) → Bool → (List T) → Option Res) (L36_14 : Int → Bool → (List T) → Int → Bool → (List T) → Int → Int → Int → Int → Bool → (List T) → Bool → (List T) → Option Res) (least3 : Int) (part6z : Bool) (part6 : List T) (i7 : Int) (t22z : Bool) (t22 : List T) (t23 : Int) (t24 : Int) (m8_0 : Int) (m8_1 : Int) (m8_2z : Bool) (m8_2 : List T) (m8_3z : Bool) (m8_3 : List T) : Option Res :=
(bif (decide (i7 < (part6.length : Int))) then
 needC (decide (0 ≤ i7)) fun _ =>
 getT part6 (i7).toNat fun e_1 =>
 asI .i64 e_1 fun x_2 =>
 needC (decide (0 ≤ (IntKind.i64.wrap (i7 - 1)))) fun _ =>
 getT part6 ((IntKind.i64.wrap (i7 - 1))).toNat fun e_3 =>
 asI .i64 e_3 fun x_4 =>
(bif (decide ((IntKind.i64.wrap (x_2 - x_4)) < least3)) then
 some ((.t (.bool false)), ⟨[], []⟩)
else
 L36_14 (least3) (part6z) (part6) ((IntKind.i64.wrap (i7 + 1))) (t22z) (t22) (t23) (t24) (m8_0) (m8_1) (m8_2z) (m8_2) (m8_3z) (m8_3))
else
 L36_10 (least3) (t22z) (t22) (t23) ((IntKind.i64.wrap (t24 + 1))) (m8_0) (m8_1) (m8_2z) (m8_2) (m8_3z) (m8_3))
theorem L36_14g (KJ36_9 KL36_10 KL36_14 : Env → St → Option Res) (least3 : Int) (part6z : Bool) (part6 : List T) (i7 : Int) (t22z : Bool) (t22 : List T) (t23 : Int) (t24 : Int) (m8_0 : Int) (m8_1 : Int) (m8_2z : Bool) (m8_2 : List T) (m8_3z : Bool) (m8_3 : List T) : codeT Try.prog hint 36 0 58 (Ta36 KJ36_9 KL36_10 KL36_14) (.lp :: PaL36_14) (ctxT Try.prog hint 36 0 58 (Ta36 KJ36_9 KL36_10 KL36_14) [] (List.reverse (.lp :: PaL36_14)) (bodyOf Try.f36) (resKV Try.prog Try.f36 (hint.own 36 0))) [(1, (.ptr 8 0 0)), (3, (.t (.int .i64 least3))), (6, (.t (.list 1 part6z part6))), (7, (.t (.int .i64 i7))), (22, (.t (.list 1 t22z t22))), (23, (.t (.int .i64 t23))), (24, (.t (.int .i64 t24)))] ⟨[(8, (.var [(.t (.int .i64 m8_0)), (.t (.int .i64 m8_1)), (.t (.list 1 m8_2z m8_2)), (.t (.list 1 m8_3z m8_3))]))], []⟩ (nav (List.reverse (.lp :: PaL36_14)) (bodyOf Try.f36)) = RL36_14 (fun least3 m8_0 m8_1 m8_2z m8_2 m8_3z m8_3 => KJ36_9 [(1, (.ptr 8 0 0)), (3, (.t (.int .i64 least3)))] ⟨[(8, (.var [(.t (.int .i64 m8_0)), (.t (.int .i64 m8_1)), (.t (.list 1 m8_2z m8_2)), (.t (.list 1 m8_3z m8_3))]))], []⟩) (fun least3 t22z t22 t23 t24 m8_0 m8_1 m8_2z m8_2 m8_3z m8_3 => KL36_10 [(1, (.ptr 8 0 0)), (3, (.t (.int .i64 least3))), (22, (.t (.list 1 t22z t22))), (23, (.t (.int .i64 t23))), (24, (.t (.int .i64 t24)))] ⟨[(8, (.var [(.t (.int .i64 m8_0)), (.t (.int .i64 m8_1)), (.t (.list 1 m8_2z m8_2)), (.t (.list 1 m8_3z m8_3))]))], []⟩) (fun least3 part6z part6 i7 t22z t22 t23 t24 m8_0 m8_1 m8_2z m8_2 m8_3z m8_3 => KL36_14 [(1, (.ptr 8 0 0)), (3, (.t (.int .i64 least3))), (6, (.t (.list 1 part6z part6))), (7, (.t (.int .i64 i7))), (22, (.t (.list 1 t22z t22))), (23, (.t (.int .i64 t23))), (24, (.t (.int .i64 t24)))] ⟨[(8, (.var [(.t (.int .i64 m8_0)), (.t (.int .i64 m8_1)), (.t (.list 1 m8_2z m8_2)), (.t (.list 1 m8_3z m8_3))]))], []⟩) least3 part6z part6 i7 t22z t22 t23 t24 m8_0 m8_1 m8_2z m8_2 m8_3z m8_3 := by kernel_rfl
theorem L36_14_eq (least3 : Int) (part6z : Bool) (part6 : List T) (i7 : Int) (t22z : Bool) (t22 : List T) (t23 : Int) (t24 : Int) (m8_0 : Int) (m8_1 : Int) (m8_2z : Bool) (m8_2 : List T) (m8_3z : Bool) (m8_3 : List T) : L36_14 least3 part6z part6 i7 t22z t22 t23 t24 m8_0 m8_1 m8_2z m8_2 m8_3z m8_3 = RL36_14 J36_9 L36_10 L36_14 least3 part6z part6 i7 t22z t22 t23 t24 m8_0 m8_1 m8_2z m8_2 m8_3z m8_3 :=
  (round_eq Try.prog hint (b := (nav (List.reverse (.lp :: PaL36_14)) (bodyOf Try.f36))) (fn := Try.f36) (nt := 58) (T := (Ta36 (fun e st => atV Try.prog hint 36 0 Try.f36 58 (List.reverse PaJ36_9) e st) (fun e st => atV Try.prog hint 36 0 Try.f36 58 (List.reverse PaL36_10) e st) (fun e st => atV Try.prog hint 36 0 Try.f36 58 (List.reverse PaL36_14) e st))) [PaJ36_9, PaL36_10, PaL36_14] rfl PaL36_14 [(1, (.ptr 8 0 0)), (3, (.t (.int .i64 least3))), (6, (.t (.list 1 part6z part6))), (7, (.t (.int .i64 i7))), (22, (.t (.list 1 t22z t22))), (23, (.t (.int .i64 t23))), (24, (.t (.int .i64 t24)))] ⟨[(8, (.var [(.t (.int .i64 m8_0)), (.t (.int .i64 m8_1)), (.t (.list 1 m8_2z m8_2)), (.t (.list 1 m8_3z m8_3))]))], []⟩ rfl rfl rfl).trans (L36_14g (fun e st => atV Try.prog hint 36 0 Try.f36 58 (List.reverse PaJ36_9) e st) (fun e st => atV Try.prog hint 36 0 Try.f36 58 (List.reverse PaL36_10) e st) (fun e st => atV Try.prog hint 36 0 Try.f36 58 (List.reverse PaL36_14) e st) least3 part6z part6 i7 t22z t22 t23 t24 m8_0 m8_1 m8_2z m8_2 m8_3z m8_3)
noncomputable def R19  (a0_0 : Int) (a0_1 : Int) (a0_2z : Bool) (a0_2 : List T) (a0_3z : Bool) (a0_3 : List T) (a1 : Int) : Option Res :=
(bif (decide (a1 < 0)) then
 some ((.t (.int .i64 1)), ⟨[], []⟩)
else
(bif (decide (1048576 < a1)) then
 some ((.t (.int .i64 1)), ⟨[], []⟩)
else
(bif (decide (a0_1 < 0)) then
 some ((.t (.int .i64 1)), ⟨[], []⟩)
else
(bif (decide (2147483648 < a0_1)) then
 some ((.t (.int .i64 1)), ⟨[], []⟩)
else
 callK (vr 33 0 [(.t (.agg [(.int .i64 a0_0), (.int .i64 a0_1), (.list 1 a0_2z a0_2), (.list 1 a0_3z a0_3)])), (.t (.int .i64 a1))] ⟨[], []⟩) fun v_1 b_2 =>
 asT v_1 fun x_3 =>
 asB x_3 fun b_4 =>
 endB b_2 <|
(bif (!b_4) then
 some ((.t (.int .i64 1)), ⟨[], []⟩)
else
(bif (decide (65536 < (a0_3.length : Int))) then
 some ((.t (.int .i64 2)), ⟨[], []⟩)
else
 callK (vr 29 0 [(.t (.agg [(.int .i64 a0_0), (.int .i64 a0_1), (.list 1 a0_2z a0_2), (.list 1 a0_3z a0_3)])), (.t (.int .i64 a1))] ⟨[], []⟩) fun v_5 b_6 =>
 asT v_5 fun x_7 =>
 asI .i64 x_7 fun x_8 =>
 endB b_6 <|
(bif (decide (1048576 < x_8)) then
 some ((.t (.int .i64 2)), ⟨[], []⟩)
else
 callK (vr 34 0 [(.t (.list 1 a0_3z a0_3)), (.fn 35 [] [(.ptr 0 0 0)])] ⟨[(0, (.var [(.t (.int .i64 a0_0)), (.t (.int .i64 a0_1)), (.t (.list 1 a0_2z a0_2)), (.t (.list 1 a0_3z a0_3))]))], []⟩) fun v_9 b_10 =>
 asT v_9 fun x_11 =>
 asB x_11 fun b_12 =>
 consB 0 b_10 fun k_13 b_14 =>
 asVar k_13 fun l_15 =>
 consV l_15 fun v_16 l_17 =>
 asT v_16 fun x_18 =>
 asI .i64 x_18 fun x_19 =>
 consV l_17 fun v_20 l_21 =>
 asT v_20 fun x_22 =>
 asI .i64 x_22 fun x_23 =>
 consV l_21 fun v_24 l_25 =>
 asT v_24 fun x_26 =>
 asL 1 x_26 fun nn_27 l_28 =>
 consV l_25 fun v_29 l_30 =>
 asT v_29 fun x_31 =>
 asL 1 x_31 fun nn_32 l_33 =>
 endV l_30 <|
 endB b_14 <|
(bif b_12 then
 some ((.t (.int .i64 3)), ⟨[], []⟩)
else
 callK (vr 36 0 [(.t (.agg [(.int .i64 x_19), (.int .i64 x_23), (.list 1 nn_27 l_28), (.list 1 nn_32 l_33)]))] ⟨[], []⟩) fun v_34 b_35 =>
 asT v_34 fun x_36 =>
 asB x_36 fun b_37 =>
 endB b_35 <|
(bif (!b_37) then
 some ((.t (.int .i64 1)), ⟨[], []⟩)
else
 some ((.t (.int .i64 0)), ⟨[], []⟩))))))))))
theorem eq19g  (a0_0 : Int) (a0_1 : Int) (a0_2z : Bool) (a0_2 : List T) (a0_3z : Bool) (a0_3 : List T) (a1 : Int) : codeT Try.prog hint 19 0 48 [] [] (resKV Try.prog Try.f19 (hint.own 19 0)) (nrm hint 19 0 (bodyOf Try.f19) (envV [(.t (.agg [(.int .i64 a0_0), (.int .i64 a0_1), (.list 1 a0_2z a0_2), (.list 1 a0_3z a0_3)])), (.t (.int .i64 a1))] 0) ⟨[], []⟩).1 (nrm hint 19 0 (bodyOf Try.f19) (envV [(.t (.agg [(.int .i64 a0_0), (.int .i64 a0_1), (.list 1 a0_2z a0_2), (.list 1 a0_3z a0_3)])), (.t (.int .i64 a1))] 0) ⟨[], []⟩).2 (bodyOf Try.f19) = R19  a0_0 a0_1 a0_2z a0_2 a0_3z a0_3 a1 := by kernel_rfl
/-- purfle/level.Check -/
theorem eq19 (a0_0 : Int) (a0_1 : Int) (a0_2z : Bool) (a0_2 : List T) (a0_3z : Bool) (a0_3 : List T) (a1 : Int) : vr 19 0 [(.t (.agg [(.int .i64 a0_0), (.int .i64 a0_1), (.list 1 a0_2z a0_2), (.list 1 a0_3z a0_3)])), (.t (.int .i64 a1))] ⟨[], []⟩ = R19  a0_0 a0_1 a0_2z a0_2 a0_3z a0_3 a1 :=
  (call_eq Try.prog hint (fn := Try.f19) (nt := 48) (T := []) [] rfl [(.t (.agg [(.int .i64 a0_0), (.int .i64 a0_1), (.list 1 a0_2z a0_2), (.list 1 a0_3z a0_3)])), (.t (.int .i64 a1))] ⟨[], []⟩ rfl rfl rfl rfl rfl).trans (eq19g  a0_0 a0_1 a0_2z a0_2 a0_3z a0_3 a1)
noncomputable def R10 (J10_9 : Int → Bool → (List T) → Int → Int → Bool → (List T) → Bool → (List T) → Int → Int → Bool → (List T) → Bool → (List T) → Option Res) (L10_10 : Int → Bool → (List T) → Bool → (List T) → Int → Int → Int → Int → Bool → (List T) → Bool → (List T) → Int → Int → Bool → (List T) → Bool → (List T) → Option Res) (a0 : Int) (a1 : Int) (a2z : Bool) (a2 : List T) : Option Res :=
(bif (decide (a0 = 1)) then
 J10_9 (a0) (a2z) (a2) (0) (0) (false) ([]) (false) ([]) (a0) (a1) (true) ([(.int .i64 0)]) (false) ([])
else
(bif (decide (a0 = 2)) then
 J10_9 (a0) (a2z) (a2) (0) (0) (false) ([]) (false) ([]) (a0) (a1) (true) ([(.int .i64 0)]) (false) ([])
else
(bif (decide (a0 = 0)) then
 needC (decide (0 ≤ (a2.length : Int)) && decide ((a2.length : Int) ≤ (a2.length : Int)) && decide ((a2.length : Int) * (24 + 1) ≤ 70368744177664)) fun _ =>
 J10_9 (a0) (true) ((List.replicate ((a2.length : Int)).toNat (.list 1 false []))) (0) (0) (false) ([]) (false) ([]) (a0) (a1) (false) ([]) (false) ([])
else
(bif (decide (a0 = 4)) then
 needC (decide (0 ≤ (a2.length : Int)) && decide ((a2.length : Int) ≤ (a2.length : Int)) && decide ((a2.length : Int) * (24 + 1) ≤ 70368744177664)) fun _ =>
 J10_9 (a0) (true) ((List.replicate ((a2.length : Int)).toNat (.list 1 false []))) (0) (0) (false) ([]) (false) ([]) (a0) (a1) (false) ([]) (false) ([])
else
 J10_9 (a0) (a2z) (a2) (0) (0) (false) ([]) (false) ([]) (a0) (a1) (false) ([]) (false) ([])))))
theorem eq10g (KJ10_9 KL10_10 : Env → St → Option Res) (a0 : Int) (a1 : Int) (a2z : Bool) (a2 : List T) : codeT Try.prog hint 10 0 70 (Ta10 KJ10_9 KL10_10) [] (resKV Try.prog Try.f10 (hint.own 10 0)) (nrm hint 10 0 (bodyOf Try.f10) (envV [(.t (.int .i64 a0)), (.t (.int .i64 a1)), (.t (.list 1 a2z a2))] 0) ⟨[], []⟩).1 (nrm hint 10 0 (bodyOf Try.f10) (envV [(.t (.int .i64 a0)), (.t (.int .i64 a1)), (.t (.list 1 a2z a2))] 0) ⟨[], []⟩).2 (bodyOf Try.f10) = R10 (fun kind0 groups2z groups2 m8_0 m8_1 m8_2z m8_2 m8_3z m8_3 m9_0 m9_1 m10z m10 m11z m11 => KJ10_9 [(0, (.t (.int .i64 kind0))), (2, (.t (.list 1 groups2z groups2))), (6, (.ptr 8 0 0)), (8, (.ptr 9 0 0))] ⟨[(8, (.var [(.t (.int .i64 m8_0)), (.t (.int .i64 m8_1)), (.t (.list 1 m8_2z m8_2)), (.t (.list 1 m8_3z m8_3))])), (9, (.var [(.t (.int .i64 m9_0)), (.t (.int .i64 m9_1)), (.buf 10), (.buf 11)])), (10, (.arr true 1 m10z m10)), (11, (.arr true 1 m11z m11))], []⟩) (fun kind0 groups2z groups2 t30z t30 t31 t32 m8_0 m8_1 m8_2z m8_2 m8_3z m8_3 m9_0 m9_1 m10z m10 m11z m11 => KL10_10 [(0, (.t (.int .i64 kind0))), (2, (.t (.list 1 groups2z groups2))), (6, (.ptr 8 0 0)), (8, (.ptr 9 0 0)), (30, (.t (.list 1 t30z t30))), (31, (.t (.int .i64 t31))), (32, (.t (.int .i64 t32)))] ⟨[(8, (.var [(.t (.int .i64 m8_0)), (.t (.int .i64 m8_1)), (.t (.list 1 m8_2z m8_2)), (.t (.list 1 m8_3z m8_3))])), (9, (.var [(.t (.int .i64 m9_0)), (.t (.int .i64 m9_1)), (.buf 10), (.buf 11)])), (10, (.arr true 1 m10z m10)), (11, (.arr true 1 m11z m11))], []⟩) a0 a1 a2z a2 := by kernel_rfl
/-- purfle/level.Make -/
theorem eq10 (a0 : Int) (a1 : Int) (a2z : Bool) (a2 : List T) : vr 10 0 [(.t (.int .i64 a0)), (.t (.int .i64 a1)), (.t (.list 1 a2z a2))] ⟨[], []⟩ = R10 J10_9 L10_10 a0 a1 a2z a2 :=
  (call_eq Try.prog hint (fn := Try.f10) (nt := 70) (T := (Ta10 (fun e st => atV Try.prog hint 10 0 Try.f10 70 (List.reverse PaJ10_9) e st) (fun e st => atV Try.prog hint 10 0 Try.f10 70 (List.reverse PaL10_10) e st))) [PaJ10_9, PaL10_10] rfl [(.t (.int .i64 a0)), (.t (.int .i64 a1)), (.t (.list 1 a2z a2))] ⟨[], []⟩ rfl rfl rfl rfl rfl).trans (eq10g (fun e st => atV Try.prog hint 10 0 Try.f10 70 (List.reverse PaJ10_9) e st) (fun e st => atV Try.prog hint 10 0 Try.f10 70 (List.reverse PaL10_10) e st) a0 a1 a2z a2)
noncomputable def RJ10_9 (J10_9 : Int → Bool → (List T) → Int → Int → Bool → (List T) → Bool → (List T) → Int → Int → Bool → (List T) → Bool → (List T) → Option Res) (L10_10 : Int → Bool → (List T) → Bool → (List T) → Int → Int → Int → Int → Bool → (List T) → Bool → (List T) → Int → Int → Bool → (List T) → Bool → (List T) → Option Res) (kind0 : Int) (groups2z : Bool) (groups2 : List T) (m8_0 : Int) (m8_1 : Int) (m8_2z : Bool) (m8_2 : List T) (m8_3z : Bool) (m8_3 : List T) (m9_0 : Int) (m9_1 : Int) (m10z : Bool) (m10 : List T) (m11z : Bool) (m11 : List T) : Option Res :=
 L10_10 (kind0) (groups2z) (groups2) (groups2z) (groups2) ((groups2.length : Int)) (0) (m8_0) (m8_1) (m8_2z) (m8_2) (m8_3z) (m8_3) (m9_0) (m9_1) (m10z) (m10) (m11z) (m11)
theorem J10_9g (KJ10_9 KL10_10 : Env → St → Option Res) (kind0 : Int) (groups2z : Bool) (groups2 : List T) (m8_0 : Int) (m8_1 : Int) (m8_2z : Bool) (m8_2 : List T) (m8_3z : Bool) (m8_3 : List T) (m9_0 : Int) (m9_1 : Int) (m10z : Bool) (m10 : List T) (m11z : Bool) (m11 : List T) : codeT Try.prog hint 10 0 70 (Ta10 KJ10_9 KL10_10) PaJ10_9 (ctxT Try.prog hint 10 0 70 (Ta10 KJ10_9 KL10_10) [] (List.reverse PaJ10_9) (bodyOf Try.f10) (resKV Try.prog Try.f10 (hint.own 10 0))) [(0, (.t (.int .i64 kind0))), (2, (.t (.list 1 groups2z groups2))), (6, (.ptr 8 0 0)), (8, (.ptr 9 0 0))] ⟨[(8, (.var [(.t (.int .i64 m8_0)), (.t (.int .i64 m8_1)), (.t (.list 1 m8_2z m8_2)), (.t (.list 1 m8_3z m8_3))])), (9, (.var [(.t (.int .i64 m9_0)), (.t (.int .i64 m9_1)), (.buf 10), (.buf 11)])), (10, (.arr true 1 m10z m10)), (11, (.arr true 1 m11z m11))], []⟩ (nav (List.reverse PaJ10_9) (bodyOf Try.f10)) = RJ10_9 (fun kind0 groups2z groups2 m8_0 m8_1 m8_2z m8_2 m8_3z m8_3 m9_0 m9_1 m10z m10 m11z m11 => KJ10_9 [(0, (.t (.int .i64 kind0))), (2, (.t (.list 1 groups2z groups2))), (6, (.ptr 8 0 0)), (8, (.ptr 9 0 0))] ⟨[(8, (.var [(.t (.int .i64 m8_0)), (.t (.int .i64 m8_1)), (.t (.list 1 m8_2z m8_2)), (.t (.list 1 m8_3z m8_3))])), (9, (.var [(.t (.int .i64 m9_0)), (.t (.int .i64 m9_1)), (.buf 10), (.buf 11)])), (10, (.arr true 1 m10z m10)), (11, (.arr true 1 m11z m11))], []⟩) (fun kind0 groups2z groups2 t30z t30 t31 t32 m8_0 m8_1 m8_2z m8_2 m8_3z m8_3 m9_0 m9_1 m10z m10 m11z m11 => KL10_10 [(0, (.t (.int .i64 kind0))), (2, (.t (.list 1 groups2z groups2))), (6, (.ptr 8 0 0)), (8, (.ptr 9 0 0)), (30, (.t (.list 1 t30z t30))), (31, (.t (.int .i64 t31))), (32, (.t (.int .i64 t32)))] ⟨[(8, (.var [(.t (.int .i64 m8_0)), (.t (.int .i64 m8_1)), (.t (.list 1 m8_2z m8_2)), (.t (.list 1 m8_3z m8_3))])), (9, (.var [(.t (.int .i64 m9_0)), (.t (.int .i64 m9_1)), (.buf 10), (.buf 11)])), (10, (.arr true 1 m10z m10)), (11, (.arr true 1 m11z m11))], []⟩) kind0 groups2z groups2 m8_0 m8_1 m8_2z m8_2 m8_3z m8_3 m9_0 m9_1 m10z m10 m11z m11 := by kernel_rfl
theorem J10_9_eq (kind0 : Int) (groups2z : Bool) (groups2 : List T) (m8_0 : Int) (m8_1 : Int) (m8_2z : Bool) (m8_2 : List T) (m8_3z : Bool) (m8_3 : List T) (m9_0 : Int) (m9_1 : Int) (m10z : Bool) (m10 : List T) (m11z : Bool) (m11 : List T) : J10_9 kind0 groups2z groups2 m8_0 m8_1 m8_2z m8_2 m8_3z m8_3 m9_0 m9_1 m10z m10 m11z m11 = RJ10_9 J10_9 L10_10 kind0 groups2z groups2 m8_0 m8_1 m8_2z m8_2 m8_3z m8_3 m9_0 m9_1 m10z m10 m11z m11 :=
  (join_eq Try.prog hint (fn := Try.f10) (nt := 70) (T := (Ta10 (fun e st => atV Try.prog hint 10 0 Try.f10 70 (List.reverse PaJ10_9) e st) (fun e st => atV Try.prog hint 10 0 Try.f10 70 (List.reverse PaL10_10) e st))) [PaJ10_9, PaL10_10] rfl PaJ10_9 [(0, (.t (.int .i64 kind0))), (2, (.t (.list 1 groups2z groups2))), (6, (.ptr 8 0 0)), (8, (.ptr 9 0 0))] ⟨[(8, (.var [(.t (.int .i64 m8_0)), (.t (.int .i64 m8_1)), (.t (.list 1 m8_2z m8_2)), (.t (.list 1 m8_3z m8_3))])), (9, (.var [(.t (.int .i64 m9_0)), (.t (.int .i64 m9_1)), (.buf 10), (.buf 11)])), (10, (.arr true 1 m10z m10)), (11, (.arr true 1 m11z m11))], []⟩ rfl).trans (J10_9g (fun e st => atV Try.prog hint 10 0 Try.f10 70 (List.reverse PaJ10_9) e st) (fun e st => atV Try.prog hint 10 0 Try.f10 70 (List.reverse PaL10_10) e st) kind0 groups2z groups2 m8_0 m8_1 m8_2z m8_2 m8_3z m8_3 m9_0 m9_1 m10z m10 m11z m11)
noncomputable def RL10_10 (J10_9 : Int → Bool → (List T) → Int → Int → Bool → (List T) → Bool → (List T) → Int → Int → Bool → (List T) → Bool → (List T) → Option Res) (L10_10 : Int → Bool → (List T) → Bool → (List T) → Int → Int → Int → Int → Bool → (List T) → Bool → (List T) → Int → Int → Bool → (List T) → Bool → (List T) → Option Res) (kind0 : Int) (groups2z : Bool) (groups2 : List T) (t30z : Bool) (t30 : List T) (t31 : Int) (t32 : Int) (m8_0 : Int) (m8_1 : Int) (m8_2z : Bool) (m8_2 : List T) (m8_3z : Bool) (m8_3 : List T) (m9_0 : Int) (m9_1 : Int) (m10z : Bool) (m10 : List T) (m11z : Bool) (m11 : List T) : Option Res :=
(bif (decide (t32 < t31)) then
 needC (decide (0 ≤ t32)) fun _ =>
 getT t30 (t32).toNat fun e_1 =>
 asL 1 e_1 fun nn_2 l_3 =>
(bif (decide (kind0 = 3)) then
(bif (!decide ((l_3.length : Int) = 1)) then
 some ((.tup [(.t (.agg [(.int .i64 0), (.int .i64 0), (.list 1 false []), (.list 1 false [])])), (.t (.int .i64 1))]), ⟨[], []⟩)
else
 needC (decide ((m11.length + l_3.length) * (8 + 1) ≤ 70368744177664) && decide (8 ≤ 1048576)) fun _ =>
(bif (!(!m10z)) then
 needC (decide ((m10.length + 1) * (8 + 1) ≤ 70368744177664) && decide (8 ≤ 1048576)) fun _ =>
 L10_10 (kind0) (groups2z) (groups2) (t30z) (t30) (t31) ((IntKind.i64.wrap (t32 + 1))) (m8_0) (m8_1) (m8_2z) (m8_2) (m8_3z) (m8_3) (m9_0) (m9_1) ((m10z || true)) ((m10 ++ ([(.int .i64 (((m11 ++ l_3)).length : Int))] : List T))) ((m11z || (!l_3.isEmpty))) ((m11 ++ l_3))
else
 L10_10 (kind0) (groups2z) (groups2) (t30z) (t30) (t31) ((IntKind.i64.wrap (t32 + 1))) (m8_0) (m8_1) (m8_2z) (m8_2) (m8_3z) (m8_3) (m9_0) (m9_1) (m10z) (m10) ((m11z || (!l_3.isEmpty))) ((m11 ++ l_3))))
else
 needC (decide ((m11.length + l_3.length) * (8 + 1) ≤ 70368744177664) && decide (8 ≤ 1048576)) fun _ =>
(bif (!(!m10z)) then
 needC (decide ((m10.length + 1) * (8 + 1) ≤ 70368744177664) && decide (8 ≤ 1048576)) fun _ =>
 L10_10 (kind0) (groups2z) (groups2) (t30z) (t30) (t31) ((IntKind.i64.wrap (t32 + 1))) (m8_0) (m8_1) (m8_2z) (m8_2) (m8_3z) (m8_3) (m9_0) (m9_1) ((m10z || true)) ((m10 ++ ([(.int .i64 (((m11 ++ l_3)).length : Int))] : List T))) ((m11z || (!l_3.isEmpty))) ((m11 ++ l_3))
else
 L10_10 (kind0) (groups2z) (groups2) (t30z) (t30) (t31) ((IntKind.i64.wrap (t32 + 1))) (m8_0) (m8_1) (m8_2z) (m8_2) (m8_3z) (m8_3) (m9_0) (m9_1) (m10z) (m10) ((m11z || (!l_3.isEmpty))) ((m11 ++ l_3))))
else
 callK (vr 19 0 [(.t (.agg [(.int .i64 m9_0), (.int .i64 m9_1), (.list 1 m10z m10), (.list 1 m11z m11)])), (.t (.int .i64 (groups2.length : Int)))] ⟨[], []⟩) fun v_4 b_5 =>
 asT v_4 fun x_6 =>
 asI .i64 x_6 fun x_7 =>
 endB b_5 <|
(bif (!decide (x_7 = 0)) then
 some ((.tup [(.t (.agg [(.int .i64 0), (.int .i64 0), (.list 1 false []), (.list 1 false [])])), (.t (.int .i64 x_7))]), ⟨[], []⟩)
else
 some ((.tup [(.t (.agg [(.int .i64 m9_0), (.int .i64 m9_1), (.list 1 m10z m10), (.list 1 m11z m11)])), (.t (.int .i64 0))]), ⟨[], []⟩)))
theorem L10_10g (KJ10_9 KL10_10 : Env → St → Option Res) (kind0 : Int) (groups2z : Bool) (groups2 : List T) (t30z : Bool) (t30 : List T) (t31 : Int) (t32 : Int) (m8_0 : Int) (m8_1 : Int) (m8_2z : Bool) (m8_2 : List T) (m8_3z : Bool) (m8_3 : List T) (m9_0 : Int) (m9_1 : Int) (m10z : Bool) (m10 : List T) (m11z : Bool) (m11 : List T) : codeT Try.prog hint 10 0 70 (Ta10 KJ10_9 KL10_10) (.lp :: PaL10_10) (ctxT Try.prog hint 10 0 70 (Ta10 KJ10_9 KL10_10) [] (List.reverse (.lp :: PaL10_10)) (bodyOf Try.f10) (resKV Try.prog Try.f10 (hint.own 10 0))) [(0, (.t (.int .i64 kind0))), (2, (.t (.list 1 groups2z groups2))), (6, (.ptr 8 0 0)), (8, (.ptr 9 0 0)), (30, (.t (.list 1 t30z t30))), (31, (.t (.int .i64 t31))), (32, (.t (.int .i64 t32)))] ⟨[(8, (.var [(.t (.int .i64 m8_0)), (.t (.int .i64 m8_1)), (.t (.list 1 m8_2z m8_2)), (.t (.list 1 m8_3z m8_3))])), (9, (.var [(.t (.int .i64 m9_0)), (.t (.int .i64 m9_1)), (.buf 10), (.buf 11)])), (10, (.arr true 1 m10z m10)), (11, (.arr true 1 m11z m11))], []⟩ (nav (List.reverse (.lp :: PaL10_10)) (bodyOf Try.f10)) = RL10_10 (fun kind0 groups2z groups2 m8_0 m8_1 m8_2z m8_2 m8_3z m8_3 m9_0 m9_1 m10z m10 m11z m11 => KJ10_9 [(0, (.t (.int .i64 kind0))), (2, (.t (.list 1 groups2z groups2))), (6, (.ptr 8 0 0)), (8, (.ptr 9 0 0))] ⟨[(8, (.var [(.t (.int .i64 m8_0)), (.t (.int .i64 m8_1)), (.t (.list 1 m8_2z m8_2)), (.t (.list 1 m8_3z m8_3))])), (9, (.var [(.t (.int .i64 m9_0)), (.t (.int .i64 m9_1)), (.buf 10), (.buf 11)])), (10, (.arr true 1 m10z m10)), (11, (.arr true 1 m11z m11))], []⟩) (fun kind0 groups2z groups2 t30z t30 t31 t32 m8_0 m8_1 m8_2z m8_2 m8_3z m8_3 m9_0 m9_1 m10z m10 m11z m11 => KL10_10 [(0, (.t (.int .i64 kind0))), (2, (.t (.list 1 groups2z groups2))), (6, (.ptr 8 0 0)), (8, (.ptr 9 0 0)), (30, (.t (.list 1 t30z t30))), (31, (.t (.int .i64 t31))), (32, (.t (.int .i64 t32)))] ⟨[(8, (.var [(.t (.int .i64 m8_0)), (.t (.int .i64 m8_1)), (.t (.list 1 m8_2z m8_2)), (.t (.list 1 m8_3z m8_3))])), (9, (.var [(.t (.int .i64 m9_0)), (.t (.int .i64 m9_1)), (.buf 10), (.buf 11)])), (10, (.arr true 1 m10z m10)), (11, (.arr true 1 m11z m11))], []⟩) kind0 groups2z groups2 t30z t30 t31 t32 m8_0 m8_1 m8_2z m8_2 m8_3z m8_3 m9_0 m9_1 m10z m10 m11z m11 := by kernel_rfl
theorem L10_10_eq (kind0 : Int) (groups2z : Bool) (groups2 : List T) (t30z : Bool) (t30 : List T) (t31 : Int) (t32 : Int) (m8_0 : Int) (m8_1 : Int) (m8_2z : Bool) (m8_2 : List T) (m8_3z : Bool) (m8_3 : List T) (m9_0 : Int) (m9_1 : Int) (m10z : Bool) (m10 : List T) (m11z : Bool) (m11 : List T) : L10_10 kind0 groups2z groups2 t30z t30 t31 t32 m8_0 m8_1 m8_2z m8_2 m8_3z m8_3 m9_0 m9_1 m10z m10 m11z m11 = RL10_10 J10_9 L10_10 kind0 groups2z groups2 t30z t30 t31 t32 m8_0 m8_1 m8_2z m8_2 m8_3z m8_3 m9_0 m9_1 m10z m10 m11z m11 :=
  (round_eq Try.prog hint (b := (nav (List.reverse (.lp :: PaL10_10)) (bodyOf Try.f10))) (fn := Try.f10) (nt := 70) (T := (Ta10 (fun e st => atV Try.prog hint 10 0 Try.f10 70 (List.reverse PaJ10_9) e st) (fun e st => atV Try.prog hint 10 0 Try.f10 70 (List.reverse PaL10_10) e st))) [PaJ10_9, PaL10_10] rfl PaL10_10 [(0, (.t (.int .i64 kind0))), (2, (.t (.list 1 groups2z groups2))), (6, (.ptr 8 0 0)), (8, (.ptr 9 0 0)), (30, (.t (.list 1 t30z t30))), (31, (.t (.int .i64 t31))), (32, (.t (.int .i64 t32)))] ⟨[(8, (.var [(.t (.int .i64 m8_0)), (.t (.int .i64 m8_1)), (.t (.list 1 m8_2z m8_2)), (.t (.list 1 m8_3z m8_3))])), (9, (.var [(.t (.int .i64 m9_0)), (.t (.int .i64 m9_1)), (.buf 10), (.buf 11)])), (10, (.arr true 1 m10z m10)), (11, (.arr true 1 m11z m11))], []⟩ rfl rfl rfl).trans (L10_10g (fun e st => atV Try.prog hint 10 0 Try.f10 70 (List.reverse PaJ10_9) e st) (fun e st => atV Try.prog hint 10 0 Try.f10 70 (List.reverse PaL10_10) e st) kind0 groups2z groups2 t30z t30 t31 t32 m8_0 m8_1 m8_2z m8_2 m8_3z m8_3 m9_0 m9_1 m10z m10 m11z m11)
noncomputable def R13  (a0_0 : Int) (a0_1 : Int) (a0_2z : Bool) (a0_2 : List T) (a0_3z : Bool) (a0_3 : List T) (a1 : Int) : Option Res :=
 callK (vr 19 0 [(.t (.agg [(.int .i64 a0_0), (.int .i64 a0_1), (.list 1 a0_2z a0_2), (.list 1 a0_3z a0_3)])), (.t (.int .i64 a1))] ⟨[], []⟩) fun v_1 b_2 =>
 asT v_1 fun x_3 =>
 asI .i64 x_3 fun x_4 =>
 endB b_2 <|
(bif (!decide (x_4 = 0)) then
 some ((.tup [(.t (.int .i64 0)), (.t (.int .i64 x_4))]), ⟨[], []⟩)
else
 callK (vr 29 0 [(.t (.agg [(.int .i64 a0_0), (.int .i64 a0_1), (.list 1 a0_2z a0_2), (.list 1 a0_3z a0_3)])), (.t (.int .i64 a1))] ⟨[], []⟩) fun v_5 b_6 =>
 asT v_5 fun x_7 =>
 asI .i64 x_7 fun x_8 =>
 endB b_6 <|
 some ((.tup [(.t (.int .i64 x_8)), (.t (.int .i64 0))]), ⟨[], []⟩))
theorem eq13g  (a0_0 : Int) (a0_1 : Int) (a0_2z : Bool) (a0_2 : List T) (a0_3z : Bool) (a0_3 : List T) (a1 : Int) : codeT Try.prog hint 13 0 16 [] [] (resKV Try.prog Try.f13 (hint.own 13 0)) (nrm hint 13 0 (bodyOf Try.f13) (envV [(.t (.agg [(.int .i64 a0_0), (.int .i64 a0_1), (.list 1 a0_2z a0_2), (.list 1 a0_3z a0_3)])), (.t (.int .i64 a1))] 0) ⟨[], []⟩).1 (nrm hint 13 0 (bodyOf Try.f13) (envV [(.t (.agg [(.int .i64 a0_0), (.int .i64 a0_1), (.list 1 a0_2z a0_2), (.list 1 a0_3z a0_3)])), (.t (.int .i64 a1))] 0) ⟨[], []⟩).2 (bodyOf Try.f13) = R13  a0_0 a0_1 a0_2z a0_2 a0_3z a0_3 a1 := by kernel_rfl
/-- purfle/level.Below -/
theorem eq13 (a0_0 : Int) (a0_1 : Int) (a0_2z : Bool) (a0_2 : List T) (a0_3z : Bool) (a0_3 : List T) (a1 : Int) : vr 13 0 [(.t (.agg [(.int .i64 a0_0), (.int .i64 a0_1), (.list 1 a0_2z a0_2), (.list 1 a0_3z a0_3)])), (.t (.int .i64 a1))] ⟨[], []⟩ = R13  a0_0 a0_1 a0_2z a0_2 a0_3z a0_3 a1 :=
  (call_eq Try.prog hint (fn := Try.f13) (nt := 16) (T := []) [] rfl [(.t (.agg [(.int .i64 a0_0), (.int .i64 a0_1), (.list 1 a0_2z a0_2), (.list 1 a0_3z a0_3)])), (.t (.int .i64 a1))] ⟨[], []⟩ rfl rfl rfl rfl rfl).trans (eq13g  a0_0 a0_1 a0_2z a0_2 a0_3z a0_3 a1)
noncomputable def R16 (L16_4 : Bool → (List T) → Bool → (List T) → Int → Int → Option Res) (a0z : Bool) (a0 : List T) (a1z : Bool) (a1 : List T) : Option Res :=
(bif (!decide ((a0.length : Int) = (a1.length : Int))) then
 some ((.t (.bool false)), ⟨[], []⟩)
else
 L16_4 (a0z) (a0) (a1z) (a1) ((a0.length : Int)) (0))
theorem eq16g (KL16_4 : Env → St → Option Res) (a0z : Bool) (a0 : List T) (a1z : Bool) (a1 : List T) : codeT Try.prog hint 16 0 26 (Ta16 KL16_4) [] (resKV Try.prog Try.f16 (hint.own 16 0)) (nrm hint 16 0 (bodyOf Try.f16) (envV [(.t (.list 1 a0z a0)), (.t (.list 1 a1z a1))] 0) ⟨[], []⟩).1 (nrm hint 16 0 (bodyOf Try.f16) (envV [(.t (.list 1 a0z a0)), (.t (.list 1 a1z a1))] 0) ⟨[], []⟩).2 (bodyOf Try.f16) = R16 (fun a0z a0 b1z b1 t12 t13 => KL16_4 [(0, (.t (.list 1 a0z a0))), (1, (.t (.list 1 b1z b1))), (12, (.t (.int .i64 t12))), (13, (.t (.int .i64 t13)))] ⟨[], []⟩) a0z a0 a1z a1 := by kernel_rfl
/-- purfle/purfleref01.Equal -/
theorem eq16 (a0z : Bool) (a0 : List T) (a1z : Bool) (a1 : List T) : vr 16 0 [(.t (.list 1 a0z a0)), (.t (.list 1 a1z a1))] ⟨[], []⟩ = R16 L16_4 a0z a0 a1z a1 :=
  (call_eq Try.prog hint (fn := Try.f16) (nt := 26) (T := (Ta16 (fun e st => atV Try.prog hint 16 0 Try.f16 26 (List.reverse PaL16_4) e st))) [PaL16_4] rfl [(.t (.list 1 a0z a0)), (.t (.list 1 a1z a1))] ⟨[], []⟩ rfl rfl rfl rfl rfl).trans (eq16g (fun e st => atV Try.prog hint 16 0 Try.f16 26 (List.reverse PaL16_4) e st) a0z a0 a1z a1)
noncomputable def RL16_4 (L16_4 : Bool → (List T) → Bool → (List T) → Int → Int → Option Res) (a0z : Bool) (a0 : List T) (b1z : Bool) (b1 : List T) (t12 : Int) (t13 : Int) : Option Res :=
(bif (decide (t13 < t12)) then
 needC (decide (0 ≤ t13)) fun _ =>
 getT a0 (t13).toNat fun e_1 =>
 asI .i64 e_1 fun x_2 =>
 needC (decide (0 ≤ t13)) fun _ =>
 getT b1 (t13).toNat fun e_3 =>
 asI .i64 e_3 fun x_4 =>
(bif (!decide (x_2 = x_4)) then
 some ((.t (.bool false)), ⟨[], []⟩)
else
 L16_4 (a0z) (a0) (b1z) (b1) (t12) ((IntKind.i64.wrap (t13 + 1))))
else
 some ((.t (.bool true)), ⟨[], []⟩))
theorem L16_4g (KL16_4 : Env → St → Option Res) (a0z : Bool) (a0 : List T) (b1z : Bool) (b1 : List T) (t12 : Int) (t13 : Int) : codeT Try.prog hint 16 0 26 (Ta16 KL16_4) (.lp :: PaL16_4) (ctxT Try.prog hint 16 0 26 (Ta16 KL16_4) [] (List.reverse (.lp :: PaL16_4)) (bodyOf Try.f16) (resKV Try.prog Try.f16 (hint.own 16 0))) [(0, (.t (.list 1 a0z a0))), (1, (.t (.list 1 b1z b1))), (12, (.t (.int .i64 t12))), (13, (.t (.int .i64 t13)))] ⟨[], []⟩ (nav (List.reverse (.lp :: PaL16_4)) (bodyOf Try.f16)) = RL16_4 (fun a0z a0 b1z b1 t12 t13 => KL16_4 [(0, (.t (.list 1 a0z a0))), (1, (.t (.list 1 b1z b1))), (12, (.t (.int .i64 t12))), (13, (.t (.int .i64 t13)))] ⟨[], []⟩) a0z a0 b1z b1 t12 t13 := by kernel_rfl
theorem L16_4_eq (a0z : Bool) (a0 : List T) (b1z : Bool) (b1 : List T) (t12 : Int) (t13 : Int) : L16_4 a0z a0 b1z b1 t12 t13 = RL16_4 L16_4 a0z a0 b1z b1 t12 t13 :=
  (round_eq Try.prog hint (b := (nav (List.reverse (.lp :: PaL16_4)) (bodyOf Try.f16))) (fn := Try.f16) (nt := 26) (T := (Ta16 (fun e st => atV Try.prog hint 16 0 Try.f16 26 (List.reverse PaL16_4) e st))) [PaL16_4] rfl PaL16_4 [(0, (.t (.list 1 a0z a0))), (1, (.t (.list 1 b1z b1))), (12, (.t (.int .i64 t12))), (13, (.t (.int .i64 t13)))] ⟨[], []⟩ rfl rfl rfl).trans (L16_4g (fun e st => atV Try.prog hint 16 0 Try.f16 26 (List.reverse PaL16_4) e st) a0z a0 b1z b1 t12 t13)
noncomputable def R9   : Option Res :=
 callK (vr 10 0 [(.t (.int .i64 1)), (.t (.int .i64 4)), (.t (.list 1 true [(.list 1 true [(.int .i64 1), (.int .i64 3)]), (.list 1 false []), (.list 1 true [(.int .i64 0)])]))] ⟨[], []⟩) fun v_1 b_2 =>
 asTup v_1 fun l_3 =>
 consV l_3 fun v_4 l_5 =>
 asT v_4 fun x_6 =>
 asA x_6 fun l_7 =>
 consT l_7 fun v_8 l_9 =>
 asI .i64 v_8 fun x_10 =>
 consT l_9 fun v_11 l_12 =>
 asI .i64 v_11 fun x_13 =>
 consT l_12 fun v_14 l_15 =>
 asL 1 v_14 fun nn_16 l_17 =>
 consT l_15 fun v_18 l_19 =>
 asL 1 v_18 fun nn_20 l_21 =>
 endT l_19 <|
 consV l_5 fun v_22 l_23 =>
 asT v_22 fun x_24 =>
 asI .i64 x_24 fun x_25 =>
 endV l_23 <|
 endB b_2 <|
 callK (vr 13 0 [(.t (.agg [(.int .i64 x_10), (.int .i64 x_13), (.list 1 nn_16 l_17), (.list 1 nn_20 l_21)])), (.t (.int .i64 3))] ⟨[], []⟩) fun v_26 b_27 =>
 asTup v_26 fun l_28 =>
 consV l_28 fun v_29 l_30 =>
 asT v_29 fun x_31 =>
 asI .i64 x_31 fun x_32 =>
 consV l_30 fun v_33 l_34 =>
 asT v_33 fun x_35 =>
 asI .i64 x_35 fun x_36 =>
 endV l_34 <|
 endB b_27 <|
 callK (vr 16 0 [(.t (.list 1 nn_16 l_17)), (.t (.list 1 true [(.int .i64 0), (.int .i64 2), (.int .i64 2), (.int .i64 3)]))] ⟨[], []⟩) fun v_37 b_38 =>
 asT v_37 fun x_39 =>
 asB x_39 fun b_40 =>
 endB b_38 <|
(bif b_40 then
 callK (vr 16 0 [(.t (.list 1 nn_20 l_21)), (.t (.list 1 true [(.int .i64 1), (.int .i64 3), (.int .i64 0)]))] ⟨[], []⟩) fun v_41 b_42 =>
 asT v_41 fun x_43 =>
 asB x_43 fun b_44 =>
 endB b_42 <|
(bif b_44 then
(bif (decide (x_25 = 0)) then
(bif (decide (x_32 = 3)) then
 some ((.t (.bool (decide (x_36 = 0)))), ⟨[], []⟩)
else
 some ((.t (.bool false)), ⟨[], []⟩))
else
 some ((.t (.bool false)), ⟨[], []⟩))
else
 some ((.t (.bool false)), ⟨[], []⟩))
else
 some ((.t (.bool false)), ⟨[], []⟩))
theorem eq9g   : codeT Try.prog hint 9 0 39 [] [] (resKV Try.prog Try.f9 (hint.own 9 0)) (nrm hint 9 0 (bodyOf Try.f9) (envV [] 0) ⟨[], []⟩).1 (nrm hint 9 0 (bodyOf Try.f9) (envV [] 0) ⟨[], []⟩).2 (bodyOf Try.f9) = R9   := by kernel_rfl
/-- purfle/purflelaw04.live -/
theorem eq9  : vr 9 0 [] ⟨[], []⟩ = R9   :=
  (call_eq Try.prog hint (fn := Try.f9) (nt := 39) (T := []) [] rfl [] ⟨[], []⟩ rfl rfl rfl rfl rfl).trans (eq9g  )
noncomputable def R10v1 (J10v1_9 : Int → Bool → (List T) → Int → Int → Bool → (List T) → Bool → (List T) → Int → Int → Bool → (List T) → Bool → (List T) → Option Res) (L10v1_10 : Int → Bool → (List T) → Bool → (List T) → Int → Int → Int → Int → Bool → (List T) → Bool → (List T) → Int → Int → Bool → (List T) → Bool → (List T) → Option Res) (a0 : Int) (a1 : Int) (a2z : Bool) (a2 : List T) : Option Res :=
(bif (decide (a0 = 1)) then
 J10v1_9 (a0) (a2z) (a2) (0) (0) (false) ([]) (false) ([]) (a0) (a1) (true) ([(.int .i64 0)]) (false) ([])
else
(bif (decide (a0 = 2)) then
 J10v1_9 (a0) (a2z) (a2) (0) (0) (false) ([]) (false) ([]) (a0) (a1) (true) ([(.int .i64 0)]) (false) ([])
else
(bif (decide (a0 = 0)) then
 needC (decide (0 ≤ (a2.length : Int)) && decide ((a2.length : Int) ≤ (a2.length : Int)) && decide ((a2.length : Int) * (24 + 1) ≤ 70368744177664)) fun _ =>
 J10v1_9 (a0) (true) ((List.replicate ((a2.length : Int)).toNat (.list 1 false []))) (0) (0) (false) ([]) (false) ([]) (a0) (a1) (false) ([]) (false) ([])
else
(bif (decide (a0 = 4)) then
 needC (decide (0 ≤ (a2.length : Int)) && decide ((a2.length : Int) ≤ (a2.length : Int)) && decide ((a2.length : Int) * (24 + 1) ≤ 70368744177664)) fun _ =>
 J10v1_9 (a0) (true) ((List.replicate ((a2.length : Int)).toNat (.list 1 false []))) (0) (0) (false) ([]) (false) ([]) (a0) (a1) (false) ([]) (false) ([])
else
 J10v1_9 (a0) (a2z) (a2) (0) (0) (false) ([]) (false) ([]) (a0) (a1) (false) ([]) (false) ([])))))
theorem eq10v1g (KJ10v1_9 KL10v1_10 : Env → St → Option Res) (a0 : Int) (a1 : Int) (a2z : Bool) (a2 : List T) : codeT Try.prog hint 10 1 70 (Ta10v1 KJ10v1_9 KL10v1_10) [] (resKV Try.prog Try.f10 (hint.own 10 1)) (nrm hint 10 1 (bodyOf Try.f10) (envV [(.t (.int .i64 a0)), (.t (.int .i64 a1)), (.t (.list 1 a2z a2))] 0) ⟨[], []⟩).1 (nrm hint 10 1 (bodyOf Try.f10) (envV [(.t (.int .i64 a0)), (.t (.int .i64 a1)), (.t (.list 1 a2z a2))] 0) ⟨[], []⟩).2 (bodyOf Try.f10) = R10v1 (fun kind0 groups2z groups2 m8_0 m8_1 m8_2z m8_2 m8_3z m8_3 m9_0 m9_1 m10z m10 m11z m11 => KJ10v1_9 [(0, (.t (.int .i64 kind0))), (2, (.t (.list 1 groups2z groups2))), (6, (.ptr 8 0 0)), (8, (.ptr 9 0 0))] ⟨[(8, (.var [(.t (.int .i64 m8_0)), (.t (.int .i64 m8_1)), (.t (.list 1 m8_2z m8_2)), (.t (.list 1 m8_3z m8_3))])), (9, (.var [(.t (.int .i64 m9_0)), (.t (.int .i64 m9_1)), (.buf 10), (.buf 11)])), (10, (.arr true 1 m10z m10)), (11, (.arr true 1 m11z m11))], []⟩) (fun kind0 groups2z groups2 t30z t30 t31 t32 m8_0 m8_1 m8_2z m8_2 m8_3z m8_3 m9_0 m9_1 m10z m10 m11z m11 => KL10v1_10 [(0, (.t (.int .i64 kind0))), (2, (.t (.list 1 groups2z groups2))), (6, (.ptr 8 0 0)), (8, (.ptr 9 0 0)), (30, (.t (.list 1 t30z t30))), (31, (.t (.int .i64 t31))), (32, (.t (.int .i64 t32)))] ⟨[(8, (.var [(.t (.int .i64 m8_0)), (.t (.int .i64 m8_1)), (.t (.list 1 m8_2z m8_2)), (.t (.list 1 m8_3z m8_3))])), (9, (.var [(.t (.int .i64 m9_0)), (.t (.int .i64 m9_1)), (.buf 10), (.buf 11)])), (10, (.arr true 1 m10z m10)), (11, (.arr true 1 m11z m11))], []⟩) a0 a1 a2z a2 := by kernel_rfl
/-- purfle/level.Make -/
theorem eq10v1 (a0 : Int) (a1 : Int) (a2z : Bool) (a2 : List T) : vr 10 1 [(.t (.int .i64 a0)), (.t (.int .i64 a1)), (.t (.list 1 a2z a2))] ⟨[], []⟩ = R10v1 J10v1_9 L10v1_10 a0 a1 a2z a2 :=
  (call_eq Try.prog hint (fn := Try.f10) (nt := 70) (T := (Ta10v1 (fun e st => atV Try.prog hint 10 1 Try.f10 70 (List.reverse PaJ10v1_9) e st) (fun e st => atV Try.prog hint 10 1 Try.f10 70 (List.reverse PaL10v1_10) e st))) [PaJ10v1_9, PaL10v1_10] rfl [(.t (.int .i64 a0)), (.t (.int .i64 a1)), (.t (.list 1 a2z a2))] ⟨[], []⟩ rfl rfl rfl rfl rfl).trans (eq10v1g (fun e st => atV Try.prog hint 10 1 Try.f10 70 (List.reverse PaJ10v1_9) e st) (fun e st => atV Try.prog hint 10 1 Try.f10 70 (List.reverse PaL10v1_10) e st) a0 a1 a2z a2)
noncomputable def RJ10v1_9 (J10v1_9 : Int → Bool → (List T) → Int → Int → Bool → (List T) → Bool → (List T) → Int → Int → Bool → (List T) → Bool → (List T) → Option Res) (L10v1_10 : Int → Bool → (List T) → Bool → (List T) → Int → Int → Int → Int → Bool → (List T) → Bool → (List T) → Int → Int → Bool → (List T) → Bool → (List T) → Option Res) (kind0 : Int) (groups2z : Bool) (groups2 : List T) (m8_0 : Int) (m8_1 : Int) (m8_2z : Bool) (m8_2 : List T) (m8_3z : Bool) (m8_3 : List T) (m9_0 : Int) (m9_1 : Int) (m10z : Bool) (m10 : List T) (m11z : Bool) (m11 : List T) : Option Res :=
 L10v1_10 (kind0) (groups2z) (groups2) (groups2z) (groups2) ((groups2.length : Int)) (0) (m8_0) (m8_1) (m8_2z) (m8_2) (m8_3z) (m8_3) (m9_0) (m9_1) (m10z) (m10) (m11z) (m11)
theorem J10v1_9g (KJ10v1_9 KL10v1_10 : Env → St → Option Res) (kind0 : Int) (groups2z : Bool) (groups2 : List T) (m8_0 : Int) (m8_1 : Int) (m8_2z : Bool) (m8_2 : List T) (m8_3z : Bool) (m8_3 : List T) (m9_0 : Int) (m9_1 : Int) (m10z : Bool) (m10 : List T) (m11z : Bool) (m11 : List T) : codeT Try.prog hint 10 1 70 (Ta10v1 KJ10v1_9 KL10v1_10) PaJ10v1_9 (ctxT Try.prog hint 10 1 70 (Ta10v1 KJ10v1_9 KL10v1_10) [] (List.reverse PaJ10v1_9) (bodyOf Try.f10) (resKV Try.prog Try.f10 (hint.own 10 1))) [(0, (.t (.int .i64 kind0))), (2, (.t (.list 1 groups2z groups2))), (6, (.ptr 8 0 0)), (8, (.ptr 9 0 0))] ⟨[(8, (.var [(.t (.int .i64 m8_0)), (.t (.int .i64 m8_1)), (.t (.list 1 m8_2z m8_2)), (.t (.list 1 m8_3z m8_3))])), (9, (.var [(.t (.int .i64 m9_0)), (.t (.int .i64 m9_1)), (.buf 10), (.buf 11)])), (10, (.arr true 1 m10z m10)), (11, (.arr true 1 m11z m11))], []⟩ (nav (List.reverse PaJ10v1_9) (bodyOf Try.f10)) = RJ10v1_9 (fun kind0 groups2z groups2 m8_0 m8_1 m8_2z m8_2 m8_3z m8_3 m9_0 m9_1 m10z m10 m11z m11 => KJ10v1_9 [(0, (.t (.int .i64 kind0))), (2, (.t (.list 1 groups2z groups2))), (6, (.ptr 8 0 0)), (8, (.ptr 9 0 0))] ⟨[(8, (.var [(.t (.int .i64 m8_0)), (.t (.int .i64 m8_1)), (.t (.list 1 m8_2z m8_2)), (.t (.list 1 m8_3z m8_3))])), (9, (.var [(.t (.int .i64 m9_0)), (.t (.int .i64 m9_1)), (.buf 10), (.buf 11)])), (10, (.arr true 1 m10z m10)), (11, (.arr true 1 m11z m11))], []⟩) (fun kind0 groups2z groups2 t30z t30 t31 t32 m8_0 m8_1 m8_2z m8_2 m8_3z m8_3 m9_0 m9_1 m10z m10 m11z m11 => KL10v1_10 [(0, (.t (.int .i64 kind0))), (2, (.t (.list 1 groups2z groups2))), (6, (.ptr 8 0 0)), (8, (.ptr 9 0 0)), (30, (.t (.list 1 t30z t30))), (31, (.t (.int .i64 t31))), (32, (.t (.int .i64 t32)))] ⟨[(8, (.var [(.t (.int .i64 m8_0)), (.t (.int .i64 m8_1)), (.t (.list 1 m8_2z m8_2)), (.t (.list 1 m8_3z m8_3))])), (9, (.var [(.t (.int .i64 m9_0)), (.t (.int .i64 m9_1)), (.buf 10), (.buf 11)])), (10, (.arr true 1 m10z m10)), (11, (.arr true 1 m11z m11))], []⟩) kind0 groups2z groups2 m8_0 m8_1 m8_2z m8_2 m8_3z m8_3 m9_0 m9_1 m10z m10 m11z m11 := by kernel_rfl
theorem J10v1_9_eq (kind0 : Int) (groups2z : Bool) (groups2 : List T) (m8_0 : Int) (m8_1 : Int) (m8_2z : Bool) (m8_2 : List T) (m8_3z : Bool) (m8_3 : List T) (m9_0 : Int) (m9_1 : Int) (m10z : Bool) (m10 : List T) (m11z : Bool) (m11 : List T) : J10v1_9 kind0 groups2z groups2 m8_0 m8_1 m8_2z m8_2 m8_3z m8_3 m9_0 m9_1 m10z m10 m11z m11 = RJ10v1_9 J10v1_9 L10v1_10 kind0 groups2z groups2 m8_0 m8_1 m8_2z m8_2 m8_3z m8_3 m9_0 m9_1 m10z m10 m11z m11 :=
  (join_eq Try.prog hint (fn := Try.f10) (nt := 70) (T := (Ta10v1 (fun e st => atV Try.prog hint 10 1 Try.f10 70 (List.reverse PaJ10v1_9) e st) (fun e st => atV Try.prog hint 10 1 Try.f10 70 (List.reverse PaL10v1_10) e st))) [PaJ10v1_9, PaL10v1_10] rfl PaJ10v1_9 [(0, (.t (.int .i64 kind0))), (2, (.t (.list 1 groups2z groups2))), (6, (.ptr 8 0 0)), (8, (.ptr 9 0 0))] ⟨[(8, (.var [(.t (.int .i64 m8_0)), (.t (.int .i64 m8_1)), (.t (.list 1 m8_2z m8_2)), (.t (.list 1 m8_3z m8_3))])), (9, (.var [(.t (.int .i64 m9_0)), (.t (.int .i64 m9_1)), (.buf 10), (.buf 11)])), (10, (.arr true 1 m10z m10)), (11, (.arr true 1 m11z m11))], []⟩ rfl).trans (J10v1_9g (fun e st => atV Try.prog hint 10 1 Try.f10 70 (List.reverse PaJ10v1_9) e st) (fun e st => atV Try.prog hint 10 1 Try.f10 70 (List.reverse PaL10v1_10) e st) kind0 groups2z groups2 m8_0 m8_1 m8_2z m8_2 m8_3z m8_3 m9_0 m9_1 m10z m10 m11z m11)
noncomputable def RL10v1_10 (J10v1_9 : Int → Bool → (List T) → Int → Int → Bool → (List T) → Bool → (List T) → Int → Int → Bool → (List T) → Bool → (List T) → Option Res) (L10v1_10 : Int → Bool → (List T) → Bool → (List T) → Int → Int → Int → Int → Bool → (List T) → Bool → (List T) → Int → Int → Bool → (List T) → Bool → (List T) → Option Res) (kind0 : Int) (groups2z : Bool) (groups2 : List T) (t30z : Bool) (t30 : List T) (t31 : Int) (t32 : Int) (m8_0 : Int) (m8_1 : Int) (m8_2z : Bool) (m8_2 : List T) (m8_3z : Bool) (m8_3 : List T) (m9_0 : Int) (m9_1 : Int) (m10z : Bool) (m10 : List T) (m11z : Bool) (m11 : List T) : Option Res :=
(bif (decide (t32 < t31)) then
 needC (decide (0 ≤ t32)) fun _ =>
 getT t30 (t32).toNat fun e_1 =>
 asL 1 e_1 fun nn_2 l_3 =>
(bif (decide (kind0 = 3)) then
(bif (!decide ((l_3.length : Int) = 1)) then
 some ((.tup [(.agg [(.t (.int .i64 0)), (.t (.int .i64 0)), (.t (.list 1 false [])), (.buf 500)]), (.t (.int .i64 1))]), ⟨[(500, (.arr true 1 false []))], [500]⟩)
else
 needC (decide ((m11.length + l_3.length) * (8 + 1) ≤ 70368744177664) && decide (8 ≤ 1048576)) fun _ =>
(bif (!(!m10z)) then
 needC (decide ((m10.length + 1) * (8 + 1) ≤ 70368744177664) && decide (8 ≤ 1048576)) fun _ =>
 L10v1_10 (kind0) (groups2z) (groups2) (t30z) (t30) (t31) ((IntKind.i64.wrap (t32 + 1))) (m8_0) (m8_1) (m8_2z) (m8_2) (m8_3z) (m8_3) (m9_0) (m9_1) ((m10z || true)) ((m10 ++ ([(.int .i64 (((m11 ++ l_3)).length : Int))] : List T))) ((m11z || (!l_3.isEmpty))) ((m11 ++ l_3))
else
 L10v1_10 (kind0) (groups2z) (groups2) (t30z) (t30) (t31) ((IntKind.i64.wrap (t32 + 1))) (m8_0) (m8_1) (m8_2z) (m8_2) (m8_3z) (m8_3) (m9_0) (m9_1) (m10z) (m10) ((m11z || (!l_3.isEmpty))) ((m11 ++ l_3))))
else
 needC (decide ((m11.length + l_3.length) * (8 + 1) ≤ 70368744177664) && decide (8 ≤ 1048576)) fun _ =>
(bif (!(!m10z)) then
 needC (decide ((m10.length + 1) * (8 + 1) ≤ 70368744177664) && decide (8 ≤ 1048576)) fun _ =>
 L10v1_10 (kind0) (groups2z) (groups2) (t30z) (t30) (t31) ((IntKind.i64.wrap (t32 + 1))) (m8_0) (m8_1) (m8_2z) (m8_2) (m8_3z) (m8_3) (m9_0) (m9_1) ((m10z || true)) ((m10 ++ ([(.int .i64 (((m11 ++ l_3)).length : Int))] : List T))) ((m11z || (!l_3.isEmpty))) ((m11 ++ l_3))
else
 L10v1_10 (kind0) (groups2z) (groups2) (t30z) (t30) (t31) ((IntKind.i64.wrap (t32 + 1))) (m8_0) (m8_1) (m8_2z) (m8_2) (m8_3z) (m8_3) (m9_0) (m9_1) (m10z) (m10) ((m11z || (!l_3.isEmpty))) ((m11 ++ l_3))))
else
 callK (vr 19 0 [(.t (.agg [(.int .i64 m9_0), (.int .i64 m9_1), (.list 1 m10z m10), (.list 1 m11z m11)])), (.t (.int .i64 (groups2.length : Int)))] ⟨[], []⟩) fun v_4 b_5 =>
 asT v_4 fun x_6 =>
 asI .i64 x_6 fun x_7 =>
 endB b_5 <|
(bif (!decide (x_7 = 0)) then
 some ((.tup [(.agg [(.t (.int .i64 0)), (.t (.int .i64 0)), (.t (.list 1 false [])), (.buf 500)]), (.t (.int .i64 x_7))]), ⟨[(500, (.arr true 1 false []))], [500]⟩)
else
 some ((.tup [(.agg [(.t (.int .i64 m9_0)), (.t (.int .i64 m9_1)), (.t (.list 1 m10z m10)), (.buf 500)]), (.t (.int .i64 0))]), ⟨[(500, (.arr true 1 m11z m11))], [500]⟩)))
theorem L10v1_10g (KJ10v1_9 KL10v1_10 : Env → St → Option Res) (kind0 : Int) (groups2z : Bool) (groups2 : List T) (t30z : Bool) (t30 : List T) (t31 : Int) (t32 : Int) (m8_0 : Int) (m8_1 : Int) (m8_2z : Bool) (m8_2 : List T) (m8_3z : Bool) (m8_3 : List T) (m9_0 : Int) (m9_1 : Int) (m10z : Bool) (m10 : List T) (m11z : Bool) (m11 : List T) : codeT Try.prog hint 10 1 70 (Ta10v1 KJ10v1_9 KL10v1_10) (.lp :: PaL10v1_10) (ctxT Try.prog hint 10 1 70 (Ta10v1 KJ10v1_9 KL10v1_10) [] (List.reverse (.lp :: PaL10v1_10)) (bodyOf Try.f10) (resKV Try.prog Try.f10 (hint.own 10 1))) [(0, (.t (.int .i64 kind0))), (2, (.t (.list 1 groups2z groups2))), (6, (.ptr 8 0 0)), (8, (.ptr 9 0 0)), (30, (.t (.list 1 t30z t30))), (31, (.t (.int .i64 t31))), (32, (.t (.int .i64 t32)))] ⟨[(8, (.var [(.t (.int .i64 m8_0)), (.t (.int .i64 m8_1)), (.t (.list 1 m8_2z m8_2)), (.t (.list 1 m8_3z m8_3))])), (9, (.var [(.t (.int .i64 m9_0)), (.t (.int .i64 m9_1)), (.buf 10), (.buf 11)])), (10, (.arr true 1 m10z m10)), (11, (.arr true 1 m11z m11))], []⟩ (nav (List.reverse (.lp :: PaL10v1_10)) (bodyOf Try.f10)) = RL10v1_10 (fun kind0 groups2z groups2 m8_0 m8_1 m8_2z m8_2 m8_3z m8_3 m9_0 m9_1 m10z m10 m11z m11 => KJ10v1_9 [(0, (.t (.int .i64 kind0))), (2, (.t (.list 1 groups2z groups2))), (6, (.ptr 8 0 0)), (8, (.ptr 9 0 0))] ⟨[(8, (.var [(.t (.int .i64 m8_0)), (.t (.int .i64 m8_1)), (.t (.list 1 m8_2z m8_2)), (.t (.list 1 m8_3z m8_3))])), (9, (.var [(.t (.int .i64 m9_0)), (.t (.int .i64 m9_1)), (.buf 10), (.buf 11)])), (10, (.arr true 1 m10z m10)), (11, (.arr true 1 m11z m11))], []⟩) (fun kind0 groups2z groups2 t30z t30 t31 t32 m8_0 m8_1 m8_2z m8_2 m8_3z m8_3 m9_0 m9_1 m10z m10 m11z m11 => KL10v1_10 [(0, (.t (.int .i64 kind0))), (2, (.t (.list 1 groups2z groups2))), (6, (.ptr 8 0 0)), (8, (.ptr 9 0 0)), (30, (.t (.list 1 t30z t30))), (31, (.t (.int .i64 t31))), (32, (.t (.int .i64 t32)))] ⟨[(8, (.var [(.t (.int .i64 m8_0)), (.t (.int .i64 m8_1)), (.t (.list 1 m8_2z m8_2)), (.t (.list 1 m8_3z m8_3))])), (9, (.var [(.t (.int .i64 m9_0)), (.t (.int .i64 m9_1)), (.buf 10), (.buf 11)])), (10, (.arr true 1 m10z m10)), (11, (.arr true 1 m11z m11))], []⟩) kind0 groups2z groups2 t30z t30 t31 t32 m8_0 m8_1 m8_2z m8_2 m8_3z m8_3 m9_0 m9_1 m10z m10 m11z m11 := by kernel_rfl
theorem L10v1_10_eq (kind0 : Int) (groups2z : Bool) (groups2 : List T) (t30z : Bool) (t30 : List T) (t31 : Int) (t32 : Int) (m8_0 : Int) (m8_1 : Int) (m8_2z : Bool) (m8_2 : List T) (m8_3z : Bool) (m8_3 : List T) (m9_0 : Int) (m9_1 : Int) (m10z : Bool) (m10 : List T) (m11z : Bool) (m11 : List T) : L10v1_10 kind0 groups2z groups2 t30z t30 t31 t32 m8_0 m8_1 m8_2z m8_2 m8_3z m8_3 m9_0 m9_1 m10z m10 m11z m11 = RL10v1_10 J10v1_9 L10v1_10 kind0 groups2z groups2 t30z t30 t31 t32 m8_0 m8_1 m8_2z m8_2 m8_3z m8_3 m9_0 m9_1 m10z m10 m11z m11 :=
  (round_eq Try.prog hint (b := (nav (List.reverse (.lp :: PaL10v1_10)) (bodyOf Try.f10))) (fn := Try.f10) (nt := 70) (T := (Ta10v1 (fun e st => atV Try.prog hint 10 1 Try.f10 70 (List.reverse PaJ10v1_9) e st) (fun e st => atV Try.prog hint 10 1 Try.f10 70 (List.reverse PaL10v1_10) e st))) [PaJ10v1_9, PaL10v1_10] rfl PaL10v1_10 [(0, (.t (.int .i64 kind0))), (2, (.t (.list 1 groups2z groups2))), (6, (.ptr 8 0 0)), (8, (.ptr 9 0 0)), (30, (.t (.list 1 t30z t30))), (31, (.t (.int .i64 t31))), (32, (.t (.int .i64 t32)))] ⟨[(8, (.var [(.t (.int .i64 m8_0)), (.t (.int .i64 m8_1)), (.t (.list 1 m8_2z m8_2)), (.t (.list 1 m8_3z m8_3))])), (9, (.var [(.t (.int .i64 m9_0)), (.t (.int .i64 m9_1)), (.buf 10), (.buf 11)])), (10, (.arr true 1 m10z m10)), (11, (.arr true 1 m11z m11))], []⟩ rfl rfl rfl).trans (L10v1_10g (fun e st => atV Try.prog hint 10 1 Try.f10 70 (List.reverse PaJ10v1_9) e st) (fun e st => atV Try.prog hint 10 1 Try.f10 70 (List.reverse PaL10v1_10) e st) kind0 groups2z groups2 t30z t30 t31 t32 m8_0 m8_1 m8_2z m8_2 m8_3z m8_3 m9_0 m9_1 m10z m10 m11z m11)
noncomputable def R21  (a0_0 : Int) (a0_1 : Int) (a0_2z : Bool) (a0_2 : List T) (a0_3z : Bool) (a0_3 : List T) : Option Res :=
(bif (decide (a0_0 = 0)) then
 some ((.t (.bool true)), ⟨[], []⟩)
else
 some ((.t (.bool (decide (a0_0 = 4)))), ⟨[], []⟩))
theorem eq21g  (a0_0 : Int) (a0_1 : Int) (a0_2z : Bool) (a0_2 : List T) (a0_3z : Bool) (a0_3 : List T) : codeT Try.prog hint 21 0 11 [] [] (resKV Try.prog Try.f21 (hint.own 21 0)) (nrm hint 21 0 (bodyOf Try.f21) (envV [(.t (.agg [(.int .i64 a0_0), (.int .i64 a0_1), (.list 1 a0_2z a0_2), (.list 1 a0_3z a0_3)]))] 0) ⟨[], []⟩).1 (nrm hint 21 0 (bodyOf Try.f21) (envV [(.t (.agg [(.int .i64 a0_0), (.int .i64 a0_1), (.list 1 a0_2z a0_2), (.list 1 a0_3z a0_3)]))] 0) ⟨[], []⟩).2 (bodyOf Try.f21) = R21  a0_0 a0_1 a0_2z a0_2 a0_3z a0_3 := by kernel_rfl
/-- purfle/purfleref04.Whole -/
theorem eq21 (a0_0 : Int) (a0_1 : Int) (a0_2z : Bool) (a0_2 : List T) (a0_3z : Bool) (a0_3 : List T) : vr 21 0 [(.t (.agg [(.int .i64 a0_0), (.int .i64 a0_1), (.list 1 a0_2z a0_2), (.list 1 a0_3z a0_3)]))] ⟨[], []⟩ = R21  a0_0 a0_1 a0_2z a0_2 a0_3z a0_3 :=
  (call_eq Try.prog hint (fn := Try.f21) (nt := 11) (T := []) [] rfl [(.t (.agg [(.int .i64 a0_0), (.int .i64 a0_1), (.list 1 a0_2z a0_2), (.list 1 a0_3z a0_3)]))] ⟨[], []⟩ rfl rfl rfl rfl rfl).trans (eq21g  a0_0 a0_1 a0_2z a0_2 a0_3z a0_3)
noncomputable def R42 (L42_14 : Int → Int → Int → Int → Bool → (List T) → Bool → (List T) → Option Res) (a0_0 : Int) (a0_1 : Int) (a0_2z : Bool) (a0_2 : List T) (a0_3z : Bool) (a0_3 : List T) (a1 : Int) : Option Res :=
 callK (vr 21 0 [(.t (.agg [(.int .i64 a0_0), (.int .i64 a0_1), (.list 1 a0_2z a0_2), (.list 1 a0_3z a0_3)]))] ⟨[], []⟩) fun v_1 b_2 =>
 asT v_1 fun x_3 =>
 asB x_3 fun b_4 =>
 endB b_2 <|
(bif b_4 then
(bif (decide (0 < (IntKind.i64.wrap ((a0_2.length : Int) + (a0_3.length : Int))))) then
 some ((.t (.int .i64 1)), ⟨[], []⟩)
else
(bif (decide (a0_0 = 4)) then
(bif (decide (a0_1 = 0)) then
 some ((.t (.int .i64 1)), ⟨[], []⟩)
else
 some ((.t (.int .i64 0)), ⟨[], []⟩))
else
 some ((.t (.int .i64 0)), ⟨[], []⟩)))
else
(bif (decide (a0_0 = 3)) then
(bif (decide (0 < (a0_2.length : Int))) then
 some ((.t (.int .i64 1)), ⟨[], []⟩)
else
(bif (!decide ((a0_3.length : Int) = a1)) then
 some ((.t (.int .i64 1)), ⟨[], []⟩)
else
 some ((.t (.int .i64 0)), ⟨[], []⟩)))
else
(bif (!decide (a0_0 = 1)) then
(bif (!decide (a0_0 = 2)) then
 some ((.t (.int .i64 1)), ⟨[], []⟩)
else
(bif (!decide ((a0_2.length : Int) = (IntKind.i64.wrap (a1 + 1)))) then
 some ((.t (.int .i64 1)), ⟨[], []⟩)
else
 needC (decide (0 ≤ 0)) fun _ =>
 getT a0_2 ((0 : Int)).toNat fun e_5 =>
 asI .i64 e_5 fun x_6 =>
(bif (!decide (x_6 = 0)) then
 some ((.t (.int .i64 1)), ⟨[], []⟩)
else
 needC (decide (0 ≤ a1)) fun _ =>
 getT a0_2 (a1).toNat fun e_7 =>
 asI .i64 e_7 fun x_8 =>
(bif (!decide (x_8 = (a0_3.length : Int))) then
 some ((.t (.int .i64 1)), ⟨[], []⟩)
else
 L42_14 (a1) (0) (a0_0) (a0_1) (a0_2z) (a0_2) (a0_3z) (a0_3)))))
else
(bif (!decide ((a0_2.length : Int) = (IntKind.i64.wrap (a1 + 1)))) then
 some ((.t (.int .i64 1)), ⟨[], []⟩)
else
 needC (decide (0 ≤ 0)) fun _ =>
 getT a0_2 ((0 : Int)).toNat fun e_9 =>
 asI .i64 e_9 fun x_10 =>
(bif (!decide (x_10 = 0)) then
 some ((.t (.int .i64 1)), ⟨[], []⟩)
else
 needC (decide (0 ≤ a1)) fun _ =>
 getT a0_2 (a1).toNat fun e_11 =>
 asI .i64 e_11 fun x_12 =>
(bif (!decide (x_12 = (a0_3.length : Int))) then
 some ((.t (.int .i64 1)), ⟨[], []⟩)
else
 L42_14 (a1) (0) (a0_0) (a0_1) (a0_2z) (a0_2) (a0_3z) (a0_3)))))))
theorem eq42g (KL42_14 : Env → St → Option Res) (a0_0 : Int) (a0_1 : Int) (a0_2z : Bool) (a0_2 : List T) (a0_3z : Bool) (a0_3 : List T) (a1 : Int) : codeT Try.prog hint 42 0 92 (Ta42 KL42_14) [] (resKV Try.prog Try.f42 (hint.own 42 0)) (nrm hint 42 0 (bodyOf Try.f42) (envV [(.t (.agg [(.int .i64 a0_0), (.int .i64 a0_1), (.list 1 a0_2z a0_2), (.list 1 a0_3z a0_3)])), (.t (.int .i64 a1))] 0) ⟨[], []⟩).1 (nrm hint 42 0 (bodyOf Try.f42) (envV [(.t (.agg [(.int .i64 a0_0), (.int .i64 a0_1), (.list 1 a0_2z a0_2), (.list 1 a0_3z a0_3)])), (.t (.int .i64 a1))] 0) ⟨[], []⟩).2 (bodyOf Try.f42) = R42 (fun t75 t76 m8_0 m8_1 m8_2z m8_2 m8_3z m8_3 => KL42_14 [(2, (.ptr 8 0 0)), (75, (.t (.int .i64 t75))), (76, (.t (.int .i64 t76)))] ⟨[(8, (.var [(.t (.int .i64 m8_0)), (.t (.int .i64 m8_1)), (.t (.list 1 m8_2z m8_2)), (.t (.list 1 m8_3z m8_3))]))], []⟩) a0_0 a0_1 a0_2z a0_2 a0_3z a0_3 a1 := by kernel_rfl
/-- purfle/purfleref04.form -/
theorem eq42 (a0_0 : Int) (a0_1 : Int) (a0_2z : Bool) (a0_2 : List T) (a0_3z : Bool) (a0_3 : List T) (a1 : Int) : vr 42 0 [(.t (.agg [(.int .i64 a0_0), (.int .i64 a0_1), (.list 1 a0_2z a0_2), (.list 1 a0_3z a0_3)])), (.t (.int .i64 a1))] ⟨[], []⟩ = R42 L42_14 a0_0 a0_1 a0_2z a0_2 a0_3z a0_3 a1 :=
  (call_eq Try.prog hint (fn := Try.f42) (nt := 92) (T := (Ta42 (fun e st => atV Try.prog hint 42 0 Try.f42 92 (List.reverse PaL42_14) e st))) [PaL42_14] rfl [(.t (.agg [(.int .i64 a0_0), (.int .i64 a0_1), (.list 1 a0_2z a0_2), (.list 1 a0_3z a0_3)])), (.t (.int .i64 a1))] ⟨[], []⟩ rfl rfl rfl rfl rfl).trans (eq42g (fun e st => atV Try.prog hint 42 0 Try.f42 92 (List.reverse PaL42_14) e st) a0_0 a0_1 a0_2z a0_2 a0_3z a0_3 a1)
noncomputable def RL42_14 (L42_14 : Int → Int → Int → Int → Bool → (List T) → Bool → (List T) → Option Res) (t75 : Int) (t76 : Int) (m8_0 : Int) (m8_1 : Int) (m8_2z : Bool) (m8_2 : List T) (m8_3z : Bool) (m8_3 : List T) : Option Res :=
(bif (decide (t76 < t75)) then
 needC (decide (0 ≤ (IntKind.i64.wrap (t76 + 1)))) fun _ =>
 getT m8_2 ((IntKind.i64.wrap (t76 + 1))).toNat fun e_1 =>
 asI .i64 e_1 fun x_2 =>
 needC (decide (0 ≤ t76)) fun _ =>
 getT m8_2 (t76).toNat fun e_3 =>
 asI .i64 e_3 fun x_4 =>
(bif (decide (x_2 < x_4)) then
 some ((.t (.int .i64 1)), ⟨[], []⟩)
else
 L42_14 (t75) ((IntKind.i64.wrap (t76 + 1))) (m8_0) (m8_1) (m8_2z) (m8_2) (m8_3z) (m8_3))
else
 some ((.t (.int .i64 0)), ⟨[], []⟩))
theorem L42_14g (KL42_14 : Env → St → Option Res) (t75 : Int) (t76 : Int) (m8_0 : Int) (m8_1 : Int) (m8_2z : Bool) (m8_2 : List T) (m8_3z : Bool) (m8_3 : List T) : codeT Try.prog hint 42 0 92 (Ta42 KL42_14) (.lp :: PaL42_14) (ctxT Try.prog hint 42 0 92 (Ta42 KL42_14) [] (List.reverse (.lp :: PaL42_14)) (bodyOf Try.f42) (resKV Try.prog Try.f42 (hint.own 42 0))) [(2, (.ptr 8 0 0)), (75, (.t (.int .i64 t75))), (76, (.t (.int .i64 t76)))] ⟨[(8, (.var [(.t (.int .i64 m8_0)), (.t (.int .i64 m8_1)), (.t (.list 1 m8_2z m8_2)), (.t (.list 1 m8_3z m8_3))]))], []⟩ (nav (List.reverse (.lp :: PaL42_14)) (bodyOf Try.f42)) = RL42_14 (fun t75 t76 m8_0 m8_1 m8_2z m8_2 m8_3z m8_3 => KL42_14 [(2, (.ptr 8 0 0)), (75, (.t (.int .i64 t75))), (76, (.t (.int .i64 t76)))] ⟨[(8, (.var [(.t (.int .i64 m8_0)), (.t (.int .i64 m8_1)), (.t (.list 1 m8_2z m8_2)), (.t (.list 1 m8_3z m8_3))]))], []⟩) t75 t76 m8_0 m8_1 m8_2z m8_2 m8_3z m8_3 := by kernel_rfl
theorem L42_14_eq (t75 : Int) (t76 : Int) (m8_0 : Int) (m8_1 : Int) (m8_2z : Bool) (m8_2 : List T) (m8_3z : Bool) (m8_3 : List T) : L42_14 t75 t76 m8_0 m8_1 m8_2z m8_2 m8_3z m8_3 = RL42_14 L42_14 t75 t76 m8_0 m8_1 m8_2z m8_2 m8_3z m8_3 :=
  (round_eq Try.prog hint (b := (nav (List.reverse (.lp :: PaL42_14)) (bodyOf Try.f42))) (fn := Try.f42) (nt := 92) (T := (Ta42 (fun e st => atV Try.prog hint 42 0 Try.f42 92 (List.reverse PaL42_14) e st))) [PaL42_14] rfl PaL42_14 [(2, (.ptr 8 0 0)), (75, (.t (.int .i64 t75))), (76, (.t (.int .i64 t76)))] ⟨[(8, (.var [(.t (.int .i64 m8_0)), (.t (.int .i64 m8_1)), (.t (.list 1 m8_2z m8_2)), (.t (.list 1 m8_3z m8_3))]))], []⟩ rfl rfl rfl).trans (L42_14g (fun e st => atV Try.prog hint 42 0 Try.f42 92 (List.reverse PaL42_14) e st) t75 t76 m8_0 m8_1 m8_2z m8_2 m8_3z m8_3)
noncomputable def R40  (a0_0 : Int) (a0_1 : Int) (a0_2z : Bool) (a0_2 : List T) (a0_3z : Bool) (a0_3 : List T) (a1 : Int) : Option Res :=
 callK (vr 21 0 [(.t (.agg [(.int .i64 a0_0), (.int .i64 a0_1), (.list 1 a0_2z a0_2), (.list 1 a0_3z a0_3)]))] ⟨[], []⟩) fun v_1 b_2 =>
 asT v_1 fun x_3 =>
 asB x_3 fun b_4 =>
 endB b_2 <|
(bif b_4 then
 some ((.t (.int .i64 (IntKind.i64.wrap (a1 * a0_1)))), ⟨[], []⟩)
else
 some ((.t (.int .i64 (a0_3.length : Int))), ⟨[], []⟩))
theorem eq40g  (a0_0 : Int) (a0_1 : Int) (a0_2z : Bool) (a0_2 : List T) (a0_3z : Bool) (a0_3 : List T) (a1 : Int) : codeT Try.prog hint 40 0 14 [] [] (resKV Try.prog Try.f40 (hint.own 40 0)) (nrm hint 40 0 (bodyOf Try.f40) (envV [(.t (.agg [(.int .i64 a0_0), (.int .i64 a0_1), (.list 1 a0_2z a0_2), (.list 1 a0_3z a0_3)])), (.t (.int .i64 a1))] 0) ⟨[], []⟩).1 (nrm hint 40 0 (bodyOf Try.f40) (envV [(.t (.agg [(.int .i64 a0_0), (.int .i64 a0_1), (.list 1 a0_2z a0_2), (.list 1 a0_3z a0_3)])), (.t (.int .i64 a1))] 0) ⟨[], []⟩).2 (bodyOf Try.f40) = R40  a0_0 a0_1 a0_2z a0_2 a0_3z a0_3 a1 := by kernel_rfl
/-- purfle/purfleref04.many -/
theorem eq40 (a0_0 : Int) (a0_1 : Int) (a0_2z : Bool) (a0_2 : List T) (a0_3z : Bool) (a0_3 : List T) (a1 : Int) : vr 40 0 [(.t (.agg [(.int .i64 a0_0), (.int .i64 a0_1), (.list 1 a0_2z a0_2), (.list 1 a0_3z a0_3)])), (.t (.int .i64 a1))] ⟨[], []⟩ = R40  a0_0 a0_1 a0_2z a0_2 a0_3z a0_3 a1 :=
  (call_eq Try.prog hint (fn := Try.f40) (nt := 14) (T := []) [] rfl [(.t (.agg [(.int .i64 a0_0), (.int .i64 a0_1), (.list 1 a0_2z a0_2), (.list 1 a0_3z a0_3)])), (.t (.int .i64 a1))] ⟨[], []⟩ rfl rfl rfl rfl rfl).trans (eq40g  a0_0 a0_1 a0_2z a0_2 a0_3z a0_3 a1)
noncomputable def R28 (L28_9 : Int → Bool → (List T) → Int → Int → Int → Int → Bool → (List T) → Bool → (List T) → Option Res) (L28_17 : Int → Int → Int → Int → Bool → (List T) → Bool → (List T) → Option Res) (L28_20 : Int → Int → Int → Int → Int → Int → Bool → (List T) → Bool → (List T) → Option Res) (a0_0 : Int) (a0_1 : Int) (a0_2z : Bool) (a0_2 : List T) (a0_3z : Bool) (a0_3 : List T) (a1 : Int) : Option Res :=
(bif (decide (a1 < 0)) then
 some ((.t (.int .i64 1)), ⟨[], []⟩)
else
(bif (decide (1048576 < a1)) then
 some ((.t (.int .i64 1)), ⟨[], []⟩)
else
(bif (decide (a0_1 < 0)) then
 some ((.t (.int .i64 1)), ⟨[], []⟩)
else
(bif (decide (2147483648 < a0_1)) then
 some ((.t (.int .i64 1)), ⟨[], []⟩)
else
 callK (vr 42 0 [(.t (.agg [(.int .i64 a0_0), (.int .i64 a0_1), (.list 1 a0_2z a0_2), (.list 1 a0_3z a0_3)])), (.t (.int .i64 a1))] ⟨[], []⟩) fun v_1 b_2 =>
 asT v_1 fun x_3 =>
 asI .i64 x_3 fun x_4 =>
 endB b_2 <|
(bif (!decide (x_4 = 0)) then
 some ((.t (.int .i64 x_4)), ⟨[], []⟩)
else
(bif (decide (65536 < (a0_3.length : Int))) then
 some ((.t (.int .i64 2)), ⟨[], []⟩)
else
 callK (vr 40 0 [(.t (.agg [(.int .i64 a0_0), (.int .i64 a0_1), (.list 1 a0_2z a0_2), (.list 1 a0_3z a0_3)])), (.t (.int .i64 a1))] ⟨[], []⟩) fun v_5 b_6 =>
 asT v_5 fun x_7 =>
 asI .i64 x_7 fun x_8 =>
 endB b_6 <|
(bif (decide (1048576 < x_8)) then
 some ((.t (.int .i64 2)), ⟨[], []⟩)
else
 L28_9 (a1) (a0_3z) (a0_3) ((a0_3.length : Int)) (0) (a0_0) (a0_1) (a0_2z) (a0_2) (a0_3z) (a0_3))))))))
theorem eq28g (KL28_9 KL28_17 KL28_20 : Env → St → Option Res) (a0_0 : Int) (a0_1 : Int) (a0_2z : Bool) (a0_2 : List T) (a0_3z : Bool) (a0_3 : List T) (a1 : Int) : codeT Try.prog hint 28 0 117 (Ta28 KL28_9 KL28_17 KL28_20) [] (resKV Try.prog Try.f28 (hint.own 28 0)) (nrm hint 28 0 (bodyOf Try.f28) (envV [(.t (.agg [(.int .i64 a0_0), (.int .i64 a0_1), (.list 1 a0_2z a0_2), (.list 1 a0_3z a0_3)])), (.t (.int .i64 a1))] 0) ⟨[], []⟩).1 (nrm hint 28 0 (bodyOf Try.f28) (envV [(.t (.agg [(.int .i64 a0_0), (.int .i64 a0_1), (.list 1 a0_2z a0_2), (.list 1 a0_3z a0_3)])), (.t (.int .i64 a1))] 0) ⟨[], []⟩).2 (bodyOf Try.f28) = R28 (fun ahead1 t43z t43 t44 t45 m8_0 m8_1 m8_2z m8_2 m8_3z m8_3 => KL28_9 [(1, (.t (.int .i64 ahead1))), (2, (.ptr 8 0 0)), (43, (.t (.list 1 t43z t43))), (44, (.t (.int .i64 t44))), (45, (.t (.int .i64 t45)))] ⟨[(8, (.var [(.t (.int .i64 m8_0)), (.t (.int .i64 m8_1)), (.t (.list 1 m8_2z m8_2)), (.t (.list 1 m8_3z m8_3))]))], []⟩) (fun t65 t66 m8_0 m8_1 m8_2z m8_2 m8_3z m8_3 => KL28_17 [(2, (.ptr 8 0 0)), (65, (.t (.int .i64 t65))), (66, (.t (.int .i64 t66)))] ⟨[(8, (.var [(.t (.int .i64 m8_0)), (.t (.int .i64 m8_1)), (.t (.list 1 m8_2z m8_2)), (.t (.list 1 m8_3z m8_3))]))], []⟩) (fun p8 n9 t65 t66 m8_0 m8_1 m8_2z m8_2 m8_3z m8_3 => KL28_20 [(2, (.ptr 8 0 0)), (8, (.t (.int .i64 p8))), (9, (.t (.int .i64 n9))), (65, (.t (.int .i64 t65))), (66, (.t (.int .i64 t66)))] ⟨[(8, (.var [(.t (.int .i64 m8_0)), (.t (.int .i64 m8_1)), (.t (.list 1 m8_2z m8_2)), (.t (.list 1 m8_3z m8_3))]))], []⟩) a0_0 a0_1 a0_2z a0_2 a0_3z a0_3 a1 := by kernel_rfl
/-- purfle/purfleref04.Check -/
theorem eq28 (a0_0 : Int) (a0_1 : Int) (a0_2z : Bool) (a0_2 : List T) (a0_3z : Bool) (a0_3 : List T) (a1 : Int) : vr 28 0 [(.t (.agg [(.int .i64 a0_0), (.int .i64 a0_1), (.list 1 a0_2z a0_2), (.list 1 a0_3z a0_3)])), (.t (.int .i64 a1))] ⟨[], []⟩ = R28 L28_9 L28_17 L28_20 a0_0 a0_1 a0_2z a0_2 a0_3z a0_3 a1 :=
  (call_eq Try.prog hint (fn := Try.f28) (nt := 117) (T := (Ta28 (fun e st => atV Try.prog hint 28 0 Try.f28 117 (List.reverse PaL28_9) e st) (fun e st => atV Try.prog hint 28 0 Try.f28 117 (List.reverse PaL28_17) e st) (fun e st => atV Try.prog hint 28 0 Try.f28 117 (List.reverse PaL28_20) e st))) [PaL28_9, PaL28_17, PaL28_20] rfl [(.t (.agg [(.int .i64 a0_0), (.int .i64 a0_1), (.list 1 a0_2z a0_2), (.list 1 a0_3z a0_3)])), (.t (.int .i64 a1))] ⟨[], []⟩ rfl rfl rfl rfl rfl).trans (eq28g (fun e st => atV Try.prog hint 28 0 Try.f28 117 (List.reverse PaL28_9) e st) (fun e st => atV Try.prog hint 28 0 Try.f28 117 (List.reverse PaL28_17) e st) (fun e st => atV Try.prog hint 28 0 Try.f28 117 (List.reverse PaL28_20) e st) a0_0 a0_1 a0_2z a0_2 a0_3z a0_3 a1)
noncomputable def RL28_9 (L28_9 : Int → Bool → (List T) → Int → Int → Int → Int → Bool → (List T) → Bool → (List T) → Option Res) (L28_17 : Int → Int → Int → Int → Bool → (List T) → Bool → (List T) → Option Res) (L28_20 : Int → Int → Int → Int → Int → Int → Bool → (List T) → Bool → (List T) → Option Res) (ahead1 : Int) (t43z : Bool) (t43 : List T) (t44 : Int) (t45 : Int) (m8_0 : Int) (m8_1 : Int) (m8_2z : Bool) (m8_2 : List T) (m8_3z : Bool) (m8_3 : List T) : Option Res :=
(bif (decide (t45 < t44)) then
 needC (decide (0 ≤ t45)) fun _ =>
 getT t43 (t45).toNat fun e_1 =>
 asI .i64 e_1 fun x_2 =>
(bif (decide (x_2 < 0)) then
 some ((.t (.int .i64 3)), ⟨[], []⟩)
else
(bif (decide (m8_1 ≤ x_2)) then
 some ((.t (.int .i64 3)), ⟨[], []⟩)
else
 L28_9 (ahead1) (t43z) (t43) (t44) ((IntKind.i64.wrap (t45 + 1))) (m8_0) (m8_1) (m8_2z) (m8_2) (m8_3z) (m8_3)))
else
 callK (vr 21 0 [(.t (.agg [(.int .i64 m8_0), (.int .i64 m8_1), (.list 1 m8_2z m8_2), (.list 1 m8_3z m8_3)]))] ⟨[], []⟩) fun v_3 b_4 =>
 asT v_3 fun x_5 =>
 asB x_5 fun b_6 =>
 endB b_4 <|
(bif b_6 then
 some ((.t (.int .i64 0)), ⟨[], []⟩)
else
(bif (decide (m8_0 = 3)) then
 some ((.t (.int .i64 0)), ⟨[], []⟩)
else
 L28_17 (ahead1) (0) (m8_0) (m8_1) (m8_2z) (m8_2) (m8_3z) (m8_3))))
theorem L28_9g (KL28_9 KL28_17 KL28_20 : Env → St → Option Res) (ahead1 : Int) (t43z : Bool) (t43 : List T) (t44 : Int) (t45 : Int) (m8_0 : Int) (m8_1 : Int) (m8_2z : Bool) (m8_2 : List T) (m8_3z : Bool) (m8_3 : List T) : codeT Try.prog hint 28 0 117 (Ta28 KL28_9 KL28_17 KL28_20) (.lp :: PaL28_9) (ctxT Try.prog hint 28 0 117 (Ta28 KL28_9 KL28_17 KL28_20) [] (List.reverse (.lp :: PaL28_9)) (bodyOf Try.f28) (resKV Try.prog Try.f28 (hint.own 28 0))) [(1, (.t (.int .i64 ahead1))), (2, (.ptr 8 0 0)), (43, (.t (.list 1 t43z t43))), (44, (.t (.int .i64 t44))), (45, (.t (.int .i64 t45)))] ⟨[(8, (.var [(.t (.int .i64 m8_0)), (.t (.int .i64 m8_1)), (.t (.list 1 m8_2z m8_2)), (.t (.list 1 m8_3z m8_3))]))], []⟩ (nav (List.reverse (.lp :: PaL28_9)) (bodyOf Try.f28)) = RL28_9 (fun ahead1 t43z t43 t44 t45 m8_0 m8_1 m8_2z m8_2 m8_3z m8_3 => KL28_9 [(1, (.t (.int .i64 ahead1))), (2, (.ptr 8 0 0)), (43, (.t (.list 1 t43z t43))), (44, (.t (.int .i64 t44))), (45, (.t (.int .i64 t45)))] ⟨[(8, (.var [(.t (.int .i64 m8_0)), (.t (.int .i64 m8_1)), (.t (.list 1 m8_2z m8_2)), (.t (.list 1 m8_3z m8_3))]))], []⟩) (fun t65 t66 m8_0 m8_1 m8_2z m8_2 m8_3z m8_3 => KL28_17 [(2, (.ptr 8 0 0)), (65, (.t (.int .i64 t65))), (66, (.t (.int .i64 t66)))] ⟨[(8, (.var [(.t (.int .i64 m8_0)), (.t (.int .i64 m8_1)), (.t (.list 1 m8_2z m8_2)), (.t (.list 1 m8_3z m8_3))]))], []⟩) (fun p8 n9 t65 t66 m8_0 m8_1 m8_2z m8_2 m8_3z m8_3 => KL28_20 [(2, (.ptr 8 0 0)), (8, (.t (.int .i64 p8))), (9, (.t (.int .i64 n9))), (65, (.t (.int .i64 t65))), (66, (.t (.int .i64 t66)))] ⟨[(8, (.var [(.t (.int .i64 m8_0)), (.t (.int .i64 m8_1)), (.t (.list 1 m8_2z m8_2)), (.t (.list 1 m8_3z m8_3))]))], []⟩) ahead1 t43z t43 t44 t45 m8_0 m8_1 m8_2z m8_2 m8_3z m8_3 := by kernel_rfl
theorem L28_9_eq (ahead1 : Int) (t43z : Bool) (t43 : List T) (t44 : Int) (t45 : Int) (m8_0 : Int) (m8_1 : Int) (m8_2z : Bool) (m8_2 : List T) (m8_3z : Bool) (m8_3 : List T) : L28_9 ahead1 t43z t43 t44 t45 m8_0 m8_1 m8_2z m8_2 m8_3z m8_3 = RL28_9 L28_9 L28_17 L28_20 ahead1 t43z t43 t44 t45 m8_0 m8_1 m8_2z m8_2 m8_3z m8_3 :=
  (round_eq Try.prog hint (b := (nav (List.reverse (.lp :: PaL28_9)) (bodyOf Try.f28))) (fn := Try.f28) (nt := 117) (T := (Ta28 (fun e st => atV Try.prog hint 28 0 Try.f28 117 (List.reverse PaL28_9) e st) (fun e st => atV Try.prog hint 28 0 Try.f28 117 (List.reverse PaL28_17) e st) (fun e st => atV Try.prog hint 28 0 Try.f28 117 (List.reverse PaL28_20) e st))) [PaL28_9, PaL28_17, PaL28_20] rfl PaL28_9 [(1, (.t (.int .i64 ahead1))), (2, (.ptr 8 0 0)), (43, (.t (.list 1 t43z t43))), (44, (.t (.int .i64 t44))), (45, (.t (.int .i64 t45)))] ⟨[(8, (.var [(.t (.int .i64 m8_0)), (.t (.int .i64 m8_1)), (.t (.list 1 m8_2z m8_2)), (.t (.list 1 m8_3z m8_3))]))], []⟩ rfl rfl rfl).trans (L28_9g (fun e st => atV Try.prog hint 28 0 Try.f28 117 (List.reverse PaL28_9) e st) (fun e st => atV Try.prog hint 28 0 Try.f28 117 (List.reverse PaL28_17) e st) (fun e st => atV Try.prog hint 28 0 Try.f28 117 (List.reverse PaL28_20) e st) ahead1 t43z t43 t44 t45 m8_0 m8_1 m8_2z m8_2 m8_3z m8_3)
noncomputable def RL28_17 (L28_9 : Int → Bool → (List T) → Int → Int → Int → Int → Bool → (List T) → Bool → (List T) → Option Res) (L28_17 : Int → Int → Int → Int → Bool → (List T) → Bool → (List T) → Option Res) (L28_20 : Int → Int → Int → Int → Int → Int → Bool → (List T) → Bool → (List T) → Option Res) (t65 : Int) (t66 : Int) (m8_0 : Int) (m8_1 : Int) (m8_2z : Bool) (m8_2 : List T) (m8_3z : Bool) (m8_3 : List T) : Option Res :=
(bif (decide (t66 < t65)) then
 needC (decide (0 ≤ t66)) fun _ =>
 getT m8_2 (t66).toNat fun e_1 =>
 asI .i64 e_1 fun x_2 =>
 L28_20 (t66) ((IntKind.i64.wrap (x_2 + 1))) (t65) (t66) (m8_0) (m8_1) (m8_2z) (m8_2) (m8_3z) (m8_3)
else
 some ((.t (.int .i64 0)), ⟨[], []⟩))
theorem L28_17g (KL28_9 KL28_17 KL28_20 : Env → St → Option Res) (t65 : Int) (t66 : Int) (m8_0 : Int) (m8_1 : Int) (m8_2z : Bool) (m8_2 : List T) (m8_3z : Bool) (m8_3 : List T) : codeT Try.prog hint 28 0 117 (Ta28 KL28_9 KL28_17 KL28_20) (.lp :: PaL28_17) (ctxT Try.prog hint 28 0 117 (Ta28 KL28_9 KL28_17 KL28_20) [] (List.reverse (.lp :: PaL28_17)) (bodyOf Try.f28) (resKV Try.prog Try.f28 (hint.own 28 0))) [(2, (.ptr 8 0 0)), (65, (.t (.int .i64 t65))), (66, (.t (.int .i64 t66)))] ⟨[(8, (.var [(.t (.int .i64 m8_0)), (.t (.int .i64 m8_1)), (.t (.list 1 m8_2z m8_2)), (.t (.list 1 m8_3z m8_3))]))], []⟩ (nav (List.reverse (.lp :: PaL28_17)) (bodyOf Try.f28)) = RL28_17 (fun ahead1 t43z t43 t44 t45 m8_0 m8_1 m8_2z m8_2 m8_3z m8_3 => KL28_9 [(1, (.t (.int .i64 ahead1))), (2, (.ptr 8 0 0)), (43, (.t (.list 1 t43z t43))), (44, (.t (.int .i64 t44))), (45, (.t (.int .i64 t45)))] ⟨[(8, (.var [(.t (.int .i64 m8_0)), (.t (.int .i64 m8_1)), (.t (.list 1 m8_2z m8_2)), (.t (.list 1 m8_3z m8_3))]))], []⟩) (fun t65 t66 m8_0 m8_1 m8_2z m8_2 m8_3z m8_3 => KL28_17 [(2, (.ptr 8 0 0)), (65, (.t (.int .i64 t65))), (66, (.t (.int .i64 t66)))] ⟨[(8, (.var [(.t (.int .i64 m8_0)), (.t (.int .i64 m8_1)), (.t (.list 1 m8_2z m8_2)), (.t (.list 1 m8_3z m8_3))]))], []⟩) (fun p8 n9 t65 t66 m8_0 m8_1 m8_2z m8_2 m8_3z m8_3 => KL28_20 [(2, (.ptr 8 0 0)), (8, (.t (.int .i64 p8))), (9, (.t (.int .i64 n9))), (65, (.t (.int .i64 t65))), (66, (.t (.int .i64 t66)))] ⟨[(8, (.var [(.t (.int .i64 m8_0)), (.t (.int .i64 m8_1)), (.t (.list 1 m8_2z m8_2)), (.t (.list 1 m8_3z m8_3))]))], []⟩) t65 t66 m8_0 m8_1 m8_2z m8_2 m8_3z m8_3 := by kernel_rfl
theorem L28_17_eq (t65 : Int) (t66 : Int) (m8_0 : Int) (m8_1 : Int) (m8_2z : Bool) (m8_2 : List T) (m8_3z : Bool) (m8_3 : List T) : L28_17 t65 t66 m8_0 m8_1 m8_2z m8_2 m8_3z m8_3 = RL28_17 L28_9 L28_17 L28_20 t65 t66 m8_0 m8_1 m8_2z m8_2 m8_3z m8_3 :=
  (round_eq Try.prog hint (b := (nav (List.reverse (.lp :: PaL28_17)) (bodyOf Try.f28))) (fn := Try.f28) (nt := 117) (T := (Ta28 (fun e st => atV Try.prog hint 28 0 Try.f28 117 (List.reverse PaL28_9) e st) (fun e st => atV Try.prog hint 28 0 Try.f28 117 (List.reverse PaL28_17) e st) (fun e st => atV Try.prog hint 28 0 Try.f28 117 (List.reverse PaL28_20) e st))) [PaL28_9, PaL28_17, PaL28_20] rfl PaL28_17 [(2, (.ptr 8 0 0)), (65, (.t (.int .i64 t65))), (66, (.t (.int .i64 t66)))] ⟨[(8, (.var [(.t (.int .i64 m8_0)), (.t (.int .i64 m8_1)), (.t (.list 1 m8_2z m8_2)), (.t (.list 1 m8_3z m8_3))]))], []⟩ rfl rfl rfl).trans (L28_17g (fun e st => atV Try.prog hint 28 0 Try.f28 117 (List.reverse PaL28_9) e st) (fun e st => atV Try.prog hint 28 0 Try.f28 117 (List.reverse PaL28_17) e st) (fun e st => atV Try.prog hint 28 0 Try.f28 117 (List.reverse PaL28_20) e st) t65 t66 m8_0 m8_1 m8_2z m8_2 m8_3z m8_3)
noncomputable def RL28_20 (L28_9 : Int → Bool → (List T) → Int → Int → Int → Int → Bool → (List T) → Bool → (List T) → Option Res) (L28_17 : Int → Int → Int → Int → Bool → (List T) → Bool → (List T) → Option Res) (L28_20 : Int → Int → Int → Int → Int → Int → Bool → (List T) → Bool → (List T) → Option Res) (p8 : Int) (n9 : Int) (t65 : Int) (t66 : Int) (m8_0 : Int) (m8_1 : Int) (m8_2z : Bool) (m8_2 : List T) (m8_3z : Bool) (m8_3 : List T) : Option Res :=
 needC (decide (0 ≤ (IntKind.i64.wrap (p8 + 1)))) fun _ =>
 getT m8_2 ((IntKind.i64.wrap (p8 + 1))).toNat fun e_1 =>
 asI .i64 e_1 fun x_2 =>
(bif (decide (n9 < x_2)) then
 needC (decide (0 ≤ n9)) fun _ =>
 getT m8_3 (n9).toNat fun e_3 =>
 asI .i64 e_3 fun x_4 =>
 needC (decide (0 ≤ (IntKind.i64.wrap (n9 - 1)))) fun _ =>
 getT m8_3 ((IntKind.i64.wrap (n9 - 1))).toNat fun e_5 =>
 asI .i64 e_5 fun x_6 =>
(bif (decide (x_4 < x_6)) then
 some ((.t (.int .i64 1)), ⟨[], []⟩)
else
(bif (decide (m8_0 = 1)) then
 needC (decide (0 ≤ n9)) fun _ =>
 getT m8_3 (n9).toNat fun e_7 =>
 asI .i64 e_7 fun x_8 =>
 needC (decide (0 ≤ (IntKind.i64.wrap (n9 - 1)))) fun _ =>
 getT m8_3 ((IntKind.i64.wrap (n9 - 1))).toNat fun e_9 =>
 asI .i64 e_9 fun x_10 =>
(bif (decide (x_8 = x_10)) then
 some ((.t (.int .i64 1)), ⟨[], []⟩)
else
 L28_20 (p8) ((IntKind.i64.wrap (n9 + 1))) (t65) (t66) (m8_0) (m8_1) (m8_2z) (m8_2) (m8_3z) (m8_3))
else
 L28_20 (p8) ((IntKind.i64.wrap (n9 + 1))) (t65) (t66) (m8_0) (m8_1) (m8_2z) (m8_2) (m8_3z) (m8_3)))
else
 L28_17 (t65) ((IntKind.i64.wrap (t66 + 1))) (m8_0) (m8_1) (m8_2z) (m8_2) (m8_3z) (m8_3))
theorem L28_20g (KL28_9 KL28_17 KL28_20 : Env → St → Option Res) (p8 : Int) (n9 : Int) (t65 : Int) (t66 : Int) (m8_0 : Int) (m8_1 : Int) (m8_2z : Bool) (m8_2 : List T) (m8_3z : Bool) (m8_3 : List T) : codeT Try.prog hint 28 0 117 (Ta28 KL28_9 KL28_17 KL28_20) (.lp :: PaL28_20) (ctxT Try.prog hint 28 0 117 (Ta28 KL28_9 KL28_17 KL28_20) [] (List.reverse (.lp :: PaL28_20)) (bodyOf Try.f28) (resKV Try.prog Try.f28 (hint.own 28 0))) [(2, (.ptr 8 0 0)), (8, (.t (.int .i64 p8))), (9, (.t (.int .i64 n9))), (65, (.t (.int .i64 t65))), (66, (.t (.int .i64 t66)))] ⟨[(8, (.var [(.t (.int .i64 m8_0)), (.t (.int .i64 m8_1)), (.t (.list 1 m8_2z m8_2)), (.t (.list 1 m8_3z m8_3))]))], []⟩ (nav (List.reverse (.lp :: PaL28_20)) (bodyOf Try.f28)) = RL28_20 (fun ahead1 t43z t43 t44 t45 m8_0 m8_1 m8_2z m8_2 m8_3z m8_3 => KL28_9 [(1, (.t (.int .i64 ahead1))), (2, (.ptr 8 0 0)), (43, (.t (.list 1 t43z t43))), (44, (.t (.int .i64 t44))), (45, (.t (.int .i64 t45)))] ⟨[(8, (.var [(.t (.int .i64 m8_0)), (.t (.int .i64 m8_1)), (.t (.list 1 m8_2z m8_2)), (.t (.list 1 m8_3z m8_3))]))], []⟩) (fun t65 t66 m8_0 m8_1 m8_2z m8_2 m8_3z m8_3 => KL28_17 [(2, (.ptr 8 0 0)), (65, (.t (.int .i64 t65))), (66, (.t (.int .i64 t66)))] ⟨[(8, (.var [(.t (.int .i64 m8_0)), (.t (.int .i64 m8_1)), (.t (.list 1 m8_2z m8_2)), (.t (.list 1 m8_3z m8_3))]))], []⟩) (fun p8 n9 t65 t66 m8_0 m8_1 m8_2z m8_2 m8_3z m8_3 => KL28_20 [(2, (.ptr 8 0 0)), (8, (.t (.int .i64 p8))), (9, (.t (.int .i64 n9))), (65, (.t (.int .i64 t65))), (66, (.t (.int .i64 t66)))] ⟨[(8, (.var [(.t (.int .i64 m8_0)), (.t (.int .i64 m8_1)), (.t (.list 1 m8_2z m8_2)), (.t (.list 1 m8_3z m8_3))]))], []⟩) p8 n9 t65 t66 m8_0 m8_1 m8_2z m8_2 m8_3z m8_3 := by kernel_rfl
theorem L28_20_eq (p8 : Int) (n9 : Int) (t65 : Int) (t66 : Int) (m8_0 : Int) (m8_1 : Int) (m8_2z : Bool) (m8_2 : List T) (m8_3z : Bool) (m8_3 : List T) : L28_20 p8 n9 t65 t66 m8_0 m8_1 m8_2z m8_2 m8_3z m8_3 = RL28_20 L28_9 L28_17 L28_20 p8 n9 t65 t66 m8_0 m8_1 m8_2z m8_2 m8_3z m8_3 :=
  (round_eq Try.prog hint (b := (nav (List.reverse (.lp :: PaL28_20)) (bodyOf Try.f28))) (fn := Try.f28) (nt := 117) (T := (Ta28 (fun e st => atV Try.prog hint 28 0 Try.f28 117 (List.reverse PaL28_9) e st) (fun e st => atV Try.prog hint 28 0 Try.f28 117 (List.reverse PaL28_17) e st) (fun e st => atV Try.prog hint 28 0 Try.f28 117 (List.reverse PaL28_20) e st))) [PaL28_9, PaL28_17, PaL28_20] rfl PaL28_20 [(2, (.ptr 8 0 0)), (8, (.t (.int .i64 p8))), (9, (.t (.int .i64 n9))), (65, (.t (.int .i64 t65))), (66, (.t (.int .i64 t66)))] ⟨[(8, (.var [(.t (.int .i64 m8_0)), (.t (.int .i64 m8_1)), (.t (.list 1 m8_2z m8_2)), (.t (.list 1 m8_3z m8_3))]))], []⟩ rfl rfl rfl).trans (L28_20g (fun e st => atV Try.prog hint 28 0 Try.f28 117 (List.reverse PaL28_9) e st) (fun e st => atV Try.prog hint 28 0 Try.f28 117 (List.reverse PaL28_17) e st) (fun e st => atV Try.prog hint 28 0 Try.f28 117 (List.reverse PaL28_20) e st) p8 n9 t65 t66 m8_0 m8_1 m8_2z m8_2 m8_3z m8_3)
noncomputable def R11 (L11_5 : Bool → (List T) → Bool → (List T) → Int → Int → Int → Int → Bool → (List T) → Bool → (List T) → Int → Int → Bool → (List T) → Bool → (List T) → Option Res) (L11_15 : Bool → (List T) → Bool → (List T) → Int → Int → Int → Int → Bool → (List T) → Bool → (List T) → Int → Int → Bool → (List T) → Bool → (List T) → Option Res) (J11_20 : Bool → (List T) → Int → Int → Bool → (List T) → Bool → (List T) → Int → Int → Bool → (List T) → Bool → (List T) → Option Res) (a0 : Int) (a1 : Int) (a2z : Bool) (a2 : List T) : Option Res :=
(bif (decide (a0 = 3)) then
 L11_5 (a2z) (a2) (a2z) (a2) ((a2.length : Int)) (0) (0) (0) (false) ([]) (false) ([]) (a0) (a1) (false) ([]) (false) ([])
else
(bif (decide (a0 = 1)) then
 L11_15 (a2z) (a2) (a2z) (a2) ((a2.length : Int)) (0) (0) (0) (false) ([]) (false) ([]) (a0) (a1) (true) ([(.int .i64 0)]) (false) ([])
else
(bif (decide (a0 = 2)) then
 L11_15 (a2z) (a2) (a2z) (a2) ((a2.length : Int)) (0) (0) (0) (false) ([]) (false) ([]) (a0) (a1) (true) ([(.int .i64 0)]) (false) ([])
else
 J11_20 (a2z) (a2) (0) (0) (false) ([]) (false) ([]) (a0) (a1) (false) ([]) (false) ([]))))
theorem eq11g (KL11_5 KL11_15 KJ11_20 : Env → St → Option Res) (a0 : Int) (a1 : Int) (a2z : Bool) (a2 : List T) : codeT Try.prog hint 11 0 73 (Ta11 KL11_5 KL11_15 KJ11_20) [] (resKV Try.prog Try.f11 (hint.own 11 0)) (nrm hint 11 0 (bodyOf Try.f11) (envV [(.t (.int .i64 a0)), (.t (.int .i64 a1)), (.t (.list 1 a2z a2))] 0) ⟨[], []⟩).1 (nrm hint 11 0 (bodyOf Try.f11) (envV [(.t (.int .i64 a0)), (.t (.int .i64 a1)), (.t (.list 1 a2z a2))] 0) ⟨[], []⟩).2 (bodyOf Try.f11) = R11 (fun groups2z groups2 t20z t20 t21 t22 m8_0 m8_1 m8_2z m8_2 m8_3z m8_3 m9_0 m9_1 m10z m10 m11z m11 => KL11_5 [(2, (.t (.list 1 groups2z groups2))), (6, (.ptr 8 0 0)), (8, (.ptr 9 0 0)), (20, (.t (.list 1 t20z t20))), (21, (.t (.int .i64 t21))), (22, (.t (.int .i64 t22)))] ⟨[(8, (.var [(.t (.int .i64 m8_0)), (.t (.int .i64 m8_1)), (.t (.list 1 m8_2z m8_2)), (.t (.list 1 m8_3z m8_3))])), (9, (.var [(.t (.int .i64 m9_0)), (.t (.int .i64 m9_1)), (.buf 10), (.buf 11)])), (10, (.arr true 1 m10z m10)), (11, (.arr true 1 m11z m11))], []⟩) (fun groups2z groups2 t44z t44 t45 t46 m8_0 m8_1 m8_2z m8_2 m8_3z m8_3 m9_0 m9_1 m10z m10 m11z m11 => KL11_15 [(2, (.t (.list 1 groups2z groups2))), (6, (.ptr 8 0 0)), (8, (.ptr 9 0 0)), (44, (.t (.list 1 t44z t44))), (45, (.t (.int .i64 t45))), (46, (.t (.int .i64 t46)))] ⟨[(8, (.var [(.t (.int .i64 m8_0)), (.t (.int .i64 m8_1)), (.t (.list 1 m8_2z m8_2)), (.t (.list 1 m8_3z m8_3))])), (9, (.var [(.t (.int .i64 m9_0)), (.t (.int .i64 m9_1)), (.buf 10), (.buf 11)])), (10, (.arr true 1 m10z m10)), (11, (.arr true 1 m11z m11))], []⟩) (fun groups2z groups2 m8_0 m8_1 m8_2z m8_2 m8_3z m8_3 m9_0 m9_1 m10z m10 m11z m11 => KJ11_20 [(2, (.t (.list 1 groups2z groups2))), (6, (.ptr 8 0 0)), (8, (.ptr 9 0 0))] ⟨[(8, (.var [(.t (.int .i64 m8_0)), (.t (.int .i64 m8_1)), (.t (.list 1 m8_2z m8_2)), (.t (.list 1 m8_3z m8_3))])), (9, (.var [(.t (.int .i64 m9_0)), (.t (.int .i64 m9_1)), (.buf 10), (.buf 11)])), (10, (.arr true 1 m10z m10)), (11, (.arr true 1 m11z m11))], []⟩) a0 a1 a2z a2 := by kernel_rfl
/-- purfle/purfleref04.Make -/
theorem eq11 (a0 : Int) (a1 : Int) (a2z : Bool) (a2 : List T) : vr 11 0 [(.t (.int .i64 a0)), (.t (.int .i64 a1)), (.t (.list 1 a2z a2))] ⟨[], []⟩ = R11 L11_5 L11_15 J11_20 a0 a1 a2z a2 :=
  (call_eq Try.prog hint (fn := Try.f11) (nt := 73) (T := (Ta11 (fun e st => atV Try.prog hint 11 0 Try.f11 73 (List.reverse PaL11_5) e st) (fun e st => atV Try.prog hint 11 0 Try.f11 73 (List.reverse PaL11_15) e st) (fun e st => atV Try.prog hint 11 0 Try.f11 73 (List.reverse PaJ11_20) e st))) [PaL11_5, PaL11_15, PaJ11_20] rfl [(.t (.int .i64 a0)), (.t (.int .i64 a1)), (.t (.list 1 a2z a2))] ⟨[], []⟩ rfl rfl rfl rfl rfl).trans (eq11g (fun e st => atV Try.prog hint 11 0 Try.f11 73 (List.reverse PaL11_5) e st) (fun e st => atV Try.prog hint 11 0 Try.f11 73 (List.reverse PaL11_15) e st) (fun e st => atV Try.prog hint 11 0 Try.f11 73 (List.reverse PaJ11_20) e st) a0 a1 a2z a2)
noncomputable def RL11_5 (L11_5 : Bool → (List T) → Bool → (List T) → Int → Int → Int → Int → Bool → (List T) → Bool → (List T) → Int → Int → Bool → (List T) → Bool → (List T) → Option Res) (L11_15 : Bool → (List T) → Bool → (List T) → Int → Int → Int → Int → Bool → (List T) → Bool → (List T) → Int → Int → Bool → (List T) → Bool → (List T) → Option Res) (J11_20 : Bool → (List T) → Int → Int → Bool → (List T) → Bool → (List T) → Int → Int → Bool → (List T) → Bool → (List T) → Option Res) (groups2z : Bool) (groups2 : List T) (t20z : Bool) (t20 : List T) (t21 : Int) (t22 : Int) (m8_0 : Int) (m8_1 : Int) (m8_2z : Bool) (m8_2 : List T) (m8_3z : Bool) (m8_3 : List T) (m9_0 : Int) (m9_1 : Int) (m10z : Bool) (m10 : List T) (m11z : Bool) (m11 : List T) : Option Res :=
(bif (decide (t22 < t21)) then
 needC (decide (0 ≤ t22)) fun _ =>
 getT t20 (t22).toNat fun e_1 =>
 asL 1 e_1 fun nn_2 l_3 =>
(bif (!decide ((l_3.length : Int) = 1)) then
 some ((.tup [(.t (.agg [(.int .i64 0), (.int .i64 0), (.list 1 false []), (.list 1 false [])])), (.t (.int .i64 1))]), ⟨[], []⟩)
else
 needC (decide (0 ≤ 0)) fun _ =>
 getT l_3 ((0 : Int)).toNat fun e_4 =>
 asI .i64 e_4 fun x_5 =>
 needC (decide ((m11.length + 1) * (8 + 1) ≤ 70368744177664) && decide (8 ≤ 1048576)) fun _ =>
 L11_5 (groups2z) (groups2) (t20z) (t20) (t21) ((IntKind.i64.wrap (t22 + 1))) (m8_0) (m8_1) (m8_2z) (m8_2) (m8_3z) (m8_3) (m9_0) (m9_1) (m10z) (m10) ((m11z || true)) ((m11 ++ ([(.int .i64 x_5)] : List T))))
else
 J11_20 (groups2z) (groups2) (m8_0) (m8_1) (m8_2z) (m8_2) (m8_3z) (m8_3) (m9_0) (m9_1) (m10z) (m10) (m11z) (m11))
theorem L11_5g (KL11_5 KL11_15 KJ11_20 : Env → St → Option Res) (groups2z : Bool) (groups2 : List T) (t20z : Bool) (t20 : List T) (t21 : Int) (t22 : Int) (m8_0 : Int) (m8_1 : Int) (m8_2z : Bool) (m8_2 : List T) (m8_3z : Bool) (m8_3 : List T) (m9_0 : Int) (m9_1 : Int) (m10z : Bool) (m10 : List T) (m11z : Bool) (m11 : List T) : codeT Try.prog hint 11 0 73 (Ta11 KL11_5 KL11_15 KJ11_20) (.lp :: PaL11_5) (ctxT Try.prog hint 11 0 73 (Ta11 KL11_5 KL11_15 KJ11_20) [] (List.reverse (.lp :: PaL11_5)) (bodyOf Try.f11) (resKV Try.prog Try.f11 (hint.own 11 0))) [(2, (.t (.list 1 groups2z groups2))), (6, (.ptr 8 0 0)), (8, (.ptr 9 0 0)), (20, (.t (.list 1 t20z t20))), (21, (.t (.int .i64 t21))), (22, (.t (.int .i64 t22)))] ⟨[(8, (.var [(.t (.int .i64 m8_0)), (.t (.int .i64 m8_1)), (.t (.list 1 m8_2z m8_2)), (.t (.list 1 m8_3z m8_3))])), (9, (.var [(.t (.int .i64 m9_0)), (.t (.int .i64 m9_1)), (.buf 10), (.buf 11)])), (10, (.arr true 1 m10z m10)), (11, (.arr true 1 m11z m11))], []⟩ (nav (List.reverse (.lp :: PaL11_5)) (bodyOf Try.f11)) = RL11_5 (fun groups2z groups2 t20z t20 t21 t22 m8_0 m8_1 m8_2z m8_2 m8_3z m8_3 m9_0 m9_1 m10z m10 m11z m11 => KL11_5 [(2, (.t (.list 1 groups2z groups2))), (6, (.ptr 8 0 0)), (8, (.ptr 9 0 0)), (20, (.t (.list 1 t20z t20))), (21, (.t (.int .i64 t21))), (22, (.t (.int .i64 t22)))] ⟨[(8, (.var [(.t (.int .i64 m8_0)), (.t (.int .i64 m8_1)), (.t (.list 1 m8_2z m8_2)), (.t (.list 1 m8_3z m8_3))])), (9, (.var [(.t (.int .i64 m9_0)), (.t (.int .i64 m9_1)), (.buf 10), (.buf 11)])), (10, (.arr true 1 m10z m10)), (11, (.arr true 1 m11z m11))], []⟩) (fun groups2z groups2 t44z t44 t45 t46 m8_0 m8_1 m8_2z m8_2 m8_3z m8_3 m9_0 m9_1 m10z m10 m11z m11 => KL11_15 [(2, (.t (.list 1 groups2z groups2))), (6, (.ptr 8 0 0)), (8, (.ptr 9 0 0)), (44, (.t (.list 1 t44z t44))), (45, (.t (.int .i64 t45))), (46, (.t (.int .i64 t46)))] ⟨[(8, (.var [(.t (.int .i64 m8_0)), (.t (.int .i64 m8_1)), (.t (.list 1 m8_2z m8_2)), (.t (.list 1 m8_3z m8_3))])), (9, (.var [(.t (.int .i64 m9_0)), (.t (.int .i64 m9_1)), (.buf 10), (.buf 11)])), (10, (.arr true 1 m10z m10)), (11, (.arr true 1 m11z m11))], []⟩) (fun groups2z groups2 m8_0 m8_1 m8_2z m8_2 m8_3z m8_3 m9_0 m9_1 m10z m10 m11z m11 => KJ11_20 [(2, (.t (.list 1 groups2z groups2))), (6, (.ptr 8 0 0)), (8, (.ptr 9 0 0))] ⟨[(8, (.var [(.t (.int .i64 m8_0)), (.t (.int .i64 m8_1)), (.t (.list 1 m8_2z m8_2)), (.t (.list 1 m8_3z m8_3))])), (9, (.var [(.t (.int .i64 m9_0)), (.t (.int .i64 m9_1)), (.buf 10), (.buf 11)])), (10, (.arr true 1 m10z m10)), (11, (.arr true 1 m11z m11))], []⟩) groups2z groups2 t20z t20 t21 t22 m8_0 m8_1 m8_2z m8_2 m8_3z m8_3 m9_0 m9_1 m10z m10 m11z m11 := by kernel_rfl
theorem L11_5_eq (groups2z : Bool) (groups2 : List T) (t20z : Bool) (t20 : List T) (t21 : Int) (t22 : Int) (m8_0 : Int) (m8_1 : Int) (m8_2z : Bool) (m8_2 : List T) (m8_3z : Bool) (m8_3 : List T) (m9_0 : Int) (m9_1 : Int) (m10z : Bool) (m10 : List T) (m11z : Bool) (m11 : List T) : L11_5 groups2z groups2 t20z t20 t21 t22 m8_0 m8_1 m8_2z m8_2 m8_3z m8_3 m9_0 m9_1 m10z m10 m11z m11 = RL11_5 L11_5 L11_15 J11_20 groups2z groups2 t20z t20 t21 t22 m8_0 m8_1 m8_2z m8_2 m8_3z m8_3 m9_0 m9_1 m10z m10 m11z m11 :=
  (round_eq Try.prog hint (b := (nav (List.reverse (.lp :: PaL11_5)) (bodyOf Try.f11))) (fn := Try.f11) (nt := 73) (T := (Ta11 (fun e st => atV Try.prog hint 11 0 Try.f11 73 (List.reverse PaL11_5) e st) (fun e st => atV Try.prog hint 11 0 Try.f11 73 (List.reverse PaL11_15) e st) (fun e st => atV Try.prog hint 11 0 Try.f11 73 (List.reverse PaJ11_20) e st))) [PaL11_5, PaL11_15, PaJ11_20] rfl PaL11_5 [(2, (.t (.list 1 groups2z groups2))), (6, (.ptr 8 0 0)), (8, (.ptr 9 0 0)), (20, (.t (.list 1 t20z t20))), (21, (.t (.int .i64 t21))), (22, (.t (.int .i64 t22)))] ⟨[(8, (.var [(.t (.int .i64 m8_0)), (.t (.int .i64 m8_1)), (.t (.list 1 m8_2z m8_2)), (.t (.list 1 m8_3z m8_3))])), (9, (.var [(.t (.int .i64 m9_0)), (.t (.int .i64 m9_1)), (.buf 10), (.buf 11)])), (10, (.arr true 1 m10z m10)), (11, (.arr true 1 m11z m11))], []⟩ rfl rfl rfl).trans (L11_5g (fun e st => atV Try.prog hint 11 0 Try.f11 73 (List.reverse PaL11_5) e st) (fun e st => atV Try.prog hint 11 0 Try.f11 73 (List.reverse PaL11_15) e st) (fun e st => atV Try.prog hint 11 0 Try.f11 73 (List.reverse PaJ11_20) e st) groups2z groups2 t20z t20 t21 t22 m8_0 m8_1 m8_2z m8_2 m8_3z m8_3 m9_0 m9_1 m10z m10 m11z m11)
noncomputable def RL11_15 (L11_5 : Bool → (List T) → Bool → (List T) → Int → Int → Int → Int → Bool → (List T) → Bool → (List T) → Int → Int → Bool → (List T) → Bool → (List T) → Option Res) (L11_15 : Bool → (List T) → Bool → (List T) → Int → Int → Int → Int → Bool → (List T) → Bool → (List T) → Int → Int → Bool → (List T) → Bool → (List T) → Option Res) (J11_20 : Bool → (List T) → Int → Int → Bool → (List T) → Bool → (List T) → Int → Int → Bool → (List T) → Bool → (List T) → Option Res) (groups2z : Bool) (groups2 : List T) (t44z : Bool) (t44 : List T) (t45 : Int) (t46 : Int) (m8_0 : Int) (m8_1 : Int) (m8_2z : Bool) (m8_2 : List T) (m8_3z : Bool) (m8_3 : List T) (m9_0 : Int) (m9_1 : Int) (m10z : Bool) (m10 : List T) (m11z : Bool) (m11 : List T) : Option Res :=
(bif (decide (t46 < t45)) then
 needC (decide (0 ≤ t46)) fun _ =>
 getT t44 (t46).toNat fun e_1 =>
 asL 1 e_1 fun nn_2 l_3 =>
 needC (decide ((m11.length + l_3.length) * (8 + 1) ≤ 70368744177664) && decide (8 ≤ 1048576)) fun _ =>
 needC (decide ((m10.length + 1) * (8 + 1) ≤ 70368744177664) && decide (8 ≤ 1048576)) fun _ =>
 L11_15 (groups2z) (groups2) (t44z) (t44) (t45) ((IntKind.i64.wrap (t46 + 1))) (m8_0) (m8_1) (m8_2z) (m8_2) (m8_3z) (m8_3) (m9_0) (m9_1) ((m10z || true)) ((m10 ++ ([(.int .i64 (((m11 ++ l_3)).length : Int))] : List T))) ((m11z || (!l_3.isEmpty))) ((m11 ++ l_3))
else
 J11_20 (groups2z) (groups2) (m8_0) (m8_1) (m8_2z) (m8_2) (m8_3z) (m8_3) (m9_0) (m9_1) (m10z) (m10) (m11z) (m11))
theorem L11_15g (KL11_5 KL11_15 KJ11_20 : Env → St → Option Res) (groups2z : Bool) (groups2 : List T) (t44z : Bool) (t44 : List T) (t45 : Int) (t46 : Int) (m8_0 : Int) (m8_1 : Int) (m8_2z : Bool) (m8_2 : List T) (m8_3z : Bool) (m8_3 : List T) (m9_0 : Int) (m9_1 : Int) (m10z : Bool) (m10 : List T) (m11z : Bool) (m11 : List T) : codeT Try.prog hint 11 0 73 (Ta11 KL11_5 KL11_15 KJ11_20) (.lp :: PaL11_15) (ctxT Try.prog hint 11 0 73 (Ta11 KL11_5 KL11_15 KJ11_20) [] (List.reverse (.lp :: PaL11_15)) (bodyOf Try.f11) (resKV Try.prog Try.f11 (hint.own 11 0))) [(2, (.t (.list 1 groups2z groups2))), (6, (.ptr 8 0 0)), (8, (.ptr 9 0 0)), (44, (.t (.list 1 t44z t44))), (45, (.t (.int .i64 t45))), (46, (.t (.int .i64 t46)))] ⟨[(8, (.var [(.t (.int .i64 m8_0)), (.t (.int .i64 m8_1)), (.t (.list 1 m8_2z m8_2)), (.t (.list 1 m8_3z m8_3))])), (9, (.var [(.t (.int .i64 m9_0)), (.t (.int .i64 m9_1)), (.buf 10), (.buf 11)])), (10, (.arr true 1 m10z m10)), (11, (.arr true 1 m11z m11))], []⟩ (nav (List.reverse (.lp :: PaL11_15)) (bodyOf Try.f11)) = RL11_15 (fun groups2z groups2 t20z t20 t21 t22 m8_0 m8_1 m8_2z m8_2 m8_3z m8_3 m9_0 m9_1 m10z m10 m11z m11 => KL11_5 [(2, (.t (.list 1 groups2z groups2))), (6, (.ptr 8 0 0)), (8, (.ptr 9 0 0)), (20, (.t (.list 1 t20z t20))), (21, (.t (.int .i64 t21))), (22, (.t (.int .i64 t22)))] ⟨[(8, (.var [(.t (.int .i64 m8_0)), (.t (.int .i64 m8_1)), (.t (.list 1 m8_2z m8_2)), (.t (.list 1 m8_3z m8_3))])), (9, (.var [(.t (.int .i64 m9_0)), (.t (.int .i64 m9_1)), (.buf 10), (.buf 11)])), (10, (.arr true 1 m10z m10)), (11, (.arr true 1 m11z m11))], []⟩) (fun groups2z groups2 t44z t44 t45 t46 m8_0 m8_1 m8_2z m8_2 m8_3z m8_3 m9_0 m9_1 m10z m10 m11z m11 => KL11_15 [(2, (.t (.list 1 groups2z groups2))), (6, (.ptr 8 0 0)), (8, (.ptr 9 0 0)), (44, (.t (.list 1 t44z t44))), (45, (.t (.int .i64 t45))), (46, (.t (.int .i64 t46)))] ⟨[(8, (.var [(.t (.int .i64 m8_0)), (.t (.int .i64 m8_1)), (.t (.list 1 m8_2z m8_2)), (.t (.list 1 m8_3z m8_3))])), (9, (.var [(.t (.int .i64 m9_0)), (.t (.int .i64 m9_1)), (.buf 10), (.buf 11)])), (10, (.arr true 1 m10z m10)), (11, (.arr true 1 m11z m11))], []⟩) (fun groups2z groups2 m8_0 m8_1 m8_2z m8_2 m8_3z m8_3 m9_0 m9_1 m10z m10 m11z m11 => KJ11_20 [(2, (.t (.list 1 groups2z groups2))), (6, (.ptr 8 0 0)), (8, (.ptr 9 0 0))] ⟨[(8, (.var [(.t (.int .i64 m8_0)), (.t (.int .i64 m8_1)), (.t (.list 1 m8_2z m8_2)), (.t (.list 1 m8_3z m8_3))])), (9, (.var [(.t (.int .i64 m9_0)), (.t (.int .i64 m9_1)), (.buf 10), (.buf 11)])), (10, (.arr true 1 m10z m10)), (11, (.arr true 1 m11z m11))], []⟩) groups2z groups2 t44z t44 t45 t46 m8_0 m8_1 m8_2z m8_2 m8_3z m8_3 m9_0 m9_1 m10z m10 m11z m11 := by kernel_rfl
theorem L11_15_eq (groups2z : Bool) (groups2 : List T) (t44z : Bool) (t44 : List T) (t45 : Int) (t46 : Int) (m8_0 : Int) (m8_1 : Int) (m8_2z : Bool) (m8_2 : List T) (m8_3z : Bool) (m8_3 : List T) (m9_0 : Int) (m9_1 : Int) (m10z : Bool) (m10 : List T) (m11z : Bool) (m11 : List T) : L11_15 groups2z groups2 t44z t44 t45 t46 m8_0 m8_1 m8_2z m8_2 m8_3z m8_3 m9_0 m9_1 m10z m10 m11z m11 = RL11_15 L11_5 L11_15 J11_20 groups2z groups2 t44z t44 t45 t46 m8_0 m8_1 m8_2z m8_2 m8_3z m8_3 m9_0 m9_1 m10z m10 m11z m11 :=
  (round_eq Try.prog hint (b := (nav (List.reverse (.lp :: PaL11_15)) (bodyOf Try.f11))) (fn := Try.f11) (nt := 73) (T := (Ta11 (fun e st => atV Try.prog hint 11 0 Try.f11 73 (List.reverse PaL11_5) e st) (fun e st => atV Try.prog hint 11 0 Try.f11 73 (List.reverse PaL11_15) e st) (fun e st => atV Try.prog hint 11 0 Try.f11 73 (List.reverse PaJ11_20) e st))) [PaL11_5, PaL11_15, PaJ11_20] rfl PaL11_15 [(2, (.t (.list 1 groups2z groups2))), (6, (.ptr 8 0 0)), (8, (.ptr 9 0 0)), (44, (.t (.list 1 t44z t44))), (45, (.t (.int .i64 t45))), (46, (.t (.int .i64 t46)))] ⟨[(8, (.var [(.t (.int .i64 m8_0)), (.t (.int .i64 m8_1)), (.t (.list 1 m8_2z m8_2)), (.t (.list 1 m8_3z m8_3))])), (9, (.var [(.t (.int .i64 m9_0)), (.t (.int .i64 m9_1)), (.buf 10), (.buf 11)])), (10, (.arr true 1 m10z m10)), (11, (.arr true 1 m11z m11))], []⟩ rfl rfl rfl).trans (L11_15g (fun e st => atV Try.prog hint 11 0 Try.f11 73 (List.reverse PaL11_5) e st) (fun e st => atV Try.prog hint 11 0 Try.f11 73 (List.reverse PaL11_15) e st) (fun e st => atV Try.prog hint 11 0 Try.f11 73 (List.reverse PaJ11_20) e st) groups2z groups2 t44z t44 t45 t46 m8_0 m8_1 m8_2z m8_2 m8_3z m8_3 m9_0 m9_1 m10z m10 m11z m11)
end Go.Proofs.Ytejfkiohnoiagaa.VM
