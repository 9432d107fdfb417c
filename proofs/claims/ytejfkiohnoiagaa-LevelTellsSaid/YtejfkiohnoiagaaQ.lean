/- The equations of the functions, as the small evaluator gives them (printed by vgen.py). Conditions: none. -/
import Derived.Test.YtejfkiohnoiagaaVmD
import Derived.Test.YtejfkiohnoiagaaProg
set_option linter.all false
set_option linter.all false
namespace Go.Proofs.Ytejfkiohnoiagaa.VM
open Go AM
def normTab : List (Nat × Nat × List (Nat × Norm)) := [
  (43, 0, [(2, { slots := [(0, 0), (3, 0)], cells := [] })]),
  (33, 0, [(9, { slots := [(2, 0)], cells := [] }), (11, { slots := [(1, 0), (2, 0)], cells := [] })]),
  (44, 0, [(2, { slots := [(0, 0), (1, 0), (7, 0), (8, 0)], cells := [] })]),
  (36, 0, [(9, { slots := [(1, 0), (3, 0)], cells := [] }), (10, { slots := [(1, 0), (3, 0), (22, 0), (23, 0), (24, 0)], cells := [] }), (14, { slots := [(1, 0), (3, 0), (6, 0), (7, 0), (22, 0), (23, 0), (24, 0)], cells := [] })]),
  (10, 0, [(9, { slots := [(0, 0), (2, 1), (6, 0), (8, 0)], cells := [(8, 2, 3), (8, 3, 3)] }), (10, { slots := [(0, 0), (2, 0), (6, 0), (8, 0), (30, 0), (31, 0), (32, 0)], cells := [] })]),
  (16, 0, [(4, { slots := [(0, 0), (1, 0), (12, 0), (13, 0)], cells := [] })]),
  (31, 0, [(7, { slots := [(1, 0), (2, 0)], cells := [] })]),
  (15, 0, [(7, { slots := [(3, 0), (9, 0), (10, 0), (11, 0), (12, 0)], cells := [] }), (12, { slots := [(3, 0), (9, 0), (10, 0), (11, 0), (12, 0), (13, 0)], cells := [] })]),
  (37, 0, [(3, { slots := [(0, 0), (1, 0), (6, 0), (7, 0), (8, 0)], cells := [] })]),
  (20, 0, [(8, { slots := [(12, 0), (14, 0), (15, 0)], cells := [] })]),
  (6, 0, [(10, { slots := [(1, 0), (2, 0), (3, 0), (7, 0), (10, 0), (56, 0), (57, 0), (58, 0)], cells := [] }), (16, { slots := [(1, 0), (2, 0), (3, 0), (7, 0), (10, 0), (13, 0), (14, 0)], cells := [] })]),
  (42, 0, [(14, { slots := [(2, 0), (75, 0), (76, 0)], cells := [] })]),
  (28, 0, [(9, { slots := [(1, 0), (2, 0), (43, 0), (44, 0), (45, 0)], cells := [] }), (17, { slots := [(2, 0), (65, 0), (66, 0)], cells := [] }), (20, { slots := [(2, 0), (8, 0), (9, 0), (65, 0), (66, 0)], cells := [] })]),
  (41, 0, [(3, { slots := [(1, 0), (2, 0), (5, 4), (7, 0)], cells := [] }), (8, { slots := [(1, 0), (2, 0), (5, 4), (37, 0), (38, 0)], cells := [] })]),
  (25, 0, [(5, { slots := [(3, 0), (25, 0), (26, 0), (27, 0)], cells := [] })]),
  (38, 0, [(3, { slots := [(0, 0), (1, 0), (2, 0), (8, 0), (9, 0), (10, 0)], cells := [] })]),
  (26, 0, [(11, { slots := [(2, 0), (3, 0), (10, 0)], cells := [] })]),
  (27, 0, [(4, { slots := [(0, 0), (1, 0), (12, 0), (13, 0)], cells := [] })]),
  (32, 0, [(4, { slots := [(0, 0), (1, 0), (12, 0), (13, 0)], cells := [] })])]
def callTab : List (Nat × Nat × List (Nat × Nat × CallH)) := [
  (19, 0, [(5, 3, { w := 0, own := [], pre := [], out := (.one (.t (.one .bool))), blks := [(0, (.var [(.t (.int .i64)), (.t (.int .i64)), (.t (.list 1)), (.t (.list 1))]))] })]),
  (34, 0, [(1, 2, { w := 0, own := [], pre := [], out := (.one (.t (.one (.int .i64)))), blks := [(0, (.var [(.t (.int .i64)), (.t (.int .i64)), (.t (.list 1)), (.t (.list 1))]))] })]),
  (44, 0, [(4, 5, { w := 0, own := [], pre := [], out := (.one (.t (.one .bool))), blks := [(0, (.var [(.t (.int .i64)), (.t (.int .i64)), (.t (.list 1)), (.t (.list 1))]))] })])]
def unrollTab : List (Nat × Nat × Nat) := []
def ownTab : List (Nat × Nat × List Nat) := []
def eqtTab : List (Nat × List Value) := [(39, [.int .i64 0, .int .i64 0]), (56, [.int .i64 0, .int .i64 0])]
def ovSet : List Nat := []
def hint : Hint := mkHint eqtTab normTab callTab ownTab unrollTab ovSet
noncomputable def vr (f w : Nat) (args : List V) (st : St) : Option (V × St) := vrun Try.prog hint f w args st
def PaL43_2 : List Stp := [.blk, .snd, .fst, .snd]
def Ta43 (KL43_2 : Env → St → Option Res) : Tab := [(PaL43_2, KL43_2)]
/-- slices.IsSorted[[]int,int], region 2. -/
noncomputable def L43_2 (x0z : Bool) (x0 : List T) (i3 : Int) : Option (V × St) := atV Try.prog hint 43 0 Try.f43 21 (List.reverse PaL43_2) [(0, (.t (.list 1 x0z x0))), (3, (.t (.int .i64 i3)))] ⟨[], []⟩
def PaJ33_9 : List Stp := [.snd, .blk, .fst, .blk, .fst, .blk, .snd, .fst, .snd]
def PaJ33_11 : List Stp := [.snd, .blk, .snd, .fst, .snd]
def Ta33 (KJ33_9 KJ33_11 : Env → St → Option Res) : Tab := [(PaJ33_9, KJ33_9), (PaJ33_11, KJ33_11)]
/-- purfle/level.formed, region 9. -/
noncomputable def J33_9 (m8_0 : Int) (m8_1 : Int) (m8_2z : Bool) (m8_2 : List T) (m8_3z : Bool) (m8_3 : List T) : Option (V × St) := atV Try.prog hint 33 0 Try.f33 69 (List.reverse PaJ33_9) [(2, (.ptr 8 0 0))] ⟨[(8, (.var [(.t (.int .i64 m8_0)), (.t (.int .i64 m8_1)), (.t (.list 1 m8_2z m8_2)), (.t (.list 1 m8_3z m8_3))]))], []⟩
/-- purfle/level.formed, region 11. -/
noncomputable def J33_11 (ahead1 : Int) (m8_0 : Int) (m8_1 : Int) (m8_2z : Bool) (m8_2 : List T) (m8_3z : Bool) (m8_3 : List T) : Option (V × St) := atV Try.prog hint 33 0 Try.f33 69 (List.reverse PaJ33_11) [(1, (.t (.int .i64 ahead1))), (2, (.ptr 8 0 0))] ⟨[(8, (.var [(.t (.int .i64 m8_0)), (.t (.int .i64 m8_1)), (.t (.list 1 m8_2z m8_2)), (.t (.list 1 m8_3z m8_3))]))], []⟩
def PaL44_2 : List Stp := [.blk, .snd, .fst, .snd]
def Ta44 (KL44_2 : Env → St → Option Res) : Tab := [(PaL44_2, KL44_2)]
/-- slices.IndexFunc[[]int,int], region 2. -/
noncomputable def L44_2 (s0z : Bool) (s0 : List T) (t7 : Int) (t8 : Int) (m0_0 : Int) (m0_1 : Int) (m0_2z : Bool) (m0_2 : List T) (m0_3z : Bool) (m0_3 : List T) : Option (V × St) := atV Try.prog hint 44 0 Try.f44 19 (List.reverse PaL44_2) [(0, (.t (.list 1 s0z s0))), (1, (.fn 35 [] [(.ptr 0 0 0)])), (7, (.t (.int .i64 t7))), (8, (.t (.int .i64 t8)))] ⟨[(0, (.var [(.t (.int .i64 m0_0)), (.t (.int .i64 m0_1)), (.t (.list 1 m0_2z m0_2)), (.t (.list 1 m0_3z m0_3))]))], []⟩
def PaJ36_9 : List Stp := [.snd, .snd, .snd]
def PaL36_10 : List Stp := [.blk, .snd, .fst, .snd, .snd, .snd]
def PaL36_14 : List Stp := [.blk, .snd, .snd, .snd, .blk, .fst, .snd, .snd, .lp, .blk, .snd, .fst, .snd, .snd, .snd]
def Ta36 (KJ36_9 KL36_10 KL36_14 : Env → St → Option Res) : Tab := [(PaJ36_9, KJ36_9), (PaL36_10, KL36_10), (PaL36_14, KL36_14)]
/-- purfle/level.rising, region 9. -/
noncomputable def J36_9 (least3 : Int) (m8_0 : Int) (m8_1 : Int) (m8_2z : Bool) (m8_2 : List T) (m8_3z : Bool) (m8_3 : List T) : Option (V × St) := atV Try.prog hint 36 0 Try.f36 58 (List.reverse PaJ36_9) [(1, (.ptr 8 0 0)), (3, (.t (.int .i64 least3)))] ⟨[(8, (.var [(.t (.int .i64 m8_0)), (.t (.int .i64 m8_1)), (.t (.list 1 m8_2z m8_2)), (.t (.list 1 m8_3z m8_3))]))], []⟩
/-- purfle/level.rising, region 10. -/
noncomputable def L36_10 (least3 : Int) (t22z : Bool) (t22 : List T) (t23 : Int) (t24 : Int) (m8_0 : Int) (m8_1 : Int) (m8_2z : Bool) (m8_2 : List T) (m8_3z : Bool) (m8_3 : List T) : Option (V × St) := atV Try.prog hint 36 0 Try.f36 58 (List.reverse PaL36_10) [(1, (.ptr 8 0 0)), (3, (.t (.int .i64 least3))), (22, (.t (.list 1 t22z t22))), (23, (.t (.int .i64 t23))), (24, (.t (.int .i64 t24)))] ⟨[(8, (.var [(.t (.int .i64 m8_0)), (.t (.int .i64 m8_1)), (.t (.list 1 m8_2z m8_2)), (.t (.list 1 m8_3z m8_3))]))], []⟩
/-- purfle/level.rising, region 14. -/
noncomputable def L36_14 (least3 : Int) (part6z : Bool) (part6 : List T) (i7 : Int) (t22z : Bool) (t22 : List T) (t23 : Int) (t24 : Int) (m8_0 : Int) (m8_1 : Int) (m8_2z : Bool) (m8_2 : List T) (m8_3z : Bool) (m8_3 : List T) : Option (V × St) := atV Try.prog hint 36 0 Try.f36 58 (List.reverse PaL36_14) [(1, (.ptr 8 0 0)), (3, (.t (.int .i64 least3))), (6, (.t (.list 1 part6z part6))), (7, (.t (.int .i64 i7))), (22, (.t (.list 1 t22z t22))), (23, (.t (.int .i64 t23))), (24, (.t (.int .i64 t24)))] ⟨[(8, (.var [(.t (.int .i64 m8_0)), (.t (.int .i64 m8_1)), (.t (.list 1 m8_2z m8_2)), (.t (.list 1 m8_3z m8_3))]))], []⟩
def PaJ10_9 : List Stp := [.snd, .snd, .snd]
def PaL10_10 : List Stp := [.blk, .snd, .fst, .snd, .snd, .snd]
def Ta10 (KJ10_9 KL10_10 : Env → St → Option Res) : Tab := [(PaJ10_9, KJ10_9), (PaL10_10, KL10_10)]
/-- purfle/level.Make, region 9. -/
noncomputable def J10_9 (kind0 : Int) (groups2z : Bool) (groups2 : List T) (m8_0 : Int) (m8_1 : Int) (m8_2z : Bool) (m8_2 : List T) (m8_3z : Bool) (m8_3 : List T) (m9_0 : Int) (m9_1 : Int) (m10z : Bool) (m10 : List T) (m11z : Bool) (m11 : List T) : Option (V × St) := atV Try.prog hint 10 0 Try.f10 70 (List.reverse PaJ10_9) [(0, (.t (.int .i64 kind0))), (2, (.t (.list 1 groups2z groups2))), (6, (.ptr 8 0 0)), (8, (.ptr 9 0 0))] ⟨[(8, (.var [(.t (.int .i64 m8_0)), (.t (.int .i64 m8_1)), (.t (.list 1 m8_2z m8_2)), (.t (.list 1 m8_3z m8_3))])), (9, (.var [(.t (.int .i64 m9_0)), (.t (.int .i64 m9_1)), (.buf 10), (.buf 11)])), (10, (.arr true 1 m10z m10)), (11, (.arr true 1 m11z m11))], []⟩
/-- purfle/level.Make, region 10. -/
noncomputable def L10_10 (kind0 : Int) (groups2z : Bool) (groups2 : List T) (t30z : Bool) (t30 : List T) (t31 : Int) (t32 : Int) (m8_0 : Int) (m8_1 : Int) (m8_2z : Bool) (m8_2 : List T) (m8_3z : Bool) (m8_3 : List T) (m9_0 : Int) (m9_1 : Int) (m10z : Bool) (m10 : List T) (m11z : Bool) (m11 : List T) : Option (V × St) := atV Try.prog hint 10 0 Try.f10 70 (List.reverse PaL10_10) [(0, (.t (.int .i64 kind0))), (2, (.t (.list 1 groups2z groups2))), (6, (.ptr 8 0 0)), (8, (.ptr 9 0 0)), (30, (.t (.list 1 t30z t30))), (31, (.t (.int .i64 t31))), (32, (.t (.int .i64 t32)))] ⟨[(8, (.var [(.t (.int .i64 m8_0)), (.t (.int .i64 m8_1)), (.t (.list 1 m8_2z m8_2)), (.t (.list 1 m8_3z m8_3))])), (9, (.var [(.t (.int .i64 m9_0)), (.t (.int .i64 m9_1)), (.buf 10), (.buf 11)])), (10, (.arr true 1 m10z m10)), (11, (.arr true 1 m11z m11))], []⟩
def PaL16_4 : List Stp := [.blk, .snd, .fst, .snd, .snd]
def Ta16 (KL16_4 : Env → St → Option Res) : Tab := [(PaL16_4, KL16_4)]
/-- purfle/purfleref01.Equal, region 4. -/
noncomputable def L16_4 (a0z : Bool) (a0 : List T) (b1z : Bool) (b1 : List T) (t12 : Int) (t13 : Int) : Option (V × St) := atV Try.prog hint 16 0 Try.f16 26 (List.reverse PaL16_4) [(0, (.t (.list 1 a0z a0))), (1, (.t (.list 1 b1z b1))), (12, (.t (.int .i64 t12))), (13, (.t (.int .i64 t13)))] ⟨[], []⟩
def PaJ31_7 : List Stp := [.snd, .snd]
def Ta31 (KJ31_7 : Env → St → Option Res) : Tab := [(PaJ31_7, KJ31_7)]
/-- purfle/level.segment, region 7. -/
noncomputable def J31_7 (p1 : Int) (m8_0 : Int) (m8_1 : Int) (m8_2z : Bool) (m8_2 : List T) (m8_3z : Bool) (m8_3 : List T) : Option (V × St) := atV Try.prog hint 31 0 Try.f31 36 (List.reverse PaJ31_7) [(1, (.t (.int .i64 p1))), (2, (.ptr 8 0 0))] ⟨[(8, (.var [(.t (.int .i64 m8_0)), (.t (.int .i64 m8_1)), (.t (.list 1 m8_2z m8_2)), (.t (.list 1 m8_3z m8_3))]))], []⟩
def PaL15_7 : List Stp := [.blk, .snd, .fst, .snd, .snd, .snd, .snd]
def PaJ15_12 : List Stp := [.snd, .snd, .blk, .fst, .snd, .lp, .blk, .snd, .fst, .snd, .snd, .snd, .snd]
def Ta15 (KL15_7 KJ15_12 : Env → St → Option Res) : Tab := [(PaL15_7, KL15_7), (PaJ15_12, KJ15_12)]
/-- purfle/level.Children, region 7. -/
noncomputable def L15_7 (from9 : Int) (to10 : Int) (n12 : Int) (m8_0 : Int) (m8_1 : Int) (m8_2z : Bool) (m8_2 : List T) (m8_3z : Bool) (m8_3 : List T) (m9z : Bool) (m9 : List T) : Option (V × St) := atV Try.prog hint 15 0 Try.f15 55 (List.reverse PaL15_7) [(3, (.ptr 8 0 0)), (9, (.t (.int .i64 from9))), (10, (.t (.int .i64 to10))), (11, (.buf 9)), (12, (.t (.int .i64 n12)))] ⟨[(8, (.var [(.t (.int .i64 m8_0)), (.t (.int .i64 m8_1)), (.t (.list 1 m8_2z m8_2)), (.t (.list 1 m8_3z m8_3))])), (9, (.arr true 2 m9z m9))], []⟩
/-- purfle/level.Children, region 12. -/
noncomputable def J15_12 (from9 : Int) (to10 : Int) (n12 : Int) (at13 : Int) (m8_0 : Int) (m8_1 : Int) (m8_2z : Bool) (m8_2 : List T) (m8_3z : Bool) (m8_3 : List T) (m9z : Bool) (m9 : List T) : Option (V × St) := atV Try.prog hint 15 0 Try.f15 55 (List.reverse PaJ15_12) [(3, (.ptr 8 0 0)), (9, (.t (.int .i64 from9))), (10, (.t (.int .i64 to10))), (11, (.buf 9)), (12, (.t (.int .i64 n12))), (13, (.t (.int .i64 at13)))] ⟨[(8, (.var [(.t (.int .i64 m8_0)), (.t (.int .i64 m8_1)), (.t (.list 1 m8_2z m8_2)), (.t (.list 1 m8_3z m8_3))])), (9, (.arr true 2 m9z m9))], []⟩
def PaL37_3 : List Stp := [.blk, .fst, .snd, .snd, .snd]
def Ta37 (KL37_3 : Env → St → Option Res) : Tab := [(PaL37_3, KL37_3)]
/-- slices.BinarySearch[[]int,int], region 3. -/
noncomputable def L37_3 (x0z : Bool) (x0 : List T) (target1 : Int) (n6 : Int) (i7 : Int) (j8 : Int) : Option (V × St) := atV Try.prog hint 37 0 Try.f37 54 (List.reverse PaL37_3) [(0, (.t (.list 1 x0z x0))), (1, (.t (.int .i64 target1))), (6, (.t (.int .i64 n6))), (7, (.t (.int .i64 i7))), (8, (.t (.int .i64 j8)))] ⟨[], []⟩
def PaJ20_8 : List Stp := [.snd, .snd, .snd, .snd, .snd]
def Ta20 (KJ20_8 : Env → St → Option Res) : Tab := [(PaJ20_8, KJ20_8)]
/-- purfle/level.Find, region 8. -/
noncomputable def J20_8 (from12 : Int) (i14 : Int) (is15 : Bool) : Option (V × St) := atV Try.prog hint 20 0 Try.f20 56 (List.reverse PaJ20_8) [(12, (.t (.int .i64 from12))), (14, (.t (.int .i64 i14))), (15, (.t (.bool is15)))] ⟨[], []⟩
def PaL6_10 : List Stp := [.blk, .snd, .fst, .snd, .snd, .snd, .snd, .snd, .snd, .snd]
def PaL6_16 : List Stp := [.blk, .snd, .fst, .snd, .snd, .snd, .snd, .snd, .snd, .snd, .snd, .snd]
def Ta6 (KL6_10 KL6_16 : Env → St → Option Res) : Tab := [(PaL6_10, KL6_10), (PaL6_16, KL6_16)]
/-- purfle/purflelaw04.LevelPlaces, region 10. -/
noncomputable def L6_10 (ahead1 : Int) (p2 : Int) (up7 : Bool) (t56z : Bool) (t56 : List T) (t57 : Int) (t58 : Int) (m8_0 : Int) (m8_1 : Int) (m8_2z : Bool) (m8_2 : List T) (m8_3z : Bool) (m8_3 : List T) (m9 : List (T × T)) : Option (V × St) := atV Try.prog hint 6 0 Try.f6 100 (List.reverse PaL6_10) [(1, (.t (.int .i64 ahead1))), (2, (.t (.int .i64 p2))), (3, (.ptr 8 0 0)), (7, (.t (.bool up7))), (10, (.map 9)), (56, (.t (.list 2 t56z t56))), (57, (.t (.int .i64 t57))), (58, (.t (.int .i64 t58)))] ⟨[(8, (.var [(.t (.int .i64 m8_0)), (.t (.int .i64 m8_1)), (.t (.list 1 m8_2z m8_2)), (.t (.list 1 m8_3z m8_3))])), (9, (.map m9))], []⟩
/-- purfle/purflelaw04.LevelPlaces, region 16. -/
noncomputable def L6_16 (ahead1 : Int) (p2 : Int) (up7 : Bool) (many13 : Int) (at14 : Int) (m8_0 : Int) (m8_1 : Int) (m8_2z : Bool) (m8_2 : List T) (m8_3z : Bool) (m8_3 : List T) (m9 : List (T × T)) : Option (V × St) := atV Try.prog hint 6 0 Try.f6 100 (List.reverse PaL6_16) [(1, (.t (.int .i64 ahead1))), (2, (.t (.int .i64 p2))), (3, (.ptr 8 0 0)), (7, (.t (.bool up7))), (10, (.map 9)), (13, (.t (.int .i64 many13))), (14, (.t (.int .i64 at14)))] ⟨[(8, (.var [(.t (.int .i64 m8_0)), (.t (.int .i64 m8_1)), (.t (.list 1 m8_2z m8_2)), (.t (.list 1 m8_3z m8_3))])), (9, (.map m9))], []⟩
def PaL42_14 : List Stp := [.blk, .snd, .fst, .snd, .snd, .snd]
def Ta42 (KL42_14 : Env → St → Option Res) : Tab := [(PaL42_14, KL42_14)]
/-- purfle/purfleref04.form, region 14. -/
noncomputable def L42_14 (t75 : Int) (t76 : Int) (m8_0 : Int) (m8_1 : Int) (m8_2z : Bool) (m8_2 : List T) (m8_3z : Bool) (m8_3 : List T) : Option (V × St) := atV Try.prog hint 42 0 Try.f42 92 (List.reverse PaL42_14) [(2, (.ptr 8 0 0)), (75, (.t (.int .i64 t75))), (76, (.t (.int .i64 t76)))] ⟨[(8, (.var [(.t (.int .i64 m8_0)), (.t (.int .i64 m8_1)), (.t (.list 1 m8_2z m8_2)), (.t (.list 1 m8_3z m8_3))]))], []⟩
def PaL28_9 : List Stp := [.blk, .snd, .fst, .snd, .snd, .snd, .snd]
def PaL28_17 : List Stp := [.blk, .snd, .fst, .snd, .snd, .snd, .snd, .snd, .snd]
def PaL28_20 : List Stp := [.blk, .snd, .snd, .blk, .fst, .snd, .snd, .lp, .blk, .snd, .fst, .snd, .snd, .snd, .snd, .snd, .snd]
def Ta28 (KL28_9 KL28_17 KL28_20 : Env → St → Option Res) : Tab := [(PaL28_9, KL28_9), (PaL28_17, KL28_17), (PaL28_20, KL28_20)]
/-- purfle/purfleref04.Check, region 9. -/
noncomputable def L28_9 (ahead1 : Int) (t43z : Bool) (t43 : List T) (t44 : Int) (t45 : Int) (m8_0 : Int) (m8_1 : Int) (m8_2z : Bool) (m8_2 : List T) (m8_3z : Bool) (m8_3 : List T) : Option (V × St) := atV Try.prog hint 28 0 Try.f28 117 (List.reverse PaL28_9) [(1, (.t (.int .i64 ahead1))), (2, (.ptr 8 0 0)), (43, (.t (.list 1 t43z t43))), (44, (.t (.int .i64 t44))), (45, (.t (.int .i64 t45)))] ⟨[(8, (.var [(.t (.int .i64 m8_0)), (.t (.int .i64 m8_1)), (.t (.list 1 m8_2z m8_2)), (.t (.list 1 m8_3z m8_3))]))], []⟩
/-- purfle/purfleref04.Check, region 17. -/
noncomputable def L28_17 (t65 : Int) (t66 : Int) (m8_0 : Int) (m8_1 : Int) (m8_2z : Bool) (m8_2 : List T) (m8_3z : Bool) (m8_3 : List T) : Option (V × St) := atV Try.prog hint 28 0 Try.f28 117 (List.reverse PaL28_17) [(2, (.ptr 8 0 0)), (65, (.t (.int .i64 t65))), (66, (.t (.int .i64 t66)))] ⟨[(8, (.var [(.t (.int .i64 m8_0)), (.t (.int .i64 m8_1)), (.t (.list 1 m8_2z m8_2)), (.t (.list 1 m8_3z m8_3))]))], []⟩
/-- purfle/purfleref04.Check, region 20. -/
noncomputable def L28_20 (p8 : Int) (n9 : Int) (t65 : Int) (t66 : Int) (m8_0 : Int) (m8_1 : Int) (m8_2z : Bool) (m8_2 : List T) (m8_3z : Bool) (m8_3 : List T) : Option (V × St) := atV Try.prog hint 28 0 Try.f28 117 (List.reverse PaL28_20) [(2, (.ptr 8 0 0)), (8, (.t (.int .i64 p8))), (9, (.t (.int .i64 n9))), (65, (.t (.int .i64 t65))), (66, (.t (.int .i64 t66)))] ⟨[(8, (.var [(.t (.int .i64 m8_0)), (.t (.int .i64 m8_1)), (.t (.list 1 m8_2z m8_2)), (.t (.list 1 m8_3z m8_3))]))], []⟩
def PaL41_8 : List Stp := [.blk, .snd, .yes, .snd, .blk, .fst, .snd, .snd]
def PaL41_3 : List Stp := [.blk, .snd, .no, .snd, .no, .snd, .blk, .fst, .snd, .snd]
def Ta41 (KL41_8 KL41_3 : Env → St → Option Res) : Tab := [(PaL41_8, KL41_8), (PaL41_3, KL41_3)]
/-- purfle/purfleref04.children, region 8. -/
noncomputable def L41_8 (p1 : Int) (t37 : Int) (t38 : Int) (m8_0 : Int) (m8_1 : Int) (m8_2z : Bool) (m8_2 : List T) (m8_3z : Bool) (m8_3 : List T) (m9z : Bool) (m9 : List T) : Option (V × St) := atV Try.prog hint 41 0 Try.f41 68 (List.reverse PaL41_8) [(1, (.t (.int .i64 p1))), (2, (.ptr 8 0 0)), (5, (.buf 9)), (37, (.t (.int .i64 t37))), (38, (.t (.int .i64 t38)))] ⟨[(8, (.var [(.t (.int .i64 m8_0)), (.t (.int .i64 m8_1)), (.t (.list 1 m8_2z m8_2)), (.t (.list 1 m8_3z m8_3))])), (9, (.arr true 2 m9z m9))], []⟩
/-- purfle/purfleref04.children, region 3. -/
noncomputable def L41_3 (p1 : Int) (n7 : Int) (m8_0 : Int) (m8_1 : Int) (m8_2z : Bool) (m8_2 : List T) (m8_3z : Bool) (m8_3 : List T) (m9z : Bool) (m9 : List T) : Option (V × St) := atV Try.prog hint 41 0 Try.f41 68 (List.reverse PaL41_3) [(1, (.t (.int .i64 p1))), (2, (.ptr 8 0 0)), (5, (.buf 9)), (7, (.t (.int .i64 n7)))] ⟨[(8, (.var [(.t (.int .i64 m8_0)), (.t (.int .i64 m8_1)), (.t (.list 1 m8_2z m8_2)), (.t (.list 1 m8_3z m8_3))])), (9, (.arr true 2 m9z m9))], []⟩
def PaL25_5 : List Stp := [.blk, .snd, .fst, .snd, .snd, .snd]
def Ta25 (KL25_5 : Env → St → Option Res) : Tab := [(PaL25_5, KL25_5)]
/-- purfle/purfleref04.Find, region 5. -/
noncomputable def L25_5 (at3 : Int) (t25z : Bool) (t25 : List T) (t26 : Int) (t27 : Int) : Option (V × St) := atV Try.prog hint 25 0 Try.f25 38 (List.reverse PaL25_5) [(3, (.t (.int .i64 at3))), (25, (.t (.list 2 t25z t25))), (26, (.t (.int .i64 t26))), (27, (.t (.int .i64 t27)))] ⟨[], []⟩
def PaL38_3 : List Stp := [.blk, .fst, .snd, .snd, .snd]
def Ta38 (KL38_3 : Env → St → Option Res) : Tab := [(PaL38_3, KL38_3)]
/-- slices.BinarySearchFunc[[]int,int,int], region 3. -/
noncomputable def L38_3 (x0z : Bool) (x0 : List T) (target1 : Int) (n8 : Int) (i9 : Int) (j10 : Int) : Option (V × St) := atV Try.prog hint 38 0 Try.f38 49 (List.reverse PaL38_3) [(0, (.t (.list 1 x0z x0))), (1, (.t (.int .i64 target1))), (2, (.fn 39 [] [])), (8, (.t (.int .i64 n8))), (9, (.t (.int .i64 i9))), (10, (.t (.int .i64 j10)))] ⟨[], []⟩
def PaL26_11 : List Stp := [.blk, .fst, .snd, .snd, .snd, .snd, .snd]
def Ta26 (KL26_11 : Env → St → Option Res) : Tab := [(PaL26_11, KL26_11)]
/-- purfle/purfleref04.Parent, region 11. -/
noncomputable def L26_11 (n2 : Int) (p10 : Int) (m8_0 : Int) (m8_1 : Int) (m8_2z : Bool) (m8_2 : List T) (m8_3z : Bool) (m8_3 : List T) : Option (V × St) := atV Try.prog hint 26 0 Try.f26 63 (List.reverse PaL26_11) [(2, (.t (.int .i64 n2))), (3, (.ptr 8 0 0)), (10, (.t (.int .i64 p10)))] ⟨[(8, (.var [(.t (.int .i64 m8_0)), (.t (.int .i64 m8_1)), (.t (.list 1 m8_2z m8_2)), (.t (.list 1 m8_3z m8_3))]))], []⟩
def PaL27_4 : List Stp := [.blk, .snd, .fst, .snd, .snd]
def Ta27 (KL27_4 : Env → St → Option Res) : Tab := [(PaL27_4, KL27_4)]
/-- purfle/purfleref04.SameChildren, region 4. -/
noncomputable def L27_4 (a0z : Bool) (a0 : List T) (b1z : Bool) (b1 : List T) (t12 : Int) (t13 : Int) : Option (V × St) := atV Try.prog hint 27 0 Try.f27 26 (List.reverse PaL27_4) [(0, (.t (.list 2 a0z a0))), (1, (.t (.list 2 b1z b1))), (12, (.t (.int .i64 t12))), (13, (.t (.int .i64 t13)))] ⟨[], []⟩
def PaL32_4 : List Stp := [.blk, .snd, .fst, .snd, .snd]
def Ta32 (KL32_4 : Env → St → Option Res) : Tab := [(PaL32_4, KL32_4)]
/-- slices.Equal[[]int,int], region 4. -/
noncomputable def L32_4 (s10z : Bool) (s10 : List T) (s21z : Bool) (s21 : List T) (t12 : Int) (t13 : Int) : Option (V × St) := atV Try.prog hint 32 0 Try.f32 26 (List.reverse PaL32_4) [(0, (.t (.list 1 s10z s10))), (1, (.t (.list 1 s21z s21))), (12, (.t (.int .i64 t12))), (13, (.t (.int .i64 t13)))] ⟨[], []⟩
noncomputable def R47  (a0 : Int) : Option Res :=
 some ((.t (.bool (!decide (a0 = a0)))), ⟨[], []⟩)
theorem eq47g  (a0 : Int) : codeT Try.prog hint 47 0 6 [] [] (resKV Try.prog Try.f47 (hint.own 47 0)) (nrm hint 47 0 (bodyOf Try.f47) (envV [(.t (.int .i64 a0))] 0) ⟨[], []⟩).1 (nrm hint 47 0 (bodyOf Try.f47) (envV [(.t (.int .i64 a0))] 0) ⟨[], []⟩).2 (bodyOf Try.f47) = R47  a0 := by kernel_rfl
/-- cmp.isNaN[int] -/
theorem eq47 (a0 : Int) : vr 47 0 [(.t (.int .i64 a0))] ⟨[], []⟩ = R47  a0 :=
  (call_eq Try.prog hint (fn := Try.f47) (nt := 6) (T := []) [] rfl [(.t (.int .i64 a0))] ⟨[], []⟩ rfl rfl rfl rfl rfl).trans (eq47g  a0)
noncomputable def R45  (a0 : Int) (a1 : Int) : Option Res :=
 callK (vr 47 0 [(.t (.int .i64 a0))] ⟨[], []⟩) fun v_1 b_2 =>
 asT v_1 fun x_3 =>
 asB x_3 fun b_4 =>
 endB b_2 <|
(bif b_4 then
 callK (vr 47 0 [(.t (.int .i64 a1))] ⟨[], []⟩) fun v_5 b_6 =>
 asT v_5 fun x_7 =>
 asB x_7 fun b_8 =>
 endB b_6 <|
(bif (!b_8) then
 some ((.t (.bool true)), ⟨[], []⟩)
else
 some ((.t (.bool (decide (a0 < a1)))), ⟨[], []⟩))
else
 some ((.t (.bool (decide (a0 < a1)))), ⟨[], []⟩))
theorem eq45g  (a0 : Int) (a1 : Int) : codeT Try.prog hint 45 0 17 [] [] (resKV Try.prog Try.f45 (hint.own 45 0)) (nrm hint 45 0 (bodyOf Try.f45) (envV [(.t (.int .i64 a0)), (.t (.int .i64 a1))] 0) ⟨[], []⟩).1 (nrm hint 45 0 (bodyOf Try.f45) (envV [(.t (.int .i64 a0)), (.t (.int .i64 a1))] 0) ⟨[], []⟩).2 (bodyOf Try.f45) = R45  a0 a1 := by kernel_rfl
/-- cmp.Less[int] -/
theorem eq45 (a0 : Int) (a1 : Int) : vr 45 0 [(.t (.int .i64 a0)), (.t (.int .i64 a1))] ⟨[], []⟩ = R45  a0 a1 :=
  (call_eq Try.prog hint (fn := Try.f45) (nt := 17) (T := []) [] rfl [(.t (.int .i64 a0)), (.t (.int .i64 a1))] ⟨[], []⟩ rfl rfl rfl rfl rfl).trans (eq45g  a0 a1)
noncomputable def R43 (L43_2 : Bool → (List T) → Int → Option Res) (a0z : Bool) (a0 : List T) : Option Res :=
 L43_2 (a0z) (a0) ((IntKind.i64.wrap ((a0.length : Int) - 1)))
theorem eq43g (KL43_2 : Env → St → Option Res) (a0z : Bool) (a0 : List T) : codeT Try.prog hint 43 0 21 (Ta43 KL43_2) [] (resKV Try.prog Try.f43 (hint.own 43 0)) (nrm hint 43 0 (bodyOf Try.f43) (envV [(.t (.list 1 a0z a0))] 0) ⟨[], []⟩).1 (nrm hint 43 0 (bodyOf Try.f43) (envV [(.t (.list 1 a0z a0))] 0) ⟨[], []⟩).2 (bodyOf Try.f43) = R43 (fun x0z x0 i3 => KL43_2 [(0, (.t (.list 1 x0z x0))), (3, (.t (.int .i64 i3)))] ⟨[], []⟩) a0z a0 := by kernel_rfl
/-- slices.IsSorted[[]int,int] -/
theorem eq43 (a0z : Bool) (a0 : List T) : vr 43 0 [(.t (.list 1 a0z a0))] ⟨[], []⟩ = R43 L43_2 a0z a0 :=
  (call_eq Try.prog hint (fn := Try.f43) (nt := 21) (T := (Ta43 (fun e st => atV Try.prog hint 43 0 Try.f43 21 (List.reverse PaL43_2) e st))) [PaL43_2] rfl [(.t (.list 1 a0z a0))] ⟨[], []⟩ rfl rfl rfl rfl rfl).trans (eq43g (fun e st => atV Try.prog hint 43 0 Try.f43 21 (List.reverse PaL43_2) e st) a0z a0)
noncomputable def RL43_2 (L43_2 : Bool → (List T) → Int → Option Res) (x0z : Bool) (x0 : List T) (i3 : Int) : Option Res :=
(bif (decide (0 < i3)) then
 needC (decide (0 ≤ i3)) fun _ =>
 getT x0 (i3).toNat fun e_1 =>
 asI .i64 e_1 fun x_2 =>
 needC (decide (0 ≤ (IntKind.i64.wrap (i3 - 1)))) fun _ =>
 getT x0 ((IntKind.i64.wrap (i3 - 1))).toNat fun e_3 =>
 asI .i64 e_3 fun x_4 =>
 callK (vr 45 0 [(.t (.int .i64 x_2)), (.t (.int .i64 x_4))] ⟨[], []⟩) fun v_5 b_6 =>
 asT v_5 fun x_7 =>
 asB x_7 fun b_8 =>
 endB b_6 <|
(bif b_8 then
 some ((.t (.bool false)), ⟨[], []⟩)
else
 L43_2 (x0z) (x0) ((IntKind.i64.wrap (i3 - 1))))
else
 some ((.t (.bool true)), ⟨[], []⟩))
theorem L43_2g (KL43_2 : Env → St → Option Res) (x0z : Bool) (x0 : List T) (i3 : Int) : codeT Try.prog hint 43 0 21 (Ta43 KL43_2) (.lp :: PaL43_2) (ctxT Try.prog hint 43 0 21 (Ta43 KL43_2) [] (List.reverse (.lp :: PaL43_2)) (bodyOf Try.f43) (resKV Try.prog Try.f43 (hint.own 43 0))) [(0, (.t (.list 1 x0z x0))), (3, (.t (.int .i64 i3)))] ⟨[], []⟩ (nav (List.reverse (.lp :: PaL43_2)) (bodyOf Try.f43)) = RL43_2 (fun x0z x0 i3 => KL43_2 [(0, (.t (.list 1 x0z x0))), (3, (.t (.int .i64 i3)))] ⟨[], []⟩) x0z x0 i3 := by kernel_rfl
theorem L43_2_eq (x0z : Bool) (x0 : List T) (i3 : Int) : L43_2 x0z x0 i3 = RL43_2 L43_2 x0z x0 i3 :=
  (round_eq Try.prog hint (b := (nav (List.reverse (.lp :: PaL43_2)) (bodyOf Try.f43))) (fn := Try.f43) (nt := 21) (T := (Ta43 (fun e st => atV Try.prog hint 43 0 Try.f43 21 (List.reverse PaL43_2) e st))) [PaL43_2] rfl PaL43_2 [(0, (.t (.list 1 x0z x0))), (3, (.t (.int .i64 i3)))] ⟨[], []⟩ rfl rfl rfl).trans (L43_2g (fun e st => atV Try.prog hint 43 0 Try.f43 21 (List.reverse PaL43_2) e st) x0z x0 i3)
noncomputable def R33 (J33_9 : Int → Int → Bool → (List T) → Bool → (List T) → Option Res) (J33_11 : Int → Int → Int → Bool → (List T) → Bool → (List T) → Option Res) (a0_0 : Int) (a0_1 : Int) (a0_2z : Bool) (a0_2 : List T) (a0_3z : Bool) (a0_3 : List T) (a1 : Int) : Option Res :=
(bif (decide (a0_0 = 4)) then
(bif (decide (a0_1 = 0)) then
 some ((.t (.bool false)), ⟨[], []⟩)
else
 J33_9 (a0_0) (a0_1) (a0_2z) (a0_2) (a0_3z) (a0_3))
else
(bif (decide (a0_0 = 0)) then
 J33_9 (a0_0) (a0_1) (a0_2z) (a0_2) (a0_3z) (a0_3)
else
(bif (decide (a0_0 = 3)) then
(bif (decide ((a0_2.length : Int) = 0)) then
 some ((.t (.bool (decide ((a0_3.length : Int) = a1)))), ⟨[], []⟩)
else
 some ((.t (.bool false)), ⟨[], []⟩))
else
(bif (decide (a0_0 = 1)) then
 J33_11 (a1) (a0_0) (a0_1) (a0_2z) (a0_2) (a0_3z) (a0_3)
else
(bif (decide (a0_0 = 2)) then
 J33_11 (a1) (a0_0) (a0_1) (a0_2z) (a0_2) (a0_3z) (a0_3)
else
 some ((.t (.bool false)), ⟨[], []⟩))))))
theorem eq33g (KJ33_9 KJ33_11 : Env → St → Option Res) (a0_0 : Int) (a0_1 : Int) (a0_2z : Bool) (a0_2 : List T) (a0_3z : Bool) (a0_3 : List T) (a1 : Int) : codeT Try.prog hint 33 0 69 (Ta33 KJ33_9 KJ33_11) [] (resKV Try.prog Try.f33 (hint.own 33 0)) (nrm hint 33 0 (bodyOf Try.f33) (envV [(.t (.agg [(.int .i64 a0_0), (.int .i64 a0_1), (.list 1 a0_2z a0_2), (.list 1 a0_3z a0_3)])), (.t (.int .i64 a1))] 0) ⟨[], []⟩).1 (nrm hint 33 0 (bodyOf Try.f33) (envV [(.t (.agg [(.int .i64 a0_0), (.int .i64 a0_1), (.list 1 a0_2z a0_2), (.list 1 a0_3z a0_3)])), (.t (.int .i64 a1))] 0) ⟨[], []⟩).2 (bodyOf Try.f33) = R33 (fun m8_0 m8_1 m8_2z m8_2 m8_3z m8_3 => KJ33_9 [(2, (.ptr 8 0 0))] ⟨[(8, (.var [(.t (.int .i64 m8_0)), (.t (.int .i64 m8_1)), (.t (.list 1 m8_2z m8_2)), (.t (.list 1 m8_3z m8_3))]))], []⟩) (fun ahead1 m8_0 m8_1 m8_2z m8_2 m8_3z m8_3 => KJ33_11 [(1, (.t (.int .i64 ahead1))), (2, (.ptr 8 0 0))] ⟨[(8, (.var [(.t (.int .i64 m8_0)), (.t (.int .i64 m8_1)), (.t (.list 1 m8_2z m8_2)), (.t (.list 1 m8_3z m8_3))]))], []⟩) a0_0 a0_1 a0_2z a0_2 a0_3z a0_3 a1 := by kernel_rfl
/-- purfle/level.formed -/
theorem eq33 (a0_0 : Int) (a0_1 : Int) (a0_2z : Bool) (a0_2 : List T) (a0_3z : Bool) (a0_3 : List T) (a1 : Int) : vr 33 0 [(.t (.agg [(.int .i64 a0_0), (.int .i64 a0_1), (.list 1 a0_2z a0_2), (.list 1 a0_3z a0_3)])), (.t (.int .i64 a1))] ⟨[], []⟩ = R33 J33_9 J33_11 a0_0 a0_1 a0_2z a0_2 a0_3z a0_3 a1 :=
  (call_eq Try.prog hint (fn := Try.f33) (nt := 69) (T := (Ta33 (fun e st => atV Try.prog hint 33 0 Try.f33 69 (List.reverse PaJ33_9) e st) (fun e st => atV Try.prog hint 33 0 Try.f33 69 (List.reverse PaJ33_11) e st))) [PaJ33_9, PaJ33_11] rfl [(.t (.agg [(.int .i64 a0_0), (.int .i64 a0_1), (.list 1 a0_2z a0_2), (.list 1 a0_3z a0_3)])), (.t (.int .i64 a1))] ⟨[], []⟩ rfl rfl rfl rfl rfl).trans (eq33g (fun e st => atV Try.prog hint 33 0 Try.f33 69 (List.reverse PaJ33_9) e st) (fun e st => atV Try.prog hint 33 0 Try.f33 69 (List.reverse PaJ33_11) e st) a0_0 a0_1 a0_2z a0_2 a0_3z a0_3 a1)
noncomputable def RJ33_9 (J33_9 : Int → Int → Bool → (List T) → Bool → (List T) → Option Res) (J33_11 : Int → Int → Int → Bool → (List T) → Bool → (List T) → Option Res) (m8_0 : Int) (m8_1 : Int) (m8_2z : Bool) (m8_2 : List T) (m8_3z : Bool) (m8_3 : List T) : Option Res :=
(bif (decide ((m8_2.length : Int) = 0)) then
 some ((.t (.bool (decide ((m8_3.length : Int) = 0)))), ⟨[], []⟩)
else
 some ((.t (.bool false)), ⟨[], []⟩))
theorem J33_9g (KJ33_9 KJ33_11 : Env → St → Option Res) (m8_0 : Int) (m8_1 : Int) (m8_2z : Bool) (m8_2 : List T) (m8_3z : Bool) (m8_3 : List T) : codeT Try.prog hint 33 0 69 (Ta33 KJ33_9 KJ33_11) PaJ33_9 (ctxT Try.prog hint 33 0 69 (Ta33 KJ33_9 KJ33_11) [] (List.reverse PaJ33_9) (bodyOf Try.f33) (resKV Try.prog Try.f33 (hint.own 33 0))) [(2, (.ptr 8 0 0))] ⟨[(8, (.var [(.t (.int .i64 m8_0)), (.t (.int .i64 m8_1)), (.t (.list 1 m8_2z m8_2)), (.t (.list 1 m8_3z m8_3))]))], []⟩ (nav (List.reverse PaJ33_9) (bodyOf Try.f33)) = RJ33_9 (fun m8_0 m8_1 m8_2z m8_2 m8_3z m8_3 => KJ33_9 [(2, (.ptr 8 0 0))] ⟨[(8, (.var [(.t (.int .i64 m8_0)), (.t (.int .i64 m8_1)), (.t (.list 1 m8_2z m8_2)), (.t (.list 1 m8_3z m8_3))]))], []⟩) (fun ahead1 m8_0 m8_1 m8_2z m8_2 m8_3z m8_3 => KJ33_11 [(1, (.t (.int .i64 ahead1))), (2, (.ptr 8 0 0))] ⟨[(8, (.var [(.t (.int .i64 m8_0)), (.t (.int .i64 m8_1)), (.t (.list 1 m8_2z m8_2)), (.t (.list 1 m8_3z m8_3))]))], []⟩) m8_0 m8_1 m8_2z m8_2 m8_3z m8_3 := by kernel_rfl
theorem J33_9_eq (m8_0 : Int) (m8_1 : Int) (m8_2z : Bool) (m8_2 : List T) (m8_3z : Bool) (m8_3 : List T) : J33_9 m8_0 m8_1 m8_2z m8_2 m8_3z m8_3 = RJ33_9 J33_9 J33_11 m8_0 m8_1 m8_2z m8_2 m8_3z m8_3 :=
  (join_eq Try.prog hint (fn := Try.f33) (nt := 69) (T := (Ta33 (fun e st => atV Try.prog hint 33 0 Try.f33 69 (List.reverse PaJ33_9) e st) (fun e st => atV Try.prog hint 33 0 Try.f33 69 (List.reverse PaJ33_11) e st))) [PaJ33_9, PaJ33_11] rfl PaJ33_9 [(2, (.ptr 8 0 0))] ⟨[(8, (.var [(.t (.int .i64 m8_0)), (.t (.int .i64 m8_1)), (.t (.list 1 m8_2z m8_2)), (.t (.list 1 m8_3z m8_3))]))], []⟩ rfl).trans (J33_9g (fun e st => atV Try.prog hint 33 0 Try.f33 69 (List.reverse PaJ33_9) e st) (fun e st => atV Try.prog hint 33 0 Try.f33 69 (List.reverse PaJ33_11) e st) m8_0 m8_1 m8_2z m8_2 m8_3z m8_3)
noncomputable def RJ33_11 (J33_9 : Int → Int → Bool → (List T) → Bool → (List T) → Option Res) (J33_11 : Int → Int → Int → Bool → (List T) → Bool → (List T) → Option Res) (ahead1 : Int) (m8_0 : Int) (m8_1 : Int) (m8_2z : Bool) (m8_2 : List T) (m8_3z : Bool) (m8_3 : List T) : Option Res :=
(bif (decide ((m8_2.length : Int) = (IntKind.i64.wrap (ahead1 + 1)))) then
 needC (decide (0 ≤ 0)) fun _ =>
 getT m8_2 ((0 : Int)).toNat fun e_1 =>
 asI .i64 e_1 fun x_2 =>
(bif (decide (x_2 = 0)) then
 needC (decide (0 ≤ ahead1)) fun _ =>
 getT m8_2 (ahead1).toNat fun e_3 =>
 asI .i64 e_3 fun x_4 =>
(bif (decide (x_4 = (m8_3.length : Int))) then
 callK (vr 43 0 [(.t (.list 1 m8_2z m8_2))] ⟨[], []⟩) fun v_5 b_6 =>
 asT v_5 fun x_7 =>
 asB x_7 fun b_8 =>
 endB b_6 <|
 some ((.t (.bool b_8)), ⟨[], []⟩)
else
 some ((.t (.bool false)), ⟨[], []⟩))
else
 some ((.t (.bool false)), ⟨[], []⟩))
else
 some ((.t (.bool false)), ⟨[], []⟩))
theorem J33_11g (KJ33_9 KJ33_11 : Env → St → Option Res) (ahead1 : Int) (m8_0 : Int) (m8_1 : Int) (m8_2z : Bool) (m8_2 : List T) (m8_3z : Bool) (m8_3 : List T) : codeT Try.prog hint 33 0 69 (Ta33 KJ33_9 KJ33_11) PaJ33_11 (ctxT Try.prog hint 33 0 69 (Ta33 KJ33_9 KJ33_11) [] (List.reverse PaJ33_11) (bodyOf Try.f33) (resKV Try.prog Try.f33 (hint.own 33 0))) [(1, (.t (.int .i64 ahead1))), (2, (.ptr 8 0 0))] ⟨[(8, (.var [(.t (.int .i64 m8_0)), (.t (.int .i64 m8_1)), (.t (.list 1 m8_2z m8_2)), (.t (.list 1 m8_3z m8_3))]))], []⟩ (nav (List.reverse PaJ33_11) (bodyOf Try.f33)) = RJ33_11 (fun m8_0 m8_1 m8_2z m8_2 m8_3z m8_3 => KJ33_9 [(2, (.ptr 8 0 0))] ⟨[(8, (.var [(.t (.int .i64 m8_0)), (.t (.int .i64 m8_1)), (.t (.list 1 m8_2z m8_2)), (.t (.list 1 m8_3z m8_3))]))], []⟩) (fun ahead1 m8_0 m8_1 m8_2z m8_2 m8_3z m8_3 => KJ33_11 [(1, (.t (.int .i64 ahead1))), (2, (.ptr 8 0 0))] ⟨[(8, (.var [(.t (.int .i64 m8_0)), (.t (.int .i64 m8_1)), (.t (.list 1 m8_2z m8_2)), (.t (.list 1 m8_3z m8_3))]))], []⟩) ahead1 m8_0 m8_1 m8_2z m8_2 m8_3z m8_3 := by kernel_rfl
theorem J33_11_eq (ahead1 : Int) (m8_0 : Int) (m8_1 : Int) (m8_2z : Bool) (m8_2 : List T) (m8_3z : Bool) (m8_3 : List T) : J33_11 ahead1 m8_0 m8_1 m8_2z m8_2 m8_3z m8_3 = RJ33_11 J33_9 J33_11 ahead1 m8_0 m8_1 m8_2z m8_2 m8_3z m8_3 :=
  (join_eq Try.prog hint (fn := Try.f33) (nt := 69) (T := (Ta33 (fun e st => atV Try.prog hint 33 0 Try.f33 69 (List.reverse PaJ33_9) e st) (fun e st => atV Try.prog hint 33 0 Try.f33 69 (List.reverse PaJ33_11) e st))) [PaJ33_9, PaJ33_11] rfl PaJ33_11 [(1, (.t (.int .i64 ahead1))), (2, (.ptr 8 0 0))] ⟨[(8, (.var [(.t (.int .i64 m8_0)), (.t (.int .i64 m8_1)), (.t (.list 1 m8_2z m8_2)), (.t (.list 1 m8_3z m8_3))]))], []⟩ rfl).trans (J33_11g (fun e st => atV Try.prog hint 33 0 Try.f33 69 (List.reverse PaJ33_9) e st) (fun e st => atV Try.prog hint 33 0 Try.f33 69 (List.reverse PaJ33_11) e st) ahead1 m8_0 m8_1 m8_2z m8_2 m8_3z m8_3)
noncomputable def R14  (a0_0 : Int) (a0_1 : Int) (a0_2z : Bool) (a0_2 : List T) (a0_3z : Bool) (a0_3 : List T) : Option Res :=
(bif (decide (a0_0 = 0)) then
 some ((.t (.bool true)), ⟨[], []⟩)
else
 some ((.t (.bool (decide (a0_0 = 4)))), ⟨[], []⟩))
theorem eq14g  (a0_0 : Int) (a0_1 : Int) (a0_2z : Bool) (a0_2 : List T) (a0_3z : Bool) (a0_3 : List T) : codeT Try.prog hint 14 0 11 [] [] (resKV Try.prog Try.f14 (hint.own 14 0)) (nrm hint 14 0 (bodyOf Try.f14) (envV [(.t (.agg [(.int .i64 a0_0), (.int .i64 a0_1), (.list 1 a0_2z a0_2), (.list 1 a0_3z a0_3)]))] 0) ⟨[], []⟩).1 (nrm hint 14 0 (bodyOf Try.f14) (envV [(.t (.agg [(.int .i64 a0_0), (.int .i64 a0_1), (.list 1 a0_2z a0_2), (.list 1 a0_3z a0_3)]))] 0) ⟨[], []⟩).2 (bodyOf Try.f14) = R14  a0_0 a0_1 a0_2z a0_2 a0_3z a0_3 := by kernel_rfl
/-- purfle/level.Whole -/
theorem eq14 (a0_0 : Int) (a0_1 : Int) (a0_2z : Bool) (a0_2 : List T) (a0_3z : Bool) (a0_3 : List T) : vr 14 0 [(.t (.agg [(.int .i64 a0_0), (.int .i64 a0_1), (.list 1 a0_2z a0_2), (.list 1 a0_3z a0_3)]))] ⟨[], []⟩ = R14  a0_0 a0_1 a0_2z a0_2 a0_3z a0_3 :=
  (call_eq Try.prog hint (fn := Try.f14) (nt := 11) (T := []) [] rfl [(.t (.agg [(.int .i64 a0_0), (.int .i64 a0_1), (.list 1 a0_2z a0_2), (.list 1 a0_3z a0_3)]))] ⟨[], []⟩ rfl rfl rfl rfl rfl).trans (eq14g  a0_0 a0_1 a0_2z a0_2 a0_3z a0_3)
noncomputable def R29  (a0_0 : Int) (a0_1 : Int) (a0_2z : Bool) (a0_2 : List T) (a0_3z : Bool) (a0_3 : List T) (a1 : Int) : Option Res :=
 callK (vr 14 0 [(.t (.agg [(.int .i64 a0_0), (.int .i64 a0_1), (.list 1 a0_2z a0_2), (.list 1 a0_3z a0_3)]))] ⟨[], []⟩) fun v_1 b_2 =>
 asT v_1 fun x_3 =>
 asB x_3 fun b_4 =>
 endB b_2 <|
(bif b_4 then
 some ((.t (.int .i64 (IntKind.i64.wrap (a1 * a0_1)))), ⟨[], []⟩)
else
 some ((.t (.int .i64 (a0_3.length : Int))), ⟨[], []⟩))
theorem eq29g  (a0_0 : Int) (a0_1 : Int) (a0_2z : Bool) (a0_2 : List T) (a0_3z : Bool) (a0_3 : List T) (a1 : Int) : codeT Try.prog hint 29 0 14 [] [] (resKV Try.prog Try.f29 (hint.own 29 0)) (nrm hint 29 0 (bodyOf Try.f29) (envV [(.t (.agg [(.int .i64 a0_0), (.int .i64 a0_1), (.list 1 a0_2z a0_2), (.list 1 a0_3z a0_3)])), (.t (.int .i64 a1))] 0) ⟨[], []⟩).1 (nrm hint 29 0 (bodyOf Try.f29) (envV [(.t (.agg [(.int .i64 a0_0), (.int .i64 a0_1), (.list 1 a0_2z a0_2), (.list 1 a0_3z a0_3)])), (.t (.int .i64 a1))] 0) ⟨[], []⟩).2 (bodyOf Try.f29) = R29  a0_0 a0_1 a0_2z a0_2 a0_3z a0_3 a1 := by kernel_rfl
/-- purfle/level.below -/
theorem eq29 (a0_0 : Int) (a0_1 : Int) (a0_2z : Bool) (a0_2 : List T) (a0_3z : Bool) (a0_3 : List T) (a1 : Int) : vr 29 0 [(.t (.agg [(.int .i64 a0_0), (.int .i64 a0_1), (.list 1 a0_2z a0_2), (.list 1 a0_3z a0_3)])), (.t (.int .i64 a1))] ⟨[], []⟩ = R29  a0_0 a0_1 a0_2z a0_2 a0_3z a0_3 a1 :=
  (call_eq Try.prog hint (fn := Try.f29) (nt := 14) (T := []) [] rfl [(.t (.agg [(.int .i64 a0_0), (.int .i64 a0_1), (.list 1 a0_2z a0_2), (.list 1 a0_3z a0_3)])), (.t (.int .i64 a1))] ⟨[], []⟩ rfl rfl rfl rfl rfl).trans (eq29g  a0_0 a0_1 a0_2z a0_2 a0_3z a0_3 a1)
noncomputable def R35  (a0 : Int) (m0_0 : Int) (m0_1 : Int) (m0_2z : Bool) (m0_2 : List T) (m0_3z : Bool) (m0_3 : List T) : Option Res :=
(bif (decide (a0 < 0)) then
 some ((.t (.bool true)), ⟨[(0, (.var [(.t (.int .i64 m0_0)), (.t (.int .i64 m0_1)), (.t (.list 1 m0_2z m0_2)), (.t (.list 1 m0_3z m0_3))]))], [500]⟩)
else
 some ((.t (.bool (decide (m0_1 ≤ a0)))), ⟨[(0, (.var [(.t (.int .i64 m0_0)), (.t (.int .i64 m0_1)), (.t (.list 1 m0_2z m0_2)), (.t (.list 1 m0_3z m0_3))]))], [500]⟩))
theorem eq35g  (a0 : Int) (m0_0 : Int) (m0_1 : Int) (m0_2z : Bool) (m0_2 : List T) (m0_3z : Bool) (m0_3 : List T) : codeT Try.prog hint 35 0 12 [] [] (resKV Try.prog Try.f35 (hint.own 35 0)) (nrm hint 35 0 (bodyOf Try.f35) (envV [(.t (.int .i64 a0)), (.ptr 0 0 0)] 0) ⟨[(0, (.var [(.t (.int .i64 m0_0)), (.t (.int .i64 m0_1)), (.t (.list 1 m0_2z m0_2)), (.t (.list 1 m0_3z m0_3))]))], []⟩).1 (nrm hint 35 0 (bodyOf Try.f35) (envV [(.t (.int .i64 a0)), (.ptr 0 0 0)] 0) ⟨[(0, (.var [(.t (.int .i64 m0_0)), (.t (.int .i64 m0_1)), (.t (.list 1 m0_2z m0_2)), (.t (.list 1 m0_3z m0_3))]))], []⟩).2 (bodyOf Try.f35) = R35  a0 m0_0 m0_1 m0_2z m0_2 m0_3z m0_3 := by kernel_rfl
/-- purfle/level.Check$1 -/
theorem eq35 (a0 : Int) (m0_0 : Int) (m0_1 : Int) (m0_2z : Bool) (m0_2 : List T) (m0_3z : Bool) (m0_3 : List T) : vr 35 0 [(.t (.int .i64 a0)), (.ptr 0 0 0)] ⟨[(0, (.var [(.t (.int .i64 m0_0)), (.t (.int .i64 m0_1)), (.t (.list 1 m0_2z m0_2)), (.t (.list 1 m0_3z m0_3))]))], []⟩ = R35  a0 m0_0 m0_1 m0_2z m0_2 m0_3z m0_3 :=
  (call_eq Try.prog hint (fn := Try.f35) (nt := 12) (T := []) [] rfl [(.t (.int .i64 a0)), (.ptr 0 0 0)] ⟨[(0, (.var [(.t (.int .i64 m0_0)), (.t (.int .i64 m0_1)), (.t (.list 1 m0_2z m0_2)), (.t (.list 1 m0_3z m0_3))]))], []⟩ rfl rfl rfl rfl rfl).trans (eq35g  a0 m0_0 m0_1 m0_2z m0_2 m0_3z m0_3)
noncomputable def R44 (L44_2 : Bool → (List T) → Int → Int → Int → Int → Bool → (List T) → Bool → (List T) → Option Res) (a0z : Bool) (a0 : List T) (m0_0 : Int) (m0_1 : Int) (m0_2z : Bool) (m0_2 : List T) (m0_3z : Bool) (m0_3 : List T) : Option Res :=
 L44_2 (a0z) (a0) ((a0.length : Int)) (0) (m0_0) (m0_1) (m0_2z) (m0_2) (m0_3z) (m0_3)
theorem eq44g (KL44_2 : Env → St → Option Res) (a0z : Bool) (a0 : List T) (m0_0 : Int) (m0_1 : Int) (m0_2z : Bool) (m0_2 : List T) (m0_3z : Bool) (m0_3 : List T) : codeT Try.prog hint 44 0 19 (Ta44 KL44_2) [] (resKV Try.prog Try.f44 (hint.own 44 0)) (nrm hint 44 0 (bodyOf Try.f44) (envV [(.t (.list 1 a0z a0)), (.fn 35 [] [(.ptr 0 0 0)])] 0) ⟨[(0, (.var [(.t (.int .i64 m0_0)), (.t (.int .i64 m0_1)), (.t (.list 1 m0_2z m0_2)), (.t (.list 1 m0_3z m0_3))]))], []⟩).1 (nrm hint 44 0 (bodyOf Try.f44) (envV [(.t (.list 1 a0z a0)), (.fn 35 [] [(.ptr 0 0 0)])] 0) ⟨[(0, (.var [(.t (.int .i64 m0_0)), (.t (.int .i64 m0_1)), (.t (.list 1 m0_2z m0_2)), (.t (.list 1 m0_3z m0_3))]))], []⟩).2 (bodyOf Try.f44) = R44 (fun s0z s0 t7 t8 m0_0 m0_1 m0_2z m0_2 m0_3z m0_3 => KL44_2 [(0, (.t (.list 1 s0z s0))), (1, (.fn 35 [] [(.ptr 0 0 0)])), (7, (.t (.int .i64 t7))), (8, (.t (.int .i64 t8)))] ⟨[(0, (.var [(.t (.int .i64 m0_0)), (.t (.int .i64 m0_1)), (.t (.list 1 m0_2z m0_2)), (.t (.list 1 m0_3z m0_3))]))], []⟩) a0z a0 m0_0 m0_1 m0_2z m0_2 m0_3z m0_3 := by kernel_rfl
/-- slices.IndexFunc[[]int,int] -/
theorem eq44 (a0z : Bool) (a0 : List T) (m0_0 : Int) (m0_1 : Int) (m0_2z : Bool) (m0_2 : List T) (m0_3z : Bool) (m0_3 : List T) : vr 44 0 [(.t (.list 1 a0z a0)), (.fn 35 [] [(.ptr 0 0 0)])] ⟨[(0, (.var [(.t (.int .i64 m0_0)), (.t (.int .i64 m0_1)), (.t (.list 1 m0_2z m0_2)), (.t (.list 1 m0_3z m0_3))]))], []⟩ = R44 L44_2 a0z a0 m0_0 m0_1 m0_2z m0_2 m0_3z m0_3 :=
  (call_eq Try.prog hint (fn := Try.f44) (nt := 19) (T := (Ta44 (fun e st => atV Try.prog hint 44 0 Try.f44 19 (List.reverse PaL44_2) e st))) [PaL44_2] rfl [(.t (.list 1 a0z a0)), (.fn 35 [] [(.ptr 0 0 0)])] ⟨[(0, (.var [(.t (.int .i64 m0_0)), (.t (.int .i64 m0_1)), (.t (.list 1 m0_2z m0_2)), (.t (.list 1 m0_3z m0_3))]))], []⟩ rfl rfl rfl rfl rfl).trans (eq44g (fun e st => atV Try.prog hint 44 0 Try.f44 19 (List.reverse PaL44_2) e st) a0z a0 m0_0 m0_1 m0_2z m0_2 m0_3z m0_3)
noncomputable def RL44_2 (L44_2 : Bool → (List T) → Int → Int → Int → Int → Bool → (List T) → Bool → (List T) → Option Res) (s0z : Bool) (s0 : List T) (t7 : Int) (t8 : Int) (m0_0 : Int) (m0_1 : Int) (m0_2z : Bool) (m0_2 : List T) (m0_3z : Bool) (m0_3 : List T) : Option Res :=
(bif (decide (t8 < t7)) then
 needC (decide (0 ≤ t8)) fun _ =>
 getT s0 (t8).toNat fun e_1 =>
 asI .i64 e_1 fun x_2 =>
 callK (vr 35 0 [(.t (.int .i64 x_2)), (.ptr 0 0 0)] ⟨[(0, (.var [(.t (.int .i64 m0_0)), (.t (.int .i64 m0_1)), (.t (.list 1 m0_2z m0_2)), (.t (.list 1 m0_3z m0_3))]))], []⟩) fun v_3 b_4 =>
 asT v_3 fun x_5 =>
 asB x_5 fun b_6 =>
 consB 0 b_4 fun k_7 b_8 =>
 asVar k_7 fun l_9 =>
 consV l_9 fun v_10 l_11 =>
 asT v_10 fun x_12 =>
 asI .i64 x_12 fun x_13 =>
 consV l_11 fun v_14 l_15 =>
 asT v_14 fun x_16 =>
 asI .i64 x_16 fun x_17 =>
 consV l_15 fun v_18 l_19 =>
 asT v_18 fun x_20 =>
 asL 1 x_20 fun nn_21 l_22 =>
 consV l_19 fun v_23 l_24 =>
 asT v_23 fun x_25 =>
 asL 1 x_25 fun nn_26 l_27 =>
 endV l_24 <|
 endB b_8 <|
(bif b_6 then
 some ((.t (.int .i64 t8)), ⟨[(0, (.var [(.t (.int .i64 x_13)), (.t (.int .i64 x_17)), (.t (.list 1 nn_21 l_22)), (.t (.list 1 nn_26 l_27))]))], [500]⟩)
else
 L44_2 (s0z) (s0) (t7) ((IntKind.i64.wrap (t8 + 1))) (x_13) (x_17) (nn_21) (l_22) (nn_26) (l_27))
else
 some ((.t (.int .i64 (-1))), ⟨[(0, (.var [(.t (.int .i64 m0_0)), (.t (.int .i64 m0_1)), (.t (.list 1 m0_2z m0_2)), (.t (.list 1 m0_3z m0_3))]))], [500]⟩))
theorem L44_2g (KL44_2 : Env → St → Option Res) (s0z : Bool) (s0 : List T) (t7 : Int) (t8 : Int) (m0_0 : Int) (m0_1 : Int) (m0_2z : Bool) (m0_2 : List T) (m0_3z : Bool) (m0_3 : List T) : codeT Try.prog hint 44 0 19 (Ta44 KL44_2) (.lp :: PaL44_2) (ctxT Try.prog hint 44 0 19 (Ta44 KL44_2) [] (List.reverse (.lp :: PaL44_2)) (bodyOf Try.f44) (resKV Try.prog Try.f44 (hint.own 44 0))) [(0, (.t (.list 1 s0z s0))), (1, (.fn 35 [] [(.ptr 0 0 0)])), (7, (.t (.int .i64 t7))), (8, (.t (.int .i64 t8)))] ⟨[(0, (.var [(.t (.int .i64 m0_0)), (.t (.int .i64 m0_1)), (.t (.list 1 m0_2z m0_2)), (.t (.list 1 m0_3z m0_3))]))], []⟩ (nav (List.reverse (.lp :: PaL44_2)) (bodyOf Try.f44)) = RL44_2 (fun s0z s0 t7 t8 m0_0 m0_1 m0_2z m0_2 m0_3z m0_3 => KL44_2 [(0, (.t (.list 1 s0z s0))), (1, (.fn 35 [] [(.ptr 0 0 0)])), (7, (.t (.int .i64 t7))), (8, (.t (.int .i64 t8)))] ⟨[(0, (.var [(.t (.int .i64 m0_0)), (.t (.int .i64 m0_1)), (.t (.list 1 m0_2z m0_2)), (.t (.list 1 m0_3z m0_3))]))], []⟩) s0z s0 t7 t8 m0_0 m0_1 m0_2z m0_2 m0_3z m0_3 := by kernel_rfl
theorem L44_2_eq (s0z : Bool) (s0 : List T) (t7 : Int) (t8 : Int) (m0_0 : Int) (m0_1 : Int) (m0_2z : Bool) (m0_2 : List T) (m0_3z : Bool) (m0_3 : List T) : L44_2 s0z s0 t7 t8 m0_0 m0_1 m0_2z m0_2 m0_3z m0_3 = RL44_2 L44_2 s0z s0 t7 t8 m0_0 m0_1 m0_2z m0_2 m0_3z m0_3 :=
  (round_eq Try.prog hint (b := (nav (List.reverse (.lp :: PaL44_2)) (bodyOf Try.f44))) (fn := Try.f44) (nt := 19) (T := (Ta44 (fun e st => atV Try.prog hint 44 0 Try.f44 19 (List.reverse PaL44_2) e st))) [PaL44_2] rfl PaL44_2 [(0, (.t (.list 1 s0z s0))), (1, (.fn 35 [] [(.ptr 0 0 0)])), (7, (.t (.int .i64 t7))), (8, (.t (.int .i64 t8)))] ⟨[(0, (.var [(.t (.int .i64 m0_0)), (.t (.int .i64 m0_1)), (.t (.list 1 m0_2z m0_2)), (.t (.list 1 m0_3z m0_3))]))], []⟩ rfl rfl rfl).trans (L44_2g (fun e st => atV Try.prog hint 44 0 Try.f44 19 (List.reverse PaL44_2) e st) s0z s0 t7 t8 m0_0 m0_1 m0_2z m0_2 m0_3z m0_3)
noncomputable def R34  (a0z : Bool) (a0 : List T) (m0_0 : Int) (m0_1 : Int) (m0_2z : Bool) (m0_2 : List T) (m0_3z : Bool) (m0_3 : List T) : Option Res :=
 callK (vr 44 0 [(.t (.list 1 a0z a0)), (.fn 35 [] [(.ptr 0 0 0)])] ⟨[(0, (.var [(.t (.int .i64 m0_0)), (.t (.int .i64 m0_1)), (.t (.list 1 m0_2z m0_2)), (.t (.list 1 m0_3z m0_3))]))], []⟩) fun v_1 b_2 =>
 asT v_1 fun x_3 =>
 asI .i64 x_3 fun x_4 =>
 consB 0 b_2 fun k_5 b_6 =>
 asVar k_5 fun l_7 =>
 consV l_7 fun v_8 l_9 =>
 asT v_8 fun x_10 =>
 asI .i64 x_10 fun x_11 =>
 consV l_9 fun v_12 l_13 =>
 asT v_12 fun x_14 =>
 asI .i64 x_14 fun x_15 =>
 consV l_13 fun v_16 l_17 =>
 asT v_16 fun x_18 =>
 asL 1 x_18 fun nn_19 l_20 =>
 consV l_17 fun v_21 l_22 =>
 asT v_21 fun x_23 =>
 asL 1 x_23 fun nn_24 l_25 =>
 endV l_22 <|
 endB b_6 <|
 some ((.t (.bool (decide (0 ≤ x_4)))), ⟨[(0, (.var [(.t (.int .i64 x_11)), (.t (.int .i64 x_15)), (.t (.list 1 nn_19 l_20)), (.t (.list 1 nn_24 l_25))]))], [500]⟩)
theorem eq34g  (a0z : Bool) (a0 : List T) (m0_0 : Int) (m0_1 : Int) (m0_2z : Bool) (m0_2 : List T) (m0_3z : Bool) (m0_3 : List T) : codeT Try.prog hint 34 0 9 [] [] (resKV Try.prog Try.f34 (hint.own 34 0)) (nrm hint 34 0 (bodyOf Try.f34) (envV [(.t (.list 1 a0z a0)), (.fn 35 [] [(.ptr 0 0 0)])] 0) ⟨[(0, (.var [(.t (.int .i64 m0_0)), (.t (.int .i64 m0_1)), (.t (.list 1 m0_2z m0_2)), (.t (.list 1 m0_3z m0_3))]))], []⟩).1 (nrm hint 34 0 (bodyOf Try.f34) (envV [(.t (.list 1 a0z a0)), (.fn 35 [] [(.ptr 0 0 0)])] 0) ⟨[(0, (.var [(.t (.int .i64 m0_0)), (.t (.int .i64 m0_1)), (.t (.list 1 m0_2z m0_2)), (.t (.list 1 m0_3z m0_3))]))], []⟩).2 (bodyOf Try.f34) = R34  a0z a0 m0_0 m0_1 m0_2z m0_2 m0_3z m0_3 := by kernel_rfl
/-- slices.ContainsFunc[[]int,int] -/
theorem eq34 (a0z : Bool) (a0 : List T) (m0_0 : Int) (m0_1 : Int) (m0_2z : Bool) (m0_2 : List T) (m0_3z : Bool) (m0_3 : List T) : vr 34 0 [(.t (.list 1 a0z a0)), (.fn 35 [] [(.ptr 0 0 0)])] ⟨[(0, (.var [(.t (.int .i64 m0_0)), (.t (.int .i64 m0_1)), (.t (.list 1 m0_2z m0_2)), (.t (.list 1 m0_3z m0_3))]))], []⟩ = R34  a0z a0 m0_0 m0_1 m0_2z m0_2 m0_3z m0_3 :=
  (call_eq Try.prog hint (fn := Try.f34) (nt := 9) (T := []) [] rfl [(.t (.list 1 a0z a0)), (.fn 35 [] [(.ptr 0 0 0)])] ⟨[(0, (.var [(.t (.int .i64 m0_0)), (.t (.int .i64 m0_1)), (.t (.list 1 m0_2z m0_2)), (.t (.list 1 m0_3z m0_3))]))], []⟩ rfl rfl rfl rfl rfl).trans (eq34g  a0z a0 m0_0 m0_1 m0_2z m0_2 m0_3z m0_3)
noncomputable def R36 (J36_9 : Int → Int → Int → Bool → (List T) → Bool → (List T) → Option Res) (L36_10 : Int → Bool → (List T) → Int → Int → Int → Int → Bool → (List T) → Bool → (List T) → Option Res) (L36_14 : Int → Bool → (List T) → Int → Bool → (List T) → Int → Int → Int → Int → Bool → (List T) → Bool → (List T) → Option Res) (a0_0 : Int) (a0_1 : Int) (a0_2z : Bool) (a0_2 : List T) (a0_3z : Bool) (a0_3 : List T) : Option Res :=
(bif (decide (a0_0 = 2)) then
 J36_9 (0) (a0_0) (a0_1) (a0_2z) (a0_2) (a0_3z) (a0_3)
else
(bif (decide (a0_0 = 3)) then
 some ((.t (.bool true)), ⟨[], []⟩)
else
(bif (decide (a0_0 = 0)) then
 some ((.t (.bool true)), ⟨[], []⟩)
else
(bif (decide (a0_0 = 4)) then
 some ((.t (.bool true)), ⟨[], []⟩)
else
 J36_9 (1) (a0_0) (a0_1) (a0_2z) (a0_2) (a0_3z) (a0_3)))))
theorem eq36g (KJ36_9 KL36_10 KL36_14 : Env → St → Option Res) (a0_0 : Int) (a0_1 : Int) (a0_2z : Bool) (a0_2 : List T) (a0_3z : Bool) (a0_3 : List T) : codeT Try.prog hint 36 0 58 (Ta36 KJ36_9 KL36_10 KL36_14) [] (resKV Try.prog Try.f36 (hint.own 36 0)) (nrm hint 36 0 (bodyOf Try.f36) (envV [(.t (.agg [(.int .i64 a0_0), (.int .i64 a0_1), (.list 1 a0_2z a0_2), (.list 1 a0_3z a0_3)]))] 0) ⟨[], []⟩).1 (nrm hint 36 0 (bodyOf Try.f36) (envV [(.t (.agg [(.int .i64 a0_0), (.int .i64 a0_1), (.list 1 a0_2z a0_2), (.list 1 a0_3z a0_3)]))] 0) ⟨[], []⟩).2 (bodyOf Try.f36) = R36 (fun least3 m8_0 m8_1 m8_2z m8_2 m8_3z m8_3 => KJ36_9 [(1, (.ptr 8 0 0)), (3, (.t (.int .i64 least3)))] ⟨[(8, (.var [(.t (.int .i64 m8_0)), (.t (.int .i64 m8_1)), (.t (.list 1 m8_2z m8_2)), (.t (.list 1 m8_3z m8_3))]))], []⟩) (fun least3 t22z t22 t23 t24 m8_0 m8_1 m8_2z m8_2 m8_3z m8_3 => KL36_10 [(1, (.ptr 8 0 0)), (3, (.t (.int .i64 least3))), (22, (.t (.list 1 t22z t22))), (23, (.t (.int .i64 t23))), (24, (.t (.int .i64 t24)))] ⟨[(8, (.var [(.t (.int .i64 m8_0)), (.t (.int .i64 m8_1)), (.t (.list 1 m8_2z m8_2)), (.t (.list 1 m8_3z m8_3))]))], []⟩) (fun least3 part6z part6 i7 t22z t22 t23 t24 m8_0 m8_1 m8_2z m8_2 m8_3z m8_3 => KL36_14 [(1, (.ptr 8 0 0)), (3, (.t (.int .i64 least3))), (6, (.t (.list 1 part6z part6))), (7, (.t (.int .i64 i7))), (22, (.t (.list 1 t22z t22))), (23, (.t (.int .i64 t23))), (24, (.t (.int .i64 t24)))] ⟨[(8, (.var [(.t (.int .i64 m8_0)), (.t (.int .i64 m8_1)), (.t (.list 1 m8_2z m8_2)), (.t (.list 1 m8_3z m8_3))]))], []⟩) a0_0 a0_1 a0_2z a0_2 a0_3z a0_3 := by kernel_rfl
/-- purfle/level.rising -/
theorem eq36 (a0_0 : Int) (a0_1 : Int) (a0_2z : Bool) (a0_2 : List T) (a0_3z : Bool) (a0_3 : List T) : vr 36 0 [(.t (.agg [(.int .i64 a0_0), (.int .i64 a0_1), (.list 1 a0_2z a0_2), (.list 1 a0_3z a0_3)]))] ⟨[], []⟩ = R36 J36_9 L36_10 L36_14 a0_0 a0_1 a0_2z a0_2 a0_3z a0_3 :=
  (call_eq Try.prog hint (fn := Try.f36) (nt := 58) (T := (Ta36 (fun e st => atV Try.prog hint 36 0 Try.f36 58 (List.reverse PaJ36_9) e st) (fun e st => atV Try.prog hint 36 0 Try.f36 58 (List.reverse PaL36_10) e st) (fun e st => atV Try.prog hint 36 0 Try.f36 58 (List.reverse PaL36_14) e st))) [PaJ36_9, PaL36_10, PaL36_14] rfl [(.t (.agg [(.int .i64 a0_0), (.int .i64 a0_1), (.list 1 a0_2z a0_2), (.list 1 a0_3z a0_3)]))] ⟨[], []⟩ rfl rfl rfl rfl rfl).trans (eq36g (fun e st => atV Try.prog hint 36 0 Try.f36 58 (List.reverse PaJ36_9) e st) (fun e st => atV Try.prog hint 36 0 Try.f36 58 (List.reverse PaL36_10) e st) (fun e st => atV Try.prog hint 36 0 Try.f36 58 (List.reverse PaL36_14) e st) a0_0 a0_1 a0_2z a0_2 a0_3z a0_3)
noncomputable def RJ36_9 (J36_9 : Int → Int → Int → Bool → (List T) → Bool → (List T) → Option Res) (L36_10 : Int → Bool → (List T) → Int → Int → Int → Int → Bool → (List T) → Bool → (List T) → Option Res) (L36_14 : Int → Bool → (List T) → Int → Bool → (List T) → Int → Int → Int → Int → Bool → (List T) → Bool → (List T) → Option Res) (least3 : Int) (m8_0 : Int) (m8_1 : Int) (m8_2z : Bool) (m8_2 : List T) (m8_3z : Bool) (m8_3 : List T) : Option Res :=
 cutL m8_2 none (some (IntKind.i64.wrap ((m8_2.length : Int) - 1))) fun l_1 =>
 L36_10 (least3) (m8_2z) (l_1) ((l_1.length : Int)) (0) (m8_0) (m8_1) (m8_2z) (m8_2) (m8_3z) (m8_3)
theorem J36_9g (KJ36_9 KL36_10 KL36_14 : Env → St → Option Res) (least3 : Int) (m8_0 : Int) (m8_1 : Int) (m8_2z : Bool) (m8_2 : List T) (m8_3z : Bool) (m8_3 : List T) : codeT Try.prog hint 36 0 58 (Ta36 KJ36_9 KL36_10 KL36_14) PaJ36_9 (ctxT Try.prog hint 36 0 58 (Ta36 KJ36_9 KL36_10 KL36_14) [] (List.reverse PaJ36_9) (bodyOf Try.f36) (resKV Try.prog Try.f36 (hint.own 36 0))) [(1, (.ptr 8 0 0)), (3, (.t (.int .i64 least3)))] ⟨[(8, (.var [(.t (.int .i64 m8_0)), (.t (.int .i64 m8_1)), (.t (.list 1 m8_2z m8_2)), (.t (.list 1 m8_3z m8_3))]))], []⟩ (nav (List.reverse PaJ36_9) (bodyOf Try.f36)) = RJ36_9 (fun least3 m8_0 m8_1 m8_2z m8_2 m8_3z m8_3 => KJ36_9 [(1, (.ptr 8 0 0)), (3, (.t (.int .i64 least3)))] ⟨[(8, (.var [(.t (.int .i64 m8_0)), (.t (.int .i64 m8_1)), (.t (.list 1 m8_2z m8_2)), (.t (.list 1 m8_3z m8_3))]))], []⟩) (fun least3 t22z t22 t23 t24 m8_0 m8_1 m8_2z m8_2 m8_3z m8_3 => KL36_10 [(1, (.ptr 8 0 0)), (3, (.t (.int .i64 least3))), (22, (.t (.list 1 t22z t22))), (23, (.t (.int .i64 t23))), (24, (.t (.int .i64 t24)))] ⟨[(8, (.var [(.t (.int .i64 m8_0)), (.t (.int .i64 m8_1)), (.t (.list 1 m8_2z m8_2)), (.t (.list 1 m8_3z m8_3))]))], []⟩) (fun least3 part6z part6 i7 t22z t22 t23 t24 m8_0 m8_1 m8_2z m8_2 m8_3z m8_3 => KL36_14 [(1, (.ptr 8 0 0)), (3, (.t (.int .i64 least3))), (6, (.t (.list 1 part6z part6))), (7, (.t (.int .i64 i7))), (22, (.t (.list 1 t22z t22))), (23, (.t (.int .i64 t23))), (24, (.t (.int .i64 t24)))] ⟨[(8, (.var [(.t (.int .i64 m8_0)), (.t (.int .i64 m8_1)), (.t (.list 1 m8_2z m8_2)), (.t (.list 1 m8_3z m8_3))]))], []⟩) least3 m8_0 m8_1 m8_2z m8_2 m8_3z m8_3 := by kernel_rfl
theorem J36_9_eq (least3 : Int) (m8_0 : Int) (m8_1 : Int) (m8_2z : Bool) (m8_2 : List T) (m8_3z : Bool) (m8_3 : List T) : J36_9 least3 m8_0 m8_1 m8_2z m8_2 m8_3z m8_3 = RJ36_9 J36_9 L36_10 L36_14 least3 m8_0 m8_1 m8_2z m8_2 m8_3z m8_3 :=
  (join_eq Try.prog hint (fn := Try.f36) (nt := 58) (T := (Ta36 (fun e st => atV Try.prog hint 36 0 Try.f36 58 (List.reverse PaJ36_9) e st) (fun e st => atV Try.prog hint 36 0 Try.f36 58 (List.reverse PaL36_10) e st) (fun e st => atV Try.prog hint 36 0 Try.f36 58 (List.reverse PaL36_14) e st))) [PaJ36_9, PaL36_10, PaL36_14] rfl PaJ36_9 [(1, (.ptr 8 0 0)), (3, (.t (.int .i64 least3)))] ⟨[(8, (.var [(.t (.int .i64 m8_0)), (.t (.int .i64 m8_1)), (.t (.list 1 m8_2z m8_2)), (.t (.list 1 m8_3z m8_3))]))], []⟩ rfl).trans (J36_9g (fun e st => atV Try.prog hint 36 0 Try.f36 58 (List.reverse PaJ36_9) e st) (fun e st => atV Try.prog hint 36 0 Try.f36 58 (List.reverse PaL36_10) e st) (fun e st => atV Try.prog hint 36 0 Try.f36 58 (List.reverse PaL36_14) e st) least3 m8_0 m8_1 m8_2z m8_2 m8_3z m8_3)
noncomputable def RL36_10 (J36_9 : Int → Int → Int → Bool → (List T) → Bool → (List T) → Option Res) (L36_10 : Int → Bool → (List T) → Int → Int → Int → Int → Bool → (List T) → Bool → (List T) → Option Res) (L36_14 : Int → Bool → (List T) → Int → Bool → (List T) → Int → Int → Int → Int → Bool → (List T) → Bool → (List T) → Option Res) (least3 : Int) (t22z : Bool) (t22 : List T) (t23 : Int) (t24 : Int) (m8_0 : Int) (m8_1 : Int) (m8_2z : Bool) (m8_2 : List T) (m8_3z : Bool) (m8_3 : List T) : Option Res :=
(bif (decide (t24 < t23)) then
 needC (decide (0 ≤ t24)) fun _ =>
 getT t22 (t24).toNat fun e_1 =>
 asI .i64 e_1 fun x_2 =>
 needC (decide (0 ≤ (IntKind.i64.wrap (t24 + 1)))) fun _ =>
 getT m8_2 ((IntKind.i64.wrap (t24 + 1))).toNat fun e_3 =>
 asI .i64 e_3 fun x_4 =>
 cutL m8_3 (some x_2) (some x_4) fun l_5 =>
 L36_14 (least3) (m8_3z) (l_5) (1) (t22z) (t22) (t23) (t24) (m8_0) (m8_1) (m8_2z) (m8_2) (m8_3z) (m8_3)
else
 some ((.t (.bool true)), ⟨[], []⟩))
theorem L36_10g (KJ36_9 KL36_10 KL36_14 : Env → St → Option Res) (least3 : Int) (t22z : Bool) (t22 : List T) (t23 : Int) (t24 : Int) (m8_0 : Int) (m8_1 : Int) (m8_2z : Bool) (m8_2 : List T) (m8_3z : Bool) (m8_3 : List T) : codeT Try.prog hint 36 0 58 (Ta36 KJ36_9 KL36_10 KL36_14) (.lp :: PaL36_10) (ctxT Try.prog hint 36 0 58 (Ta36 KJ36_9 KL36_10 KL36_14) [] (List.reverse (.lp :: PaL36_10)) (bodyOf Try.f36) (resKV Try.prog Try.f36 (hint.own 36 0))) [(1, (.ptr 8 0 0)), (3, (.t (.int .i64 least3))), (22, (.t (.list 1 t22z t22))), (23, (.t (.int .i64 t23))), (24, (.t (.int .i64 t24)))] ⟨[(8, (.var [(.t (.int .i64 m8_0)), (.t (.int .i64 m8_1)), (.t (.list 1 m8_2z m8_2)), (.t (.list 1 m8_3z m8_3))]))], []⟩ (nav (List.reverse (.lp :: PaL36_10)) (bodyOf Try.f36)) = RL36_10 (fun least3 m8_0 m8_1 m8_2z m8_2 m8_3z m8_3 => KJ36_9 [(1, (.ptr 8 0 0)), (3, (.t (.int .i64 least3)))] ⟨[(8, (.var [(.t (.int .i64 m8_0)), (.t (.int .i64 m8_1)), (.t (.list 1 m8_2z m8_2)), (.t (.list 1 m8_3z m8_3))]))], []⟩) (fun least3 t22z t22 t23 t24 m8_0 m8_1 m8_2z m8_2 m8_3z m8_3 => KL36_10 [(1, (.ptr 8 0 0)), (3, (.t (.int .i64 least3))), (22, (.t (.list 1 t22z t22))), (23, (.t (.int .i64 t23))), (24, (.t (.int .i64 t24)))] ⟨[(8, (.var [(.t (.int .i64 m8_0)), (.t (.int .i64 m8_1)), (.t (.list 1 m8_2z m8_2)), (.t (.list 1 m8_3z m8_3))]))], []⟩) (fun least3 part6z part6 i7 t22z t22 t23 t24 m8_0 m8_1 m8_2z m8_2 m8_3z m8_3 => KL36_14 [(1, (.ptr 8 0 0)), (3, (.t (.int .i64 least3))), (6, (.t (.list 1 part6z part6))), (7, (.t (.int .i64 i7))), (22, (.t (.list 1 t22z t22))), (23, (.t (.int .i64 t23))), (24, (.t (.int .i64 t24)))] ⟨[(8, (.var [(.t (.int .i64 m8_0)), (.t (.int .i64 m8_1)), (.t (.list 1 m8_2z m8_2)), (.t (.list 1 m8_3z m8_3))]))], []⟩) least3 t22z t22 t23 t24 m8_0 m8_1 m8_2z m8_2 m8_3z m8_3 := by kernel_rfl
theorem L36_10_eq (least3 : Int) (t22z : Bool) (t22 : List T) (t23 : Int) (t24 : Int) (m8_0 : Int) (m8_1 : Int) (m8_2z : Bool) (m8_2 : List T) (m8_3z : Bool) (m8_3 : List T) : L36_10 least3 t22z t22 t23 t24 m8_0 m8_1 m8_2z m8_2 m8_3z m8_3 = RL36_10 J36_9 L36_10 L36_14 least3 t22z t22 t23 t24 m8_0 m8_1 m8_2z m8_2 m8_3z m8_3 :=
  (round_eq Try.prog hint (b := (nav (List.reverse (.lp :: PaL36_10)) (bodyOf Try.f36))) (fn := Try.f36) (nt := 58) (T := (Ta36 (fun e st => atV Try.prog hint 36 0 Try.f36 58 (List.reverse PaJ36_9) e st) (fun e st => atV Try.prog hint 36 0 Try.f36 58 (List.reverse PaL36_10) e st) (fun e st => atV Try.prog hint 36 0 Try.f36 58 (List.reverse PaL36_14) e st))) [PaJ36_9, PaL36_10, PaL36_14] rfl PaL36_10 [(1, (.ptr 8 0 0)), (3, (.t (.int .i64 least3))), (22, (.t (.list 1 t22z t22))), (23, (.t (.int .i64 t23))), (24, (.t (.int .i64 t24)))] ⟨[(8, (.var [(.t (.int .i64 m8_0)), (.t (.int .i64 m8_1)), (.t (.list 1 m8_2z m8_2)), (.t (.list 1 m8_3z m8_3))]))], []⟩ rfl rfl rfl).trans (L36_10g (fun e st => atV Try.prog hint 36 0 Try.f36 58 (List.reverse PaJ36_9) e st) (fun e st => atV Try.prog hint 36 0 Try.f36 58 (List.reverse PaL36_10) e st) (fun e st => atV Try.prog hint 36 0 Try.f36 58 (List.reverse PaL36_14) e st) least3 t22z t22 t23 t24 m8_0 m8_1 m8_2z m8_2 m8_3z m8_3)
noncomputable def RL36_14 (J36_9 : Int → Int → Int → Bool → (List T) → Bool → (List T) → Option Res) (L36_10 : Int → Bool → (List T) → Int → Int → Int → Int → Bool → (List T) → Bool → (List T) → Option Res) (L36_14 : Int → Bool → (List T) → Int → Bool → (List T) → Int → Int → Int → Int → Bool → (List T) → Bool → (List T) → Option Res) (least3 : Int) (part6z : Bool) (part6 : List T) (i7 : Int) (t22z : Bool) (t22 : List T) (t23 : Int) (t24 : Int) (m8_0 : Int) (m8_1 : Int) (m8_2z : Bool) (m8_2 : List T) (m8_3z : Bool) (m8_3 : List T) : Option Res :=
(bif (decide (i7 < (part6.length : Int))) then
 needC (decide (0 ≤ i7)) fun _ =>
 getT part6 (i7).toNat fun e_1 =>
 asI .i64 e_1 fun x_2 =>
 needC (decide (0 ≤ (IntKind.i64.wrap (i7 - 1)))) fun _ =>
 getT part6 ((IntKind.i64.wrap (i7 - 1))).toNat fun e_3 =>
 asI .i64 e_3 fun x_4 =>
(bif (decide ((IntKind.i64.wrap (x_2 - x_4)) < least3)) then
 some ((.t (.bool false)), ⟨[], []⟩)
else
 L36_14 (least3) (part6z) (part6) ((IntKind.i64.wrap (i7 + 1))) (t22z) (t22) (t23) (t24) (m8_0) (m8_1) (m8_2z) (m8_2) (m8_3z) (m8_3))
else
 L36_10 (least3) (t22z) (t22) (t23) ((IntKind.i64.wrap (t24 + 1))) (m8_0) (m8_1) (m8_2z) (m8_2) (m8_3z) (m8_3))
theorem L36_14g (KJ36_9 KL36_10 KL36_14 : Env → St → Option Res) (least3 : Int) (part6z : Bool) (part6 : List T) (i7 : Int) (t22z : Bool) (t22 : List T) (t23 : Int) (t24 : Int) (m8_0 : Int) (m8_1 : Int) (m8_2z : Bool) (m8_2 : List T) (m8_3z : Bool) (m8_3 : List T) : codeT Try.prog hint 36 0 58 (Ta36 KJ36_9 KL36_10 KL36_14) (.lp :: PaL36_14) (ctxT Try.prog hint 36 0 58 (Ta36 KJ36_9 KL36_10 KL36_14) [] (List.reverse (.lp :: PaL36_14)) (bodyOf Try.f36) (resKV Try.prog Try.f36 (hint.own 36 0))) [(1, (.ptr 8 0 0)), (3, (.t (.int .i64 least3))), (6, (.t (.list 1 part6z part6))), (7, (.t (.int .i64 i7))), (22, (.t (.list 1 t22z t22))), (23, (.t (.int .i64 t23))), (24, (.t (.int .i64 t24)))] ⟨[(8, (.var [(.t (.int .i64 m8_0)), (.t (.int .i64 m8_1)), (.t (.list 1 m8_2z m8_2)), (.t (.list 1 m8_3z m8_3))]))], []⟩ (nav (List.reverse (.lp :: PaL36_14)) (bodyOf Try.f36)) = RL36_14 (fun least3 m8_0 m8_1 m8_2z m8_2 m8_3z m8_3 => KJ36_9 [(1, (.ptr 8 0 0)), (3, (.t (.int .i64 least3)))] ⟨[(8, (.var [(.t (.int .i64 m8_0)), (.t (.int .i64 m8_1)), (.t (.list 1 m8_2z m8_2)), (.t (.list 1 m8_3z m8_3))]))], []⟩) (fun least3 t22z t22 t23 t24 m8_0 m8_1 m8_2z m8_2 m8_3z m8_3 => KL36_10 [(1, (.ptr 8 0 0)), (3, (.t (.int .i64 least3))), (22, (.t (.list 1 t22z t22))), (23, (.t (.int .i64 t23))), (24, (.t (.int .i64 t24)))] ⟨[(8, (.var [(.t (.int .i64 m8_0)), (.t (.int .i64 m8_1)), (.t (.list 1 m8_2z m8_2)), (.t (.list 1 m8_3z m8_3))]))], []⟩) (fun least3 part6z part6 i7 t22z t22 t23 t24 m8_0 m8_1 m8_2z m8_2 m8_3z m8_3 => KL36_14 [(1, (.ptr 8 0 0)), (3, (.t (.int .i64 least3))), (6, (.t (.list 1 part6z part6))), (7, (.t (.int .i64 i7))), (22, (.t (.list 1 t22z t22))), (23, (.t (.int .i64 t23))), (24, (.t (.int .i64 t24)))] ⟨[(8, (.var [(.t (.int .i64 m8_0)), (.t (.int .i64 m8_1)), (.t (.list 1 m8_2z m8_2)), (.t (.list 1 m8_3z m8_3))]))], []⟩) least3 part6z part6 i7 t22z t22 t23 t24 m8_0 m8_1 m8_2z m8_2 m8_3z m8_3 := by kernel_rfl
theorem L36_14_eq (least3 : Int) (part6z : Bool) (part6 : List T) (i7 : Int) (t22z : Bool) (t22 : List T) (t23 : Int) (t24 : Int) (m8_0 : Int) (m8_1 : Int) (m8_2z : Bool) (m8_2 : List T) (m8_3z : Bool) (m8_3 : List T) : L36_14 least3 part6z part6 i7 t22z t22 t23 t24 m8_0 m8_1 m8_2z m8_2 m8_3z m8_3 = RL36_14 J36_9 L36_10 L36_14 least3 part6z part6 i7 t22z t22 t23 t24 m8_0 m8_1 m8_2z m8_2 m8_3z m8_3 :=
  (round_eq Try.prog hint (b := (nav (List.reverse (.lp :: PaL36_14)) (bodyOf Try.f36))) (fn := Try.f36) (nt := 58) (T := (Ta36 (fun e st => atV Try.prog hint 36 0 Try.f36 58 (List.reverse PaJ36_9) e st) (fun e st => atV Try.prog hint 36 0 Try.f36 58 (List.reverse PaL36_10) e st) (fun e st => atV Try.prog hint 36 0 Try.f36 58 (List.reverse PaL36_14) e st))) [PaJ36_9, PaL36_10, PaL36_14] rfl PaL36_14 [(1, (.ptr 8 0 0)), (3, (.t (.int .i64 least3))), (6, (.t (.list 1 part6z part6))), (7, (.t (.int .i64 i7))), (22, (.t (.list 1 t22z t22))), (23, (.t (.int .i64 t23))), (24, (.t (.int .i64 t24)))] ⟨[(8, (.var [(.t (.int .i64 m8_0)), (.t (.int .i64 m8_1)), (.t (.list 1 m8_2z m8_2)), (.t (.list 1 m8_3z m8_3))]))], []⟩ rfl rfl rfl).trans (L36_14g (fun e st => atV Try.prog hint 36 0 Try.f36 58 (List.reverse PaJ36_9) e st) (fun e st => atV Try.prog hint 36 0 Try.f36 58 (List.reverse PaL36_10) e st) (fun e st => atV Try.prog hint 36 0 Try.f36 58 (List.reverse PaL36_14) e st) least3 part6z part6 i7 t22z t22 t23 t24 m8_0 m8_1 m8_2z m8_2 m8_3z m8_3)
noncomputable def R19  (a0_0 : Int) (a0_1 : Int) (a0_2z : Bool) (a0_2 : List T) (a0_3z : Bool) (a0_3 : List T) (a1 : Int) : Option Res :=
(bif (decide (a1 < 0)) then
 some ((.t (.int .i64 1)), ⟨[], []⟩)
else
(bif (decide (1048576 < a1)) then
 some ((.t (.int .i64 1)), ⟨[], []⟩)
else
(bif (decide (a0_1 < 0)) then
 some ((.t (.int .i64 1)), ⟨[], []⟩)
else
(bif (decide (2147483648 < a0_1)) then
 some ((.t (.int .i64 1)), ⟨[], []⟩)
else
 callK (vr 33 0 [(.t (.agg [(.int .i64 a0_0), (.int .i64 a0_1), (.list 1 a0_2z a0_2), (.list 1 a0_3z a0_3)])), (.t (.int .i64 a1))] ⟨[], []⟩) fun v_1 b_2 =>
 asT v_1 fun x_3 =>
 asB x_3 fun b_4 =>
 endB b_2 <|
(bif (!b_4) then
 some ((.t (.int .i64 1)), ⟨[], []⟩)
else
(bif (decide (65536 < (a0_3.length : Int))) then
 some ((.t (.int .i64 2)), ⟨[], []⟩)
else
 callK (vr 29 0 [(.t (.agg [(.int .i64 a0_0), (.int .i64 a0_1), (.list 1 a0_2z a0_2), (.list 1 a0_3z a0_3)])), (.t (.int .i64 a1))] ⟨[], []⟩) fun v_5 b_6 =>
 asT v_5 fun x_7 =>
 asI .i64 x_7 fun x_8 =>
 endB b_6 <|
(bif (decide (1048576 < x_8)) then
 some ((.t (.int .i64 2)), ⟨[], []⟩)
else
 callK (vr 34 0 [(.t (.list 1 a0_3z a0_3)), (.fn 35 [] [(.ptr 0 0 0)])] ⟨[(0, (.var [(.t (.int .i64 a0_0)), (.t (.int .i64 a0_1)), (.t (.list 1 a0_2z a0_2)), (.t (.list 1 a0_3z a0_3))]))], []⟩) fun v_9 b_10 =>
 asT v_9 fun x_11 =>
 asB x_11 fun b_12 =>
 consB 0 b_10 fun k_13 b_14 =>
 asVar k_13 fun l_15 =>
 consV l_15 fun v_16 l_17 =>
 asT v_16 fun x_18 =>
 asI .i64 x_18 fun x_19 =>
 consV l_17 fun v_20 l_21 =>
 asT v_20 fun x_22 =>
 asI .i64 x_22 fun x_23 =>
 consV l_21 fun v_24 l_25 =>
 asT v_24 fun x_26 =>
 asL 1 x_26 fun nn_27 l_28 =>
 consV l_25 fun v_29 l_30 =>
 asT v_29 fun x_31 =>
 asL 1 x_31 fun nn_32 l_33 =>
 endV l_30 <|
 endB b_14 <|
(bif b_12 then
 some ((.t (.int .i64 3)), ⟨[], []⟩)
else
 callK (vr 36 0 [(.t (.agg [(.int .i64 x_19), (.int .i64 x_23), (.list 1 nn_27 l_28), (.list 1 nn_32 l_33)]))] ⟨[], []⟩) fun v_34 b_35 =>
 asT v_34 fun x_36 =>
 asB x_36 fun b_37 =>
 endB b_35 <|
(bif (!b_37) then
 some ((.t (.int .i64 1)), ⟨[], []⟩)
else
 some ((.t (.int .i64 0)), ⟨[], []⟩))))))))))
theorem eq19g  (a0_0 : Int) (a0_1 : Int) (a0_2z : Bool) (a0_2 : List T) (a0_3z : Bool) (a0_3 : List T) (a1 : Int) : codeT Try.prog hint 19 0 48 [] [] (resKV Try.prog Try.f19 (hint.own 19 0)) (nrm hint 19 0 (bodyOf Try.f19) (envV [(.t (.agg [(.int .i64 a0_0), (.int .i64 a0_1), (.list 1 a0_2z a0_2), (.list 1 a0_3z a0_3)])), (.t (.int .i64 a1))] 0) ⟨[], []⟩).1 (nrm hint 19 0 (bodyOf Try.f19) (envV [(.t (.agg [(.int .i64 a0_0), (.int .i64 a0_1), (.list 1 a0_2z a0_2), (.list 1 a0_3z a0_3)])), (.t (.int .i64 a1))] 0) ⟨[], []⟩).2 (bodyOf Try.f19) = R19  a0_0 a0_1 a0_2z a0_2 a0_3z a0_3 a1 := by kernel_rfl
/-- purfle/level.Check -/
theorem eq19 (a0_0 : Int) (a0_1 : Int) (a0_2z : Bool) (a0_2 : List T) (a0_3z : Bool) (a0_3 : List T) (a1 : Int) : vr 19 0 [(.t (.agg [(.int .i64 a0_0), (.int .i64 a0_1), (.list 1 a0_2z a0_2), (.list 1 a0_3z a0_3)])), (.t (.int .i64 a1))] ⟨[], []⟩ = R19  a0_0 a0_1 a0_2z a0_2 a0_3z a0_3 a1 :=
  (call_eq Try.prog hint (fn := Try.f19) (nt := 48) (T := []) [] rfl [(.t (.agg [(.int .i64 a0_0), (.int .i64 a0_1), (.list 1 a0_2z a0_2), (.list 1 a0_3z a0_3)])), (.t (.int .i64 a1))] ⟨[], []⟩ rfl rfl rfl rfl rfl).trans (eq19g  a0_0 a0_1 a0_2z a0_2 a0_3z a0_3 a1)
noncomputable def R10 (J10_9 : Int → Bool → (List T) → Int → Int → Bool → (List T) → Bool → (List T) → Int → Int → Bool → (List T) → Bool → (List T) → Option Res) (L10_10 : Int → Bool → (List T) → Bool → (List T) → Int → Int → Int → Int → Bool → (List T) → Bool → (List T) → Int → Int → Bool → (List T) → Bool → (List T) → Option Res) (a0 : Int) (a1 : Int) (a2z : Bool) (a2 : List T) : Option Res :=
(bif (decide (a0 = 1)) then
 J10_9 (a0) (a2z) (a2) (0) (0) (false) ([]) (false) ([]) (a0) (a1) (true) ([(.int .i64 0)]) (false) ([])
else
(bif (decide (a0 = 2)) then
 J10_9 (a0) (a2z) (a2) (0) (0) (false) ([]) (false) ([]) (a0) (a1) (true) ([(.int .i64 0)]) (false) ([])
else
(bif (decide (a0 = 0)) then
 needC (decide (0 ≤ (a2.length : Int)) && decide ((a2.length : Int) ≤ (a2.length : Int)) && decide ((a2.length : Int) * (24 + 1) ≤ 70368744177664)) fun _ =>
 J10_9 (a0) (true) ((List.replicate ((a2.length : Int)).toNat (.list 1 false []))) (0) (0) (false) ([]) (false) ([]) (a0) (a1) (false) ([]) (false) ([])
else
(bif (decide (a0 = 4)) then
 needC (decide (0 ≤ (a2.length : Int)) && decide ((a2.length : Int) ≤ (a2.length : Int)) && decide ((a2.length : Int) * (24 + 1) ≤ 70368744177664)) fun _ =>
 J10_9 (a0) (true) ((List.replicate ((a2.length : Int)).toNat (.list 1 false []))) (0) (0) (false) ([]) (false) ([]) (a0) (a1) (false) ([]) (false) ([])
else
 J10_9 (a0) (a2z) (a2) (0) (0) (false) ([]) (false) ([]) (a0) (a1) (false) ([]) (false) ([])))))
theorem eq10g (KJ10_9 KL10_10 : Env → St → Option Res) (a0 : Int) (a1 : Int) (a2z : Bool) (a2 : List T) : codeT Try.prog hint 10 0 70 (Ta10 KJ10_9 KL10_10) [] (resKV Try.prog Try.f10 (hint.own 10 0)) (nrm hint 10 0 (bodyOf Try.f10) (envV [(.t (.int .i64 a0)), (.t (.int .i64 a1)), (.t (.list 1 a2z a2))] 0) ⟨[], []⟩).1 (nrm hint 10 0 (bodyOf Try.f10) (envV [(.t (.int .i64 a0)), (.t (.int .i64 a1)), (.t (.list 1 a2z a2))] 0) ⟨[], []⟩).2 (bodyOf Try.f10) = R10 (fun kind0 groups2z groups2 m8_0 m8_1 m8_2z m8_2 m8_3z m8_3 m9_0 m9_1 m10z m10 m11z m11 => KJ10_9 [(0, (.t (.int .i64 kind0))), (2, (.t (.list 1 groups2z groups2))), (6, (.ptr 8 0 0)), (8, (.ptr 9 0 0))] ⟨[(8, (.var [(.t (.int .i64 m8_0)), (.t (.int .i64 m8_1)), (.t (.list 1 m8_2z m8_2)), (.t (.list 1 m8_3z m8_3))])), (9, (.var [(.t (.int .i64 m9_0)), (.t (.int .i64 m9_1)), (.buf 10), (.buf 11)])), (10, (.arr true 1 m10z m10)), (11, (.arr true 1 m11z m11))], []⟩) (fun kind0 groups2z groups2 t30z t30 t31 t32 m8_0 m8_1 m8_2z m8_2 m8_3z m8_3 m9_0 m9_1 m10z m10 m11z m11 => KL10_10 [(0, (.t (.int .i64 kind0))), (2, (.t (.list 1 groups2z groups2))), (6, (.ptr 8 0 0)), (8, (.ptr 9 0 0)), (30, (.t (.list 1 t30z t30))), (31, (.t (.int .i64 t31))), (32, (.t (.int .i64 t32)))] ⟨[(8, (.var [(.t (.int .i64 m8_0)), (.t (.int .i64 m8_1)), (.t (.list 1 m8_2z m8_2)), (.t (.list 1 m8_3z m8_3))])), (9, (.var [(.t (.int .i64 m9_0)), (.t (.int .i64 m9_1)), (.buf 10), (.buf 11)])), (10, (.arr true 1 m10z m10)), (11, (.arr true 1 m11z m11))], []⟩) a0 a1 a2z a2 := by kernel_rfl
/-- purfle/level.Make -/
theorem eq10 (a0 : Int) (a1 : Int) (a2z : Bool) (a2 : List T) : vr 10 0 [(.t (.int .i64 a0)), (.t (.int .i64 a1)), (.t (.list 1 a2z a2))] ⟨[], []⟩ = R10 J10_9 L10_10 a0 a1 a2z a2 :=
  (call_eq Try.prog hint (fn := Try.f10) (nt := 70) (T := (Ta10 (fun e st => atV Try.prog hint 10 0 Try.f10 70 (List.reverse PaJ10_9) e st) (fun e st => atV Try.prog hint 10 0 Try.f10 70 (List.reverse PaL10_10) e st))) [PaJ10_9, PaL10_10] rfl [(.t (.int .i64 a0)), (.t (.int .i64 a1)), (.t (.list 1 a2z a2))] ⟨[], []⟩ rfl rfl rfl rfl rfl).trans (eq10g (fun e st => atV Try.prog hint 10 0 Try.f10 70 (List.reverse PaJ10_9) e st) (fun e st => atV Try.prog hint 10 0 Try.f10 70 (List.reverse PaL10_10) e st) a0 a1 a2z a2)
noncomputable def RJ10_9 (J10_9 : Int → Bool → (List T) → Int → Int → Bool → (List T) → Bool → (List T) → Int → Int → Bool → (List T) → Bool → (List T) → Option Res) (L10_10 : Int → Bool → (List T) → Bool → (List T) → Int → Int → Int → Int → Bool → (List T) → Bool → (List T) → Int → Int → Bool → (List T) → Bool → (List T) → Option Res) (kind0 : Int) (groups2z : Bool) (groups2 : List T) (m8_0 : Int) (m8_1 : Int) (m8_2z : Bool) (m8_2 : List T) (m8_3z : Bool) (m8_3 : List T) (m9_0 : Int) (m9_1 : Int) (m10z : Bool) (m10 : List T) (m11z : Bool) (m11 : List T) : Option Res :=
 L10_10 (kind0) (groups2z) (groups2) (groups2z) (groups2) ((groups2.length : Int)) (0) (m8_0) (m8_1) (m8_2z) (m8_2) (m8_3z) (m8_3) (m9_0) (m9_1) (m10z) (m10) (m11z) (m11)
theorem J10_9g (KJ10_9 KL10_10 : Env → St → Option Res) (kind0 : Int) (groups2z : Bool) (groups2 : List T) (m8_0 : Int) (m8_1 : Int) (m8_2z : Bool) (m8_2 : List T) (m8_3z : Bool) (m8_3 : List T) (m9_0 : Int) (m9_1 : Int) (m10z : Bool) (m10 : List T) (m11z : Bool) (m11 : List T) : codeT Try.prog hint 10 0 70 (Ta10 KJ10_9 KL10_10) PaJ10_9 (ctxT Try.prog hint 10 0 70 (Ta10 KJ10_9 KL10_10) [] (List.reverse PaJ10_9) (bodyOf Try.f10) (resKV Try.prog Try.f10 (hint.own 10 0))) [(0, (.t (.int .i64 kind0))), (2, (.t (.list 1 groups2z groups2))), (6, (.ptr 8 0 0)), (8, (.ptr 9 0 0))] ⟨[(8, (.var [(.t (.int .i64 m8_0)), (.t (.int .i64 m8_1)), (.t (.list 1 m8_2z m8_2)), (.t (.list 1 m8_3z m8_3))])), (9, (.var [(.t (.int .i64 m9_0)), (.t (.int .i64 m9_1)), (.buf 10), (.buf 11)])), (10, (.arr true 1 m10z m10)), (11, (.arr true 1 m11z m11))], []⟩ (nav (List.reverse PaJ10_9) (bodyOf Try.f10)) = RJ10_9 (fun kind0 groups2z groups2 m8_0 m8_1 m8_2z m8_2 m8_3z m8_3 m9_0 m9_1 m10z m10 m11z m11 => KJ10_9 [(0, (.t (.int .i64 kind0))), (2, (.t (.list 1 groups2z groups2))), (6, (.ptr 8 0 0)), (8, (.ptr 9 0 0))] ⟨[(8, (.var [(.t (.int .i64 m8_0)), (.t (.int .i64 m8_1)), (.t (.list 1 m8_2z m8_2)), (.t (.list 1 m8_3z m8_3))])), (9, (.var [(.t (.int .i64 m9_0)), (.t (.int .i64 m9_1)), (.buf 10), (.buf 11)])), (10, (.arr true 1 m10z m10)), (11, (.arr true 1 m11z m11))], []⟩) (fun kind0 groups2z groups2 t30z t30 t31 t32 m8_0 m8_1 m8_2z m8_2 m8_3z m8_3 m9_0 m9_1 m10z m10 m11z m11 => KL10_10 [(0, (.t (.int .i64 kind0))), (2, (.t (.list 1 groups2z groups2))), (6, (.ptr 8 0 0)), (8, (.ptr 9 0 0)), (30, (.t (.list 1 t30z t30))), (31, (.t (.int .i64 t31))), (32, (.t (.int .i64 t32)))] ⟨[(8, (.var [(.t (.int .i64 m8_0)), (.t (.int .i64 m8_1)), (.t (.list 1 m8_2z m8_2)), (.t (.list 1 m8_3z m8_3))])), (9, (.var [(.t (.int .i64 m9_0)), (.t (.int .i64 m9_1)), (.buf 10), (.buf 11)])), (10, (.arr true 1 m10z m10)), (11, (.arr true 1 m11z m11))], []⟩) kind0 groups2z groups2 m8_0 m8_1 m8_2z m8_2 m8_3z m8_3 m9_0 m9_1 m10z m10 m11z m11 := by kernel_rfl
theorem J10_9_eq (kind0 : Int) (groups2z : Bool) (groups2 : List T) (m8_0 : Int) (m8_1 : Int) (m8_2z : Bool) (m8_2 : List T) (m8_3z : Bool) (m8_3 : List T) (m9_0 : Int) (m9_1 : Int) (m10z : Bool) (m10 : List T) (m11z : Bool) (m11 : List T) : J10_9 kind0 groups2z groups2 m8_0 m8_1 m8_2z m8_2 m8_3z m8_3 m9_0 m9_1 m10z m10 m11z m11 = RJ10_9 J10_9 L10_10 kind0 groups2z groups2 m8_0 m8_1 m8_2z m8_2 m8_3z m8_3 m9_0 m9_1 m10z m10 m11z m11 :=
  (join_eq Try.prog hint (fn := Try.f10) (nt := 70) (T := (Ta10 (fun e st => atV Try.prog hint 10 0 Try.f10 70 (List.reverse PaJ10_9) e st) (fun e st => atV Try.prog hint 10 0 Try.f10 70 (List.reverse PaL10_10) e st))) [PaJ10_9, PaL10_10] rfl PaJ10_9 [(0, (.t (.int .i64 kind0))), (2, (.t (.list 1 groups2z groups2))), (6, (.ptr 8 0 0)), (8, (.ptr 9 0 0))] ⟨[(8, (.var [(.t (.int .i64 m8_0)), (.t (.int .i64 m8_1)), (.t (.list 1 m8_2z m8_2)), (.t (.list 1 m8_3z m8_3))])), (9, (.var [(.t (.int .i64 m9_0)), (.t (.int .i64 m9_1)), (.buf 10), (.buf 11)])), (10, (.arr true 1 m10z m10)), (11, (.arr true 1 m11z m11))], []⟩ rfl).trans (J10_9g (fun e st => atV Try.prog hint 10 0 Try.f10 70 (List.reverse PaJ10_9) e st) (fun e st => atV Try.prog hint 10 0 Try.f10 70 (List.reverse PaL10_10) e st) kind0 groups2z groups2 m8_0 m8_1 m8_2z m8_2 m8_3z m8_3 m9_0 m9_1 m10z m10 m11z m11)
noncomputable def RL10_10 (J10_9 : Int → Bool → (List T) → Int → Int → Bool → (List T) → Bool → (List T) → Int → Int → Bool → (List T) → Bool → (List T) → Option Res) (L10_10 : Int → Bool → (List T) → Bool → (List T) → Int → Int → Int → Int → Bool → (List T) → Bool → (List T) → Int → Int → Bool → (List T) → Bool → (List T) → Option Res) (kind0 : Int) (groups2z : Bool) (groups2 : List T) (t30z : Bool) (t30 : List T) (t31 : Int) (t32 : Int) (m8_0 : Int) (m8_1 : Int) (m8_2z : Bool) (m8_2 : List T) (m8_3z : Bool) (m8_3 : List T) (m9_0 : Int) (m9_1 : Int) (m10z : Bool) (m10 : List T) (m11z : Bool) (m11 : List T) : Option Res :=
(bif (decide (t32 < t31)) then
 needC (decide (0 ≤ t32)) fun _ =>
 getT t30 (t32).toNat fun e_1 =>
 asL 1 e_1 fun nn_2 l_3 =>
(bif (decide (kind0 = 3)) then
(bif (!decide ((l_3.length : Int) = 1)) then
 some ((.tup [(.t (.agg [(.int .i64 0), (.int .i64 0), (.list 1 false []), (.list 1 false [])])), (.t (.int .i64 1))]), ⟨[], []⟩)
else
 needC (decide ((m11.length + l_3.length) * (8 + 1) ≤ 70368744177664) && decide (8 ≤ 1048576)) fun _ =>
(bif (!(!m10z)) then
 needC (decide ((m10.length + 1) * (8 + 1) ≤ 70368744177664) && decide (8 ≤ 1048576)) fun _ =>
 L10_10 (kind0) (groups2z) (groups2) (t30z) (t30) (t31) ((IntKind.i64.wrap (t32 + 1))) (m8_0) (m8_1) (m8_2z) (m8_2) (m8_3z) (m8_3) (m9_0) (m9_1) ((m10z || true)) ((m10 ++ ([(.int .i64 (((m11 ++ l_3)).length : Int))] : List T))) ((m11z || (!l_3.isEmpty))) ((m11 ++ l_3))
else
 L10_10 (kind0) (groups2z) (groups2) (t30z) (t30) (t31) ((IntKind.i64.wrap (t32 + 1))) (m8_0) (m8_1) (m8_2z) (m8_2) (m8_3z) (m8_3) (m9_0) (m9_1) (m10z) (m10) ((m11z || (!l_3.isEmpty))) ((m11 ++ l_3))))
else
 needC (decide ((m11.length + l_3.length) * (8 + 1) ≤ 70368744177664) && decide (8 ≤ 1048576)) fun _ =>
(bif (!(!m10z)) then
 needC (decide ((m10.length + 1) * (8 + 1) ≤ 70368744177664) && decide (8 ≤ 1048576)) fun _ =>
 L10_10 (kind0) (groups2z) (groups2) (t30z) (t30) (t31) ((IntKind.i64.wrap (t32 + 1))) (m8_0) (m8_1) (m8_2z) (m8_2) (m8_3z) (m8_3) (m9_0) (m9_1) ((m10z || true)) ((m10 ++ ([(.int .i64 (((m11 ++ l_3)).length : Int))] : List T))) ((m11z || (!l_3.isEmpty))) ((m11 ++ l_3))
else
 L10_10 (kind0) (groups2z) (groups2) (t30z) (t30) (t31) ((IntKind.i64.wrap (t32 + 1))) (m8_0) (m8_1) (m8_2z) (m8_2) (m8_3z) (m8_3) (m9_0) (m9_1) (m10z) (m10) ((m11z || (!l_3.isEmpty))) ((m11 ++ l_3))))
else
 callK (vr 19 0 [(.t (.agg [(.int .i64 m9_0), (.int .i64 m9_1), (.list 1 m10z m10), (.list 1 m11z m11)])), (.t (.int .i64 (groups2.length : Int)))] ⟨[], []⟩) fun v_4 b_5 =>
 asT v_4 fun x_6 =>
 asI .i64 x_6 fun x_7 =>
 endB b_5 <|
(bif (!decide (x_7 = 0)) then
 some ((.tup [(.t (.agg [(.int .i64 0), (.int .i64 0), (.list 1 false []), (.list 1 false [])])), (.t (.int .i64 x_7))]), ⟨[], []⟩)
else
 some ((.tup [(.t (.agg [(.int .i64 m9_0), (.int .i64 m9_1), (.list 1 m10z m10), (.list 1 m11z m11)])), (.t (.int .i64 0))]), ⟨[], []⟩)))
theorem L10_10g (KJ10_9 KL10_10 : Env → St → Option Res) (kind0 : Int) (groups2z : Bool) (groups2 : List T) (t30z : Bool) (t30 : List T) (t31 : Int) (t32 : Int) (m8_0 : Int) (m8_1 : Int) (m8_2z : Bool) (m8_2 : List T) (m8_3z : Bool) (m8_3 : List T) (m9_0 : Int) (m9_1 : Int) (m10z : Bool) (m10 : List T) (m11z : Bool) (m11 : List T) : codeT Try.prog hint 10 0 70 (Ta10 KJ10_9 KL10_10) (.lp :: PaL10_10) (ctxT Try.prog hint 10 0 70 (Ta10 KJ10_9 KL10_10) [] (List.reverse (.lp :: PaL10_10)) (bodyOf Try.f10) (resKV Try.prog Try.f10 (hint.own 10 0))) [(0, (.t (.int .i64 kind0))), (2, (.t (.list 1 groups2z groups2))), (6, (.ptr 8 0 0)), (8, (.ptr 9 0 0)), (30, (.t (.list 1 t30z t30))), (31, (.t (.int .i64 t31))), (32, (.t (.int .i64 t32)))] ⟨[(8, (.var [(.t (.int .i64 m8_0)), (.t (.int .i64 m8_1)), (.t (.list 1 m8_2z m8_2)), (.t (.list 1 m8_3z m8_3))])), (9, (.var [(.t (.int .i64 m9_0)), (.t (.int .i64 m9_1)), (.buf 10), (.buf 11)])), (10, (.arr true 1 m10z m10)), (11, (.arr true 1 m11z m11))], []⟩ (nav (List.reverse (.lp :: PaL10_10)) (bodyOf Try.f10)) = RL10_10 (fun kind0 groups2z groups2 m8_0 m8_1 m8_2z m8_2 m8_3z m8_3 m9_0 m9_1 m10z m10 m11z m11 => KJ10_9 [(0, (.t (.int .i64 kind0))), (2, (.t (.list 1 groups2z groups2))), (6, (.ptr 8 0 0)), (8, (.ptr 9 0 0))] ⟨[(8, (.var [(.t (.int .i64 m8_0)), (.t (.int .i64 m8_1)), (.t (.list 1 m8_2z m8_2)), (.t (.list 1 m8_3z m8_3))])), (9, (.var [(.t (.int .i64 m9_0)), (.t (.int .i64 m9_1)), (.buf 10), (.buf 11)])), (10, (.arr true 1 m10z m10)), (11, (.arr true 1 m11z m11))], []⟩) (fun kind0 groups2z groups2 t30z t30 t31 t32 m8_0 m8_1 m8_2z m8_2 m8_3z m8_3 m9_0 m9_1 m10z m10 m11z m11 => KL10_10 [(0, (.t (.int .i64 kind0))), (2, (.t (.list 1 groups2z groups2))), (6, (.ptr 8 0 0)), (8, (.ptr 9 0 0)), (30, (.t (.list 1 t30z t30))), (31, (.t (.int .i64 t31))), (32, (.t (.int .i64 t32)))] ⟨[(8, (.var [(.t (.int .i64 m8_0)), (.t (.int .i64 m8_1)), (.t (.list 1 m8_2z m8_2)), (.t (.list 1 m8_3z m8_3))])), (9, (.var [(.t (.int .i64 m9_0)), (.t (.int .i64 m9_1)), (.buf 10), (.buf 11)])), (10, (.arr true 1 m10z m10)), (11, (.arr true 1 m11z m11))], []⟩) kind0 groups2z groups2 t30z t30 t31 t32 m8_0 m8_1 m8_2z m8_2 m8_3z m8_3 m9_0 m9_1 m10z m10 m11z m11 := by kernel_rfl
theorem L10_10_eq (kind0 : Int) (groups2z : Bool) (groups2 : List T) (t30z : Bool) (t30 : List T) (t31 : Int) (t32 : Int) (m8_0 : Int) (m8_1 : Int) (m8_2z : Bool) (m8_2 : List T) (m8_3z : Bool) (m8_3 : List T) (m9_0 : Int) (m9_1 : Int) (m10z : Bool) (m10 : List T) (m11z : Bool) (m11 : List T) : L10_10 kind0 groups2z groups2 t30z t30 t31 t32 m8_0 m8_1 m8_2z m8_2 m8_3z m8_3 m9_0 m9_1 m10z m10 m11z m11 = RL10_10 J10_9 L10_10 kind0 groups2z groups2 t30z t30 t31 t32 m8_0 m8_1 m8_2z m8_2 m8_3z m8_3 m9_0 m9_1 m10z m10 m11z m11 :=
  (round_eq Try.prog hint (b := (nav (List.reverse (.lp :: PaL10_10)) (bodyOf Try.f10))) (fn := Try.f10) (nt := 70) (T := (Ta10 (fun e st => atV Try.prog hint 10 0 Try.f10 70 (List.reverse PaJ10_9) e st) (fun e st => atV Try.prog hint 10 0 Try.f10 70 (List.reverse PaL10_10) e st))) [PaJ10_9, PaL10_10] rfl PaL10_10 [(0, (.t (.int .i64 kind0))), (2, (.t (.list 1 groups2z groups2))), (6, (.ptr 8 0 0)), (8, (.ptr 9 0 0)), (30, (.t (.list 1 t30z t30))), (31, (.t (.int .i64 t31))), (32, (.t (.int .i64 t32)))] ⟨[(8, (.var [(.t (.int .i64 m8_0)), (.t (.int .i64 m8_1)), (.t (.list 1 m8_2z m8_2)), (.t (.list 1 m8_3z m8_3))])), (9, (.var [(.t (.int .i64 m9_0)), (.t (.int .i64 m9_1)), (.buf 10), (.buf 11)])), (10, (.arr true 1 m10z m10)), (11, (.arr true 1 m11z m11))], []⟩ rfl rfl rfl).trans (L10_10g (fun e st => atV Try.prog hint 10 0 Try.f10 70 (List.reverse PaJ10_9) e st) (fun e st => atV Try.prog hint 10 0 Try.f10 70 (List.reverse PaL10_10) e st) kind0 groups2z groups2 t30z t30 t31 t32 m8_0 m8_1 m8_2z m8_2 m8_3z m8_3 m9_0 m9_1 m10z m10 m11z m11)
noncomputable def R13  (a0_0 : Int) (a0_1 : Int) (a0_2z : Bool) (a0_2 : List T) (a0_3z : Bool) (a0_3 : List T) (a1 : Int) : Option Res :=
 callK (vr 19 0 [(.t (.agg [(.int .i64 a0_0), (.int .i64 a0_1), (.list 1 a0_2z a0_2), (.list 1 a0_3z a0_3)])), (.t (.int .i64 a1))] ⟨[], []⟩) fun v_1 b_2 =>
 asT v_1 fun x_3 =>
 asI .i64 x_3 fun x_4 =>
 endB b_2 <|
(bif (!decide (x_4 = 0)) then
 some ((.tup [(.t (.int .i64 0)), (.t (.int .i64 x_4))]), ⟨[], []⟩)
else
 callK (vr 29 0 [(.t (.agg [(.int .i64 a0_0), (.int .i64 a0_1), (.list 1 a0_2z a0_2), (.list 1 a0_3z a0_3)])), (.t (.int .i64 a1))] ⟨[], []⟩) fun v_5 b_6 =>
 asT v_5 fun x_7 =>
 asI .i64 x_7 fun x_8 =>
 endB b_6 <|
 some ((.tup [(.t (.int .i64 x_8)), (.t (.int .i64 0))]), ⟨[], []⟩))
theorem eq13g  (a0_0 : Int) (a0_1 : Int) (a0_2z : Bool) (a0_2 : List T) (a0_3z : Bool) (a0_3 : List T) (a1 : Int) : codeT Try.prog hint 13 0 16 [] [] (resKV Try.prog Try.f13 (hint.own 13 0)) (nrm hint 13 0 (bodyOf Try.f13) (envV [(.t (.agg [(.int .i64 a0_0), (.int .i64 a0_1), (.list 1 a0_2z a0_2), (.list 1 a0_3z a0_3)])), (.t (.int .i64 a1))] 0) ⟨[], []⟩).1 (nrm hint 13 0 (bodyOf Try.f13) (envV [(.t (.agg [(.int .i64 a0_0), (.int .i64 a0_1), (.list 1 a0_2z a0_2), (.list 1 a0_3z a0_3)])), (.t (.int .i64 a1))] 0) ⟨[], []⟩).2 (bodyOf Try.f13) = R13  a0_0 a0_1 a0_2z a0_2 a0_3z a0_3 a1 := by kernel_rfl
/-- purfle/level.Below -/
theorem eq13 (a0_0 : Int) (a0_1 : Int) (a0_2z : Bool) (a0_2 : List T) (a0_3z : Bool) (a0_3 : List T) (a1 : Int) : vr 13 0 [(.t (.agg [(.int .i64 a0_0), (.int .i64 a0_1), (.list 1 a0_2z a0_2), (.list 1 a0_3z a0_3)])), (.t (.int .i64 a1))] ⟨[], []⟩ = R13  a0_0 a0_1 a0_2z a0_2 a0_3z a0_3 a1 :=
  (call_eq Try.prog hint (fn := Try.f13) (nt := 16) (T := []) [] rfl [(.t (.agg [(.int .i64 a0_0), (.int .i64 a0_1), (.list 1 a0_2z a0_2), (.list 1 a0_3z a0_3)])), (.t (.int .i64 a1))] ⟨[], []⟩ rfl rfl rfl rfl rfl).trans (eq13g  a0_0 a0_1 a0_2z a0_2 a0_3z a0_3 a1)
noncomputable def R16 (L16_4 : Bool → (List T) → Bool → (List T) → Int → Int → Option Res) (a0z : Bool) (a0 : List T) (a1z : Bool) (a1 : List T) : Option Res :=
(bif (!decide ((a0.length : Int) = (a1.length : Int))) then
 some ((.t (.bool false)), ⟨[], []⟩)
else
 L16_4 (a0z) (a0) (a1z) (a1) ((a0.length : Int)) (0))
theorem eq16g (KL16_4 : Env → St → Option Res) (a0z : Bool) (a0 : List T) (a1z : Bool) (a1 : List T) : codeT Try.prog hint 16 0 26 (Ta16 KL16_4) [] (resKV Try.prog Try.f16 (hint.own 16 0)) (nrm hint 16 0 (bodyOf Try.f16) (envV [(.t (.list 1 a0z a0)), (.t (.list 1 a1z a1))] 0) ⟨[], []⟩).1 (nrm hint 16 0 (bodyOf Try.f16) (envV [(.t (.list 1 a0z a0)), (.t (.list 1 a1z a1))] 0) ⟨[], []⟩).2 (bodyOf Try.f16) = R16 (fun a0z a0 b1z b1 t12 t13 => KL16_4 [(0, (.t (.list 1 a0z a0))), (1, (.t (.list 1 b1z b1))), (12, (.t (.int .i64 t12))), (13, (.t (.int .i64 t13)))] ⟨[], []⟩) a0z a0 a1z a1 := by kernel_rfl
/-- purfle/purfleref01.Equal -/
theorem eq16 (a0z : Bool) (a0 : List T) (a1z : Bool) (a1 : List T) : vr 16 0 [(.t (.list 1 a0z a0)), (.t (.list 1 a1z a1))] ⟨[], []⟩ = R16 L16_4 a0z a0 a1z a1 :=
  (call_eq Try.prog hint (fn := Try.f16) (nt := 26) (T := (Ta16 (fun e st => atV Try.prog hint 16 0 Try.f16 26 (List.reverse PaL16_4) e st))) [PaL16_4] rfl [(.t (.list 1 a0z a0)), (.t (.list 1 a1z a1))] ⟨[], []⟩ rfl rfl rfl rfl rfl).trans (eq16g (fun e st => atV Try.prog hint 16 0 Try.f16 26 (List.reverse PaL16_4) e st) a0z a0 a1z a1)
noncomputable def RL16_4 (L16_4 : Bool → (List T) → Bool → (List T) → Int → Int → Option Res) (a0z : Bool) (a0 : List T) (b1z : Bool) (b1 : List T) (t12 : Int) (t13 : Int) : Option Res :=
(bif (decide (t13 < t12)) then
 needC (decide (0 ≤ t13)) fun _ =>
 getT a0 (t13).toNat fun e_1 =>
 asI .i64 e_1 fun x_2 =>
 needC (decide (0 ≤ t13)) fun _ =>
 getT b1 (t13).toNat fun e_3 =>
 asI .i64 e_3 fun x_4 =>
(bif (!decide (x_2 = x_4)) then
 some ((.t (.bool false)), ⟨[], []⟩)
else
 L16_4 (a0z) (a0) (b1z) (b1) (t12) ((IntKind.i64.wrap (t13 + 1))))
else
 some ((.t (.bool true)), ⟨[], []⟩))
theorem L16_4g (KL16_4 : Env → St → Option Res) (a0z : Bool) (a0 : List T) (b1z : Bool) (b1 : List T) (t12 : Int) (t13 : Int) : codeT Try.prog hint 16 0 26 (Ta16 KL16_4) (.lp :: PaL16_4) (ctxT Try.prog hint 16 0 26 (Ta16 KL16_4) [] (List.reverse (.lp :: PaL16_4)) (bodyOf Try.f16) (resKV Try.prog Try.f16 (hint.own 16 0))) [(0, (.t (.list 1 a0z a0))), (1, (.t (.list 1 b1z b1))), (12, (.t (.int .i64 t12))), (13, (.t (.int .i64 t13)))] ⟨[], []⟩ (nav (List.reverse (.lp :: PaL16_4)) (bodyOf Try.f16)) = RL16_4 (fun a0z a0 b1z b1 t12 t13 => KL16_4 [(0, (.t (.list 1 a0z a0))), (1, (.t (.list 1 b1z b1))), (12, (.t (.int .i64 t12))), (13, (.t (.int .i64 t13)))] ⟨[], []⟩) a0z a0 b1z b1 t12 t13 := by kernel_rfl
theorem L16_4_eq (a0z : Bool) (a0 : List T) (b1z : Bool) (b1 : List T) (t12 : Int) (t13 : Int) : L16_4 a0z a0 b1z b1 t12 t13 = RL16_4 L16_4 a0z a0 b1z b1 t12 t13 :=
  (round_eq Try.prog hint (b := (nav (List.reverse (.lp :: PaL16_4)) (bodyOf Try.f16))) (fn := Try.f16) (nt := 26) (T := (Ta16 (fun e st => atV Try.prog hint 16 0 Try.f16 26 (List.reverse PaL16_4) e st))) [PaL16_4] rfl PaL16_4 [(0, (.t (.list 1 a0z a0))), (1, (.t (.list 1 b1z b1))), (12, (.t (.int .i64 t12))), (13, (.t (.int .i64 t13)))] ⟨[], []⟩ rfl rfl rfl).trans (L16_4g (fun e st => atV Try.prog hint 16 0 Try.f16 26 (List.reverse PaL16_4) e st) a0z a0 b1z b1 t12 t13)
noncomputable def R9   : Option Res :=
 callK (vr 10 0 [(.t (.int .i64 1)), (.t (.int .i64 4)), (.t (.list 1 true [(.list 1 true [(.int .i64 1), (.int .i64 3)]), (.list 1 false []), (.list 1 true [(.int .i64 0)])]))] ⟨[], []⟩) fun v_1 b_2 =>
 asTup v_1 fun l_3 =>
 consV l_3 fun v_4 l_5 =>
 asT v_4 fun x_6 =>
 asA x_6 fun l_7 =>
 consT l_7 fun v_8 l_9 =>
 asI .i64 v_8 fun x_10 =>
 consT l_9 fun v_11 l_12 =>
 asI .i64 v_11 fun x_13 =>
 consT l_12 fun v_14 l_15 =>
 asL 1 v_14 fun nn_16 l_17 =>
 consT l_15 fun v_18 l_19 =>
 asL 1 v_18 fun nn_20 l_21 =>
 endT l_19 <|
 consV l_5 fun v_22 l_23 =>
 asT v_22 fun x_24 =>
 asI .i64 x_24 fun x_25 =>
 endV l_23 <|
 endB b_2 <|
 callK (vr 13 0 [(.t (.agg [(.int .i64 x_10), (.int .i64 x_13), (.list 1 nn_16 l_17), (.list 1 nn_20 l_21)])), (.t (.int .i64 3))] ⟨[], []⟩) fun v_26 b_27 =>
 asTup v_26 fun l_28 =>
 consV l_28 fun v_29 l_30 =>
 asT v_29 fun x_31 =>
 asI .i64 x_31 fun x_32 =>
 consV l_30 fun v_33 l_34 =>
 asT v_33 fun x_35 =>
 asI .i64 x_35 fun x_36 =>
 endV l_34 <|
 endB b_27 <|
 callK (vr 16 0 [(.t (.list 1 nn_16 l_17)), (.t (.list 1 true [(.int .i64 0), (.int .i64 2), (.int .i64 2), (.int .i64 3)]))] ⟨[], []⟩) fun v_37 b_38 =>
 asT v_37 fun x_39 =>
 asB x_39 fun b_40 =>
 endB b_38 <|
(bif b_40 then
 callK (vr 16 0 [(.t (.list 1 nn_20 l_21)), (.t (.list 1 true [(.int .i64 1), (.int .i64 3), (.int .i64 0)]))] ⟨[], []⟩) fun v_41 b_42 =>
 asT v_41 fun x_43 =>
 asB x_43 fun b_44 =>
 endB b_42 <|
(bif b_44 then
(bif (decide (x_25 = 0)) then
(bif (decide (x_32 = 3)) then
 some ((.t (.bool (decide (x_36 = 0)))), ⟨[], []⟩)
else
 some ((.t (.bool false)), ⟨[], []⟩))
else
 some ((.t (.bool false)), ⟨[], []⟩))
else
 some ((.t (.bool false)), ⟨[], []⟩))
else
 some ((.t (.bool false)), ⟨[], []⟩))
theorem eq9g   : codeT Try.prog hint 9 0 39 [] [] (resKV Try.prog Try.f9 (hint.own 9 0)) (nrm hint 9 0 (bodyOf Try.f9) (envV [] 0) ⟨[], []⟩).1 (nrm hint 9 0 (bodyOf Try.f9) (envV [] 0) ⟨[], []⟩).2 (bodyOf Try.f9) = R9   := by kernel_rfl
/-- purfle/purflelaw04.live -/
theorem eq9  : vr 9 0 [] ⟨[], []⟩ = R9   :=
  (call_eq Try.prog hint (fn := Try.f9) (nt := 39) (T := []) [] rfl [] ⟨[], []⟩ rfl rfl rfl rfl rfl).trans (eq9g  )
noncomputable def R21  (a0_0 : Int) (a0_1 : Int) (a0_2z : Bool) (a0_2 : List T) (a0_3z : Bool) (a0_3 : List T) : Option Res :=
(bif (decide (a0_0 = 0)) then
 some ((.t (.bool true)), ⟨[], []⟩)
else
 some ((.t (.bool (decide (a0_0 = 4)))), ⟨[], []⟩))
theorem eq21g  (a0_0 : Int) (a0_1 : Int) (a0_2z : Bool) (a0_2 : List T) (a0_3z : Bool) (a0_3 : List T) : codeT Try.prog hint 21 0 11 [] [] (resKV Try.prog Try.f21 (hint.own 21 0)) (nrm hint 21 0 (bodyOf Try.f21) (envV [(.t (.agg [(.int .i64 a0_0), (.int .i64 a0_1), (.list 1 a0_2z a0_2), (.list 1 a0_3z a0_3)]))] 0) ⟨[], []⟩).1 (nrm hint 21 0 (bodyOf Try.f21) (envV [(.t (.agg [(.int .i64 a0_0), (.int .i64 a0_1), (.list 1 a0_2z a0_2), (.list 1 a0_3z a0_3)]))] 0) ⟨[], []⟩).2 (bodyOf Try.f21) = R21  a0_0 a0_1 a0_2z a0_2 a0_3z a0_3 := by kernel_rfl
/-- purfle/purfleref04.Whole -/
theorem eq21 (a0_0 : Int) (a0_1 : Int) (a0_2z : Bool) (a0_2 : List T) (a0_3z : Bool) (a0_3 : List T) : vr 21 0 [(.t (.agg [(.int .i64 a0_0), (.int .i64 a0_1), (.list 1 a0_2z a0_2), (.list 1 a0_3z a0_3)]))] ⟨[], []⟩ = R21  a0_0 a0_1 a0_2z a0_2 a0_3z a0_3 :=
  (call_eq Try.prog hint (fn := Try.f21) (nt := 11) (T := []) [] rfl [(.t (.agg [(.int .i64 a0_0), (.int .i64 a0_1), (.list 1 a0_2z a0_2), (.list 1 a0_3z a0_3)]))] ⟨[], []⟩ rfl rfl rfl rfl rfl).trans (eq21g  a0_0 a0_1 a0_2z a0_2 a0_3z a0_3)
noncomputable def R18  (a0_0 : Int) (a0_1 : Int) (a0_2z : Bool) (a0_2 : List T) (a0_3z : Bool) (a0_3 : List T) (a1 : Int) : Option Res :=
(bif (decide ((a0_2.length : Int) ≤ 70000)) then
(bif (decide ((a0_3.length : Int) ≤ 70000)) then
 callK (vr 21 0 [(.t (.agg [(.int .i64 a0_0), (.int .i64 a0_1), (.list 1 a0_2z a0_2), (.list 1 a0_3z a0_3)]))] ⟨[], []⟩) fun v_1 b_2 =>
 asT v_1 fun x_3 =>
 asB x_3 fun b_4 =>
 endB b_2 <|
(bif (!b_4) then
 some ((.t (.bool (decide (a1 ≤ 70000)))), ⟨[], []⟩)
else
(bif (decide (a0_1 ≤ 5000)) then
 some ((.t (.bool (decide (a1 ≤ 70000)))), ⟨[], []⟩)
else
 some ((.t (.bool false)), ⟨[], []⟩)))
else
 some ((.t (.bool false)), ⟨[], []⟩))
else
 some ((.t (.bool false)), ⟨[], []⟩))
theorem eq18g  (a0_0 : Int) (a0_1 : Int) (a0_2z : Bool) (a0_2 : List T) (a0_3z : Bool) (a0_3 : List T) (a1 : Int) : codeT Try.prog hint 18 0 29 [] [] (resKV Try.prog Try.f18 (hint.own 18 0)) (nrm hint 18 0 (bodyOf Try.f18) (envV [(.t (.agg [(.int .i64 a0_0), (.int .i64 a0_1), (.list 1 a0_2z a0_2), (.list 1 a0_3z a0_3)])), (.t (.int .i64 a1))] 0) ⟨[], []⟩).1 (nrm hint 18 0 (bodyOf Try.f18) (envV [(.t (.agg [(.int .i64 a0_0), (.int .i64 a0_1), (.list 1 a0_2z a0_2), (.list 1 a0_3z a0_3)])), (.t (.int .i64 a1))] 0) ⟨[], []⟩).2 (bodyOf Try.f18) = R18  a0_0 a0_1 a0_2z a0_2 a0_3z a0_3 a1 := by kernel_rfl
/-- purfle/purflelaw04.few -/
theorem eq18 (a0_0 : Int) (a0_1 : Int) (a0_2z : Bool) (a0_2 : List T) (a0_3z : Bool) (a0_3 : List T) (a1 : Int) : vr 18 0 [(.t (.agg [(.int .i64 a0_0), (.int .i64 a0_1), (.list 1 a0_2z a0_2), (.list 1 a0_3z a0_3)])), (.t (.int .i64 a1))] ⟨[], []⟩ = R18  a0_0 a0_1 a0_2z a0_2 a0_3z a0_3 a1 :=
  (call_eq Try.prog hint (fn := Try.f18) (nt := 29) (T := []) [] rfl [(.t (.agg [(.int .i64 a0_0), (.int .i64 a0_1), (.list 1 a0_2z a0_2), (.list 1 a0_3z a0_3)])), (.t (.int .i64 a1))] ⟨[], []⟩ rfl rfl rfl rfl rfl).trans (eq18g  a0_0 a0_1 a0_2z a0_2 a0_3z a0_3 a1)
noncomputable def R30  (a0_0 : Int) (a0_1 : Int) (a0_2z : Bool) (a0_2 : List T) (a0_3z : Bool) (a0_3 : List T) (a1 : Int) (a2 : Int) : Option Res :=
 callK (vr 19 0 [(.t (.agg [(.int .i64 a0_0), (.int .i64 a0_1), (.list 1 a0_2z a0_2), (.list 1 a0_3z a0_3)])), (.t (.int .i64 a1))] ⟨[], []⟩) fun v_1 b_2 =>
 asT v_1 fun x_3 =>
 asI .i64 x_3 fun x_4 =>
 endB b_2 <|
(bif (!decide (x_4 = 0)) then
 some ((.t (.int .i64 x_4)), ⟨[], []⟩)
else
(bif (decide (a2 < 0)) then
 some ((.t (.int .i64 5)), ⟨[], []⟩)
else
(bif (decide (a1 ≤ a2)) then
 some ((.t (.int .i64 5)), ⟨[], []⟩)
else
 some ((.t (.int .i64 0)), ⟨[], []⟩))))
theorem eq30g  (a0_0 : Int) (a0_1 : Int) (a0_2z : Bool) (a0_2 : List T) (a0_3z : Bool) (a0_3 : List T) (a1 : Int) (a2 : Int) : codeT Try.prog hint 30 0 21 [] [] (resKV Try.prog Try.f30 (hint.own 30 0)) (nrm hint 30 0 (bodyOf Try.f30) (envV [(.t (.agg [(.int .i64 a0_0), (.int .i64 a0_1), (.list 1 a0_2z a0_2), (.list 1 a0_3z a0_3)])), (.t (.int .i64 a1)), (.t (.int .i64 a2))] 0) ⟨[], []⟩).1 (nrm hint 30 0 (bodyOf Try.f30) (envV [(.t (.agg [(.int .i64 a0_0), (.int .i64 a0_1), (.list 1 a0_2z a0_2), (.list 1 a0_3z a0_3)])), (.t (.int .i64 a1)), (.t (.int .i64 a2))] 0) ⟨[], []⟩).2 (bodyOf Try.f30) = R30  a0_0 a0_1 a0_2z a0_2 a0_3z a0_3 a1 a2 := by kernel_rfl
/-- purfle/level.ready -/
theorem eq30 (a0_0 : Int) (a0_1 : Int) (a0_2z : Bool) (a0_2 : List T) (a0_3z : Bool) (a0_3 : List T) (a1 : Int) (a2 : Int) : vr 30 0 [(.t (.agg [(.int .i64 a0_0), (.int .i64 a0_1), (.list 1 a0_2z a0_2), (.list 1 a0_3z a0_3)])), (.t (.int .i64 a1)), (.t (.int .i64 a2))] ⟨[], []⟩ = R30  a0_0 a0_1 a0_2z a0_2 a0_3z a0_3 a1 a2 :=
  (call_eq Try.prog hint (fn := Try.f30) (nt := 21) (T := []) [] rfl [(.t (.agg [(.int .i64 a0_0), (.int .i64 a0_1), (.list 1 a0_2z a0_2), (.list 1 a0_3z a0_3)])), (.t (.int .i64 a1)), (.t (.int .i64 a2))] ⟨[], []⟩ rfl rfl rfl rfl rfl).trans (eq30g  a0_0 a0_1 a0_2z a0_2 a0_3z a0_3 a1 a2)
noncomputable def R31 (J31_7 : Int → Int → Int → Bool → (List T) → Bool → (List T) → Option Res) (a0_0 : Int) (a0_1 : Int) (a0_2z : Bool) (a0_2 : List T) (a0_3z : Bool) (a0_3 : List T) (a1 : Int) : Option Res :=
(bif (decide (a0_0 = 1)) then
 needC (decide (0 ≤ a1)) fun _ =>
 getT a0_2 (a1).toNat fun e_1 =>
 asI .i64 e_1 fun x_2 =>
 needC (decide (0 ≤ (IntKind.i64.wrap (a1 + 1)))) fun _ =>
 getT a0_2 ((IntKind.i64.wrap (a1 + 1))).toNat fun e_3 =>
 asI .i64 e_3 fun x_4 =>
 some ((.tup [(.t (.int .i64 x_2)), (.t (.int .i64 x_4))]), ⟨[], []⟩)
else
(bif (decide (a0_0 = 2)) then
 needC (decide (0 ≤ a1)) fun _ =>
 getT a0_2 (a1).toNat fun e_5 =>
 asI .i64 e_5 fun x_6 =>
 needC (decide (0 ≤ (IntKind.i64.wrap (a1 + 1)))) fun _ =>
 getT a0_2 ((IntKind.i64.wrap (a1 + 1))).toNat fun e_7 =>
 asI .i64 e_7 fun x_8 =>
 some ((.tup [(.t (.int .i64 x_6)), (.t (.int .i64 x_8))]), ⟨[], []⟩)
else
(bif (decide (a0_0 = 3)) then
 some ((.tup [(.t (.int .i64 a1)), (.t (.int .i64 (IntKind.i64.wrap (a1 + 1))))]), ⟨[], []⟩)
else
 J31_7 (a1) (a0_0) (a0_1) (a0_2z) (a0_2) (a0_3z) (a0_3))))
theorem eq31g (KJ31_7 : Env → St → Option Res) (a0_0 : Int) (a0_1 : Int) (a0_2z : Bool) (a0_2 : List T) (a0_3z : Bool) (a0_3 : List T) (a1 : Int) : codeT Try.prog hint 31 0 36 (Ta31 KJ31_7) [] (resKV Try.prog Try.f31 (hint.own 31 0)) (nrm hint 31 0 (bodyOf Try.f31) (envV [(.t (.agg [(.int .i64 a0_0), (.int .i64 a0_1), (.list 1 a0_2z a0_2), (.list 1 a0_3z a0_3)])), (.t (.int .i64 a1))] 0) ⟨[], []⟩).1 (nrm hint 31 0 (bodyOf Try.f31) (envV [(.t (.agg [(.int .i64 a0_0), (.int .i64 a0_1), (.list 1 a0_2z a0_2), (.list 1 a0_3z a0_3)])), (.t (.int .i64 a1))] 0) ⟨[], []⟩).2 (bodyOf Try.f31) = R31 (fun p1 m8_0 m8_1 m8_2z m8_2 m8_3z m8_3 => KJ31_7 [(1, (.t (.int .i64 p1))), (2, (.ptr 8 0 0))] ⟨[(8, (.var [(.t (.int .i64 m8_0)), (.t (.int .i64 m8_1)), (.t (.list 1 m8_2z m8_2)), (.t (.list 1 m8_3z m8_3))]))], []⟩) a0_0 a0_1 a0_2z a0_2 a0_3z a0_3 a1 := by kernel_rfl
/-- purfle/level.segment -/
theorem eq31 (a0_0 : Int) (a0_1 : Int) (a0_2z : Bool) (a0_2 : List T) (a0_3z : Bool) (a0_3 : List T) (a1 : Int) : vr 31 0 [(.t (.agg [(.int .i64 a0_0), (.int .i64 a0_1), (.list 1 a0_2z a0_2), (.list 1 a0_3z a0_3)])), (.t (.int .i64 a1))] ⟨[], []⟩ = R31 J31_7 a0_0 a0_1 a0_2z a0_2 a0_3z a0_3 a1 :=
  (call_eq Try.prog hint (fn := Try.f31) (nt := 36) (T := (Ta31 (fun e st => atV Try.prog hint 31 0 Try.f31 36 (List.reverse PaJ31_7) e st))) [PaJ31_7] rfl [(.t (.agg [(.int .i64 a0_0), (.int .i64 a0_1), (.list 1 a0_2z a0_2), (.list 1 a0_3z a0_3)])), (.t (.int .i64 a1))] ⟨[], []⟩ rfl rfl rfl rfl rfl).trans (eq31g (fun e st => atV Try.prog hint 31 0 Try.f31 36 (List.reverse PaJ31_7) e st) a0_0 a0_1 a0_2z a0_2 a0_3z a0_3 a1)
noncomputable def RJ31_7 (J31_7 : Int → Int → Int → Bool → (List T) → Bool → (List T) → Option Res) (p1 : Int) (m8_0 : Int) (m8_1 : Int) (m8_2z : Bool) (m8_2 : List T) (m8_3z : Bool) (m8_3 : List T) : Option Res :=
 some ((.tup [(.t (.int .i64 (IntKind.i64.wrap (p1 * m8_1)))), (.t (.int .i64 (IntKind.i64.wrap ((IntKind.i64.wrap (p1 + 1)) * m8_1))))]), ⟨[], []⟩)
theorem J31_7g (KJ31_7 : Env → St → Option Res) (p1 : Int) (m8_0 : Int) (m8_1 : Int) (m8_2z : Bool) (m8_2 : List T) (m8_3z : Bool) (m8_3 : List T) : codeT Try.prog hint 31 0 36 (Ta31 KJ31_7) PaJ31_7 (ctxT Try.prog hint 31 0 36 (Ta31 KJ31_7) [] (List.reverse PaJ31_7) (bodyOf Try.f31) (resKV Try.prog Try.f31 (hint.own 31 0))) [(1, (.t (.int .i64 p1))), (2, (.ptr 8 0 0))] ⟨[(8, (.var [(.t (.int .i64 m8_0)), (.t (.int .i64 m8_1)), (.t (.list 1 m8_2z m8_2)), (.t (.list 1 m8_3z m8_3))]))], []⟩ (nav (List.reverse PaJ31_7) (bodyOf Try.f31)) = RJ31_7 (fun p1 m8_0 m8_1 m8_2z m8_2 m8_3z m8_3 => KJ31_7 [(1, (.t (.int .i64 p1))), (2, (.ptr 8 0 0))] ⟨[(8, (.var [(.t (.int .i64 m8_0)), (.t (.int .i64 m8_1)), (.t (.list 1 m8_2z m8_2)), (.t (.list 1 m8_3z m8_3))]))], []⟩) p1 m8_0 m8_1 m8_2z m8_2 m8_3z m8_3 := by kernel_rfl
theorem J31_7_eq (p1 : Int) (m8_0 : Int) (m8_1 : Int) (m8_2z : Bool) (m8_2 : List T) (m8_3z : Bool) (m8_3 : List T) : J31_7 p1 m8_0 m8_1 m8_2z m8_2 m8_3z m8_3 = RJ31_7 J31_7 p1 m8_0 m8_1 m8_2z m8_2 m8_3z m8_3 :=
  (join_eq Try.prog hint (fn := Try.f31) (nt := 36) (T := (Ta31 (fun e st => atV Try.prog hint 31 0 Try.f31 36 (List.reverse PaJ31_7) e st))) [PaJ31_7] rfl PaJ31_7 [(1, (.t (.int .i64 p1))), (2, (.ptr 8 0 0))] ⟨[(8, (.var [(.t (.int .i64 m8_0)), (.t (.int .i64 m8_1)), (.t (.list 1 m8_2z m8_2)), (.t (.list 1 m8_3z m8_3))]))], []⟩ rfl).trans (J31_7g (fun e st => atV Try.prog hint 31 0 Try.f31 36 (List.reverse PaJ31_7) e st) p1 m8_0 m8_1 m8_2z m8_2 m8_3z m8_3)
noncomputable def R15 (L15_7 : Int → Int → Int → Int → Int → Bool → (List T) → Bool → (List T) → Bool → (List T) → Option Res) (J15_12 : Int → Int → Int → Int → Int → Int → Bool → (List T) → Bool → (List T) → Bool → (List T) → Option Res) (a0_0 : Int) (a0_1 : Int) (a0_2z : Bool) (a0_2 : List T) (a0_3z : Bool) (a0_3 : List T) (a1 : Int) (a2 : Int) : Option Res :=
 callK (vr 30 0 [(.t (.agg [(.int .i64 a0_0), (.int .i64 a0_1), (.list 1 a0_2z a0_2), (.list 1 a0_3z a0_3)])), (.t (.int .i64 a1)), (.t (.int .i64 a2))] ⟨[], []⟩) fun v_1 b_2 =>
 asT v_1 fun x_3 =>
 asI .i64 x_3 fun x_4 =>
 endB b_2 <|
(bif (!decide (x_4 = 0)) then
 some ((.tup [(.t (.list 2 false [])), (.t (.int .i64 x_4))]), ⟨[], []⟩)
else
 callK (vr 31 0 [(.t (.agg [(.int .i64 a0_0), (.int .i64 a0_1), (.list 1 a0_2z a0_2), (.list 1 a0_3z a0_3)])), (.t (.int .i64 a2))] ⟨[], []⟩) fun v_5 b_6 =>
 asTup v_5 fun l_7 =>
 consV l_7 fun v_8 l_9 =>
 asT v_8 fun x_10 =>
 asI .i64 x_10 fun x_11 =>
 consV l_9 fun v_12 l_13 =>
 asT v_12 fun x_14 =>
 asI .i64 x_14 fun x_15 =>
 endV l_13 <|
 endB b_6 <|
 needC (decide (0 ≤ 0) && decide ((0 : Int) ≤ (IntKind.i64.wrap (x_15 - x_11))) && decide ((IntKind.i64.wrap (x_15 - x_11)) * (16 + 1) ≤ 70368744177664)) fun _ =>
 L15_7 (x_11) (x_15) (x_11) (a0_0) (a0_1) (a0_2z) (a0_2) (a0_3z) (a0_3) (true) ((List.replicate ((0 : Int)).toNat (.agg [(.int .i64 0), (.int .i64 0)]))))
theorem eq15g (KL15_7 KJ15_12 : Env → St → Option Res) (a0_0 : Int) (a0_1 : Int) (a0_2z : Bool) (a0_2 : List T) (a0_3z : Bool) (a0_3 : List T) (a1 : Int) (a2 : Int) : codeT Try.prog hint 15 0 55 (Ta15 KL15_7 KJ15_12) [] (resKV Try.prog Try.f15 (hint.own 15 0)) (nrm hint 15 0 (bodyOf Try.f15) (envV [(.t (.agg [(.int .i64 a0_0), (.int .i64 a0_1), (.list 1 a0_2z a0_2), (.list 1 a0_3z a0_3)])), (.t (.int .i64 a1)), (.t (.int .i64 a2))] 0) ⟨[], []⟩).1 (nrm hint 15 0 (bodyOf Try.f15) (envV [(.t (.agg [(.int .i64 a0_0), (.int .i64 a0_1), (.list 1 a0_2z a0_2), (.list 1 a0_3z a0_3)])), (.t (.int .i64 a1)), (.t (.int .i64 a2))] 0) ⟨[], []⟩).2 (bodyOf Try.f15) = R15 (fun from9 to10 n12 m8_0 m8_1 m8_2z m8_2 m8_3z m8_3 m9z m9 => KL15_7 [(3, (.ptr 8 0 0)), (9, (.t (.int .i64 from9))), (10, (.t (.int .i64 to10))), (11, (.buf 9)), (12, (.t (.int .i64 n12)))] ⟨[(8, (.var [(.t (.int .i64 m8_0)), (.t (.int .i64 m8_1)), (.t (.list 1 m8_2z m8_2)), (.t (.list 1 m8_3z m8_3))])), (9, (.arr true 2 m9z m9))], []⟩) (fun from9 to10 n12 at13 m8_0 m8_1 m8_2z m8_2 m8_3z m8_3 m9z m9 => KJ15_12 [(3, (.ptr 8 0 0)), (9, (.t (.int .i64 from9))), (10, (.t (.int .i64 to10))), (11, (.buf 9)), (12, (.t (.int .i64 n12))), (13, (.t (.int .i64 at13)))] ⟨[(8, (.var [(.t (.int .i64 m8_0)), (.t (.int .i64 m8_1)), (.t (.list 1 m8_2z m8_2)), (.t (.list 1 m8_3z m8_3))])), (9, (.arr true 2 m9z m9))], []⟩) a0_0 a0_1 a0_2z a0_2 a0_3z a0_3 a1 a2 := by kernel_rfl
/-- purfle/level.Children -/
theorem eq15 (a0_0 : Int) (a0_1 : Int) (a0_2z : Bool) (a0_2 : List T) (a0_3z : Bool) (a0_3 : List T) (a1 : Int) (a2 : Int) : vr 15 0 [(.t (.agg [(.int .i64 a0_0), (.int .i64 a0_1), (.list 1 a0_2z a0_2), (.list 1 a0_3z a0_3)])), (.t (.int .i64 a1)), (.t (.int .i64 a2))] ⟨[], []⟩ = R15 L15_7 J15_12 a0_0 a0_1 a0_2z a0_2 a0_3z a0_3 a1 a2 :=
  (call_eq Try.prog hint (fn := Try.f15) (nt := 55) (T := (Ta15 (fun e st => atV Try.prog hint 15 0 Try.f15 55 (List.reverse PaL15_7) e st) (fun e st => atV Try.prog hint 15 0 Try.f15 55 (List.reverse PaJ15_12) e st))) [PaL15_7, PaJ15_12] rfl [(.t (.agg [(.int .i64 a0_0), (.int .i64 a0_1), (.list 1 a0_2z a0_2), (.list 1 a0_3z a0_3)])), (.t (.int .i64 a1)), (.t (.int .i64 a2))] ⟨[], []⟩ rfl rfl rfl rfl rfl).trans (eq15g (fun e st => atV Try.prog hint 15 0 Try.f15 55 (List.reverse PaL15_7) e st) (fun e st => atV Try.prog hint 15 0 Try.f15 55 (List.reverse PaJ15_12) e st) a0_0 a0_1 a0_2z a0_2 a0_3z a0_3 a1 a2)
noncomputable def RL15_7 (L15_7 : Int → Int → Int → Int → Int → Bool → (List T) → Bool → (List T) → Bool → (List T) → Option Res) (J15_12 : Int → Int → Int → Int → Int → Int → Bool → (List T) → Bool → (List T) → Bool → (List T) → Option Res) (from9 : Int) (to10 : Int) (n12 : Int) (m8_0 : Int) (m8_1 : Int) (m8_2z : Bool) (m8_2 : List T) (m8_3z : Bool) (m8_3 : List T) (m9z : Bool) (m9 : List T) : Option Res :=
(bif (decide (n12 < to10)) then
 callK (vr 14 0 [(.t (.agg [(.int .i64 m8_0), (.int .i64 m8_1), (.list 1 m8_2z m8_2), (.list 1 m8_3z m8_3)]))] ⟨[], []⟩) fun v_1 b_2 =>
 asT v_1 fun x_3 =>
 asB x_3 fun b_4 =>
 endB b_2 <|
(bif (!b_4) then
 needC (decide (0 ≤ n12)) fun _ =>
 getT m8_3 (n12).toNat fun e_5 =>
 asI .i64 e_5 fun x_6 =>
 J15_12 (from9) (to10) (n12) (x_6) (m8_0) (m8_1) (m8_2z) (m8_2) (m8_3z) (m8_3) (m9z) (m9)
else
 J15_12 (from9) (to10) (n12) ((IntKind.i64.wrap (n12 - from9))) (m8_0) (m8_1) (m8_2z) (m8_2) (m8_3z) (m8_3) (m9z) (m9))
else
 some ((.tup [(.t (.list 2 m9z m9)), (.t (.int .i64 0))]), ⟨[], []⟩))
theorem L15_7g (KL15_7 KJ15_12 : Env → St → Option Res) (from9 : Int) (to10 : Int) (n12 : Int) (m8_0 : Int) (m8_1 : Int) (m8_2z : Bool) (m8_2 : List T) (m8_3z : Bool) (m8_3 : List T) (m9z : Bool) (m9 : List T) : codeT Try.prog hint 15 0 55 (Ta15 KL15_7 KJ15_12) (.lp :: PaL15_7) (ctxT Try.prog hint 15 0 55 (Ta15 KL15_7 KJ15_12) [] (List.reverse (.lp :: PaL15_7)) (bodyOf Try.f15) (resKV Try.prog Try.f15 (hint.own 15 0))) [(3, (.ptr 8 0 0)), (9, (.t (.int .i64 from9))), (10, (.t (.int .i64 to10))), (11, (.buf 9)), (12, (.t (.int .i64 n12)))] ⟨[(8, (.var [(.t (.int .i64 m8_0)), (.t (.int .i64 m8_1)), (.t (.list 1 m8_2z m8_2)), (.t (.list 1 m8_3z m8_3))])), (9, (.arr true 2 m9z m9))], []⟩ (nav (List.reverse (.lp :: PaL15_7)) (bodyOf Try.f15)) = RL15_7 (fun from9 to10 n12 m8_0 m8_1 m8_2z m8_2 m8_3z m8_3 m9z m9 => KL15_7 [(3, (.ptr 8 0 0)), (9, (.t (.int .i64 from9))), (10, (.t (.int .i64 to10))), (11, (.buf 9)), (12, (.t (.int .i64 n12)))] ⟨[(8, (.var [(.t (.int .i64 m8_0)), (.t (.int .i64 m8_1)), (.t (.list 1 m8_2z m8_2)), (.t (.list 1 m8_3z m8_3))])), (9, (.arr true 2 m9z m9))], []⟩) (fun from9 to10 n12 at13 m8_0 m8_1 m8_2z m8_2 m8_3z m8_3 m9z m9 => KJ15_12 [(3, (.ptr 8 0 0)), (9, (.t (.int .i64 from9))), (10, (.t (.int .i64 to10))), (11, (.buf 9)), (12, (.t (.int .i64 n12))), (13, (.t (.int .i64 at13)))] ⟨[(8, (.var [(.t (.int .i64 m8_0)), (.t (.int .i64 m8_1)), (.t (.list 1 m8_2z m8_2)), (.t (.list 1 m8_3z m8_3))])), (9, (.arr true 2 m9z m9))], []⟩) from9 to10 n12 m8_0 m8_1 m8_2z m8_2 m8_3z m8_3 m9z m9 := by kernel_rfl
theorem L15_7_eq (from9 : Int) (to10 : Int) (n12 : Int) (m8_0 : Int) (m8_1 : Int) (m8_2z : Bool) (m8_2 : List T) (m8_3z : Bool) (m8_3 : List T) (m9z : Bool) (m9 : List T) : L15_7 from9 to10 n12 m8_0 m8_1 m8_2z m8_2 m8_3z m8_3 m9z m9 = RL15_7 L15_7 J15_12 from9 to10 n12 m8_0 m8_1 m8_2z m8_2 m8_3z m8_3 m9z m9 :=
  (round_eq Try.prog hint (b := (nav (List.reverse (.lp :: PaL15_7)) (bodyOf Try.f15))) (fn := Try.f15) (nt := 55) (T := (Ta15 (fun e st => atV Try.prog hint 15 0 Try.f15 55 (List.reverse PaL15_7) e st) (fun e st => atV Try.prog hint 15 0 Try.f15 55 (List.reverse PaJ15_12) e st))) [PaL15_7, PaJ15_12] rfl PaL15_7 [(3, (.ptr 8 0 0)), (9, (.t (.int .i64 from9))), (10, (.t (.int .i64 to10))), (11, (.buf 9)), (12, (.t (.int .i64 n12)))] ⟨[(8, (.var [(.t (.int .i64 m8_0)), (.t (.int .i64 m8_1)), (.t (.list 1 m8_2z m8_2)), (.t (.list 1 m8_3z m8_3))])), (9, (.arr true 2 m9z m9))], []⟩ rfl rfl rfl).trans (L15_7g (fun e st => atV Try.prog hint 15 0 Try.f15 55 (List.reverse PaL15_7) e st) (fun e st => atV Try.prog hint 15 0 Try.f15 55 (List.reverse PaJ15_12) e st) from9 to10 n12 m8_0 m8_1 m8_2z m8_2 m8_3z m8_3 m9z m9)
noncomputable def RJ15_12 (L15_7 : Int → Int → Int → Int → Int → Bool → (List T) → Bool → (List T) → Bool → (List T) → Option Res) (J15_12 : Int → Int → Int → Int → Int → Int → Bool → (List T) → Bool → (List T) → Bool → (List T) → Option Res) (from9 : Int) (to10 : Int) (n12 : Int) (at13 : Int) (m8_0 : Int) (m8_1 : Int) (m8_2z : Bool) (m8_2 : List T) (m8_3z : Bool) (m8_3 : List T) (m9z : Bool) (m9 : List T) : Option Res :=
 needC (decide ((m9.length + 1) * (16 + 1) ≤ 70368744177664) && decide (16 ≤ 1048576)) fun _ =>
 L15_7 (from9) (to10) ((IntKind.i64.wrap (n12 + 1))) (m8_0) (m8_1) (m8_2z) (m8_2) (m8_3z) (m8_3) ((m9z || true)) ((m9 ++ ([(.agg [(.int .i64 at13), (.int .i64 n12)])] : List T)))
theorem J15_12g (KL15_7 KJ15_12 : Env → St → Option Res) (from9 : Int) (to10 : Int) (n12 : Int) (at13 : Int) (m8_0 : Int) (m8_1 : Int) (m8_2z : Bool) (m8_2 : List T) (m8_3z : Bool) (m8_3 : List T) (m9z : Bool) (m9 : List T) : codeT Try.prog hint 15 0 55 (Ta15 KL15_7 KJ15_12) PaJ15_12 (ctxT Try.prog hint 15 0 55 (Ta15 KL15_7 KJ15_12) [] (List.reverse PaJ15_12) (bodyOf Try.f15) (resKV Try.prog Try.f15 (hint.own 15 0))) [(3, (.ptr 8 0 0)), (9, (.t (.int .i64 from9))), (10, (.t (.int .i64 to10))), (11, (.buf 9)), (12, (.t (.int .i64 n12))), (13, (.t (.int .i64 at13)))] ⟨[(8, (.var [(.t (.int .i64 m8_0)), (.t (.int .i64 m8_1)), (.t (.list 1 m8_2z m8_2)), (.t (.list 1 m8_3z m8_3))])), (9, (.arr true 2 m9z m9))], []⟩ (nav (List.reverse PaJ15_12) (bodyOf Try.f15)) = RJ15_12 (fun from9 to10 n12 m8_0 m8_1 m8_2z m8_2 m8_3z m8_3 m9z m9 => KL15_7 [(3, (.ptr 8 0 0)), (9, (.t (.int .i64 from9))), (10, (.t (.int .i64 to10))), (11, (.buf 9)), (12, (.t (.int .i64 n12)))] ⟨[(8, (.var [(.t (.int .i64 m8_0)), (.t (.int .i64 m8_1)), (.t (.list 1 m8_2z m8_2)), (.t (.list 1 m8_3z m8_3))])), (9, (.arr true 2 m9z m9))], []⟩) (fun from9 to10 n12 at13 m8_0 m8_1 m8_2z m8_2 m8_3z m8_3 m9z m9 => KJ15_12 [(3, (.ptr 8 0 0)), (9, (.t (.int .i64 from9))), (10, (.t (.int .i64 to10))), (11, (.buf 9)), (12, (.t (.int .i64 n12))), (13, (.t (.int .i64 at13)))] ⟨[(8, (.var [(.t (.int .i64 m8_0)), (.t (.int .i64 m8_1)), (.t (.list 1 m8_2z m8_2)), (.t (.list 1 m8_3z m8_3))])), (9, (.arr true 2 m9z m9))], []⟩) from9 to10 n12 at13 m8_0 m8_1 m8_2z m8_2 m8_3z m8_3 m9z m9 := by kernel_rfl
theorem J15_12_eq (from9 : Int) (to10 : Int) (n12 : Int) (at13 : Int) (m8_0 : Int) (m8_1 : Int) (m8_2z : Bool) (m8_2 : List T) (m8_3z : Bool) (m8_3 : List T) (m9z : Bool) (m9 : List T) : J15_12 from9 to10 n12 at13 m8_0 m8_1 m8_2z m8_2 m8_3z m8_3 m9z m9 = RJ15_12 L15_7 J15_12 from9 to10 n12 at13 m8_0 m8_1 m8_2z m8_2 m8_3z m8_3 m9z m9 :=
  (join_eq Try.prog hint (fn := Try.f15) (nt := 55) (T := (Ta15 (fun e st => atV Try.prog hint 15 0 Try.f15 55 (List.reverse PaL15_7) e st) (fun e st => atV Try.prog hint 15 0 Try.f15 55 (List.reverse PaJ15_12) e st))) [PaL15_7, PaJ15_12] rfl PaJ15_12 [(3, (.ptr 8 0 0)), (9, (.t (.int .i64 from9))), (10, (.t (.int .i64 to10))), (11, (.buf 9)), (12, (.t (.int .i64 n12))), (13, (.t (.int .i64 at13)))] ⟨[(8, (.var [(.t (.int .i64 m8_0)), (.t (.int .i64 m8_1)), (.t (.list 1 m8_2z m8_2)), (.t (.list 1 m8_3z m8_3))])), (9, (.arr true 2 m9z m9))], []⟩ rfl).trans (J15_12g (fun e st => atV Try.prog hint 15 0 Try.f15 55 (List.reverse PaL15_7) e st) (fun e st => atV Try.prog hint 15 0 Try.f15 55 (List.reverse PaJ15_12) e st) from9 to10 n12 at13 m8_0 m8_1 m8_2z m8_2 m8_3z m8_3 m9z m9)
noncomputable def R46  (a0 : Int) : Option Res :=
 some ((.t (.bool (!decide (a0 = a0)))), ⟨[], []⟩)
theorem eq46g  (a0 : Int) : codeT Try.prog hint 46 0 6 [] [] (resKV Try.prog Try.f46 (hint.own 46 0)) (nrm hint 46 0 (bodyOf Try.f46) (envV [(.t (.int .i64 a0))] 0) ⟨[], []⟩).1 (nrm hint 46 0 (bodyOf Try.f46) (envV [(.t (.int .i64 a0))] 0) ⟨[], []⟩).2 (bodyOf Try.f46) = R46  a0 := by kernel_rfl
/-- slices.isNaN[int] -/
theorem eq46 (a0 : Int) : vr 46 0 [(.t (.int .i64 a0))] ⟨[], []⟩ = R46  a0 :=
  (call_eq Try.prog hint (fn := Try.f46) (nt := 6) (T := []) [] rfl [(.t (.int .i64 a0))] ⟨[], []⟩ rfl rfl rfl rfl rfl).trans (eq46g  a0)
noncomputable def R37 (L37_3 : Bool → (List T) → Int → Int → Int → Int → Option Res) (a0z : Bool) (a0 : List T) (a1 : Int) : Option Res :=
 L37_3 (a0z) (a0) (a1) ((a0.length : Int)) (0) ((a0.length : Int))
theorem eq37g (KL37_3 : Env → St → Option Res) (a0z : Bool) (a0 : List T) (a1 : Int) : codeT Try.prog hint 37 0 54 (Ta37 KL37_3) [] (resKV Try.prog Try.f37 (hint.own 37 0)) (nrm hint 37 0 (bodyOf Try.f37) (envV [(.t (.list 1 a0z a0)), (.t (.int .i64 a1))] 0) ⟨[], []⟩).1 (nrm hint 37 0 (bodyOf Try.f37) (envV [(.t (.list 1 a0z a0)), (.t (.int .i64 a1))] 0) ⟨[], []⟩).2 (bodyOf Try.f37) = R37 (fun x0z x0 target1 n6 i7 j8 => KL37_3 [(0, (.t (.list 1 x0z x0))), (1, (.t (.int .i64 target1))), (6, (.t (.int .i64 n6))), (7, (.t (.int .i64 i7))), (8, (.t (.int .i64 j8)))] ⟨[], []⟩) a0z a0 a1 := by kernel_rfl
/-- slices.BinarySearch[[]int,int] -/
theorem eq37 (a0z : Bool) (a0 : List T) (a1 : Int) : vr 37 0 [(.t (.list 1 a0z a0)), (.t (.int .i64 a1))] ⟨[], []⟩ = R37 L37_3 a0z a0 a1 :=
  (call_eq Try.prog hint (fn := Try.f37) (nt := 54) (T := (Ta37 (fun e st => atV Try.prog hint 37 0 Try.f37 54 (List.reverse PaL37_3) e st))) [PaL37_3] rfl [(.t (.list 1 a0z a0)), (.t (.int .i64 a1))] ⟨[], []⟩ rfl rfl rfl rfl rfl).trans (eq37g (fun e st => atV Try.prog hint 37 0 Try.f37 54 (List.reverse PaL37_3) e st) a0z a0 a1)
noncomputable def RL37_3 (L37_3 : Bool → (List T) → Int → Int → Int → Int → Option Res) (x0z : Bool) (x0 : List T) (target1 : Int) (n6 : Int) (i7 : Int) (j8 : Int) : Option Res :=
(bif (decide (i7 < j8)) then
 needC (decide (0 ≤ (IntKind.i64.wrap (shrI .u64 (IntKind.u64.wrap (IntKind.i64.wrap (i7 + j8))) 1)))) fun _ =>
 getT x0 ((IntKind.i64.wrap (shrI .u64 (IntKind.u64.wrap (IntKind.i64.wrap (i7 + j8))) 1))).toNat fun e_1 =>
 asI .i64 e_1 fun x_2 =>
 callK (vr 45 0 [(.t (.int .i64 x_2)), (.t (.int .i64 target1))] ⟨[], []⟩) fun v_3 b_4 =>
 asT v_3 fun x_5 =>
 asB x_5 fun b_6 =>
 endB b_4 <|
(bif b_6 then
 L37_3 (x0z) (x0) (target1) (n6) ((IntKind.i64.wrap ((IntKind.i64.wrap (shrI .u64 (IntKind.u64.wrap (IntKind.i64.wrap (i7 + j8))) 1)) + 1))) (j8)
else
 L37_3 (x0z) (x0) (target1) (n6) (i7) ((IntKind.i64.wrap (shrI .u64 (IntKind.u64.wrap (IntKind.i64.wrap (i7 + j8))) 1))))
else
(bif (decide (i7 < n6)) then
 needC (decide (0 ≤ i7)) fun _ =>
 getT x0 (i7).toNat fun e_7 =>
 asI .i64 e_7 fun x_8 =>
(bif (decide (x_8 = target1)) then
 some ((.tup [(.t (.int .i64 i7)), (.t (.bool true))]), ⟨[], []⟩)
else
 needC (decide (0 ≤ i7)) fun _ =>
 getT x0 (i7).toNat fun e_9 =>
 asI .i64 e_9 fun x_10 =>
 callK (vr 46 0 [(.t (.int .i64 x_10))] ⟨[], []⟩) fun v_11 b_12 =>
 asT v_11 fun x_13 =>
 asB x_13 fun b_14 =>
 endB b_12 <|
(bif b_14 then
 callK (vr 46 0 [(.t (.int .i64 target1))] ⟨[], []⟩) fun v_15 b_16 =>
 asT v_15 fun x_17 =>
 asB x_17 fun b_18 =>
 endB b_16 <|
 some ((.tup [(.t (.int .i64 i7)), (.t (.bool b_18))]), ⟨[], []⟩)
else
 some ((.tup [(.t (.int .i64 i7)), (.t (.bool false))]), ⟨[], []⟩)))
else
 some ((.tup [(.t (.int .i64 i7)), (.t (.bool false))]), ⟨[], []⟩)))
theorem L37_3g (KL37_3 : Env → St → Option Res) (x0z : Bool) (x0 : List T) (target1 : Int) (n6 : Int) (i7 : Int) (j8 : Int) : codeT Try.prog hint 37 0 54 (Ta37 KL37_3) (.lp :: PaL37_3) (ctxT Try.prog hint 37 0 54 (Ta37 KL37_3) [] (List.reverse (.lp :: PaL37_3)) (bodyOf Try.f37) (resKV Try.prog Try.f37 (hint.own 37 0))) [(0, (.t (.list 1 x0z x0))), (1, (.t (.int .i64 target1))), (6, (.t (.int .i64 n6))), (7, (.t (.int .i64 i7))), (8, (.t (.int .i64 j8)))] ⟨[], []⟩ (nav (List.reverse (.lp :: PaL37_3)) (bodyOf Try.f37)) = RL37_3 (fun x0z x0 target1 n6 i7 j8 => KL37_3 [(0, (.t (.list 1 x0z x0))), (1, (.t (.int .i64 target1))), (6, (.t (.int .i64 n6))), (7, (.t (.int .i64 i7))), (8, (.t (.int .i64 j8)))] ⟨[], []⟩) x0z x0 target1 n6 i7 j8 := by kernel_rfl
theorem L37_3_eq (x0z : Bool) (x0 : List T) (target1 : Int) (n6 : Int) (i7 : Int) (j8 : Int) : L37_3 x0z x0 target1 n6 i7 j8 = RL37_3 L37_3 x0z x0 target1 n6 i7 j8 :=
  (round_eq Try.prog hint (b := (nav (List.reverse (.lp :: PaL37_3)) (bodyOf Try.f37))) (fn := Try.f37) (nt := 54) (T := (Ta37 (fun e st => atV Try.prog hint 37 0 Try.f37 54 (List.reverse PaL37_3) e st))) [PaL37_3] rfl PaL37_3 [(0, (.t (.list 1 x0z x0))), (1, (.t (.int .i64 target1))), (6, (.t (.int .i64 n6))), (7, (.t (.int .i64 i7))), (8, (.t (.int .i64 j8)))] ⟨[], []⟩ rfl rfl rfl).trans (L37_3g (fun e st => atV Try.prog hint 37 0 Try.f37 54 (List.reverse PaL37_3) e st) x0z x0 target1 n6 i7 j8)
noncomputable def R20 (J20_8 : Int → Int → Bool → Option Res) (a0_0 : Int) (a0_1 : Int) (a0_2z : Bool) (a0_2 : List T) (a0_3z : Bool) (a0_3 : List T) (a1 : Int) (a2 : Int) (a3 : Int) : Option Res :=
 callK (vr 30 0 [(.t (.agg [(.int .i64 a0_0), (.int .i64 a0_1), (.list 1 a0_2z a0_2), (.list 1 a0_3z a0_3)])), (.t (.int .i64 a1)), (.t (.int .i64 a2))] ⟨[], []⟩) fun v_1 b_2 =>
 asT v_1 fun x_3 =>
 asI .i64 x_3 fun x_4 =>
 endB b_2 <|
(bif (!decide (x_4 = 0)) then
 some ((.tup [(.t (.int .i64 0)), (.t (.bool false)), (.t (.int .i64 x_4))]), ⟨[], []⟩)
else
 callK (vr 31 0 [(.t (.agg [(.int .i64 a0_0), (.int .i64 a0_1), (.list 1 a0_2z a0_2), (.list 1 a0_3z a0_3)])), (.t (.int .i64 a2))] ⟨[], []⟩) fun v_5 b_6 =>
 asTup v_5 fun l_7 =>
 consV l_7 fun v_8 l_9 =>
 asT v_8 fun x_10 =>
 asI .i64 x_10 fun x_11 =>
 consV l_9 fun v_12 l_13 =>
 asT v_12 fun x_14 =>
 asI .i64 x_14 fun x_15 =>
 endV l_13 <|
 endB b_6 <|
(bif (decide (0 ≤ a3)) then
 callK (vr 14 0 [(.t (.agg [(.int .i64 a0_0), (.int .i64 a0_1), (.list 1 a0_2z a0_2), (.list 1 a0_3z a0_3)]))] ⟨[], []⟩) fun v_16 b_17 =>
 asT v_16 fun x_18 =>
 asB x_18 fun b_19 =>
 endB b_17 <|
(bif (!b_19) then
 cutL a0_3 (some x_11) (some x_15) fun l_20 =>
 callK (vr 37 0 [(.t (.list 1 a0_3z l_20)), (.t (.int .i64 a3))] ⟨[], []⟩) fun v_21 b_22 =>
 asTup v_21 fun l_23 =>
 consV l_23 fun v_24 l_25 =>
 asT v_24 fun x_26 =>
 asI .i64 x_26 fun x_27 =>
 consV l_25 fun v_28 l_29 =>
 asT v_28 fun x_30 =>
 asB x_30 fun b_31 =>
 endV l_29 <|
 endB b_22 <|
 J20_8 (x_11) (x_27) (b_31)
else
 J20_8 (x_11) (a3) ((decide (a3 < a0_1))))
else
 callK (vr 14 0 [(.t (.agg [(.int .i64 a0_0), (.int .i64 a0_1), (.list 1 a0_2z a0_2), (.list 1 a0_3z a0_3)]))] ⟨[], []⟩) fun v_32 b_33 =>
 asT v_32 fun x_34 =>
 asB x_34 fun b_35 =>
 endB b_33 <|
(bif (!b_35) then
 cutL a0_3 (some x_11) (some x_15) fun l_36 =>
 callK (vr 37 0 [(.t (.list 1 a0_3z l_36)), (.t (.int .i64 a3))] ⟨[], []⟩) fun v_37 b_38 =>
 asTup v_37 fun l_39 =>
 consV l_39 fun v_40 l_41 =>
 asT v_40 fun x_42 =>
 asI .i64 x_42 fun x_43 =>
 consV l_41 fun v_44 l_45 =>
 asT v_44 fun x_46 =>
 asB x_46 fun b_47 =>
 endV l_45 <|
 endB b_38 <|
 J20_8 (x_11) (x_43) (b_47)
else
 J20_8 (x_11) (a3) (false))))
theorem eq20g (KJ20_8 : Env → St → Option Res) (a0_0 : Int) (a0_1 : Int) (a0_2z : Bool) (a0_2 : List T) (a0_3z : Bool) (a0_3 : List T) (a1 : Int) (a2 : Int) (a3 : Int) : codeT Try.prog hint 20 0 56 (Ta20 KJ20_8) [] (resKV Try.prog Try.f20 (hint.own 20 0)) (nrm hint 20 0 (bodyOf Try.f20) (envV [(.t (.agg [(.int .i64 a0_0), (.int .i64 a0_1), (.list 1 a0_2z a0_2), (.list 1 a0_3z a0_3)])), (.t (.int .i64 a1)), (.t (.int .i64 a2)), (.t (.int .i64 a3))] 0) ⟨[], []⟩).1 (nrm hint 20 0 (bodyOf Try.f20) (envV [(.t (.agg [(.int .i64 a0_0), (.int .i64 a0_1), (.list 1 a0_2z a0_2), (.list 1 a0_3z a0_3)])), (.t (.int .i64 a1)), (.t (.int .i64 a2)), (.t (.int .i64 a3))] 0) ⟨[], []⟩).2 (bodyOf Try.f20) = R20 (fun from12 i14 is15 => KJ20_8 [(12, (.t (.int .i64 from12))), (14, (.t (.int .i64 i14))), (15, (.t (.bool is15)))] ⟨[], []⟩) a0_0 a0_1 a0_2z a0_2 a0_3z a0_3 a1 a2 a3 := by kernel_rfl
/-- purfle/level.Find -/
theorem eq20 (a0_0 : Int) (a0_1 : Int) (a0_2z : Bool) (a0_2 : List T) (a0_3z : Bool) (a0_3 : List T) (a1 : Int) (a2 : Int) (a3 : Int) : vr 20 0 [(.t (.agg [(.int .i64 a0_0), (.int .i64 a0_1), (.list 1 a0_2z a0_2), (.list 1 a0_3z a0_3)])), (.t (.int .i64 a1)), (.t (.int .i64 a2)), (.t (.int .i64 a3))] ⟨[], []⟩ = R20 J20_8 a0_0 a0_1 a0_2z a0_2 a0_3z a0_3 a1 a2 a3 :=
  (call_eq Try.prog hint (fn := Try.f20) (nt := 56) (T := (Ta20 (fun e st => atV Try.prog hint 20 0 Try.f20 56 (List.reverse PaJ20_8) e st))) [PaJ20_8] rfl [(.t (.agg [(.int .i64 a0_0), (.int .i64 a0_1), (.list 1 a0_2z a0_2), (.list 1 a0_3z a0_3)])), (.t (.int .i64 a1)), (.t (.int .i64 a2)), (.t (.int .i64 a3))] ⟨[], []⟩ rfl rfl rfl rfl rfl).trans (eq20g (fun e st => atV Try.prog hint 20 0 Try.f20 56 (List.reverse PaJ20_8) e st) a0_0 a0_1 a0_2z a0_2 a0_3z a0_3 a1 a2 a3)
noncomputable def RJ20_8 (J20_8 : Int → Int → Bool → Option Res) (from12 : Int) (i14 : Int) (is15 : Bool) : Option Res :=
(bif (!is15) then
 some ((.tup [(.t (.int .i64 0)), (.t (.bool false)), (.t (.int .i64 0))]), ⟨[], []⟩)
else
 some ((.tup [(.t (.int .i64 (IntKind.i64.wrap (from12 + i14)))), (.t (.bool true)), (.t (.int .i64 0))]), ⟨[], []⟩))
theorem J20_8g (KJ20_8 : Env → St → Option Res) (from12 : Int) (i14 : Int) (is15 : Bool) : codeT Try.prog hint 20 0 56 (Ta20 KJ20_8) PaJ20_8 (ctxT Try.prog hint 20 0 56 (Ta20 KJ20_8) [] (List.reverse PaJ20_8) (bodyOf Try.f20) (resKV Try.prog Try.f20 (hint.own 20 0))) [(12, (.t (.int .i64 from12))), (14, (.t (.int .i64 i14))), (15, (.t (.bool is15)))] ⟨[], []⟩ (nav (List.reverse PaJ20_8) (bodyOf Try.f20)) = RJ20_8 (fun from12 i14 is15 => KJ20_8 [(12, (.t (.int .i64 from12))), (14, (.t (.int .i64 i14))), (15, (.t (.bool is15)))] ⟨[], []⟩) from12 i14 is15 := by kernel_rfl
theorem J20_8_eq (from12 : Int) (i14 : Int) (is15 : Bool) : J20_8 from12 i14 is15 = RJ20_8 J20_8 from12 i14 is15 :=
  (join_eq Try.prog hint (fn := Try.f20) (nt := 56) (T := (Ta20 (fun e st => atV Try.prog hint 20 0 Try.f20 56 (List.reverse PaJ20_8) e st))) [PaJ20_8] rfl PaJ20_8 [(12, (.t (.int .i64 from12))), (14, (.t (.int .i64 i14))), (15, (.t (.bool is15)))] ⟨[], []⟩ rfl).trans (J20_8g (fun e st => atV Try.prog hint 20 0 Try.f20 56 (List.reverse PaJ20_8) e st) from12 i14 is15)
noncomputable def R6 (L6_10 : Int → Int → Bool → Bool → (List T) → Int → Int → Int → Int → Bool → (List T) → Bool → (List T) → (List (T × T)) → Option Res) (L6_16 : Int → Int → Bool → Int → Int → Int → Int → Bool → (List T) → Bool → (List T) → (List (T × T)) → Option Res) (a0_0 : Int) (a0_1 : Int) (a0_2z : Bool) (a0_2 : List T) (a0_3z : Bool) (a0_3 : List T) (a1 : Int) (a2 : Int) : Option Res :=
 callK (vr 9 0 [] ⟨[], []⟩) fun v_1 b_2 =>
 asT v_1 fun x_3 =>
 asB x_3 fun b_4 =>
 endB b_2 <|
 callK (vr 18 0 [(.t (.agg [(.int .i64 a0_0), (.int .i64 a0_1), (.list 1 a0_2z a0_2), (.list 1 a0_3z a0_3)])), (.t (.int .i64 a1))] ⟨[], []⟩) fun v_5 b_6 =>
 asT v_5 fun x_7 =>
 asB x_7 fun b_8 =>
 endB b_6 <|
(bif (!b_8) then
 some ((.t (.bool b_4)), ⟨[], []⟩)
else
(bif (decide (a1 < 1)) then
 some ((.t (.bool b_4)), ⟨[], []⟩)
else
(bif (decide (300 < a0_1)) then
 some ((.t (.bool b_4)), ⟨[], []⟩)
else
 callK (vr 19 0 [(.t (.agg [(.int .i64 a0_0), (.int .i64 a0_1), (.list 1 a0_2z a0_2), (.list 1 a0_3z a0_3)])), (.t (.int .i64 a1))] ⟨[], []⟩) fun v_9 b_10 =>
 asT v_9 fun x_11 =>
 asI .i64 x_11 fun x_12 =>
 endB b_10 <|
(bif (!decide (x_12 = 0)) then
 some ((.t (.bool b_4)), ⟨[], []⟩)
else
 needC (!decide (a1 = 0)) fun _ =>
 needC (!decide (a1 = 0)) fun _ =>
 callK (vr 15 0 [(.t (.agg [(.int .i64 a0_0), (.int .i64 a0_1), (.list 1 a0_2z a0_2), (.list 1 a0_3z a0_3)])), (.t (.int .i64 a1)), (.t (.int .i64 (Int.tmod (IntKind.i64.wrap ((Int.tmod a2 a1) + a1)) a1)))] ⟨[], []⟩) fun v_13 b_14 =>
 asTup v_13 fun l_15 =>
 consV l_15 fun v_16 l_17 =>
 asT v_16 fun x_18 =>
 asL 2 x_18 fun nn_19 l_20 =>
 consV l_17 fun v_21 l_22 =>
 asT v_21 fun x_23 =>
 asI .i64 x_23 fun x_24 =>
 endV l_22 <|
 endB b_14 <|
(bif (!decide (x_24 = 0)) then
 some ((.t (.bool false)), ⟨[], []⟩)
else
 L6_10 (a1) ((Int.tmod (IntKind.i64.wrap ((Int.tmod a2 a1) + a1)) a1)) (b_4) (nn_19) (l_20) ((l_20.length : Int)) (0) (a0_0) (a0_1) (a0_2z) (a0_2) (a0_3z) (a0_3) ([]))))))
theorem eq6g (KL6_10 KL6_16 : Env → St → Option Res) (a0_0 : Int) (a0_1 : Int) (a0_2z : Bool) (a0_2 : List T) (a0_3z : Bool) (a0_3 : List T) (a1 : Int) (a2 : Int) : codeT Try.prog hint 6 0 100 (Ta6 KL6_10 KL6_16) [] (resKV Try.prog Try.f6 (hint.own 6 0)) (nrm hint 6 0 (bodyOf Try.f6) (envV [(.t (.agg [(.int .i64 a0_0), (.int .i64 a0_1), (.list 1 a0_2z a0_2), (.list 1 a0_3z a0_3)])), (.t (.int .i64 a1)), (.t (.int .i64 a2))] 0) ⟨[], []⟩).1 (nrm hint 6 0 (bodyOf Try.f6) (envV [(.t (.agg [(.int .i64 a0_0), (.int .i64 a0_1), (.list 1 a0_2z a0_2), (.list 1 a0_3z a0_3)])), (.t (.int .i64 a1)), (.t (.int .i64 a2))] 0) ⟨[], []⟩).2 (bodyOf Try.f6) = R6 (fun ahead1 p2 up7 t56z t56 t57 t58 m8_0 m8_1 m8_2z m8_2 m8_3z m8_3 m9 => KL6_10 [(1, (.t (.int .i64 ahead1))), (2, (.t (.int .i64 p2))), (3, (.ptr 8 0 0)), (7, (.t (.bool up7))), (10, (.map 9)), (56, (.t (.list 2 t56z t56))), (57, (.t (.int .i64 t57))), (58, (.t (.int .i64 t58)))] ⟨[(8, (.var [(.t (.int .i64 m8_0)), (.t (.int .i64 m8_1)), (.t (.list 1 m8_2z m8_2)), (.t (.list 1 m8_3z m8_3))])), (9, (.map m9))], []⟩) (fun ahead1 p2 up7 many13 at14 m8_0 m8_1 m8_2z m8_2 m8_3z m8_3 m9 => KL6_16 [(1, (.t (.int .i64 ahead1))), (2, (.t (.int .i64 p2))), (3, (.ptr 8 0 0)), (7, (.t (.bool up7))), (10, (.map 9)), (13, (.t (.int .i64 many13))), (14, (.t (.int .i64 at14)))] ⟨[(8, (.var [(.t (.int .i64 m8_0)), (.t (.int .i64 m8_1)), (.t (.list 1 m8_2z m8_2)), (.t (.list 1 m8_3z m8_3))])), (9, (.map m9))], []⟩) a0_0 a0_1 a0_2z a0_2 a0_3z a0_3 a1 a2 := by kernel_rfl
/-- purfle/purflelaw04.LevelPlaces -/
theorem eq6 (a0_0 : Int) (a0_1 : Int) (a0_2z : Bool) (a0_2 : List T) (a0_3z : Bool) (a0_3 : List T) (a1 : Int) (a2 : Int) : vr 6 0 [(.t (.agg [(.int .i64 a0_0), (.int .i64 a0_1), (.list 1 a0_2z a0_2), (.list 1 a0_3z a0_3)])), (.t (.int .i64 a1)), (.t (.int .i64 a2))] ⟨[], []⟩ = R6 L6_10 L6_16 a0_0 a0_1 a0_2z a0_2 a0_3z a0_3 a1 a2 :=
  (call_eq Try.prog hint (fn := Try.f6) (nt := 100) (T := (Ta6 (fun e st => atV Try.prog hint 6 0 Try.f6 100 (List.reverse PaL6_10) e st) (fun e st => atV Try.prog hint 6 0 Try.f6 100 (List.reverse PaL6_16) e st))) [PaL6_10, PaL6_16] rfl [(.t (.agg [(.int .i64 a0_0), (.int .i64 a0_1), (.list 1 a0_2z a0_2), (.list 1 a0_3z a0_3)])), (.t (.int .i64 a1)), (.t (.int .i64 a2))] ⟨[], []⟩ rfl rfl rfl rfl rfl).trans (eq6g (fun e st => atV Try.prog hint 6 0 Try.f6 100 (List.reverse PaL6_10) e st) (fun e st => atV Try.prog hint 6 0 Try.f6 100 (List.reverse PaL6_16) e st) a0_0 a0_1 a0_2z a0_2 a0_3z a0_3 a1 a2)
noncomputable def RL6_10 (L6_10 : Int → Int → Bool → Bool → (List T) → Int → Int → Int → Int → Bool → (List T) → Bool → (List T) → (List (T × T)) → Option Res) (L6_16 : Int → Int → Bool → Int → Int → Int → Int → Bool → (List T) → Bool → (List T) → (List (T × T)) → Option Res) (ahead1 : Int) (p2 : Int) (up7 : Bool) (t56z : Bool) (t56 : List T) (t57 : Int) (t58 : Int) (m8_0 : Int) (m8_1 : Int) (m8_2z : Bool) (m8_2 : List T) (m8_3z : Bool) (m8_3 : List T) (m9 : List (T × T)) : Option Res :=
(bif (decide (t58 < t57)) then
 needC (decide (0 ≤ t58)) fun _ =>
 getT t56 (t58).toNat fun e_1 =>
 asA e_1 fun l_2 =>
 consT l_2 fun v_3 l_4 =>
 asI .i64 v_3 fun x_5 =>
 consT l_4 fun v_6 l_7 =>
 asI .i64 v_6 fun x_8 =>
 endT l_7 <|
 putC m9 (.int .i64 x_5) (.bool true) fun es_9 =>
 L6_10 (ahead1) (p2) (up7) (t56z) (t56) (t57) ((IntKind.i64.wrap (t58 + 1))) (m8_0) (m8_1) (m8_2z) (m8_2) (m8_3z) (m8_3) (es_9)
else
 L6_16 (ahead1) (p2) (up7) (0) (-1) (m8_0) (m8_1) (m8_2z) (m8_2) (m8_3z) (m8_3) (m9))
theorem L6_10g (KL6_10 KL6_16 : Env → St → Option Res) (ahead1 : Int) (p2 : Int) (up7 : Bool) (t56z : Bool) (t56 : List T) (t57 : Int) (t58 : Int) (m8_0 : Int) (m8_1 : Int) (m8_2z : Bool) (m8_2 : List T) (m8_3z : Bool) (m8_3 : List T) (m9 : List (T × T)) : codeT Try.prog hint 6 0 100 (Ta6 KL6_10 KL6_16) (.lp :: PaL6_10) (ctxT Try.prog hint 6 0 100 (Ta6 KL6_10 KL6_16) [] (List.reverse (.lp :: PaL6_10)) (bodyOf Try.f6) (resKV Try.prog Try.f6 (hint.own 6 0))) [(1, (.t (.int .i64 ahead1))), (2, (.t (.int .i64 p2))), (3, (.ptr 8 0 0)), (7, (.t (.bool up7))), (10, (.map 9)), (56, (.t (.list 2 t56z t56))), (57, (.t (.int .i64 t57))), (58, (.t (.int .i64 t58)))] ⟨[(8, (.var [(.t (.int .i64 m8_0)), (.t (.int .i64 m8_1)), (.t (.list 1 m8_2z m8_2)), (.t (.list 1 m8_3z m8_3))])), (9, (.map m9))], []⟩ (nav (List.reverse (.lp :: PaL6_10)) (bodyOf Try.f6)) = RL6_10 (fun ahead1 p2 up7 t56z t56 t57 t58 m8_0 m8_1 m8_2z m8_2 m8_3z m8_3 m9 => KL6_10 [(1, (.t (.int .i64 ahead1))), (2, (.t (.int .i64 p2))), (3, (.ptr 8 0 0)), (7, (.t (.bool up7))), (10, (.map 9)), (56, (.t (.list 2 t56z t56))), (57, (.t (.int .i64 t57))), (58, (.t (.int .i64 t58)))] ⟨[(8, (.var [(.t (.int .i64 m8_0)), (.t (.int .i64 m8_1)), (.t (.list 1 m8_2z m8_2)), (.t (.list 1 m8_3z m8_3))])), (9, (.map m9))], []⟩) (fun ahead1 p2 up7 many13 at14 m8_0 m8_1 m8_2z m8_2 m8_3z m8_3 m9 => KL6_16 [(1, (.t (.int .i64 ahead1))), (2, (.t (.int .i64 p2))), (3, (.ptr 8 0 0)), (7, (.t (.bool up7))), (10, (.map 9)), (13, (.t (.int .i64 many13))), (14, (.t (.int .i64 at14)))] ⟨[(8, (.var [(.t (.int .i64 m8_0)), (.t (.int .i64 m8_1)), (.t (.list 1 m8_2z m8_2)), (.t (.list 1 m8_3z m8_3))])), (9, (.map m9))], []⟩) ahead1 p2 up7 t56z t56 t57 t58 m8_0 m8_1 m8_2z m8_2 m8_3z m8_3 m9 := by kernel_rfl
theorem L6_10_eq (ahead1 : Int) (p2 : Int) (up7 : Bool) (t56z : Bool) (t56 : List T) (t57 : Int) (t58 : Int) (m8_0 : Int) (m8_1 : Int) (m8_2z : Bool) (m8_2 : List T) (m8_3z : Bool) (m8_3 : List T) (m9 : List (T × T)) : L6_10 ahead1 p2 up7 t56z t56 t57 t58 m8_0 m8_1 m8_2z m8_2 m8_3z m8_3 m9 = RL6_10 L6_10 L6_16 ahead1 p2 up7 t56z t56 t57 t58 m8_0 m8_1 m8_2z m8_2 m8_3z m8_3 m9 :=
  (round_eq Try.prog hint (b := (nav (List.reverse (.lp :: PaL6_10)) (bodyOf Try.f6))) (fn := Try.f6) (nt := 100) (T := (Ta6 (fun e st => atV Try.prog hint 6 0 Try.f6 100 (List.reverse PaL6_10) e st) (fun e st => atV Try.prog hint 6 0 Try.f6 100 (List.reverse PaL6_16) e st))) [PaL6_10, PaL6_16] rfl PaL6_10 [(1, (.t (.int .i64 ahead1))), (2, (.t (.int .i64 p2))), (3, (.ptr 8 0 0)), (7, (.t (.bool up7))), (10, (.map 9)), (56, (.t (.list 2 t56z t56))), (57, (.t (.int .i64 t57))), (58, (.t (.int .i64 t58)))] ⟨[(8, (.var [(.t (.int .i64 m8_0)), (.t (.int .i64 m8_1)), (.t (.list 1 m8_2z m8_2)), (.t (.list 1 m8_3z m8_3))])), (9, (.map m9))], []⟩ rfl rfl rfl).trans (L6_10g (fun e st => atV Try.prog hint 6 0 Try.f6 100 (List.reverse PaL6_10) e st) (fun e st => atV Try.prog hint 6 0 Try.f6 100 (List.reverse PaL6_16) e st) ahead1 p2 up7 t56z t56 t57 t58 m8_0 m8_1 m8_2z m8_2 m8_3z m8_3 m9)
noncomputable def RL6_16 (L6_10 : Int → Int → Bool → Bool → (List T) → Int → Int → Int → Int → Bool → (List T) → Bool → (List T) → (List (T × T)) → Option Res) (L6_16 : Int → Int → Bool → Int → Int → Int → Int → Bool → (List T) → Bool → (List T) → (List (T × T)) → Option Res) (ahead1 : Int) (p2 : Int) (up7 : Bool) (many13 : Int) (at14 : Int) (m8_0 : Int) (m8_1 : Int) (m8_2z : Bool) (m8_2 : List T) (m8_3z : Bool) (m8_3 : List T) (m9 : List (T × T)) : Option Res :=
(bif (decide (at14 ≤ m8_1)) then
 callK (vr 20 0 [(.t (.agg [(.int .i64 m8_0), (.int .i64 m8_1), (.list 1 m8_2z m8_2), (.list 1 m8_3z m8_3)])), (.t (.int .i64 ahead1)), (.t (.int .i64 p2)), (.t (.int .i64 at14))] ⟨[], []⟩) fun v_1 b_2 =>
 asTup v_1 fun l_3 =>
 consV l_3 fun v_4 l_5 =>
 asT v_4 fun x_6 =>
 asI .i64 x_6 fun x_7 =>
 consV l_5 fun v_8 l_9 =>
 asT v_8 fun x_10 =>
 asB x_10 fun b_11 =>
 consV l_9 fun v_12 l_13 =>
 asT v_12 fun x_14 =>
 asI .i64 x_14 fun x_15 =>
 endV l_13 <|
 endB b_2 <|
(bif (!decide (x_15 = 0)) then
 some ((.t (.bool false)), ⟨[], []⟩)
else
 lkT m9 (.int .i64 at14) (.bool false) fun v_16 p_17 =>
 asB v_16 fun b_18 =>
(bif (!(b_11 == b_18)) then
 some ((.t (.bool false)), ⟨[], []⟩)
else
(bif b_11 then
 L6_16 (ahead1) (p2) (up7) ((IntKind.i64.wrap (many13 + 1))) ((IntKind.i64.wrap (at14 + 1))) (m8_0) (m8_1) (m8_2z) (m8_2) (m8_3z) (m8_3) (m9)
else
 L6_16 (ahead1) (p2) (up7) (many13) ((IntKind.i64.wrap (at14 + 1))) (m8_0) (m8_1) (m8_2z) (m8_2) (m8_3z) (m8_3) (m9))))
else
(bif up7 then
 some ((.t (.bool (decide (many13 = (m9.length : Int))))), ⟨[], []⟩)
else
 some ((.t (.bool false)), ⟨[], []⟩)))
theorem L6_16g (KL6_10 KL6_16 : Env → St → Option Res) (ahead1 : Int) (p2 : Int) (up7 : Bool) (many13 : Int) (at14 : Int) (m8_0 : Int) (m8_1 : Int) (m8_2z : Bool) (m8_2 : List T) (m8_3z : Bool) (m8_3 : List T) (m9 : List (T × T)) : codeT Try.prog hint 6 0 100 (Ta6 KL6_10 KL6_16) (.lp :: PaL6_16) (ctxT Try.prog hint 6 0 100 (Ta6 KL6_10 KL6_16) [] (List.reverse (.lp :: PaL6_16)) (bodyOf Try.f6) (resKV Try.prog Try.f6 (hint.own 6 0))) [(1, (.t (.int .i64 ahead1))), (2, (.t (.int .i64 p2))), (3, (.ptr 8 0 0)), (7, (.t (.bool up7))), (10, (.map 9)), (13, (.t (.int .i64 many13))), (14, (.t (.int .i64 at14)))] ⟨[(8, (.var [(.t (.int .i64 m8_0)), (.t (.int .i64 m8_1)), (.t (.list 1 m8_2z m8_2)), (.t (.list 1 m8_3z m8_3))])), (9, (.map m9))], []⟩ (nav (List.reverse (.lp :: PaL6_16)) (bodyOf Try.f6)) = RL6_16 (fun ahead1 p2 up7 t56z t56 t57 t58 m8_0 m8_1 m8_2z m8_2 m8_3z m8_3 m9 => KL6_10 [(1, (.t (.int .i64 ahead1))), (2, (.t (.int .i64 p2))), (3, (.ptr 8 0 0)), (7, (.t (.bool up7))), (10, (.map 9)), (56, (.t (.list 2 t56z t56))), (57, (.t (.int .i64 t57))), (58, (.t (.int .i64 t58)))] ⟨[(8, (.var [(.t (.int .i64 m8_0)), (.t (.int .i64 m8_1)), (.t (.list 1 m8_2z m8_2)), (.t (.list 1 m8_3z m8_3))])), (9, (.map m9))], []⟩) (fun ahead1 p2 up7 many13 at14 m8_0 m8_1 m8_2z m8_2 m8_3z m8_3 m9 => KL6_16 [(1, (.t (.int .i64 ahead1))), (2, (.t (.int .i64 p2))), (3, (.ptr 8 0 0)), (7, (.t (.bool up7))), (10, (.map 9)), (13, (.t (.int .i64 many13))), (14, (.t (.int .i64 at14)))] ⟨[(8, (.var [(.t (.int .i64 m8_0)), (.t (.int .i64 m8_1)), (.t (.list 1 m8_2z m8_2)), (.t (.list 1 m8_3z m8_3))])), (9, (.map m9))], []⟩) ahead1 p2 up7 many13 at14 m8_0 m8_1 m8_2z m8_2 m8_3z m8_3 m9 := by kernel_rfl
theorem L6_16_eq (ahead1 : Int) (p2 : Int) (up7 : Bool) (many13 : Int) (at14 : Int) (m8_0 : Int) (m8_1 : Int) (m8_2z : Bool) (m8_2 : List T) (m8_3z : Bool) (m8_3 : List T) (m9 : List (T × T)) : L6_16 ahead1 p2 up7 many13 at14 m8_0 m8_1 m8_2z m8_2 m8_3z m8_3 m9 = RL6_16 L6_10 L6_16 ahead1 p2 up7 many13 at14 m8_0 m8_1 m8_2z m8_2 m8_3z m8_3 m9 :=
  (round_eq Try.prog hint (b := (nav (List.reverse (.lp :: PaL6_16)) (bodyOf Try.f6))) (fn := Try.f6) (nt := 100) (T := (Ta6 (fun e st => atV Try.prog hint 6 0 Try.f6 100 (List.reverse PaL6_10) e st) (fun e st => atV Try.prog hint 6 0 Try.f6 100 (List.reverse PaL6_16) e st))) [PaL6_10, PaL6_16] rfl PaL6_16 [(1, (.t (.int .i64 ahead1))), (2, (.t (.int .i64 p2))), (3, (.ptr 8 0 0)), (7, (.t (.bool up7))), (10, (.map 9)), (13, (.t (.int .i64 many13))), (14, (.t (.int .i64 at14)))] ⟨[(8, (.var [(.t (.int .i64 m8_0)), (.t (.int .i64 m8_1)), (.t (.list 1 m8_2z m8_2)), (.t (.list 1 m8_3z m8_3))])), (9, (.map m9))], []⟩ rfl rfl rfl).trans (L6_16g (fun e st => atV Try.prog hint 6 0 Try.f6 100 (List.reverse PaL6_10) e st) (fun e st => atV Try.prog hint 6 0 Try.f6 100 (List.reverse PaL6_16) e st) ahead1 p2 up7 many13 at14 m8_0 m8_1 m8_2z m8_2 m8_3z m8_3 m9)
noncomputable def R42 (L42_14 : Int → Int → Int → Int → Bool → (List T) → Bool → (List T) → Option Res) (a0_0 : Int) (a0_1 : Int) (a0_2z : Bool) (a0_2 : List T) (a0_3z : Bool) (a0_3 : List T) (a1 : Int) : Option Res :=
 callK (vr 21 0 [(.t (.agg [(.int .i64 a0_0), (.int .i64 a0_1), (.list 1 a0_2z a0_2), (.list 1 a0_3z a0_3)]))] ⟨[], []⟩) fun v_1 b_2 =>
 asT v_1 fun x_3 =>
 asB x_3 fun b_4 =>
 endB b_2 <|
(bif b_4 then
(bif (decide (0 < (IntKind.i64.wrap ((a0_2.length : Int) + (a0_3.length : Int))))) then
 some ((.t (.int .i64 1)), ⟨[], []⟩)
else
(bif (decide (a0_0 = 4)) then
(bif (decide (a0_1 = 0)) then
 some ((.t (.int .i64 1)), ⟨[], []⟩)
else
 some ((.t (.int .i64 0)), ⟨[], []⟩))
else
 some ((.t (.int .i64 0)), ⟨[], []⟩)))
else
(bif (decide (a0_0 = 3)) then
(bif (decide (0 < (a0_2.length : Int))) then
 some ((.t (.int .i64 1)), ⟨[], []⟩)
else
(bif (!decide ((a0_3.length : Int) = a1)) then
 some ((.t (.int .i64 1)), ⟨[], []⟩)
else
 some ((.t (.int .i64 0)), ⟨[], []⟩)))
else
(bif (!decide (a0_0 = 1)) then
(bif (!decide (a0_0 = 2)) then
 some ((.t (.int .i64 1)), ⟨[], []⟩)
else
(bif (!decide ((a0_2.length : Int) = (IntKind.i64.wrap (a1 + 1)))) then
 some ((.t (.int .i64 1)), ⟨[], []⟩)
else
 needC (decide (0 ≤ 0)) fun _ =>
 getT a0_2 ((0 : Int)).toNat fun e_5 =>
 asI .i64 e_5 fun x_6 =>
(bif (!decide (x_6 = 0)) then
 some ((.t (.int .i64 1)), ⟨[], []⟩)
else
 needC (decide (0 ≤ a1)) fun _ =>
 getT a0_2 (a1).toNat fun e_7 =>
 asI .i64 e_7 fun x_8 =>
(bif (!decide (x_8 = (a0_3.length : Int))) then
 some ((.t (.int .i64 1)), ⟨[], []⟩)
else
 L42_14 (a1) (0) (a0_0) (a0_1) (a0_2z) (a0_2) (a0_3z) (a0_3)))))
else
(bif (!decide ((a0_2.length : Int) = (IntKind.i64.wrap (a1 + 1)))) then
 some ((.t (.int .i64 1)), ⟨[], []⟩)
else
 needC (decide (0 ≤ 0)) fun _ =>
 getT a0_2 ((0 : Int)).toNat fun e_9 =>
 asI .i64 e_9 fun x_10 =>
(bif (!decide (x_10 = 0)) then
 some ((.t (.int .i64 1)), ⟨[], []⟩)
else
 needC (decide (0 ≤ a1)) fun _ =>
 getT a0_2 (a1).toNat fun e_11 =>
 asI .i64 e_11 fun x_12 =>
(bif (!decide (x_12 = (a0_3.length : Int))) then
 some ((.t (.int .i64 1)), ⟨[], []⟩)
else
 L42_14 (a1) (0) (a0_0) (a0_1) (a0_2z) (a0_2) (a0_3z) (a0_3)))))))
theorem eq42g (KL42_14 : Env → St → Option Res) (a0_0 : Int) (a0_1 : Int) (a0_2z : Bool) (a0_2 : List T) (a0_3z : Bool) (a0_3 : List T) (a1 : Int) : codeT Try.prog hint 42 0 92 (Ta42 KL42_14) [] (resKV Try.prog Try.f42 (hint.own 42 0)) (nrm hint 42 0 (bodyOf Try.f42) (envV [(.t (.agg [(.int .i64 a0_0), (.int .i64 a0_1), (.list 1 a0_2z a0_2), (.list 1 a0_3z a0_3)])), (.t (.int .i64 a1))] 0) ⟨[], []⟩).1 (nrm hint 42 0 (bodyOf Try.f42) (envV [(.t (.agg [(.int .i64 a0_0), (.int .i64 a0_1), (.list 1 a0_2z a0_2), (.list 1 a0_3z a0_3)])), (.t (.int .i64 a1))] 0) ⟨[], []⟩).2 (bodyOf Try.f42) = R42 (fun t75 t76 m8_0 m8_1 m8_2z m8_2 m8_3z m8_3 => KL42_14 [(2, (.ptr 8 0 0)), (75, (.t (.int .i64 t75))), (76, (.t (.int .i64 t76)))] ⟨[(8, (.var [(.t (.int .i64 m8_0)), (.t (.int .i64 m8_1)), (.t (.list 1 m8_2z m8_2)), (.t (.list 1 m8_3z m8_3))]))], []⟩) a0_0 a0_1 a0_2z a0_2 a0_3z a0_3 a1 := by kernel_rfl
/-- purfle/purfleref04.form -/
theorem eq42 (a0_0 : Int) (a0_1 : Int) (a0_2z : Bool) (a0_2 : List T) (a0_3z : Bool) (a0_3 : List T) (a1 : Int) : vr 42 0 [(.t (.agg [(.int .i64 a0_0), (.int .i64 a0_1), (.list 1 a0_2z a0_2), (.list 1 a0_3z a0_3)])), (.t (.int .i64 a1))] ⟨[], []⟩ = R42 L42_14 a0_0 a0_1 a0_2z a0_2 a0_3z a0_3 a1 :=
  (call_eq Try.prog hint (fn := Try.f42) (nt := 92) (T := (Ta42 (fun e st => atV Try.prog hint 42 0 Try.f42 92 (List.reverse PaL42_14) e st))) [PaL42_14] rfl [(.t (.agg [(.int .i64 a0_0), (.int .i64 a0_1), (.list 1 a0_2z a0_2), (.list 1 a0_3z a0_3)])), (.t (.int .i64 a1))] ⟨[], []⟩ rfl rfl rfl rfl rfl).trans (eq42g (fun e st => atV Try.prog hint 42 0 Try.f42 92 (List.reverse PaL42_14) e st) a0_0 a0_1 a0_2z a0_2 a0_3z a0_3 a1)
noncomputable def RL42_14 (L42_14 : Int → Int → Int → Int → Bool → (List T) → Bool → (List T) → Option Res) (t75 : Int) (t76 : Int) (m8_0 : Int) (m8_1 : Int) (m8_2z : Bool) (m8_2 : List T) (m8_3z : Bool) (m8_3 : List T) : Option Res :=
(bif (decide (t76 < t75)) then
 needC (decide (0 ≤ (IntKind.i64.wrap (t76 + 1)))) fun _ =>
 getT m8_2 ((IntKind.i64.wrap (t76 + 1))).toNat fun e_1 =>
 asI .i64 e_1 fun x_2 =>
 needC (decide (0 ≤ t76)) fun _ =>
 getT m8_2 (t76).toNat fun e_3 =>
 asI .i64 e_3 fun x_4 =>
(bif (decide (x_2 < x_4)) then
 some ((.t (.int .i64 1)), ⟨[], []⟩)
else
 L42_14 (t75) ((IntKind.i64.wrap (t76 + 1))) (m8_0) (m8_1) (m8_2z) (m8_2) (m8_3z) (m8_3))
else
 some ((.t (.int .i64 0)), ⟨[], []⟩))
theorem L42_14g (KL42_14 : Env → St → Option Res) (t75 : Int) (t76 : Int) (m8_0 : Int) (m8_1 : Int) (m8_2z : Bool) (m8_2 : List T) (m8_3z : Bool) (m8_3 : List T) : codeT Try.prog hint 42 0 92 (Ta42 KL42_14) (.lp :: PaL42_14) (ctxT Try.prog hint 42 0 92 (Ta42 KL42_14) [] (List.reverse (.lp :: PaL42_14)) (bodyOf Try.f42) (resKV Try.prog Try.f42 (hint.own 42 0))) [(2, (.ptr 8 0 0)), (75, (.t (.int .i64 t75))), (76, (.t (.int .i64 t76)))] ⟨[(8, (.var [(.t (.int .i64 m8_0)), (.t (.int .i64 m8_1)), (.t (.list 1 m8_2z m8_2)), (.t (.list 1 m8_3z m8_3))]))], []⟩ (nav (List.reverse (.lp :: PaL42_14)) (bodyOf Try.f42)) = RL42_14 (fun t75 t76 m8_0 m8_1 m8_2z m8_2 m8_3z m8_3 => KL42_14 [(2, (.ptr 8 0 0)), (75, (.t (.int .i64 t75))), (76, (.t (.int .i64 t76)))] ⟨[(8, (.var [(.t (.int .i64 m8_0)), (.t (.int .i64 m8_1)), (.t (.list 1 m8_2z m8_2)), (.t (.list 1 m8_3z m8_3))]))], []⟩) t75 t76 m8_0 m8_1 m8_2z m8_2 m8_3z m8_3 := by kernel_rfl
theorem L42_14_eq (t75 : Int) (t76 : Int) (m8_0 : Int) (m8_1 : Int) (m8_2z : Bool) (m8_2 : List T) (m8_3z : Bool) (m8_3 : List T) : L42_14 t75 t76 m8_0 m8_1 m8_2z m8_2 m8_3z m8_3 = RL42_14 L42_14 t75 t76 m8_0 m8_1 m8_2z m8_2 m8_3z m8_3 :=
  (round_eq Try.prog hint (b := (nav (List.reverse (.lp :: PaL42_14)) (bodyOf Try.f42))) (fn := Try.f42) (nt := 92) (T := (Ta42 (fun e st => atV Try.prog hint 42 0 Try.f42 92 (List.reverse PaL42_14) e st))) [PaL42_14] rfl PaL42_14 [(2, (.ptr 8 0 0)), (75, (.t (.int .i64 t75))), (76, (.t (.int .i64 t76)))] ⟨[(8, (.var [(.t (.int .i64 m8_0)), (.t (.int .i64 m8_1)), (.t (.list 1 m8_2z m8_2)), (.t (.list 1 m8_3z m8_3))]))], []⟩ rfl rfl rfl).trans (L42_14g (fun e st => atV Try.prog hint 42 0 Try.f42 92 (List.reverse PaL42_14) e st) t75 t76 m8_0 m8_1 m8_2z m8_2 m8_3z m8_3)
noncomputable def R40  (a0_0 : Int) (a0_1 : Int) (a0_2z : Bool) (a0_2 : List T) (a0_3z : Bool) (a0_3 : List T) (a1 : Int) : Option Res :=
 callK (vr 21 0 [(.t (.agg [(.int .i64 a0_0), (.int .i64 a0_1), (.list 1 a0_2z a0_2), (.list 1 a0_3z a0_3)]))] ⟨[], []⟩) fun v_1 b_2 =>
 asT v_1 fun x_3 =>
 asB x_3 fun b_4 =>
 endB b_2 <|
(bif b_4 then
 some ((.t (.int .i64 (IntKind.i64.wrap (a1 * a0_1)))), ⟨[], []⟩)
else
 some ((.t (.int .i64 (a0_3.length : Int))), ⟨[], []⟩))
theorem eq40g  (a0_0 : Int) (a0_1 : Int) (a0_2z : Bool) (a0_2 : List T) (a0_3z : Bool) (a0_3 : List T) (a1 : Int) : codeT Try.prog hint 40 0 14 [] [] (resKV Try.prog Try.f40 (hint.own 40 0)) (nrm hint 40 0 (bodyOf Try.f40) (envV [(.t (.agg [(.int .i64 a0_0), (.int .i64 a0_1), (.list 1 a0_2z a0_2), (.list 1 a0_3z a0_3)])), (.t (.int .i64 a1))] 0) ⟨[], []⟩).1 (nrm hint 40 0 (bodyOf Try.f40) (envV [(.t (.agg [(.int .i64 a0_0), (.int .i64 a0_1), (.list 1 a0_2z a0_2), (.list 1 a0_3z a0_3)])), (.t (.int .i64 a1))] 0) ⟨[], []⟩).2 (bodyOf Try.f40) = R40  a0_0 a0_1 a0_2z a0_2 a0_3z a0_3 a1 := by kernel_rfl
/-- purfle/purfleref04.many -/
theorem eq40 (a0_0 : Int) (a0_1 : Int) (a0_2z : Bool) (a0_2 : List T) (a0_3z : Bool) (a0_3 : List T) (a1 : Int) : vr 40 0 [(.t (.agg [(.int .i64 a0_0), (.int .i64 a0_1), (.list 1 a0_2z a0_2), (.list 1 a0_3z a0_3)])), (.t (.int .i64 a1))] ⟨[], []⟩ = R40  a0_0 a0_1 a0_2z a0_2 a0_3z a0_3 a1 :=
  (call_eq Try.prog hint (fn := Try.f40) (nt := 14) (T := []) [] rfl [(.t (.agg [(.int .i64 a0_0), (.int .i64 a0_1), (.list 1 a0_2z a0_2), (.list 1 a0_3z a0_3)])), (.t (.int .i64 a1))] ⟨[], []⟩ rfl rfl rfl rfl rfl).trans (eq40g  a0_0 a0_1 a0_2z a0_2 a0_3z a0_3 a1)
noncomputable def R28 (L28_9 : Int → Bool → (List T) → Int → Int → Int → Int → Bool → (List T) → Bool → (List T) → Option Res) (L28_17 : Int → Int → Int → Int → Bool → (List T) → Bool → (List T) → Option Res) (L28_20 : Int → Int → Int → Int → Int → Int → Bool → (List T) → Bool → (List T) → Option Res) (a0_0 : Int) (a0_1 : Int) (a0_2z : Bool) (a0_2 : List T) (a0_3z : Bool) (a0_3 : List T) (a1 : Int) : Option Res :=
(bif (decide (a1 < 0)) then
 some ((.t (.int .i64 1)), ⟨[], []⟩)
else
(bif (decide (1048576 < a1)) then
 some ((.t (.int .i64 1)), ⟨[], []⟩)
else
(bif (decide (a0_1 < 0)) then
 some ((.t (.int .i64 1)), ⟨[], []⟩)
else
(bif (decide (2147483648 < a0_1)) then
 some ((.t (.int .i64 1)), ⟨[], []⟩)
else
 callK (vr 42 0 [(.t (.agg [(.int .i64 a0_0), (.int .i64 a0_1), (.list 1 a0_2z a0_2), (.list 1 a0_3z a0_3)])), (.t (.int .i64 a1))] ⟨[], []⟩) fun v_1 b_2 =>
 asT v_1 fun x_3 =>
 asI .i64 x_3 fun x_4 =>
 endB b_2 <|
(bif (!decide (x_4 = 0)) then
 some ((.t (.int .i64 x_4)), ⟨[], []⟩)
else
(bif (decide (65536 < (a0_3.length : Int))) then
 some ((.t (.int .i64 2)), ⟨[], []⟩)
else
 callK (vr 40 0 [(.t (.agg [(.int .i64 a0_0), (.int .i64 a0_1), (.list 1 a0_2z a0_2), (.list 1 a0_3z a0_3)])), (.t (.int .i64 a1))] ⟨[], []⟩) fun v_5 b_6 =>
 asT v_5 fun x_7 =>
 asI .i64 x_7 fun x_8 =>
 endB b_6 <|
(bif (decide (1048576 < x_8)) then
 some ((.t (.int .i64 2)), ⟨[], []⟩)
else
 L28_9 (a1) (a0_3z) (a0_3) ((a0_3.length : Int)) (0) (a0_0) (a0_1) (a0_2z) (a0_2) (a0_3z) (a0_3))))))))
theorem eq28g (KL28_9 KL28_17 KL28_20 : Env → St → Option Res) (a0_0 : Int) (a0_1 : Int) (a0_2z : Bool) (a0_2 : List T) (a0_3z : Bool) (a0_3 : List T) (a1 : Int) : codeT Try.prog hint 28 0 117 (Ta28 KL28_9 KL28_17 KL28_20) [] (resKV Try.prog Try.f28 (hint.own 28 0)) (nrm hint 28 0 (bodyOf Try.f28) (envV [(.t (.agg [(.int .i64 a0_0), (.int .i64 a0_1), (.list 1 a0_2z a0_2), (.list 1 a0_3z a0_3)])), (.t (.int .i64 a1))] 0) ⟨[], []⟩).1 (nrm hint 28 0 (bodyOf Try.f28) (envV [(.t (.agg [(.int .i64 a0_0), (.int .i64 a0_1), (.list 1 a0_2z a0_2), (.list 1 a0_3z a0_3)])), (.t (.int .i64 a1))] 0) ⟨[], []⟩).2 (bodyOf Try.f28) = R28 (fun ahead1 t43z t43 t44 t45 m8_0 m8_1 m8_2z m8_2 m8_3z m8_3 => KL28_9 [(1, (.t (.int .i64 ahead1))), (2, (.ptr 8 0 0)), (43, (.t (.list 1 t43z t43))), (44, (.t (.int .i64 t44))), (45, (.t (.int .i64 t45)))] ⟨[(8, (.var [(.t (.int .i64 m8_0)), (.t (.int .i64 m8_1)), (.t (.list 1 m8_2z m8_2)), (.t (.list 1 m8_3z m8_3))]))], []⟩) (fun t65 t66 m8_0 m8_1 m8_2z m8_2 m8_3z m8_3 => KL28_17 [(2, (.ptr 8 0 0)), (65, (.t (.int .i64 t65))), (66, (.t (.int .i64 t66)))] ⟨[(8, (.var [(.t (.int .i64 m8_0)), (.t (.int .i64 m8_1)), (.t (.list 1 m8_2z m8_2)), (.t (.list 1 m8_3z m8_3))]))], []⟩) (fun p8 n9 t65 t66 m8_0 m8_1 m8_2z m8_2 m8_3z m8_3 => KL28_20 [(2, (.ptr 8 0 0)), (8, (.t (.int .i64 p8))), (9, (.t (.int .i64 n9))), (65, (.t (.int .i64 t65))), (66, (.t (.int .i64 t66)))] ⟨[(8, (.var [(.t (.int .i64 m8_0)), (.t (.int .i64 m8_1)), (.t (.list 1 m8_2z m8_2)), (.t (.list 1 m8_3z m8_3))]))], []⟩) a0_0 a0_1 a0_2z a0_2 a0_3z a0_3 a1 := by kernel_rfl
/-- purfle/purfleref04.Check -/
theorem eq28 (a0_0 : Int) (a0_1 : Int) (a0_2z : Bool) (a0_2 : List T) (a0_3z : Bool) (a0_3 : List T) (a1 : Int) : vr 28 0 [(.t (.agg [(.int .i64 a0_0), (.int .i64 a0_1), (.list 1 a0_2z a0_2), (.list 1 a0_3z a0_3)])), (.t (.int .i64 a1))] ⟨[], []⟩ = R28 L28_9 L28_17 L28_20 a0_0 a0_1 a0_2z a0_2 a0_3z a0_3 a1 :=
  (call_eq Try.prog hint (fn := Try.f28) (nt := 117) (T := (Ta28 (fun e st => atV Try.prog hint 28 0 Try.f28 117 (List.reverse PaL28_9) e st) (fun e st => atV Try.prog hint 28 0 Try.f28 117 (List.reverse PaL28_17) e st) (fun e st => atV Try.prog hint 28 0 Try.f28 117 (List.reverse PaL28_20) e st))) [PaL28_9, PaL28_17, PaL28_20] rfl [(.t (.agg [(.int .i64 a0_0), (.int .i64 a0_1), (.list 1 a0_2z a0_2), (.list 1 a0_3z a0_3)])), (.t (.int .i64 a1))] ⟨[], []⟩ rfl rfl rfl rfl rfl).trans (eq28g (fun e st => atV Try.prog hint 28 0 Try.f28 117 (List.reverse PaL28_9) e st) (fun e st => atV Try.prog hint 28 0 Try.f28 117 (List.reverse PaL28_17) e st) (fun e st => atV Try.prog hint 28 0 Try.f28 117 (List.reverse PaL28_20) e st) a0_0 a0_1 a0_2z a0_2 a0_3z a0_3 a1)
noncomputable def RL28_9 (L28_9 : Int → Bool → (List T) → Int → Int → Int → Int → Bool → (List T) → Bool → (List T) → Option Res) (L28_17 : Int → Int → Int → Int → Bool → (List T) → Bool → (List T) → Option Res) (L28_20 : Int → Int → Int → Int → Int → Int → Bool → (List T) → Bool → (List T) → Option Res) (ahead1 : Int) (t43z : Bool) (t43 : List T) (t44 : Int) (t45 : Int) (m8_0 : Int) (m8_1 : Int) (m8_2z : Bool) (m8_2 : List T) (m8_3z : Bool) (m8_3 : List T) : Option Res :=
(bif (decide (t45 < t44)) then
 needC (decide (0 ≤ t45)) fun _ =>
 getT t43 (t45).toNat fun e_1 =>
 asI .i64 e_1 fun x_2 =>
(bif (decide (x_2 < 0)) then
 some ((.t (.int .i64 3)), ⟨[], []⟩)
else
(bif (decide (m8_1 ≤ x_2)) then
 some ((.t (.int .i64 3)), ⟨[], []⟩)
else
 L28_9 (ahead1) (t43z) (t43) (t44) ((IntKind.i64.wrap (t45 + 1))) (m8_0) (m8_1) (m8_2z) (m8_2) (m8_3z) (m8_3)))
else
 callK (vr 21 0 [(.t (.agg [(.int .i64 m8_0), (.int .i64 m8_1), (.list 1 m8_2z m8_2), (.list 1 m8_3z m8_3)]))] ⟨[], []⟩) fun v_3 b_4 =>
 asT v_3 fun x_5 =>
 asB x_5 fun b_6 =>
 endB b_4 <|
(bif b_6 then
 some ((.t (.int .i64 0)), ⟨[], []⟩)
else
(bif (decide (m8_0 = 3)) then
 some ((.t (.int .i64 0)), ⟨[], []⟩)
else
 L28_17 (ahead1) (0) (m8_0) (m8_1) (m8_2z) (m8_2) (m8_3z) (m8_3))))
theorem L28_9g (KL28_9 KL28_17 KL28_20 : Env → St → Option Res) (ahead1 : Int) (t43z : Bool) (t43 : List T) (t44 : Int) (t45 : Int) (m8_0 : Int) (m8_1 : Int) (m8_2z : Bool) (m8_2 : List T) (m8_3z : Bool) (m8_3 : List T) : codeT Try.prog hint 28 0 117 (Ta28 KL28_9 KL28_17 KL28_20) (.lp :: PaL28_9) (ctxT Try.prog hint 28 0 117 (Ta28 KL28_9 KL28_17 KL28_20) [] (List.reverse (.lp :: PaL28_9)) (bodyOf Try.f28) (resKV Try.prog Try.f28 (hint.own 28 0))) [(1, (.t (.int .i64 ahead1))), (2, (.ptr 8 0 0)), (43, (.t (.list 1 t43z t43))), (44, (.t (.int .i64 t44))), (45, (.t (.int .i64 t45)))] ⟨[(8, (.var [(.t (.int .i64 m8_0)), (.t (.int .i64 m8_1)), (.t (.list 1 m8_2z m8_2)), (.t (.list 1 m8_3z m8_3))]))], []⟩ (nav (List.reverse (.lp :: PaL28_9)) (bodyOf Try.f28)) = RL28_9 (fun ahead1 t43z t43 t44 t45 m8_0 m8_1 m8_2z m8_2 m8_3z m8_3 => KL28_9 [(1, (.t (.int .i64 ahead1))), (2, (.ptr 8 0 0)), (43, (.t (.list 1 t43z t43))), (44, (.t (.int .i64 t44))), (45, (.t (.int .i64 t45)))] ⟨[(8, (.var [(.t (.int .i64 m8_0)), (.t (.int .i64 m8_1)), (.t (.list 1 m8_2z m8_2)), (.t (.list 1 m8_3z m8_3))]))], []⟩) (fun t65 t66 m8_0 m8_1 m8_2z m8_2 m8_3z m8_3 => KL28_17 [(2, (.ptr 8 0 0)), (65, (.t (.int .i64 t65))), (66, (.t (.int .i64 t66)))] ⟨[(8, (.var [(.t (.int .i64 m8_0)), (.t (.int .i64 m8_1)), (.t (.list 1 m8_2z m8_2)), (.t (.list 1 m8_3z m8_3))]))], []⟩) (fun p8 n9 t65 t66 m8_0 m8_1 m8_2z m8_2 m8_3z m8_3 => KL28_20 [(2, (.ptr 8 0 0)), (8, (.t (.int .i64 p8))), (9, (.t (.int .i64 n9))), (65, (.t (.int .i64 t65))), (66, (.t (.int .i64 t66)))] ⟨[(8, (.var [(.t (.int .i64 m8_0)), (.t (.int .i64 m8_1)), (.t (.list 1 m8_2z m8_2)), (.t (.list 1 m8_3z m8_3))]))], []⟩) ahead1 t43z t43 t44 t45 m8_0 m8_1 m8_2z m8_2 m8_3z m8_3 := by kernel_rfl
theorem L28_9_eq (ahead1 : Int) (t43z : Bool) (t43 : List T) (t44 : Int) (t45 : Int) (m8_0 : Int) (m8_1 : Int) (m8_2z : Bool) (m8_2 : List T) (m8_3z : Bool) (m8_3 : List T) : L28_9 ahead1 t43z t43 t44 t45 m8_0 m8_1 m8_2z m8_2 m8_3z m8_3 = RL28_9 L28_9 L28_17 L28_20 ahead1 t43z t43 t44 t45 m8_0 m8_1 m8_2z m8_2 m8_3z m8_3 :=
  (round_eq Try.prog hint (b := (nav (List.reverse (.lp :: PaL28_9)) (bodyOf Try.f28))) (fn := Try.f28) (nt := 117) (T := (Ta28 (fun e st => atV Try.prog hint 28 0 Try.f28 117 (List.reverse PaL28_9) e st) (fun e st => atV Try.prog hint 28 0 Try.f28 117 (List.reverse PaL28_17) e st) (fun e st => atV Try.prog hint 28 0 Try.f28 117 (List.reverse PaL28_20) e st))) [PaL28_9, PaL28_17, PaL28_20] rfl PaL28_9 [(1, (.t (.int .i64 ahead1))), (2, (.ptr 8 0 0)), (43, (.t (.list 1 t43z t43))), (44, (.t (.int .i64 t44))), (45, (.t (.int .i64 t45)))] ⟨[(8, (.var [(.t (.int .i64 m8_0)), (.t (.int .i64 m8_1)), (.t (.list 1 m8_2z m8_2)), (.t (.list 1 m8_3z m8_3))]))], []⟩ rfl rfl rfl).trans (L28_9g (fun e st => atV Try.prog hint 28 0 Try.f28 117 (List.reverse PaL28_9) e st) (fun e st => atV Try.prog hint 28 0 Try.f28 117 (List.reverse PaL28_17) e st) (fun e st => atV Try.prog hint 28 0 Try.f28 117 (List.reverse PaL28_20) e st) ahead1 t43z t43 t44 t45 m8_0 m8_1 m8_2z m8_2 m8_3z m8_3)
noncomputable def RL28_17 (L28_9 : Int → Bool → (List T) → Int → Int → Int → Int → Bool → (List T) → Bool → (List T) → Option Res) (L28_17 : Int → Int → Int → Int → Bool → (List T) → Bool → (List T) → Option Res) (L28_20 : Int → Int → Int → Int → Int → Int → Bool → (List T) → Bool → (List T) → Option Res) (t65 : Int) (t66 : Int) (m8_0 : Int) (m8_1 : Int) (m8_2z : Bool) (m8_2 : List T) (m8_3z : Bool) (m8_3 : List T) : Option Res :=
(bif (decide (t66 < t65)) then
 needC (decide (0 ≤ t66)) fun _ =>
 getT m8_2 (t66).toNat fun e_1 =>
 asI .i64 e_1 fun x_2 =>
 L28_20 (t66) ((IntKind.i64.wrap (x_2 + 1))) (t65) (t66) (m8_0) (m8_1) (m8_2z) (m8_2) (m8_3z) (m8_3)
else
 some ((.t (.int .i64 0)), ⟨[], []⟩))
theorem L28_17g (KL28_9 KL28_17 KL28_20 : Env → St → Option Res) (t65 : Int) (t66 : Int) (m8_0 : Int) (m8_1 : Int) (m8_2z : Bool) (m8_2 : List T) (m8_3z : Bool) (m8_3 : List T) : codeT Try.prog hint 28 0 117 (Ta28 KL28_9 KL28_17 KL28_20) (.lp :: PaL28_17) (ctxT Try.prog hint 28 0 117 (Ta28 KL28_9 KL28_17 KL28_20) [] (List.reverse (.lp :: PaL28_17)) (bodyOf Try.f28) (resKV Try.prog Try.f28 (hint.own 28 0))) [(2, (.ptr 8 0 0)), (65, (.t (.int .i64 t65))), (66, (.t (.int .i64 t66)))] ⟨[(8, (.var [(.t (.int .i64 m8_0)), (.t (.int .i64 m8_1)), (.t (.list 1 m8_2z m8_2)), (.t (.list 1 m8_3z m8_3))]))], []⟩ (nav (List.reverse (.lp :: PaL28_17)) (bodyOf Try.f28)) = RL28_17 (fun ahead1 t43z t43 t44 t45 m8_0 m8_1 m8_2z m8_2 m8_3z m8_3 => KL28_9 [(1, (.t (.int .i64 ahead1))), (2, (.ptr 8 0 0)), (43, (.t (.list 1 t43z t43))), (44, (.t (.int .i64 t44))), (45, (.t (.int .i64 t45)))] ⟨[(8, (.var [(.t (.int .i64 m8_0)), (.t (.int .i64 m8_1)), (.t (.list 1 m8_2z m8_2)), (.t (.list 1 m8_3z m8_3))]))], []⟩) (fun t65 t66 m8_0 m8_1 m8_2z m8_2 m8_3z m8_3 => KL28_17 [(2, (.ptr 8 0 0)), (65, (.t (.int .i64 t65))), (66, (.t (.int .i64 t66)))] ⟨[(8, (.var [(.t (.int .i64 m8_0)), (.t (.int .i64 m8_1)), (.t (.list 1 m8_2z m8_2)), (.t (.list 1 m8_3z m8_3))]))], []⟩) (fun p8 n9 t65 t66 m8_0 m8_1 m8_2z m8_2 m8_3z m8_3 => KL28_20 [(2, (.ptr 8 0 0)), (8, (.t (.int .i64 p8))), (9, (.t (.int .i64 n9))), (65, (.t (.int .i64 t65))), (66, (.t (.int .i64 t66)))] ⟨[(8, (.var [(.t (.int .i64 m8_0)), (.t (.int .i64 m8_1)), (.t (.list 1 m8_2z m8_2)), (.t (.list 1 m8_3z m8_3))]))], []⟩) t65 t66 m8_0 m8_1 m8_2z m8_2 m8_3z m8_3 := by kernel_rfl
theorem L28_17_eq (t65 : Int) (t66 : Int) (m8_0 : Int) (m8_1 : Int) (m8_2z : Bool) (m8_2 : List T) (m8_3z : Bool) (m8_3 : List T) : L28_17 t65 t66 m8_0 m8_1 m8_2z m8_2 m8_3z m8_3 = RL28_17 L28_9 L28_17 L28_20 t65 t66 m8_0 m8_1 m8_2z m8_2 m8_3z m8_3 :=
  (round_eq Try.prog hint (b := (nav (List.reverse (.lp :: PaL28_17)) (bodyOf Try.f28))) (fn := Try.f28) (nt := 117) (T := (Ta28 (fun e st => atV Try.prog hint 28 0 Try.f28 117 (List.reverse PaL28_9) e st) (fun e st => atV Try.prog hint 28 0 Try.f28 117 (List.reverse PaL28_17) e st) (fun e st => atV Try.prog hint 28 0 Try.f28 117 (List.reverse PaL28_20) e st))) [PaL28_9, PaL28_17, PaL28_20] rfl PaL28_17 [(2, (.ptr 8 0 0)), (65, (.t (.int .i64 t65))), (66, (.t (.int .i64 t66)))] ⟨[(8, (.var [(.t (.int .i64 m8_0)), (.t (.int .i64 m8_1)), (.t (.list 1 m8_2z m8_2)), (.t (.list 1 m8_3z m8_3))]))], []⟩ rfl rfl rfl).trans (L28_17g (fun e st => atV Try.prog hint 28 0 Try.f28 117 (List.reverse PaL28_9) e st) (fun e st => atV Try.prog hint 28 0 Try.f28 117 (List.reverse PaL28_17) e st) (fun e st => atV Try.prog hint 28 0 Try.f28 117 (List.reverse PaL28_20) e st) t65 t66 m8_0 m8_1 m8_2z m8_2 m8_3z m8_3)
noncomputable def RL28_20 (L28_9 : Int → Bool → (List T) → Int → Int → Int → Int → Bool → (List T) → Bool → (List T) → Option Res) (L28_17 : Int → Int → Int → Int → Bool → (List T) → Bool → (List T) → Option Res) (L28_20 : Int → Int → Int → Int → Int → Int → Bool → (List T) → Bool → (List T) → Option Res) (p8 : Int) (n9 : Int) (t65 : Int) (t66 : Int) (m8_0 : Int) (m8_1 : Int) (m8_2z : Bool) (m8_2 : List T) (m8_3z : Bool) (m8_3 : List T) : Option Res :=
 needC (decide (0 ≤ (IntKind.i64.wrap (p8 + 1)))) fun _ =>
 getT m8_2 ((IntKind.i64.wrap (p8 + 1))).toNat fun e_1 =>
 asI .i64 e_1 fun x_2 =>
(bif (decide (n9 < x_2)) then
 needC (decide (0 ≤ n9)) fun _ =>
 getT m8_3 (n9).toNat fun e_3 =>
 asI .i64 e_3 fun x_4 =>
 needC (decide (0 ≤ (IntKind.i64.wrap (n9 - 1)))) fun _ =>
 getT m8_3 ((IntKind.i64.wrap (n9 - 1))).toNat fun e_5 =>
 asI .i64 e_5 fun x_6 =>
(bif (decide (x_4 < x_6)) then
 some ((.t (.int .i64 1)), ⟨[], []⟩)
else
(bif (decide (m8_0 = 1)) then
 needC (decide (0 ≤ n9)) fun _ =>
 getT m8_3 (n9).toNat fun e_7 =>
 asI .i64 e_7 fun x_8 =>
 needC (decide (0 ≤ (IntKind.i64.wrap (n9 - 1)))) fun _ =>
 getT m8_3 ((IntKind.i64.wrap (n9 - 1))).toNat fun e_9 =>
 asI .i64 e_9 fun x_10 =>
(bif (decide (x_8 = x_10)) then
 some ((.t (.int .i64 1)), ⟨[], []⟩)
else
 L28_20 (p8) ((IntKind.i64.wrap (n9 + 1))) (t65) (t66) (m8_0) (m8_1) (m8_2z) (m8_2) (m8_3z) (m8_3))
else
 L28_20 (p8) ((IntKind.i64.wrap (n9 + 1))) (t65) (t66) (m8_0) (m8_1) (m8_2z) (m8_2) (m8_3z) (m8_3)))
else
 L28_17 (t65) ((IntKind.i64.wrap (t66 + 1))) (m8_0) (m8_1) (m8_2z) (m8_2) (m8_3z) (m8_3))
theorem L28_20g (KL28_9 KL28_17 KL28_20 : Env → St → Option Res) (p8 : Int) (n9 : Int) (t65 : Int) (t66 : Int) (m8_0 : Int) (m8_1 : Int) (m8_2z : Bool) (m8_2 : List T) (m8_3z : Bool) (m8_3 : List T) : codeT Try.prog hint 28 0 117 (Ta28 KL28_9 KL28_17 KL28_20) (.lp :: PaL28_20) (ctxT Try.prog hint 28 0 117 (Ta28 KL28_9 KL28_17 KL28_20) [] (List.reverse (.lp :: PaL28_20)) (bodyOf Try.f28) (resKV Try.prog Try.f28 (hint.own 28 0))) [(2, (.ptr 8 0 0)), (8, (.t (.int .i64 p8))), (9, (.t (.int .i64 n9))), (65, (.t (.int .i64 t65))), (66, (.t (.int .i64 t66)))] ⟨[(8, (.var [(.t (.int .i64 m8_0)), (.t (.int .i64 m8_1)), (.t (.list 1 m8_2z m8_2)), (.t (.list 1 m8_3z m8_3))]))], []⟩ (nav (List.reverse (.lp :: PaL28_20)) (bodyOf Try.f28)) = RL28_20 (fun ahead1 t43z t43 t44 t45 m8_0 m8_1 m8_2z m8_2 m8_3z m8_3 => KL28_9 [(1, (.t (.int .i64 ahead1))), (2, (.ptr 8 0 0)), (43, (.t (.list 1 t43z t43))), (44, (.t (.int .i64 t44))), (45, (.t (.int .i64 t45)))] ⟨[(8, (.var [(.t (.int .i64 m8_0)), (.t (.int .i64 m8_1)), (.t (.list 1 m8_2z m8_2)), (.t (.list 1 m8_3z m8_3))]))], []⟩) (fun t65 t66 m8_0 m8_1 m8_2z m8_2 m8_3z m8_3 => KL28_17 [(2, (.ptr 8 0 0)), (65, (.t (.int .i64 t65))), (66, (.t (.int .i64 t66)))] ⟨[(8, (.var [(.t (.int .i64 m8_0)), (.t (.int .i64 m8_1)), (.t (.list 1 m8_2z m8_2)), (.t (.list 1 m8_3z m8_3))]))], []⟩) (fun p8 n9 t65 t66 m8_0 m8_1 m8_2z m8_2 m8_3z m8_3 => KL28_20 [(2, (.ptr 8 0 0)), (8, (.t (.int .i64 p8))), (9, (.t (.int .i64 n9))), (65, (.t (.int .i64 t65))), (66, (.t (.int .i64 t66)))] ⟨[(8, (.var [(.t (.int .i64 m8_0)), (.t (.int .i64 m8_1)), (.t (.list 1 m8_2z m8_2)), (.t (.list 1 m8_3z m8_3))]))], []⟩) p8 n9 t65 t66 m8_0 m8_1 m8_2z m8_2 m8_3z m8_3 := by kernel_rfl
theorem L28_20_eq (p8 : Int) (n9 : Int) (t65 : Int) (t66 : Int) (m8_0 : Int) (m8_1 : Int) (m8_2z : Bool) (m8_2 : List T) (m8_3z : Bool) (m8_3 : List T) : L28_20 p8 n9 t65 t66 m8_0 m8_1 m8_2z m8_2 m8_3z m8_3 = RL28_20 L28_9 L28_17 L28_20 p8 n9 t65 t66 m8_0 m8_1 m8_2z m8_2 m8_3z m8_3 :=
  (round_eq Try.prog hint (b := (nav (List.reverse (.lp :: PaL28_20)) (bodyOf Try.f28))) (fn := Try.f28) (nt := 117) (T := (Ta28 (fun e st => atV Try.prog hint 28 0 Try.f28 117 (List.reverse PaL28_9) e st) (fun e st => atV Try.prog hint 28 0 Try.f28 117 (List.reverse PaL28_17) e st) (fun e st => atV Try.prog hint 28 0 Try.f28 117 (List.reverse PaL28_20) e st))) [PaL28_9, PaL28_17, PaL28_20] rfl PaL28_20 [(2, (.ptr 8 0 0)), (8, (.t (.int .i64 p8))), (9, (.t (.int .i64 n9))), (65, (.t (.int .i64 t65))), (66, (.t (.int .i64 t66)))] ⟨[(8, (.var [(.t (.int .i64 m8_0)), (.t (.int .i64 m8_1)), (.t (.list 1 m8_2z m8_2)), (.t (.list 1 m8_3z m8_3))]))], []⟩ rfl rfl rfl).trans (L28_20g (fun e st => atV Try.prog hint 28 0 Try.f28 117 (List.reverse PaL28_9) e st) (fun e st => atV Try.prog hint 28 0 Try.f28 117 (List.reverse PaL28_17) e st) (fun e st => atV Try.prog hint 28 0 Try.f28 117 (List.reverse PaL28_20) e st) p8 n9 t65 t66 m8_0 m8_1 m8_2z m8_2 m8_3z m8_3)
noncomputable def R23  (a0_0 : Int) (a0_1 : Int) (a0_2z : Bool) (a0_2 : List T) (a0_3z : Bool) (a0_3 : List T) (a1 : Int) : Option Res :=
 callK (vr 28 0 [(.t (.agg [(.int .i64 a0_0), (.int .i64 a0_1), (.list 1 a0_2z a0_2), (.list 1 a0_3z a0_3)])), (.t (.int .i64 a1))] ⟨[], []⟩) fun v_1 b_2 =>
 asT v_1 fun x_3 =>
 asI .i64 x_3 fun x_4 =>
 endB b_2 <|
(bif (!decide (x_4 = 0)) then
 some ((.tup [(.t (.int .i64 0)), (.t (.int .i64 x_4))]), ⟨[], []⟩)
else
 callK (vr 40 0 [(.t (.agg [(.int .i64 a0_0), (.int .i64 a0_1), (.list 1 a0_2z a0_2), (.list 1 a0_3z a0_3)])), (.t (.int .i64 a1))] ⟨[], []⟩) fun v_5 b_6 =>
 asT v_5 fun x_7 =>
 asI .i64 x_7 fun x_8 =>
 endB b_6 <|
 some ((.tup [(.t (.int .i64 x_8)), (.t (.int .i64 0))]), ⟨[], []⟩))
theorem eq23g  (a0_0 : Int) (a0_1 : Int) (a0_2z : Bool) (a0_2 : List T) (a0_3z : Bool) (a0_3 : List T) (a1 : Int) : codeT Try.prog hint 23 0 16 [] [] (resKV Try.prog Try.f23 (hint.own 23 0)) (nrm hint 23 0 (bodyOf Try.f23) (envV [(.t (.agg [(.int .i64 a0_0), (.int .i64 a0_1), (.list 1 a0_2z a0_2), (.list 1 a0_3z a0_3)])), (.t (.int .i64 a1))] 0) ⟨[], []⟩).1 (nrm hint 23 0 (bodyOf Try.f23) (envV [(.t (.agg [(.int .i64 a0_0), (.int .i64 a0_1), (.list 1 a0_2z a0_2), (.list 1 a0_3z a0_3)])), (.t (.int .i64 a1))] 0) ⟨[], []⟩).2 (bodyOf Try.f23) = R23  a0_0 a0_1 a0_2z a0_2 a0_3z a0_3 a1 := by kernel_rfl
/-- purfle/purfleref04.Below -/
theorem eq23 (a0_0 : Int) (a0_1 : Int) (a0_2z : Bool) (a0_2 : List T) (a0_3z : Bool) (a0_3 : List T) (a1 : Int) : vr 23 0 [(.t (.agg [(.int .i64 a0_0), (.int .i64 a0_1), (.list 1 a0_2z a0_2), (.list 1 a0_3z a0_3)])), (.t (.int .i64 a1))] ⟨[], []⟩ = R23  a0_0 a0_1 a0_2z a0_2 a0_3z a0_3 a1 :=
  (call_eq Try.prog hint (fn := Try.f23) (nt := 16) (T := []) [] rfl [(.t (.agg [(.int .i64 a0_0), (.int .i64 a0_1), (.list 1 a0_2z a0_2), (.list 1 a0_3z a0_3)])), (.t (.int .i64 a1))] ⟨[], []⟩ rfl rfl rfl rfl rfl).trans (eq23g  a0_0 a0_1 a0_2z a0_2 a0_3z a0_3 a1)
noncomputable def R41 (L41_8 : Int → Int → Int → Int → Int → Bool → (List T) → Bool → (List T) → Bool → (List T) → Option Res) (L41_3 : Int → Int → Int → Int → Bool → (List T) → Bool → (List T) → Bool → (List T) → Option Res) (a0_0 : Int) (a0_1 : Int) (a0_2z : Bool) (a0_2 : List T) (a0_3z : Bool) (a0_3 : List T) (a1 : Int) : Option Res :=
 callK (vr 21 0 [(.t (.agg [(.int .i64 a0_0), (.int .i64 a0_1), (.list 1 a0_2z a0_2), (.list 1 a0_3z a0_3)]))] ⟨[], []⟩) fun v_1 b_2 =>
 asT v_1 fun x_3 =>
 asB x_3 fun b_4 =>
 endB b_2 <|
(bif b_4 then
 L41_8 (a1) (a0_1) (0) (a0_0) (a0_1) (a0_2z) (a0_2) (a0_3z) (a0_3) (false) ([])
else
(bif (decide (a0_0 = 3)) then
 needC (decide (0 ≤ a1)) fun _ =>
 getT a0_3 (a1).toNat fun e_5 =>
 asI .i64 e_5 fun x_6 =>
 some ((.t (.list 2 true [(.agg [(.int .i64 x_6), (.int .i64 a1)])])), ⟨[], []⟩)
else
 needC (decide (0 ≤ a1)) fun _ =>
 getT a0_2 (a1).toNat fun e_7 =>
 asI .i64 e_7 fun x_8 =>
 L41_3 (a1) (x_8) (a0_0) (a0_1) (a0_2z) (a0_2) (a0_3z) (a0_3) (false) ([])))
theorem eq41g (KL41_8 KL41_3 : Env → St → Option Res) (a0_0 : Int) (a0_1 : Int) (a0_2z : Bool) (a0_2 : List T) (a0_3z : Bool) (a0_3 : List T) (a1 : Int) : codeT Try.prog hint 41 0 68 (Ta41 KL41_8 KL41_3) [] (resKV Try.prog Try.f41 (hint.own 41 0)) (nrm hint 41 0 (bodyOf Try.f41) (envV [(.t (.agg [(.int .i64 a0_0), (.int .i64 a0_1), (.list 1 a0_2z a0_2), (.list 1 a0_3z a0_3)])), (.t (.int .i64 a1))] 0) ⟨[], []⟩).1 (nrm hint 41 0 (bodyOf Try.f41) (envV [(.t (.agg [(.int .i64 a0_0), (.int .i64 a0_1), (.list 1 a0_2z a0_2), (.list 1 a0_3z a0_3)])), (.t (.int .i64 a1))] 0) ⟨[], []⟩).2 (bodyOf Try.f41) = R41 (fun p1 t37 t38 m8_0 m8_1 m8_2z m8_2 m8_3z m8_3 m9z m9 => KL41_8 [(1, (.t (.int .i64 p1))), (2, (.ptr 8 0 0)), (5, (.buf 9)), (37, (.t (.int .i64 t37))), (38, (.t (.int .i64 t38)))] ⟨[(8, (.var [(.t (.int .i64 m8_0)), (.t (.int .i64 m8_1)), (.t (.list 1 m8_2z m8_2)), (.t (.list 1 m8_3z m8_3))])), (9, (.arr true 2 m9z m9))], []⟩) (fun p1 n7 m8_0 m8_1 m8_2z m8_2 m8_3z m8_3 m9z m9 => KL41_3 [(1, (.t (.int .i64 p1))), (2, (.ptr 8 0 0)), (5, (.buf 9)), (7, (.t (.int .i64 n7)))] ⟨[(8, (.var [(.t (.int .i64 m8_0)), (.t (.int .i64 m8_1)), (.t (.list 1 m8_2z m8_2)), (.t (.list 1 m8_3z m8_3))])), (9, (.arr true 2 m9z m9))], []⟩) a0_0 a0_1 a0_2z a0_2 a0_3z a0_3 a1 := by kernel_rfl
/-- purfle/purfleref04.children -/
theorem eq41 (a0_0 : Int) (a0_1 : Int) (a0_2z : Bool) (a0_2 : List T) (a0_3z : Bool) (a0_3 : List T) (a1 : Int) : vr 41 0 [(.t (.agg [(.int .i64 a0_0), (.int .i64 a0_1), (.list 1 a0_2z a0_2), (.list 1 a0_3z a0_3)])), (.t (.int .i64 a1))] ⟨[], []⟩ = R41 L41_8 L41_3 a0_0 a0_1 a0_2z a0_2 a0_3z a0_3 a1 :=
  (call_eq Try.prog hint (fn := Try.f41) (nt := 68) (T := (Ta41 (fun e st => atV Try.prog hint 41 0 Try.f41 68 (List.reverse PaL41_8) e st) (fun e st => atV Try.prog hint 41 0 Try.f41 68 (List.reverse PaL41_3) e st))) [PaL41_8, PaL41_3] rfl [(.t (.agg [(.int .i64 a0_0), (.int .i64 a0_1), (.list 1 a0_2z a0_2), (.list 1 a0_3z a0_3)])), (.t (.int .i64 a1))] ⟨[], []⟩ rfl rfl rfl rfl rfl).trans (eq41g (fun e st => atV Try.prog hint 41 0 Try.f41 68 (List.reverse PaL41_8) e st) (fun e st => atV Try.prog hint 41 0 Try.f41 68 (List.reverse PaL41_3) e st) a0_0 a0_1 a0_2z a0_2 a0_3z a0_3 a1)
noncomputable def RL41_8 (L41_8 : Int → Int → Int → Int → Int → Bool → (List T) → Bool → (List T) → Bool → (List T) → Option Res) (L41_3 : Int → Int → Int → Int → Bool → (List T) → Bool → (List T) → Bool → (List T) → Option Res) (p1 : Int) (t37 : Int) (t38 : Int) (m8_0 : Int) (m8_1 : Int) (m8_2z : Bool) (m8_2 : List T) (m8_3z : Bool) (m8_3 : List T) (m9z : Bool) (m9 : List T) : Option Res :=
(bif (decide (t38 < t37)) then
 needC (decide ((m9.length + 1) * (16 + 1) ≤ 70368744177664) && decide (16 ≤ 1048576)) fun _ =>
 L41_8 (p1) (t37) ((IntKind.i64.wrap (t38 + 1))) (m8_0) (m8_1) (m8_2z) (m8_2) (m8_3z) (m8_3) ((m9z || true)) ((m9 ++ ([(.agg [(.int .i64 t38), (.int .i64 (IntKind.i64.wrap ((IntKind.i64.wrap (p1 * m8_1)) + t38)))])] : List T)))
else
 some ((.t (.list 2 m9z m9)), ⟨[], []⟩))
theorem L41_8g (KL41_8 KL41_3 : Env → St → Option Res) (p1 : Int) (t37 : Int) (t38 : Int) (m8_0 : Int) (m8_1 : Int) (m8_2z : Bool) (m8_2 : List T) (m8_3z : Bool) (m8_3 : List T) (m9z : Bool) (m9 : List T) : codeT Try.prog hint 41 0 68 (Ta41 KL41_8 KL41_3) (.lp :: PaL41_8) (ctxT Try.prog hint 41 0 68 (Ta41 KL41_8 KL41_3) [] (List.reverse (.lp :: PaL41_8)) (bodyOf Try.f41) (resKV Try.prog Try.f41 (hint.own 41 0))) [(1, (.t (.int .i64 p1))), (2, (.ptr 8 0 0)), (5, (.buf 9)), (37, (.t (.int .i64 t37))), (38, (.t (.int .i64 t38)))] ⟨[(8, (.var [(.t (.int .i64 m8_0)), (.t (.int .i64 m8_1)), (.t (.list 1 m8_2z m8_2)), (.t (.list 1 m8_3z m8_3))])), (9, (.arr true 2 m9z m9))], []⟩ (nav (List.reverse (.lp :: PaL41_8)) (bodyOf Try.f41)) = RL41_8 (fun p1 t37 t38 m8_0 m8_1 m8_2z m8_2 m8_3z m8_3 m9z m9 => KL41_8 [(1, (.t (.int .i64 p1))), (2, (.ptr 8 0 0)), (5, (.buf 9)), (37, (.t (.int .i64 t37))), (38, (.t (.int .i64 t38)))] ⟨[(8, (.var [(.t (.int .i64 m8_0)), (.t (.int .i64 m8_1)), (.t (.list 1 m8_2z m8_2)), (.t (.list 1 m8_3z m8_3))])), (9, (.arr true 2 m9z m9))], []⟩) (fun p1 n7 m8_0 m8_1 m8_2z m8_2 m8_3z m8_3 m9z m9 => KL41_3 [(1, (.t (.int .i64 p1))), (2, (.ptr 8 0 0)), (5, (.buf 9)), (7, (.t (.int .i64 n7)))] ⟨[(8, (.var [(.t (.int .i64 m8_0)), (.t (.int .i64 m8_1)), (.t (.list 1 m8_2z m8_2)), (.t (.list 1 m8_3z m8_3))])), (9, (.arr true 2 m9z m9))], []⟩) p1 t37 t38 m8_0 m8_1 m8_2z m8_2 m8_3z m8_3 m9z m9 := by kernel_rfl
theorem L41_8_eq (p1 : Int) (t37 : Int) (t38 : Int) (m8_0 : Int) (m8_1 : Int) (m8_2z : Bool) (m8_2 : List T) (m8_3z : Bool) (m8_3 : List T) (m9z : Bool) (m9 : List T) : L41_8 p1 t37 t38 m8_0 m8_1 m8_2z m8_2 m8_3z m8_3 m9z m9 = RL41_8 L41_8 L41_3 p1 t37 t38 m8_0 m8_1 m8_2z m8_2 m8_3z m8_3 m9z m9 :=
  (round_eq Try.prog hint (b := (nav (List.reverse (.lp :: PaL41_8)) (bodyOf Try.f41))) (fn := Try.f41) (nt := 68) (T := (Ta41 (fun e st => atV Try.prog hint 41 0 Try.f41 68 (List.reverse PaL41_8) e st) (fun e st => atV Try.prog hint 41 0 Try.f41 68 (List.reverse PaL41_3) e st))) [PaL41_8, PaL41_3] rfl PaL41_8 [(1, (.t (.int .i64 p1))), (2, (.ptr 8 0 0)), (5, (.buf 9)), (37, (.t (.int .i64 t37))), (38, (.t (.int .i64 t38)))] ⟨[(8, (.var [(.t (.int .i64 m8_0)), (.t (.int .i64 m8_1)), (.t (.list 1 m8_2z m8_2)), (.t (.list 1 m8_3z m8_3))])), (9, (.arr true 2 m9z m9))], []⟩ rfl rfl rfl).trans (L41_8g (fun e st => atV Try.prog hint 41 0 Try.f41 68 (List.reverse PaL41_8) e st) (fun e st => atV Try.prog hint 41 0 Try.f41 68 (List.reverse PaL41_3) e st) p1 t37 t38 m8_0 m8_1 m8_2z m8_2 m8_3z m8_3 m9z m9)
noncomputable def RL41_3 (L41_8 : Int → Int → Int → Int → Int → Bool → (List T) → Bool → (List T) → Bool → (List T) → Option Res) (L41_3 : Int → Int → Int → Int → Bool → (List T) → Bool → (List T) → Bool → (List T) → Option Res) (p1 : Int) (n7 : Int) (m8_0 : Int) (m8_1 : Int) (m8_2z : Bool) (m8_2 : List T) (m8_3z : Bool) (m8_3 : List T) (m9z : Bool) (m9 : List T) : Option Res :=
 needC (decide (0 ≤ (IntKind.i64.wrap (p1 + 1)))) fun _ =>
 getT m8_2 ((IntKind.i64.wrap (p1 + 1))).toNat fun e_1 =>
 asI .i64 e_1 fun x_2 =>
(bif (decide (n7 < x_2)) then
 needC (decide (0 ≤ n7)) fun _ =>
 getT m8_3 (n7).toNat fun e_3 =>
 asI .i64 e_3 fun x_4 =>
 needC (decide ((m9.length + 1) * (16 + 1) ≤ 70368744177664) && decide (16 ≤ 1048576)) fun _ =>
 L41_3 (p1) ((IntKind.i64.wrap (n7 + 1))) (m8_0) (m8_1) (m8_2z) (m8_2) (m8_3z) (m8_3) ((m9z || true)) ((m9 ++ ([(.agg [(.int .i64 x_4), (.int .i64 n7)])] : List T)))
else
 some ((.t (.list 2 m9z m9)), ⟨[], []⟩))
theorem L41_3g (KL41_8 KL41_3 : Env → St → Option Res) (p1 : Int) (n7 : Int) (m8_0 : Int) (m8_1 : Int) (m8_2z : Bool) (m8_2 : List T) (m8_3z : Bool) (m8_3 : List T) (m9z : Bool) (m9 : List T) : codeT Try.prog hint 41 0 68 (Ta41 KL41_8 KL41_3) (.lp :: PaL41_3) (ctxT Try.prog hint 41 0 68 (Ta41 KL41_8 KL41_3) [] (List.reverse (.lp :: PaL41_3)) (bodyOf Try.f41) (resKV Try.prog Try.f41 (hint.own 41 0))) [(1, (.t (.int .i64 p1))), (2, (.ptr 8 0 0)), (5, (.buf 9)), (7, (.t (.int .i64 n7)))] ⟨[(8, (.var [(.t (.int .i64 m8_0)), (.t (.int .i64 m8_1)), (.t (.list 1 m8_2z m8_2)), (.t (.list 1 m8_3z m8_3))])), (9, (.arr true 2 m9z m9))], []⟩ (nav (List.reverse (.lp :: PaL41_3)) (bodyOf Try.f41)) = RL41_3 (fun p1 t37 t38 m8_0 m8_1 m8_2z m8_2 m8_3z m8_3 m9z m9 => KL41_8 [(1, (.t (.int .i64 p1))), (2, (.ptr 8 0 0)), (5, (.buf 9)), (37, (.t (.int .i64 t37))), (38, (.t (.int .i64 t38)))] ⟨[(8, (.var [(.t (.int .i64 m8_0)), (.t (.int .i64 m8_1)), (.t (.list 1 m8_2z m8_2)), (.t (.list 1 m8_3z m8_3))])), (9, (.arr true 2 m9z m9))], []⟩) (fun p1 n7 m8_0 m8_1 m8_2z m8_2 m8_3z m8_3 m9z m9 => KL41_3 [(1, (.t (.int .i64 p1))), (2, (.ptr 8 0 0)), (5, (.buf 9)), (7, (.t (.int .i64 n7)))] ⟨[(8, (.var [(.t (.int .i64 m8_0)), (.t (.int .i64 m8_1)), (.t (.list 1 m8_2z m8_2)), (.t (.list 1 m8_3z m8_3))])), (9, (.arr true 2 m9z m9))], []⟩) p1 n7 m8_0 m8_1 m8_2z m8_2 m8_3z m8_3 m9z m9 := by kernel_rfl
theorem L41_3_eq (p1 : Int) (n7 : Int) (m8_0 : Int) (m8_1 : Int) (m8_2z : Bool) (m8_2 : List T) (m8_3z : Bool) (m8_3 : List T) (m9z : Bool) (m9 : List T) : L41_3 p1 n7 m8_0 m8_1 m8_2z m8_2 m8_3z m8_3 m9z m9 = RL41_3 L41_8 L41_3 p1 n7 m8_0 m8_1 m8_2z m8_2 m8_3z m8_3 m9z m9 :=
  (round_eq Try.prog hint (b := (nav (List.reverse (.lp :: PaL41_3)) (bodyOf Try.f41))) (fn := Try.f41) (nt := 68) (T := (Ta41 (fun e st => atV Try.prog hint 41 0 Try.f41 68 (List.reverse PaL41_8) e st) (fun e st => atV Try.prog hint 41 0 Try.f41 68 (List.reverse PaL41_3) e st))) [PaL41_8, PaL41_3] rfl PaL41_3 [(1, (.t (.int .i64 p1))), (2, (.ptr 8 0 0)), (5, (.buf 9)), (7, (.t (.int .i64 n7)))] ⟨[(8, (.var [(.t (.int .i64 m8_0)), (.t (.int .i64 m8_1)), (.t (.list 1 m8_2z m8_2)), (.t (.list 1 m8_3z m8_3))])), (9, (.arr true 2 m9z m9))], []⟩ rfl rfl rfl).trans (L41_3g (fun e st => atV Try.prog hint 41 0 Try.f41 68 (List.reverse PaL41_8) e st) (fun e st => atV Try.prog hint 41 0 Try.f41 68 (List.reverse PaL41_3) e st) p1 n7 m8_0 m8_1 m8_2z m8_2 m8_3z m8_3 m9z m9)
noncomputable def R24  (a0_0 : Int) (a0_1 : Int) (a0_2z : Bool) (a0_2 : List T) (a0_3z : Bool) (a0_3 : List T) (a1 : Int) (a2 : Int) : Option Res :=
 callK (vr 28 0 [(.t (.agg [(.int .i64 a0_0), (.int .i64 a0_1), (.list 1 a0_2z a0_2), (.list 1 a0_3z a0_3)])), (.t (.int .i64 a1))] ⟨[], []⟩) fun v_1 b_2 =>
 asT v_1 fun x_3 =>
 asI .i64 x_3 fun x_4 =>
 endB b_2 <|
(bif (!decide (x_4 = 0)) then
 some ((.tup [(.t (.list 2 false [])), (.t (.int .i64 x_4))]), ⟨[], []⟩)
else
(bif (decide (a2 < 0)) then
 some ((.tup [(.t (.list 2 false [])), (.t (.int .i64 5))]), ⟨[], []⟩)
else
(bif (decide (a1 ≤ a2)) then
 some ((.tup [(.t (.list 2 false [])), (.t (.int .i64 5))]), ⟨[], []⟩)
else
 callK (vr 41 0 [(.t (.agg [(.int .i64 a0_0), (.int .i64 a0_1), (.list 1 a0_2z a0_2), (.list 1 a0_3z a0_3)])), (.t (.int .i64 a2))] ⟨[], []⟩) fun v_5 b_6 =>
 asT v_5 fun x_7 =>
 asL 2 x_7 fun nn_8 l_9 =>
 endB b_6 <|
 some ((.tup [(.t (.list 2 nn_8 l_9)), (.t (.int .i64 0))]), ⟨[], []⟩))))
theorem eq24g  (a0_0 : Int) (a0_1 : Int) (a0_2z : Bool) (a0_2 : List T) (a0_3z : Bool) (a0_3 : List T) (a1 : Int) (a2 : Int) : codeT Try.prog hint 24 0 25 [] [] (resKV Try.prog Try.f24 (hint.own 24 0)) (nrm hint 24 0 (bodyOf Try.f24) (envV [(.t (.agg [(.int .i64 a0_0), (.int .i64 a0_1), (.list 1 a0_2z a0_2), (.list 1 a0_3z a0_3)])), (.t (.int .i64 a1)), (.t (.int .i64 a2))] 0) ⟨[], []⟩).1 (nrm hint 24 0 (bodyOf Try.f24) (envV [(.t (.agg [(.int .i64 a0_0), (.int .i64 a0_1), (.list 1 a0_2z a0_2), (.list 1 a0_3z a0_3)])), (.t (.int .i64 a1)), (.t (.int .i64 a2))] 0) ⟨[], []⟩).2 (bodyOf Try.f24) = R24  a0_0 a0_1 a0_2z a0_2 a0_3z a0_3 a1 a2 := by kernel_rfl
/-- purfle/purfleref04.Children -/
theorem eq24 (a0_0 : Int) (a0_1 : Int) (a0_2z : Bool) (a0_2 : List T) (a0_3z : Bool) (a0_3 : List T) (a1 : Int) (a2 : Int) : vr 24 0 [(.t (.agg [(.int .i64 a0_0), (.int .i64 a0_1), (.list 1 a0_2z a0_2), (.list 1 a0_3z a0_3)])), (.t (.int .i64 a1)), (.t (.int .i64 a2))] ⟨[], []⟩ = R24  a0_0 a0_1 a0_2z a0_2 a0_3z a0_3 a1 a2 :=
  (call_eq Try.prog hint (fn := Try.f24) (nt := 25) (T := []) [] rfl [(.t (.agg [(.int .i64 a0_0), (.int .i64 a0_1), (.list 1 a0_2z a0_2), (.list 1 a0_3z a0_3)])), (.t (.int .i64 a1)), (.t (.int .i64 a2))] ⟨[], []⟩ rfl rfl rfl rfl rfl).trans (eq24g  a0_0 a0_1 a0_2z a0_2 a0_3z a0_3 a1 a2)
noncomputable def R25 (L25_5 : Int → Bool → (List T) → Int → Int → Option Res) (a0_0 : Int) (a0_1 : Int) (a0_2z : Bool) (a0_2 : List T) (a0_3z : Bool) (a0_3 : List T) (a1 : Int) (a2 : Int) (a3 : Int) : Option Res :=
 callK (vr 24 0 [(.t (.agg [(.int .i64 a0_0), (.int .i64 a0_1), (.list 1 a0_2z a0_2), (.list 1 a0_3z a0_3)])), (.t (.int .i64 a1)), (.t (.int .i64 a2))] ⟨[], []⟩) fun v_1 b_2 =>
 asTup v_1 fun l_3 =>
 consV l_3 fun v_4 l_5 =>
 asT v_4 fun x_6 =>
 asL 2 x_6 fun nn_7 l_8 =>
 consV l_5 fun v_9 l_10 =>
 asT v_9 fun x_11 =>
 asI .i64 x_11 fun x_12 =>
 endV l_10 <|
 endB b_2 <|
(bif (!decide (x_12 = 0)) then
 some ((.tup [(.t (.int .i64 0)), (.t (.bool false)), (.t (.int .i64 x_12))]), ⟨[], []⟩)
else
 L25_5 (a3) (nn_7) (l_8) ((l_8.length : Int)) (0))
theorem eq25g (KL25_5 : Env → St → Option Res) (a0_0 : Int) (a0_1 : Int) (a0_2z : Bool) (a0_2 : List T) (a0_3z : Bool) (a0_3 : List T) (a1 : Int) (a2 : Int) (a3 : Int) : codeT Try.prog hint 25 0 38 (Ta25 KL25_5) [] (resKV Try.prog Try.f25 (hint.own 25 0)) (nrm hint 25 0 (bodyOf Try.f25) (envV [(.t (.agg [(.int .i64 a0_0), (.int .i64 a0_1), (.list 1 a0_2z a0_2), (.list 1 a0_3z a0_3)])), (.t (.int .i64 a1)), (.t (.int .i64 a2)), (.t (.int .i64 a3))] 0) ⟨[], []⟩).1 (nrm hint 25 0 (bodyOf Try.f25) (envV [(.t (.agg [(.int .i64 a0_0), (.int .i64 a0_1), (.list 1 a0_2z a0_2), (.list 1 a0_3z a0_3)])), (.t (.int .i64 a1)), (.t (.int .i64 a2)), (.t (.int .i64 a3))] 0) ⟨[], []⟩).2 (bodyOf Try.f25) = R25 (fun at3 t25z t25 t26 t27 => KL25_5 [(3, (.t (.int .i64 at3))), (25, (.t (.list 2 t25z t25))), (26, (.t (.int .i64 t26))), (27, (.t (.int .i64 t27)))] ⟨[], []⟩) a0_0 a0_1 a0_2z a0_2 a0_3z a0_3 a1 a2 a3 := by kernel_rfl
/-- purfle/purfleref04.Find -/
theorem eq25 (a0_0 : Int) (a0_1 : Int) (a0_2z : Bool) (a0_2 : List T) (a0_3z : Bool) (a0_3 : List T) (a1 : Int) (a2 : Int) (a3 : Int) : vr 25 0 [(.t (.agg [(.int .i64 a0_0), (.int .i64 a0_1), (.list 1 a0_2z a0_2), (.list 1 a0_3z a0_3)])), (.t (.int .i64 a1)), (.t (.int .i64 a2)), (.t (.int .i64 a3))] ⟨[], []⟩ = R25 L25_5 a0_0 a0_1 a0_2z a0_2 a0_3z a0_3 a1 a2 a3 :=
  (call_eq Try.prog hint (fn := Try.f25) (nt := 38) (T := (Ta25 (fun e st => atV Try.prog hint 25 0 Try.f25 38 (List.reverse PaL25_5) e st))) [PaL25_5] rfl [(.t (.agg [(.int .i64 a0_0), (.int .i64 a0_1), (.list 1 a0_2z a0_2), (.list 1 a0_3z a0_3)])), (.t (.int .i64 a1)), (.t (.int .i64 a2)), (.t (.int .i64 a3))] ⟨[], []⟩ rfl rfl rfl rfl rfl).trans (eq25g (fun e st => atV Try.prog hint 25 0 Try.f25 38 (List.reverse PaL25_5) e st) a0_0 a0_1 a0_2z a0_2 a0_3z a0_3 a1 a2 a3)
noncomputable def RL25_5 (L25_5 : Int → Bool → (List T) → Int → Int → Option Res) (at3 : Int) (t25z : Bool) (t25 : List T) (t26 : Int) (t27 : Int) : Option Res :=
(bif (decide (t27 < t26)) then
 needC (decide (0 ≤ t27)) fun _ =>
 getT t25 (t27).toNat fun e_1 =>
 asA e_1 fun l_2 =>
 consT l_2 fun v_3 l_4 =>
 asI .i64 v_3 fun x_5 =>
 consT l_4 fun v_6 l_7 =>
 asI .i64 v_6 fun x_8 =>
 endT l_7 <|
(bif (decide (x_5 = at3)) then
 some ((.tup [(.t (.int .i64 x_8)), (.t (.bool true)), (.t (.int .i64 0))]), ⟨[], []⟩)
else
 L25_5 (at3) (t25z) (t25) (t26) ((IntKind.i64.wrap (t27 + 1))))
else
 some ((.tup [(.t (.int .i64 0)), (.t (.bool false)), (.t (.int .i64 0))]), ⟨[], []⟩))
theorem L25_5g (KL25_5 : Env → St → Option Res) (at3 : Int) (t25z : Bool) (t25 : List T) (t26 : Int) (t27 : Int) : codeT Try.prog hint 25 0 38 (Ta25 KL25_5) (.lp :: PaL25_5) (ctxT Try.prog hint 25 0 38 (Ta25 KL25_5) [] (List.reverse (.lp :: PaL25_5)) (bodyOf Try.f25) (resKV Try.prog Try.f25 (hint.own 25 0))) [(3, (.t (.int .i64 at3))), (25, (.t (.list 2 t25z t25))), (26, (.t (.int .i64 t26))), (27, (.t (.int .i64 t27)))] ⟨[], []⟩ (nav (List.reverse (.lp :: PaL25_5)) (bodyOf Try.f25)) = RL25_5 (fun at3 t25z t25 t26 t27 => KL25_5 [(3, (.t (.int .i64 at3))), (25, (.t (.list 2 t25z t25))), (26, (.t (.int .i64 t26))), (27, (.t (.int .i64 t27)))] ⟨[], []⟩) at3 t25z t25 t26 t27 := by kernel_rfl
theorem L25_5_eq (at3 : Int) (t25z : Bool) (t25 : List T) (t26 : Int) (t27 : Int) : L25_5 at3 t25z t25 t26 t27 = RL25_5 L25_5 at3 t25z t25 t26 t27 :=
  (round_eq Try.prog hint (b := (nav (List.reverse (.lp :: PaL25_5)) (bodyOf Try.f25))) (fn := Try.f25) (nt := 38) (T := (Ta25 (fun e st => atV Try.prog hint 25 0 Try.f25 38 (List.reverse PaL25_5) e st))) [PaL25_5] rfl PaL25_5 [(3, (.t (.int .i64 at3))), (25, (.t (.list 2 t25z t25))), (26, (.t (.int .i64 t26))), (27, (.t (.int .i64 t27)))] ⟨[], []⟩ rfl rfl rfl).trans (L25_5g (fun e st => atV Try.prog hint 25 0 Try.f25 38 (List.reverse PaL25_5) e st) at3 t25z t25 t26 t27)
noncomputable def R39  (a0 : Int) (a1 : Int) : Option Res :=
(bif (decide (a0 ≤ a1)) then
 some ((.t (.int .i64 (-1))), ⟨[], []⟩)
else
 some ((.t (.int .i64 1)), ⟨[], []⟩))
theorem eq39g  (a0 : Int) (a1 : Int) : codeT Try.prog hint 39 0 8 [] [] (resKV Try.prog Try.f39 (hint.own 39 0)) (nrm hint 39 0 (bodyOf Try.f39) (envV [(.t (.int .i64 a0)), (.t (.int .i64 a1))] 0) ⟨[], []⟩).1 (nrm hint 39 0 (bodyOf Try.f39) (envV [(.t (.int .i64 a0)), (.t (.int .i64 a1))] 0) ⟨[], []⟩).2 (bodyOf Try.f39) = R39  a0 a1 := by kernel_rfl
/-- purfle/level.Parent$1 -/
theorem eq39 (a0 : Int) (a1 : Int) : vr 39 0 [(.t (.int .i64 a0)), (.t (.int .i64 a1))] ⟨[], []⟩ = R39  a0 a1 :=
  (call_eq Try.prog hint (fn := Try.f39) (nt := 8) (T := []) [] rfl [(.t (.int .i64 a0)), (.t (.int .i64 a1))] ⟨[], []⟩ rfl rfl rfl rfl rfl).trans (eq39g  a0 a1)
noncomputable def R38 (L38_3 : Bool → (List T) → Int → Int → Int → Int → Option Res) (a0z : Bool) (a0 : List T) (a1 : Int) : Option Res :=
 L38_3 (a0z) (a0) (a1) ((a0.length : Int)) (0) ((a0.length : Int))
theorem eq38g (KL38_3 : Env → St → Option Res) (a0z : Bool) (a0 : List T) (a1 : Int) : codeT Try.prog hint 38 0 49 (Ta38 KL38_3) [] (resKV Try.prog Try.f38 (hint.own 38 0)) (nrm hint 38 0 (bodyOf Try.f38) (envV [(.t (.list 1 a0z a0)), (.t (.int .i64 a1)), (.fn 39 [] [])] 0) ⟨[], []⟩).1 (nrm hint 38 0 (bodyOf Try.f38) (envV [(.t (.list 1 a0z a0)), (.t (.int .i64 a1)), (.fn 39 [] [])] 0) ⟨[], []⟩).2 (bodyOf Try.f38) = R38 (fun x0z x0 target1 n8 i9 j10 => KL38_3 [(0, (.t (.list 1 x0z x0))), (1, (.t (.int .i64 target1))), (2, (.fn 39 [] [])), (8, (.t (.int .i64 n8))), (9, (.t (.int .i64 i9))), (10, (.t (.int .i64 j10)))] ⟨[], []⟩) a0z a0 a1 := by kernel_rfl
/-- slices.BinarySearchFunc[[]int,int,int] -/
theorem eq38 (a0z : Bool) (a0 : List T) (a1 : Int) : vr 38 0 [(.t (.list 1 a0z a0)), (.t (.int .i64 a1)), (.fn 39 [] [])] ⟨[], []⟩ = R38 L38_3 a0z a0 a1 :=
  (call_eq Try.prog hint (fn := Try.f38) (nt := 49) (T := (Ta38 (fun e st => atV Try.prog hint 38 0 Try.f38 49 (List.reverse PaL38_3) e st))) [PaL38_3] rfl [(.t (.list 1 a0z a0)), (.t (.int .i64 a1)), (.fn 39 [] [])] ⟨[], []⟩ rfl rfl rfl rfl rfl).trans (eq38g (fun e st => atV Try.prog hint 38 0 Try.f38 49 (List.reverse PaL38_3) e st) a0z a0 a1)
noncomputable def RL38_3 (L38_3 : Bool → (List T) → Int → Int → Int → Int → Option Res) (x0z : Bool) (x0 : List T) (target1 : Int) (n8 : Int) (i9 : Int) (j10 : Int) : Option Res :=
(bif (decide (i9 < j10)) then
 needC (decide (0 ≤ (IntKind.i64.wrap (shrI .u64 (IntKind.u64.wrap (IntKind.i64.wrap (i9 + j10))) 1)))) fun _ =>
 getT x0 ((IntKind.i64.wrap (shrI .u64 (IntKind.u64.wrap (IntKind.i64.wrap (i9 + j10))) 1))).toNat fun e_1 =>
 asI .i64 e_1 fun x_2 =>
 callK (vr 39 0 [(.t (.int .i64 x_2)), (.t (.int .i64 target1))] ⟨[], []⟩) fun v_3 b_4 =>
 asT v_3 fun x_5 =>
 asI .i64 x_5 fun x_6 =>
 endB b_4 <|
(bif (decide (x_6 < 0)) then
 L38_3 (x0z) (x0) (target1) (n8) ((IntKind.i64.wrap ((IntKind.i64.wrap (shrI .u64 (IntKind.u64.wrap (IntKind.i64.wrap (i9 + j10))) 1)) + 1))) (j10)
else
 L38_3 (x0z) (x0) (target1) (n8) (i9) ((IntKind.i64.wrap (shrI .u64 (IntKind.u64.wrap (IntKind.i64.wrap (i9 + j10))) 1))))
else
(bif (decide (i9 < n8)) then
 needC (decide (0 ≤ i9)) fun _ =>
 getT x0 (i9).toNat fun e_7 =>
 asI .i64 e_7 fun x_8 =>
 callK (vr 39 0 [(.t (.int .i64 x_8)), (.t (.int .i64 target1))] ⟨[], []⟩) fun v_9 b_10 =>
 asT v_9 fun x_11 =>
 asI .i64 x_11 fun x_12 =>
 endB b_10 <|
 some ((.tup [(.t (.int .i64 i9)), (.t (.bool (decide (x_12 = 0))))]), ⟨[], []⟩)
else
 some ((.tup [(.t (.int .i64 i9)), (.t (.bool false))]), ⟨[], []⟩)))
theorem L38_3g (KL38_3 : Env → St → Option Res) (x0z : Bool) (x0 : List T) (target1 : Int) (n8 : Int) (i9 : Int) (j10 : Int) : codeT Try.prog hint 38 0 49 (Ta38 KL38_3) (.lp :: PaL38_3) (ctxT Try.prog hint 38 0 49 (Ta38 KL38_3) [] (List.reverse (.lp :: PaL38_3)) (bodyOf Try.f38) (resKV Try.prog Try.f38 (hint.own 38 0))) [(0, (.t (.list 1 x0z x0))), (1, (.t (.int .i64 target1))), (2, (.fn 39 [] [])), (8, (.t (.int .i64 n8))), (9, (.t (.int .i64 i9))), (10, (.t (.int .i64 j10)))] ⟨[], []⟩ (nav (List.reverse (.lp :: PaL38_3)) (bodyOf Try.f38)) = RL38_3 (fun x0z x0 target1 n8 i9 j10 => KL38_3 [(0, (.t (.list 1 x0z x0))), (1, (.t (.int .i64 target1))), (2, (.fn 39 [] [])), (8, (.t (.int .i64 n8))), (9, (.t (.int .i64 i9))), (10, (.t (.int .i64 j10)))] ⟨[], []⟩) x0z x0 target1 n8 i9 j10 := by kernel_rfl
theorem L38_3_eq (x0z : Bool) (x0 : List T) (target1 : Int) (n8 : Int) (i9 : Int) (j10 : Int) : L38_3 x0z x0 target1 n8 i9 j10 = RL38_3 L38_3 x0z x0 target1 n8 i9 j10 :=
  (round_eq Try.prog hint (b := (nav (List.reverse (.lp :: PaL38_3)) (bodyOf Try.f38))) (fn := Try.f38) (nt := 49) (T := (Ta38 (fun e st => atV Try.prog hint 38 0 Try.f38 49 (List.reverse PaL38_3) e st))) [PaL38_3] rfl PaL38_3 [(0, (.t (.list 1 x0z x0))), (1, (.t (.int .i64 target1))), (2, (.fn 39 [] [])), (8, (.t (.int .i64 n8))), (9, (.t (.int .i64 i9))), (10, (.t (.int .i64 j10)))] ⟨[], []⟩ rfl rfl rfl).trans (L38_3g (fun e st => atV Try.prog hint 38 0 Try.f38 49 (List.reverse PaL38_3) e st) x0z x0 target1 n8 i9 j10)
noncomputable def R22  (a0_0 : Int) (a0_1 : Int) (a0_2z : Bool) (a0_2 : List T) (a0_3z : Bool) (a0_3 : List T) (a1 : Int) (a2 : Int) : Option Res :=
 callK (vr 19 0 [(.t (.agg [(.int .i64 a0_0), (.int .i64 a0_1), (.list 1 a0_2z a0_2), (.list 1 a0_3z a0_3)])), (.t (.int .i64 a1))] ⟨[], []⟩) fun v_1 b_2 =>
 asT v_1 fun x_3 =>
 asI .i64 x_3 fun x_4 =>
 endB b_2 <|
(bif (!decide (x_4 = 0)) then
 some ((.tup [(.t (.int .i64 0)), (.t (.int .i64 0)), (.t (.int .i64 x_4))]), ⟨[], []⟩)
else
(bif (decide (a2 < 0)) then
 some ((.tup [(.t (.int .i64 0)), (.t (.int .i64 0)), (.t (.int .i64 5))]), ⟨[], []⟩)
else
 callK (vr 29 0 [(.t (.agg [(.int .i64 a0_0), (.int .i64 a0_1), (.list 1 a0_2z a0_2), (.list 1 a0_3z a0_3)])), (.t (.int .i64 a1))] ⟨[], []⟩) fun v_5 b_6 =>
 asT v_5 fun x_7 =>
 asI .i64 x_7 fun x_8 =>
 endB b_6 <|
(bif (decide (x_8 ≤ a2)) then
 some ((.tup [(.t (.int .i64 0)), (.t (.int .i64 0)), (.t (.int .i64 5))]), ⟨[], []⟩)
else
 callK (vr 14 0 [(.t (.agg [(.int .i64 a0_0), (.int .i64 a0_1), (.list 1 a0_2z a0_2), (.list 1 a0_3z a0_3)]))] ⟨[], []⟩) fun v_9 b_10 =>
 asT v_9 fun x_11 =>
 asB x_11 fun b_12 =>
 endB b_10 <|
(bif b_12 then
 needC (!decide (a0_1 = 0)) fun _ =>
 needC (!decide (a0_1 = 0)) fun _ =>
 some ((.tup [(.t (.int .i64 (IntKind.i64.wrap (Int.tdiv a2 a0_1)))), (.t (.int .i64 (Int.tmod a2 a0_1))), (.t (.int .i64 0))]), ⟨[], []⟩)
else
(bif (decide (a0_0 = 3)) then
 needC (decide (0 ≤ a2)) fun _ =>
 getT a0_3 (a2).toNat fun e_13 =>
 asI .i64 e_13 fun x_14 =>
 some ((.tup [(.t (.int .i64 a2)), (.t (.int .i64 x_14)), (.t (.int .i64 0))]), ⟨[], []⟩)
else
 callK (vr 38 0 [(.t (.list 1 a0_2z a0_2)), (.t (.int .i64 a2)), (.fn 39 [] [])] ⟨[], []⟩) fun v_15 b_16 =>
 asTup v_15 fun l_17 =>
 consV l_17 fun v_18 l_19 =>
 asT v_18 fun x_20 =>
 asI .i64 x_20 fun x_21 =>
 consV l_19 fun v_22 l_23 =>
 asT v_22 fun x_24 =>
 asB x_24 fun b_25 =>
 endV l_23 <|
 endB b_16 <|
 needC (decide (0 ≤ a2)) fun _ =>
 getT a0_3 (a2).toNat fun e_26 =>
 asI .i64 e_26 fun x_27 =>
 some ((.tup [(.t (.int .i64 (IntKind.i64.wrap (x_21 - 1)))), (.t (.int .i64 x_27)), (.t (.int .i64 0))]), ⟨[], []⟩))))))
theorem eq22g  (a0_0 : Int) (a0_1 : Int) (a0_2z : Bool) (a0_2 : List T) (a0_3z : Bool) (a0_3 : List T) (a1 : Int) (a2 : Int) : codeT Try.prog hint 22 0 63 [] [] (resKV Try.prog Try.f22 (hint.own 22 0)) (nrm hint 22 0 (bodyOf Try.f22) (envV [(.t (.agg [(.int .i64 a0_0), (.int .i64 a0_1), (.list 1 a0_2z a0_2), (.list 1 a0_3z a0_3)])), (.t (.int .i64 a1)), (.t (.int .i64 a2))] 0) ⟨[], []⟩).1 (nrm hint 22 0 (bodyOf Try.f22) (envV [(.t (.agg [(.int .i64 a0_0), (.int .i64 a0_1), (.list 1 a0_2z a0_2), (.list 1 a0_3z a0_3)])), (.t (.int .i64 a1)), (.t (.int .i64 a2))] 0) ⟨[], []⟩).2 (bodyOf Try.f22) = R22  a0_0 a0_1 a0_2z a0_2 a0_3z a0_3 a1 a2 := by kernel_rfl
/-- purfle/level.Parent -/
theorem eq22 (a0_0 : Int) (a0_1 : Int) (a0_2z : Bool) (a0_2 : List T) (a0_3z : Bool) (a0_3 : List T) (a1 : Int) (a2 : Int) : vr 22 0 [(.t (.agg [(.int .i64 a0_0), (.int .i64 a0_1), (.list 1 a0_2z a0_2), (.list 1 a0_3z a0_3)])), (.t (.int .i64 a1)), (.t (.int .i64 a2))] ⟨[], []⟩ = R22  a0_0 a0_1 a0_2z a0_2 a0_3z a0_3 a1 a2 :=
  (call_eq Try.prog hint (fn := Try.f22) (nt := 63) (T := []) [] rfl [(.t (.agg [(.int .i64 a0_0), (.int .i64 a0_1), (.list 1 a0_2z a0_2), (.list 1 a0_3z a0_3)])), (.t (.int .i64 a1)), (.t (.int .i64 a2))] ⟨[], []⟩ rfl rfl rfl rfl rfl).trans (eq22g  a0_0 a0_1 a0_2z a0_2 a0_3z a0_3 a1 a2)
noncomputable def R26 (L26_11 : Int → Int → Int → Int → Bool → (List T) → Bool → (List T) → Option Res) (a0_0 : Int) (a0_1 : Int) (a0_2z : Bool) (a0_2 : List T) (a0_3z : Bool) (a0_3 : List T) (a1 : Int) (a2 : Int) : Option Res :=
 callK (vr 28 0 [(.t (.agg [(.int .i64 a0_0), (.int .i64 a0_1), (.list 1 a0_2z a0_2), (.list 1 a0_3z a0_3)])), (.t (.int .i64 a1))] ⟨[], []⟩) fun v_1 b_2 =>
 asT v_1 fun x_3 =>
 asI .i64 x_3 fun x_4 =>
 endB b_2 <|
(bif (!decide (x_4 = 0)) then
 some ((.tup [(.t (.int .i64 0)), (.t (.int .i64 0)), (.t (.int .i64 x_4))]), ⟨[], []⟩)
else
(bif (decide (a2 < 0)) then
 some ((.tup [(.t (.int .i64 0)), (.t (.int .i64 0)), (.t (.int .i64 5))]), ⟨[], []⟩)
else
 callK (vr 40 0 [(.t (.agg [(.int .i64 a0_0), (.int .i64 a0_1), (.list 1 a0_2z a0_2), (.list 1 a0_3z a0_3)])), (.t (.int .i64 a1))] ⟨[], []⟩) fun v_5 b_6 =>
 asT v_5 fun x_7 =>
 asI .i64 x_7 fun x_8 =>
 endB b_6 <|
(bif (decide (x_8 ≤ a2)) then
 some ((.tup [(.t (.int .i64 0)), (.t (.int .i64 0)), (.t (.int .i64 5))]), ⟨[], []⟩)
else
 callK (vr 21 0 [(.t (.agg [(.int .i64 a0_0), (.int .i64 a0_1), (.list 1 a0_2z a0_2), (.list 1 a0_3z a0_3)]))] ⟨[], []⟩) fun v_9 b_10 =>
 asT v_9 fun x_11 =>
 asB x_11 fun b_12 =>
 endB b_10 <|
(bif b_12 then
 needC (!decide (a0_1 = 0)) fun _ =>
 needC (!decide (a0_1 = 0)) fun _ =>
 some ((.tup [(.t (.int .i64 (IntKind.i64.wrap (Int.tdiv a2 a0_1)))), (.t (.int .i64 (Int.tmod a2 a0_1))), (.t (.int .i64 0))]), ⟨[], []⟩)
else
(bif (decide (a0_0 = 3)) then
 needC (decide (0 ≤ a2)) fun _ =>
 getT a0_3 (a2).toNat fun e_13 =>
 asI .i64 e_13 fun x_14 =>
 some ((.tup [(.t (.int .i64 a2)), (.t (.int .i64 x_14)), (.t (.int .i64 0))]), ⟨[], []⟩)
else
 L26_11 (a2) (0) (a0_0) (a0_1) (a0_2z) (a0_2) (a0_3z) (a0_3))))))
theorem eq26g (KL26_11 : Env → St → Option Res) (a0_0 : Int) (a0_1 : Int) (a0_2z : Bool) (a0_2 : List T) (a0_3z : Bool) (a0_3 : List T) (a1 : Int) (a2 : Int) : codeT Try.prog hint 26 0 63 (Ta26 KL26_11) [] (resKV Try.prog Try.f26 (hint.own 26 0)) (nrm hint 26 0 (bodyOf Try.f26) (envV [(.t (.agg [(.int .i64 a0_0), (.int .i64 a0_1), (.list 1 a0_2z a0_2), (.list 1 a0_3z a0_3)])), (.t (.int .i64 a1)), (.t (.int .i64 a2))] 0) ⟨[], []⟩).1 (nrm hint 26 0 (bodyOf Try.f26) (envV [(.t (.agg [(.int .i64 a0_0), (.int .i64 a0_1), (.list 1 a0_2z a0_2), (.list 1 a0_3z a0_3)])), (.t (.int .i64 a1)), (.t (.int .i64 a2))] 0) ⟨[], []⟩).2 (bodyOf Try.f26) = R26 (fun n2 p10 m8_0 m8_1 m8_2z m8_2 m8_3z m8_3 => KL26_11 [(2, (.t (.int .i64 n2))), (3, (.ptr 8 0 0)), (10, (.t (.int .i64 p10)))] ⟨[(8, (.var [(.t (.int .i64 m8_0)), (.t (.int .i64 m8_1)), (.t (.list 1 m8_2z m8_2)), (.t (.list 1 m8_3z m8_3))]))], []⟩) a0_0 a0_1 a0_2z a0_2 a0_3z a0_3 a1 a2 := by kernel_rfl
/-- purfle/purfleref04.Parent -/
theorem eq26 (a0_0 : Int) (a0_1 : Int) (a0_2z : Bool) (a0_2 : List T) (a0_3z : Bool) (a0_3 : List T) (a1 : Int) (a2 : Int) : vr 26 0 [(.t (.agg [(.int .i64 a0_0), (.int .i64 a0_1), (.list 1 a0_2z a0_2), (.list 1 a0_3z a0_3)])), (.t (.int .i64 a1)), (.t (.int .i64 a2))] ⟨[], []⟩ = R26 L26_11 a0_0 a0_1 a0_2z a0_2 a0_3z a0_3 a1 a2 :=
  (call_eq Try.prog hint (fn := Try.f26) (nt := 63) (T := (Ta26 (fun e st => atV Try.prog hint 26 0 Try.f26 63 (List.reverse PaL26_11) e st))) [PaL26_11] rfl [(.t (.agg [(.int .i64 a0_0), (.int .i64 a0_1), (.list 1 a0_2z a0_2), (.list 1 a0_3z a0_3)])), (.t (.int .i64 a1)), (.t (.int .i64 a2))] ⟨[], []⟩ rfl rfl rfl rfl rfl).trans (eq26g (fun e st => atV Try.prog hint 26 0 Try.f26 63 (List.reverse PaL26_11) e st) a0_0 a0_1 a0_2z a0_2 a0_3z a0_3 a1 a2)
noncomputable def RL26_11 (L26_11 : Int → Int → Int → Int → Bool → (List T) → Bool → (List T) → Option Res) (n2 : Int) (p10 : Int) (m8_0 : Int) (m8_1 : Int) (m8_2z : Bool) (m8_2 : List T) (m8_3z : Bool) (m8_3 : List T) : Option Res :=
 needC (decide (0 ≤ (IntKind.i64.wrap (p10 + 1)))) fun _ =>
 getT m8_2 ((IntKind.i64.wrap (p10 + 1))).toNat fun e_1 =>
 asI .i64 e_1 fun x_2 =>
(bif (decide (x_2 ≤ n2)) then
 L26_11 (n2) ((IntKind.i64.wrap (p10 + 1))) (m8_0) (m8_1) (m8_2z) (m8_2) (m8_3z) (m8_3)
else
 needC (decide (0 ≤ n2)) fun _ =>
 getT m8_3 (n2).toNat fun e_3 =>
 asI .i64 e_3 fun x_4 =>
 some ((.tup [(.t (.int .i64 p10)), (.t (.int .i64 x_4)), (.t (.int .i64 0))]), ⟨[], []⟩))
theorem L26_11g (KL26_11 : Env → St → Option Res) (n2 : Int) (p10 : Int) (m8_0 : Int) (m8_1 : Int) (m8_2z : Bool) (m8_2 : List T) (m8_3z : Bool) (m8_3 : List T) : codeT Try.prog hint 26 0 63 (Ta26 KL26_11) (.lp :: PaL26_11) (ctxT Try.prog hint 26 0 63 (Ta26 KL26_11) [] (List.reverse (.lp :: PaL26_11)) (bodyOf Try.f26) (resKV Try.prog Try.f26 (hint.own 26 0))) [(2, (.t (.int .i64 n2))), (3, (.ptr 8 0 0)), (10, (.t (.int .i64 p10)))] ⟨[(8, (.var [(.t (.int .i64 m8_0)), (.t (.int .i64 m8_1)), (.t (.list 1 m8_2z m8_2)), (.t (.list 1 m8_3z m8_3))]))], []⟩ (nav (List.reverse (.lp :: PaL26_11)) (bodyOf Try.f26)) = RL26_11 (fun n2 p10 m8_0 m8_1 m8_2z m8_2 m8_3z m8_3 => KL26_11 [(2, (.t (.int .i64 n2))), (3, (.ptr 8 0 0)), (10, (.t (.int .i64 p10)))] ⟨[(8, (.var [(.t (.int .i64 m8_0)), (.t (.int .i64 m8_1)), (.t (.list 1 m8_2z m8_2)), (.t (.list 1 m8_3z m8_3))]))], []⟩) n2 p10 m8_0 m8_1 m8_2z m8_2 m8_3z m8_3 := by kernel_rfl
theorem L26_11_eq (n2 : Int) (p10 : Int) (m8_0 : Int) (m8_1 : Int) (m8_2z : Bool) (m8_2 : List T) (m8_3z : Bool) (m8_3 : List T) : L26_11 n2 p10 m8_0 m8_1 m8_2z m8_2 m8_3z m8_3 = RL26_11 L26_11 n2 p10 m8_0 m8_1 m8_2z m8_2 m8_3z m8_3 :=
  (round_eq Try.prog hint (b := (nav (List.reverse (.lp :: PaL26_11)) (bodyOf Try.f26))) (fn := Try.f26) (nt := 63) (T := (Ta26 (fun e st => atV Try.prog hint 26 0 Try.f26 63 (List.reverse PaL26_11) e st))) [PaL26_11] rfl PaL26_11 [(2, (.t (.int .i64 n2))), (3, (.ptr 8 0 0)), (10, (.t (.int .i64 p10)))] ⟨[(8, (.var [(.t (.int .i64 m8_0)), (.t (.int .i64 m8_1)), (.t (.list 1 m8_2z m8_2)), (.t (.list 1 m8_3z m8_3))]))], []⟩ rfl rfl rfl).trans (L26_11g (fun e st => atV Try.prog hint 26 0 Try.f26 63 (List.reverse PaL26_11) e st) n2 p10 m8_0 m8_1 m8_2z m8_2 m8_3z m8_3)
noncomputable def R27 (L27_4 : Bool → (List T) → Bool → (List T) → Int → Int → Option Res) (a0z : Bool) (a0 : List T) (a1z : Bool) (a1 : List T) : Option Res :=
(bif (!decide ((a0.length : Int) = (a1.length : Int))) then
 some ((.t (.bool false)), ⟨[], []⟩)
else
 L27_4 (a0z) (a0) (a1z) (a1) ((a0.length : Int)) (0))
theorem eq27g (KL27_4 : Env → St → Option Res) (a0z : Bool) (a0 : List T) (a1z : Bool) (a1 : List T) : codeT Try.prog hint 27 0 26 (Ta27 KL27_4) [] (resKV Try.prog Try.f27 (hint.own 27 0)) (nrm hint 27 0 (bodyOf Try.f27) (envV [(.t (.list 2 a0z a0)), (.t (.list 2 a1z a1))] 0) ⟨[], []⟩).1 (nrm hint 27 0 (bodyOf Try.f27) (envV [(.t (.list 2 a0z a0)), (.t (.list 2 a1z a1))] 0) ⟨[], []⟩).2 (bodyOf Try.f27) = R27 (fun a0z a0 b1z b1 t12 t13 => KL27_4 [(0, (.t (.list 2 a0z a0))), (1, (.t (.list 2 b1z b1))), (12, (.t (.int .i64 t12))), (13, (.t (.int .i64 t13)))] ⟨[], []⟩) a0z a0 a1z a1 := by kernel_rfl
/-- purfle/purfleref04.SameChildren -/
theorem eq27 (a0z : Bool) (a0 : List T) (a1z : Bool) (a1 : List T) : vr 27 0 [(.t (.list 2 a0z a0)), (.t (.list 2 a1z a1))] ⟨[], []⟩ = R27 L27_4 a0z a0 a1z a1 :=
  (call_eq Try.prog hint (fn := Try.f27) (nt := 26) (T := (Ta27 (fun e st => atV Try.prog hint 27 0 Try.f27 26 (List.reverse PaL27_4) e st))) [PaL27_4] rfl [(.t (.list 2 a0z a0)), (.t (.list 2 a1z a1))] ⟨[], []⟩ rfl rfl rfl rfl rfl).trans (eq27g (fun e st => atV Try.prog hint 27 0 Try.f27 26 (List.reverse PaL27_4) e st) a0z a0 a1z a1)
noncomputable def RL27_4 (L27_4 : Bool → (List T) → Bool → (List T) → Int → Int → Option Res) (a0z : Bool) (a0 : List T) (b1z : Bool) (b1 : List T) (t12 : Int) (t13 : Int) : Option Res :=
(bif (decide (t13 < t12)) then
 needC (decide (0 ≤ t13)) fun _ =>
 getT a0 (t13).toNat fun e_1 =>
 asA e_1 fun l_2 =>
 consT l_2 fun v_3 l_4 =>
 asI .i64 v_3 fun x_5 =>
 consT l_4 fun v_6 l_7 =>
 asI .i64 v_6 fun x_8 =>
 endT l_7 <|
 needC (decide (0 ≤ t13)) fun _ =>
 getT b1 (t13).toNat fun e_9 =>
 asA e_9 fun l_10 =>
 consT l_10 fun v_11 l_12 =>
 asI .i64 v_11 fun x_13 =>
 consT l_12 fun v_14 l_15 =>
 asI .i64 v_14 fun x_16 =>
 endT l_15 <|
(bif (!(decide (x_5 = x_13) && (decide (x_8 = x_16) && true))) then
 some ((.t (.bool false)), ⟨[], []⟩)
else
 L27_4 (a0z) (a0) (b1z) (b1) (t12) ((IntKind.i64.wrap (t13 + 1))))
else
 some ((.t (.bool true)), ⟨[], []⟩))
theorem L27_4g (KL27_4 : Env → St → Option Res) (a0z : Bool) (a0 : List T) (b1z : Bool) (b1 : List T) (t12 : Int) (t13 : Int) : codeT Try.prog hint 27 0 26 (Ta27 KL27_4) (.lp :: PaL27_4) (ctxT Try.prog hint 27 0 26 (Ta27 KL27_4) [] (List.reverse (.lp :: PaL27_4)) (bodyOf Try.f27) (resKV Try.prog Try.f27 (hint.own 27 0))) [(0, (.t (.list 2 a0z a0))), (1, (.t (.list 2 b1z b1))), (12, (.t (.int .i64 t12))), (13, (.t (.int .i64 t13)))] ⟨[], []⟩ (nav (List.reverse (.lp :: PaL27_4)) (bodyOf Try.f27)) = RL27_4 (fun a0z a0 b1z b1 t12 t13 => KL27_4 [(0, (.t (.list 2 a0z a0))), (1, (.t (.list 2 b1z b1))), (12, (.t (.int .i64 t12))), (13, (.t (.int .i64 t13)))] ⟨[], []⟩) a0z a0 b1z b1 t12 t13 := by kernel_rfl
theorem L27_4_eq (a0z : Bool) (a0 : List T) (b1z : Bool) (b1 : List T) (t12 : Int) (t13 : Int) : L27_4 a0z a0 b1z b1 t12 t13 = RL27_4 L27_4 a0z a0 b1z b1 t12 t13 :=
  (round_eq Try.prog hint (b := (nav (List.reverse (.lp :: PaL27_4)) (bodyOf Try.f27))) (fn := Try.f27) (nt := 26) (T := (Ta27 (fun e st => atV Try.prog hint 27 0 Try.f27 26 (List.reverse PaL27_4) e st))) [PaL27_4] rfl PaL27_4 [(0, (.t (.list 2 a0z a0))), (1, (.t (.list 2 b1z b1))), (12, (.t (.int .i64 t12))), (13, (.t (.int .i64 t13)))] ⟨[], []⟩ rfl rfl rfl).trans (L27_4g (fun e st => atV Try.prog hint 27 0 Try.f27 26 (List.reverse PaL27_4) e st) a0z a0 b1z b1 t12 t13)
noncomputable def R32 (L32_4 : Bool → (List T) → Bool → (List T) → Int → Int → Option Res) (a0z : Bool) (a0 : List T) (a1z : Bool) (a1 : List T) : Option Res :=
(bif (!decide ((a0.length : Int) = (a1.length : Int))) then
 some ((.t (.bool false)), ⟨[], []⟩)
else
 L32_4 (a0z) (a0) (a1z) (a1) ((a0.length : Int)) (0))
theorem eq32g (KL32_4 : Env → St → Option Res) (a0z : Bool) (a0 : List T) (a1z : Bool) (a1 : List T) : codeT Try.prog hint 32 0 26 (Ta32 KL32_4) [] (resKV Try.prog Try.f32 (hint.own 32 0)) (nrm hint 32 0 (bodyOf Try.f32) (envV [(.t (.list 1 a0z a0)), (.t (.list 1 a1z a1))] 0) ⟨[], []⟩).1 (nrm hint 32 0 (bodyOf Try.f32) (envV [(.t (.list 1 a0z a0)), (.t (.list 1 a1z a1))] 0) ⟨[], []⟩).2 (bodyOf Try.f32) = R32 (fun s10z s10 s21z s21 t12 t13 => KL32_4 [(0, (.t (.list 1 s10z s10))), (1, (.t (.list 1 s21z s21))), (12, (.t (.int .i64 t12))), (13, (.t (.int .i64 t13)))] ⟨[], []⟩) a0z a0 a1z a1 := by kernel_rfl
/-- slices.Equal[[]int,int] -/
theorem eq32 (a0z : Bool) (a0 : List T) (a1z : Bool) (a1 : List T) : vr 32 0 [(.t (.list 1 a0z a0)), (.t (.list 1 a1z a1))] ⟨[], []⟩ = R32 L32_4 a0z a0 a1z a1 :=
  (call_eq Try.prog hint (fn := Try.f32) (nt := 26) (T := (Ta32 (fun e st => atV Try.prog hint 32 0 Try.f32 26 (List.reverse PaL32_4) e st))) [PaL32_4] rfl [(.t (.list 1 a0z a0)), (.t (.list 1 a1z a1))] ⟨[], []⟩ rfl rfl rfl rfl rfl).trans (eq32g (fun e st => atV Try.prog hint 32 0 Try.f32 26 (List.reverse PaL32_4) e st) a0z a0 a1z a1)
noncomputable def RL32_4 (L32_4 : Bool → (List T) → Bool → (List T) → Int → Int → Option Res) (s10z : Bool) (s10 : List T) (s21z : Bool) (s21 : List T) (t12 : Int) (t13 : Int) : Option Res :=
(bif (decide (t13 < t12)) then
 needC (decide (0 ≤ t13)) fun _ =>
 getT s10 (t13).toNat fun e_1 =>
 asI .i64 e_1 fun x_2 =>
 needC (decide (0 ≤ t13)) fun _ =>
 getT s21 (t13).toNat fun e_3 =>
 asI .i64 e_3 fun x_4 =>
(bif (!decide (x_2 = x_4)) then
 some ((.t (.bool false)), ⟨[], []⟩)
else
 L32_4 (s10z) (s10) (s21z) (s21) (t12) ((IntKind.i64.wrap (t13 + 1))))
else
 some ((.t (.bool true)), ⟨[], []⟩))
theorem L32_4g (KL32_4 : Env → St → Option Res) (s10z : Bool) (s10 : List T) (s21z : Bool) (s21 : List T) (t12 : Int) (t13 : Int) : codeT Try.prog hint 32 0 26 (Ta32 KL32_4) (.lp :: PaL32_4) (ctxT Try.prog hint 32 0 26 (Ta32 KL32_4) [] (List.reverse (.lp :: PaL32_4)) (bodyOf Try.f32) (resKV Try.prog Try.f32 (hint.own 32 0))) [(0, (.t (.list 1 s10z s10))), (1, (.t (.list 1 s21z s21))), (12, (.t (.int .i64 t12))), (13, (.t (.int .i64 t13)))] ⟨[], []⟩ (nav (List.reverse (.lp :: PaL32_4)) (bodyOf Try.f32)) = RL32_4 (fun s10z s10 s21z s21 t12 t13 => KL32_4 [(0, (.t (.list 1 s10z s10))), (1, (.t (.list 1 s21z s21))), (12, (.t (.int .i64 t12))), (13, (.t (.int .i64 t13)))] ⟨[], []⟩) s10z s10 s21z s21 t12 t13 := by kernel_rfl
theorem L32_4_eq (s10z : Bool) (s10 : List T) (s21z : Bool) (s21 : List T) (t12 : Int) (t13 : Int) : L32_4 s10z s10 s21z s21 t12 t13 = RL32_4 L32_4 s10z s10 s21z s21 t12 t13 :=
  (round_eq Try.prog hint (b := (nav (List.reverse (.lp :: PaL32_4)) (bodyOf Try.f32))) (fn := Try.f32) (nt := 26) (T := (Ta32 (fun e st => atV Try.prog hint 32 0 Try.f32 26 (List.reverse PaL32_4) e st))) [PaL32_4] rfl PaL32_4 [(0, (.t (.list 1 s10z s10))), (1, (.t (.list 1 s21z s21))), (12, (.t (.int .i64 t12))), (13, (.t (.int .i64 t13)))] ⟨[], []⟩ rfl rfl rfl).trans (L32_4g (fun e st => atV Try.prog hint 32 0 Try.f32 26 (List.reverse PaL32_4) e st) s10z s10 s21z s21 t12 t13)
noncomputable def R17  (a0_0 : Int) (a0_1 : Int) (a0_2z : Bool) (a0_2 : List T) (a0_3z : Bool) (a0_3 : List T) (a1_0 : Int) (a1_1 : Int) (a1_2z : Bool) (a1_2 : List T) (a1_3z : Bool) (a1_3 : List T) : Option Res :=
(bif (decide (a0_0 = a1_0) && (decide (a0_1 = a1_1) && true)) then
 callK (vr 32 0 [(.t (.list 1 a0_2z a0_2)), (.t (.list 1 a1_2z a1_2))] ⟨[], []⟩) fun v_1 b_2 =>
 asT v_1 fun x_3 =>
 asB x_3 fun b_4 =>
 endB b_2 <|
(bif b_4 then
 callK (vr 32 0 [(.t (.list 1 a0_3z a0_3)), (.t (.list 1 a1_3z a1_3))] ⟨[], []⟩) fun v_5 b_6 =>
 asT v_5 fun x_7 =>
 asB x_7 fun b_8 =>
 endB b_6 <|
 some ((.t (.bool b_8)), ⟨[], []⟩)
else
 some ((.t (.bool false)), ⟨[], []⟩))
else
 some ((.t (.bool false)), ⟨[], []⟩))
theorem eq17g  (a0_0 : Int) (a0_1 : Int) (a0_2z : Bool) (a0_2 : List T) (a0_3z : Bool) (a0_3 : List T) (a1_0 : Int) (a1_1 : Int) (a1_2z : Bool) (a1_2 : List T) (a1_3z : Bool) (a1_3 : List T) : codeT Try.prog hint 17 0 30 [] [] (resKV Try.prog Try.f17 (hint.own 17 0)) (nrm hint 17 0 (bodyOf Try.f17) (envV [(.t (.agg [(.int .i64 a0_0), (.int .i64 a0_1), (.list 1 a0_2z a0_2), (.list 1 a0_3z a0_3)])), (.t (.agg [(.int .i64 a1_0), (.int .i64 a1_1), (.list 1 a1_2z a1_2), (.list 1 a1_3z a1_3)]))] 0) ⟨[], []⟩).1 (nrm hint 17 0 (bodyOf Try.f17) (envV [(.t (.agg [(.int .i64 a0_0), (.int .i64 a0_1), (.list 1 a0_2z a0_2), (.list 1 a0_3z a0_3)])), (.t (.agg [(.int .i64 a1_0), (.int .i64 a1_1), (.list 1 a1_2z a1_2), (.list 1 a1_3z a1_3)]))] 0) ⟨[], []⟩).2 (bodyOf Try.f17) = R17  a0_0 a0_1 a0_2z a0_2 a0_3z a0_3 a1_0 a1_1 a1_2z a1_2 a1_3z a1_3 := by kernel_rfl
/-- purfle/level.Same -/
theorem eq17 (a0_0 : Int) (a0_1 : Int) (a0_2z : Bool) (a0_2 : List T) (a0_3z : Bool) (a0_3 : List T) (a1_0 : Int) (a1_1 : Int) (a1_2z : Bool) (a1_2 : List T) (a1_3z : Bool) (a1_3 : List T) : vr 17 0 [(.t (.agg [(.int .i64 a0_0), (.int .i64 a0_1), (.list 1 a0_2z a0_2), (.list 1 a0_3z a0_3)])), (.t (.agg [(.int .i64 a1_0), (.int .i64 a1_1), (.list 1 a1_2z a1_2), (.list 1 a1_3z a1_3)]))] ⟨[], []⟩ = R17  a0_0 a0_1 a0_2z a0_2 a0_3z a0_3 a1_0 a1_1 a1_2z a1_2 a1_3z a1_3 :=
  (call_eq Try.prog hint (fn := Try.f17) (nt := 30) (T := []) [] rfl [(.t (.agg [(.int .i64 a0_0), (.int .i64 a0_1), (.list 1 a0_2z a0_2), (.list 1 a0_3z a0_3)])), (.t (.agg [(.int .i64 a1_0), (.int .i64 a1_1), (.list 1 a1_2z a1_2), (.list 1 a1_3z a1_3)]))] ⟨[], []⟩ rfl rfl rfl rfl rfl).trans (eq17g  a0_0 a0_1 a0_2z a0_2 a0_3z a0_3 a1_0 a1_1 a1_2z a1_2 a1_3z a1_3)
noncomputable def R12  (a0_0 : Int) (a0_1 : Int) (a0_2z : Bool) (a0_2 : List T) (a0_3z : Bool) (a0_3 : List T) (a1_0 : Int) (a1_1 : Int) (a1_2z : Bool) (a1_2 : List T) (a1_3z : Bool) (a1_3 : List T) : Option Res :=
(bif (decide (a0_0 = a1_0)) then
(bif (decide (a0_1 = a1_1)) then
 callK (vr 16 0 [(.t (.list 1 a0_2z a0_2)), (.t (.list 1 a1_2z a1_2))] ⟨[], []⟩) fun v_1 b_2 =>
 asT v_1 fun x_3 =>
 asB x_3 fun b_4 =>
 endB b_2 <|
(bif b_4 then
 callK (vr 16 0 [(.t (.list 1 a0_3z a0_3)), (.t (.list 1 a1_3z a1_3))] ⟨[], []⟩) fun v_5 b_6 =>
 asT v_5 fun x_7 =>
 asB x_7 fun b_8 =>
 endB b_6 <|
 some ((.t (.bool b_8)), ⟨[], []⟩)
else
 some ((.t (.bool false)), ⟨[], []⟩))
else
 some ((.t (.bool false)), ⟨[], []⟩))
else
 some ((.t (.bool false)), ⟨[], []⟩))
theorem eq12g  (a0_0 : Int) (a0_1 : Int) (a0_2z : Bool) (a0_2 : List T) (a0_3z : Bool) (a0_3 : List T) (a1_0 : Int) (a1_1 : Int) (a1_2z : Bool) (a1_2 : List T) (a1_3z : Bool) (a1_3 : List T) : codeT Try.prog hint 12 0 31 [] [] (resKV Try.prog Try.f12 (hint.own 12 0)) (nrm hint 12 0 (bodyOf Try.f12) (envV [(.t (.agg [(.int .i64 a0_0), (.int .i64 a0_1), (.list 1 a0_2z a0_2), (.list 1 a0_3z a0_3)])), (.t (.agg [(.int .i64 a1_0), (.int .i64 a1_1), (.list 1 a1_2z a1_2), (.list 1 a1_3z a1_3)]))] 0) ⟨[], []⟩).1 (nrm hint 12 0 (bodyOf Try.f12) (envV [(.t (.agg [(.int .i64 a0_0), (.int .i64 a0_1), (.list 1 a0_2z a0_2), (.list 1 a0_3z a0_3)])), (.t (.agg [(.int .i64 a1_0), (.int .i64 a1_1), (.list 1 a1_2z a1_2), (.list 1 a1_3z a1_3)]))] 0) ⟨[], []⟩).2 (bodyOf Try.f12) = R12  a0_0 a0_1 a0_2z a0_2 a0_3z a0_3 a1_0 a1_1 a1_2z a1_2 a1_3z a1_3 := by kernel_rfl
/-- purfle/purfleref04.Same -/
theorem eq12 (a0_0 : Int) (a0_1 : Int) (a0_2z : Bool) (a0_2 : List T) (a0_3z : Bool) (a0_3 : List T) (a1_0 : Int) (a1_1 : Int) (a1_2z : Bool) (a1_2 : List T) (a1_3z : Bool) (a1_3 : List T) : vr 12 0 [(.t (.agg [(.int .i64 a0_0), (.int .i64 a0_1), (.list 1 a0_2z a0_2), (.list 1 a0_3z a0_3)])), (.t (.agg [(.int .i64 a1_0), (.int .i64 a1_1), (.list 1 a1_2z a1_2), (.list 1 a1_3z a1_3)]))] ⟨[], []⟩ = R12  a0_0 a0_1 a0_2z a0_2 a0_3z a0_3 a1_0 a1_1 a1_2z a1_2 a1_3z a1_3 :=
  (call_eq Try.prog hint (fn := Try.f12) (nt := 31) (T := []) [] rfl [(.t (.agg [(.int .i64 a0_0), (.int .i64 a0_1), (.list 1 a0_2z a0_2), (.list 1 a0_3z a0_3)])), (.t (.agg [(.int .i64 a1_0), (.int .i64 a1_1), (.list 1 a1_2z a1_2), (.list 1 a1_3z a1_3)]))] ⟨[], []⟩ rfl rfl rfl rfl rfl).trans (eq12g  a0_0 a0_1 a0_2z a0_2 a0_3z a0_3 a1_0 a1_1 a1_2z a1_2 a1_3z a1_3)
noncomputable def R8  (a0_0 : Int) (a0_1 : Int) (a0_2z : Bool) (a0_2 : List T) (a0_3z : Bool) (a0_3 : List T) (a1_0 : Int) (a1_1 : Int) (a1_2z : Bool) (a1_2 : List T) (a1_3z : Bool) (a1_3 : List T) (a2 : Int) (a3 : Int) (a4 : Int) (a5 : Int) : Option Res :=
 callK (vr 9 0 [] ⟨[], []⟩) fun v_1 b_2 =>
 asT v_1 fun x_3 =>
 asB x_3 fun b_4 =>
 endB b_2 <|
 callK (vr 18 0 [(.t (.agg [(.int .i64 a0_0), (.int .i64 a0_1), (.list 1 a0_2z a0_2), (.list 1 a0_3z a0_3)])), (.t (.int .i64 a2))] ⟨[], []⟩) fun v_5 b_6 =>
 asT v_5 fun x_7 =>
 asB x_7 fun b_8 =>
 endB b_6 <|
(bif (!b_8) then
 some ((.t (.bool b_4)), ⟨[], []⟩)
else
 callK (vr 18 0 [(.t (.agg [(.int .i64 a1_0), (.int .i64 a1_1), (.list 1 a1_2z a1_2), (.list 1 a1_3z a1_3)])), (.t (.int .i64 0))] ⟨[], []⟩) fun v_9 b_10 =>
 asT v_9 fun x_11 =>
 asB x_11 fun b_12 =>
 endB b_10 <|
(bif (!b_12) then
 some ((.t (.bool b_4)), ⟨[], []⟩)
else
 callK (vr 13 0 [(.t (.agg [(.int .i64 a0_0), (.int .i64 a0_1), (.list 1 a0_2z a0_2), (.list 1 a0_3z a0_3)])), (.t (.int .i64 a2))] ⟨[], []⟩) fun v_13 b_14 =>
 asTup v_13 fun l_15 =>
 consV l_15 fun v_16 l_17 =>
 asT v_16 fun x_18 =>
 asI .i64 x_18 fun x_19 =>
 consV l_17 fun v_20 l_21 =>
 asT v_20 fun x_22 =>
 asI .i64 x_22 fun x_23 =>
 endV l_21 <|
 endB b_14 <|
 callK (vr 23 0 [(.t (.agg [(.int .i64 a0_0), (.int .i64 a0_1), (.list 1 a0_2z a0_2), (.list 1 a0_3z a0_3)])), (.t (.int .i64 a2))] ⟨[], []⟩) fun v_24 b_25 =>
 asTup v_24 fun l_26 =>
 consV l_26 fun v_27 l_28 =>
 asT v_27 fun x_29 =>
 asI .i64 x_29 fun x_30 =>
 consV l_28 fun v_31 l_32 =>
 asT v_31 fun x_33 =>
 asI .i64 x_33 fun x_34 =>
 endV l_32 <|
 endB b_25 <|
 callK (vr 15 0 [(.t (.agg [(.int .i64 a0_0), (.int .i64 a0_1), (.list 1 a0_2z a0_2), (.list 1 a0_3z a0_3)])), (.t (.int .i64 a2)), (.t (.int .i64 a3))] ⟨[], []⟩) fun v_35 b_36 =>
 asTup v_35 fun l_37 =>
 consV l_37 fun v_38 l_39 =>
 asT v_38 fun x_40 =>
 asL 2 x_40 fun nn_41 l_42 =>
 consV l_39 fun v_43 l_44 =>
 asT v_43 fun x_45 =>
 asI .i64 x_45 fun x_46 =>
 endV l_44 <|
 endB b_36 <|
 callK (vr 24 0 [(.t (.agg [(.int .i64 a0_0), (.int .i64 a0_1), (.list 1 a0_2z a0_2), (.list 1 a0_3z a0_3)])), (.t (.int .i64 a2)), (.t (.int .i64 a3))] ⟨[], []⟩) fun v_47 b_48 =>
 asTup v_47 fun l_49 =>
 consV l_49 fun v_50 l_51 =>
 asT v_50 fun x_52 =>
 asL 2 x_52 fun nn_53 l_54 =>
 consV l_51 fun v_55 l_56 =>
 asT v_55 fun x_57 =>
 asI .i64 x_57 fun x_58 =>
 endV l_56 <|
 endB b_48 <|
 callK (vr 20 0 [(.t (.agg [(.int .i64 a0_0), (.int .i64 a0_1), (.list 1 a0_2z a0_2), (.list 1 a0_3z a0_3)])), (.t (.int .i64 a2)), (.t (.int .i64 a3)), (.t (.int .i64 a4))] ⟨[], []⟩) fun v_59 b_60 =>
 asTup v_59 fun l_61 =>
 consV l_61 fun v_62 l_63 =>
 asT v_62 fun x_64 =>
 asI .i64 x_64 fun x_65 =>
 consV l_63 fun v_66 l_67 =>
 asT v_66 fun x_68 =>
 asB x_68 fun b_69 =>
 consV l_67 fun v_70 l_71 =>
 asT v_70 fun x_72 =>
 asI .i64 x_72 fun x_73 =>
 endV l_71 <|
 endB b_60 <|
 callK (vr 25 0 [(.t (.agg [(.int .i64 a0_0), (.int .i64 a0_1), (.list 1 a0_2z a0_2), (.list 1 a0_3z a0_3)])), (.t (.int .i64 a2)), (.t (.int .i64 a3)), (.t (.int .i64 a4))] ⟨[], []⟩) fun v_74 b_75 =>
 asTup v_74 fun l_76 =>
 consV l_76 fun v_77 l_78 =>
 asT v_77 fun x_79 =>
 asI .i64 x_79 fun x_80 =>
 consV l_78 fun v_81 l_82 =>
 asT v_81 fun x_83 =>
 asB x_83 fun b_84 =>
 consV l_82 fun v_85 l_86 =>
 asT v_85 fun x_87 =>
 asI .i64 x_87 fun x_88 =>
 endV l_86 <|
 endB b_75 <|
 callK (vr 22 0 [(.t (.agg [(.int .i64 a0_0), (.int .i64 a0_1), (.list 1 a0_2z a0_2), (.list 1 a0_3z a0_3)])), (.t (.int .i64 a2)), (.t (.int .i64 a5))] ⟨[], []⟩) fun v_89 b_90 =>
 asTup v_89 fun l_91 =>
 consV l_91 fun v_92 l_93 =>
 asT v_92 fun x_94 =>
 asI .i64 x_94 fun x_95 =>
 consV l_93 fun v_96 l_97 =>
 asT v_96 fun x_98 =>
 asI .i64 x_98 fun x_99 =>
 consV l_97 fun v_100 l_101 =>
 asT v_100 fun x_102 =>
 asI .i64 x_102 fun x_103 =>
 endV l_101 <|
 endB b_90 <|
 callK (vr 26 0 [(.t (.agg [(.int .i64 a0_0), (.int .i64 a0_1), (.list 1 a0_2z a0_2), (.list 1 a0_3z a0_3)])), (.t (.int .i64 a2)), (.t (.int .i64 a5))] ⟨[], []⟩) fun v_104 b_105 =>
 asTup v_104 fun l_106 =>
 consV l_106 fun v_107 l_108 =>
 asT v_107 fun x_109 =>
 asI .i64 x_109 fun x_110 =>
 consV l_108 fun v_111 l_112 =>
 asT v_111 fun x_113 =>
 asI .i64 x_113 fun x_114 =>
 consV l_112 fun v_115 l_116 =>
 asT v_115 fun x_117 =>
 asI .i64 x_117 fun x_118 =>
 endV l_116 <|
 endB b_105 <|
(bif b_4 then
(bif (decide (x_19 = x_30)) then
(bif (decide (x_23 = x_34)) then
 callK (vr 27 0 [(.t (.list 2 nn_41 l_42)), (.t (.list 2 nn_53 l_54))] ⟨[], []⟩) fun v_119 b_120 =>
 asT v_119 fun x_121 =>
 asB x_121 fun b_122 =>
 endB b_120 <|
(bif b_122 then
(bif (decide (x_46 = x_58)) then
(bif (decide (x_65 = x_80)) then
(bif (b_69 == b_84) then
(bif (decide (x_73 = x_88)) then
(bif (decide (x_95 = x_110)) then
(bif (decide (x_99 = x_114)) then
(bif (decide (x_103 = x_118)) then
 callK (vr 19 0 [(.t (.agg [(.int .i64 a0_0), (.int .i64 a0_1), (.list 1 a0_2z a0_2), (.list 1 a0_3z a0_3)])), (.t (.int .i64 a2))] ⟨[], []⟩) fun v_123 b_124 =>
 asT v_123 fun x_125 =>
 asI .i64 x_125 fun x_126 =>
 endB b_124 <|
 callK (vr 28 0 [(.t (.agg [(.int .i64 a0_0), (.int .i64 a0_1), (.list 1 a0_2z a0_2), (.list 1 a0_3z a0_3)])), (.t (.int .i64 a2))] ⟨[], []⟩) fun v_127 b_128 =>
 asT v_127 fun x_129 =>
 asI .i64 x_129 fun x_130 =>
 endB b_128 <|
(bif (decide (x_126 = x_130)) then
 callK (vr 14 0 [(.t (.agg [(.int .i64 a0_0), (.int .i64 a0_1), (.list 1 a0_2z a0_2), (.list 1 a0_3z a0_3)]))] ⟨[], []⟩) fun v_131 b_132 =>
 asT v_131 fun x_133 =>
 asB x_133 fun b_134 =>
 endB b_132 <|
 callK (vr 21 0 [(.t (.agg [(.int .i64 a0_0), (.int .i64 a0_1), (.list 1 a0_2z a0_2), (.list 1 a0_3z a0_3)]))] ⟨[], []⟩) fun v_135 b_136 =>
 asT v_135 fun x_137 =>
 asB x_137 fun b_138 =>
 endB b_136 <|
(bif (b_134 == b_138) then
 callK (vr 17 0 [(.t (.agg [(.int .i64 a0_0), (.int .i64 a0_1), (.list 1 a0_2z a0_2), (.list 1 a0_3z a0_3)])), (.t (.agg [(.int .i64 a1_0), (.int .i64 a1_1), (.list 1 a1_2z a1_2), (.list 1 a1_3z a1_3)]))] ⟨[], []⟩) fun v_139 b_140 =>
 asT v_139 fun x_141 =>
 asB x_141 fun b_142 =>
 endB b_140 <|
 callK (vr 12 0 [(.t (.agg [(.int .i64 a0_0), (.int .i64 a0_1), (.list 1 a0_2z a0_2), (.list 1 a0_3z a0_3)])), (.t (.agg [(.int .i64 a1_0), (.int .i64 a1_1), (.list 1 a1_2z a1_2), (.list 1 a1_3z a1_3)]))] ⟨[], []⟩) fun v_143 b_144 =>
 asT v_143 fun x_145 =>
 asB x_145 fun b_146 =>
 endB b_144 <|
 some ((.t (.bool (b_142 == b_146))), ⟨[], []⟩)
else
 some ((.t (.bool false)), ⟨[], []⟩))
else
 some ((.t (.bool false)), ⟨[], []⟩))
else
 some ((.t (.bool false)), ⟨[], []⟩))
else
 some ((.t (.bool false)), ⟨[], []⟩))
else
 some ((.t (.bool false)), ⟨[], []⟩))
else
 some ((.t (.bool false)), ⟨[], []⟩))
else
 some ((.t (.bool false)), ⟨[], []⟩))
else
 some ((.t (.bool false)), ⟨[], []⟩))
else
 some ((.t (.bool false)), ⟨[], []⟩))
else
 some ((.t (.bool false)), ⟨[], []⟩))
else
 some ((.t (.bool false)), ⟨[], []⟩))
else
 some ((.t (.bool false)), ⟨[], []⟩))
else
 some ((.t (.bool false)), ⟨[], []⟩))))
theorem eq8g  (a0_0 : Int) (a0_1 : Int) (a0_2z : Bool) (a0_2 : List T) (a0_3z : Bool) (a0_3 : List T) (a1_0 : Int) (a1_1 : Int) (a1_2z : Bool) (a1_2 : List T) (a1_3z : Bool) (a1_3 : List T) (a2 : Int) (a3 : Int) (a4 : Int) (a5 : Int) : codeT Try.prog hint 8 0 181 [] [] (resKV Try.prog Try.f8 (hint.own 8 0)) (nrm hint 8 0 (bodyOf Try.f8) (envV [(.t (.agg [(.int .i64 a0_0), (.int .i64 a0_1), (.list 1 a0_2z a0_2), (.list 1 a0_3z a0_3)])), (.t (.agg [(.int .i64 a1_0), (.int .i64 a1_1), (.list 1 a1_2z a1_2), (.list 1 a1_3z a1_3)])), (.t (.int .i64 a2)), (.t (.int .i64 a3)), (.t (.int .i64 a4)), (.t (.int .i64 a5))] 0) ⟨[], []⟩).1 (nrm hint 8 0 (bodyOf Try.f8) (envV [(.t (.agg [(.int .i64 a0_0), (.int .i64 a0_1), (.list 1 a0_2z a0_2), (.list 1 a0_3z a0_3)])), (.t (.agg [(.int .i64 a1_0), (.int .i64 a1_1), (.list 1 a1_2z a1_2), (.list 1 a1_3z a1_3)])), (.t (.int .i64 a2)), (.t (.int .i64 a3)), (.t (.int .i64 a4)), (.t (.int .i64 a5))] 0) ⟨[], []⟩).2 (bodyOf Try.f8) = R8  a0_0 a0_1 a0_2z a0_2 a0_3z a0_3 a1_0 a1_1 a1_2z a1_2 a1_3z a1_3 a2 a3 a4 a5 := by kernel_rfl
/-- purfle/purflelaw04.LevelTells -/
theorem eq8 (a0_0 : Int) (a0_1 : Int) (a0_2z : Bool) (a0_2 : List T) (a0_3z : Bool) (a0_3 : List T) (a1_0 : Int) (a1_1 : Int) (a1_2z : Bool) (a1_2 : List T) (a1_3z : Bool) (a1_3 : List T) (a2 : Int) (a3 : Int) (a4 : Int) (a5 : Int) : vr 8 0 [(.t (.agg [(.int .i64 a0_0), (.int .i64 a0_1), (.list 1 a0_2z a0_2), (.list 1 a0_3z a0_3)])), (.t (.agg [(.int .i64 a1_0), (.int .i64 a1_1), (.list 1 a1_2z a1_2), (.list 1 a1_3z a1_3)])), (.t (.int .i64 a2)), (.t (.int .i64 a3)), (.t (.int .i64 a4)), (.t (.int .i64 a5))] ⟨[], []⟩ = R8  a0_0 a0_1 a0_2z a0_2 a0_3z a0_3 a1_0 a1_1 a1_2z a1_2 a1_3z a1_3 a2 a3 a4 a5 :=
  (call_eq Try.prog hint (fn := Try.f8) (nt := 181) (T := []) [] rfl [(.t (.agg [(.int .i64 a0_0), (.int .i64 a0_1), (.list 1 a0_2z a0_2), (.list 1 a0_3z a0_3)])), (.t (.agg [(.int .i64 a1_0), (.int .i64 a1_1), (.list 1 a1_2z a1_2), (.list 1 a1_3z a1_3)])), (.t (.int .i64 a2)), (.t (.int .i64 a3)), (.t (.int .i64 a4)), (.t (.int .i64 a5))] ⟨[], []⟩ rfl rfl rfl rfl rfl).trans (eq8g  a0_0 a0_1 a0_2z a0_2 a0_3z a0_3 a1_0 a1_1 a1_2z a1_2 a1_3z a1_3 a2 a3 a4 a5)
end Go.Proofs.Ytejfkiohnoiagaa.VM
