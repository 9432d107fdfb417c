/- The equations of the functions, as the evaluator gives them (printed by gen.py). Conditions: none. -/
import Derived.Test.YtcdeeppiljcddaaAm22
import Derived.Test.YtcdeeppiljcddaaProg
set_option linter.unusedVariables false
namespace Go.Proofs.Ytcdeeppiljcddaa.AM
open Go
def keepTab : List (Nat × List (Nat × List Nat)) := [
  (3, [(12, [0, 3, 6, 8, 9, 10, 43, 44, 45]), (19, [0, 3, 6, 8, 9, 10, 12, 43, 44, 45]), (20, [0, 3, 6, 8, 9, 10, 12, 43, 44, 45, 68, 69, 70])]),
  (5, [(16, [0, 9, 10, 136, 137, 138]), (19, [0, 9, 10, 28, 136, 137, 138, 143, 144])]),
  (9, [(18, [0, 7, 8, 17, 151, 152])]),
  (10, [(11, [0, 3, 92, 93, 94]), (18, [0, 3, 16, 108, 109])]),
  (12, [(2, [5, 6, 7])]),
  (13, [(5, [0, 3, 9, 10, 11])]),
  (14, [(7, [5, 6, 19, 20]), (11, [5, 6, 8, 9, 19, 20])]),
  (15, [(4, [5, 6, 14, 15, 16])]),
  (17, [(5, [4, 15, 16])]),
  (18, [(4, [0, 1, 12, 13])]),
  (19, [(6, [5, 16, 17, 18])]),
  (21, [(5, [4, 13, 14, 15])]),
  (22, [(7, [0, 6, 22, 23, 24])]),
  (24, [(7, [0, 6, 17, 18, 19])]),
  (26, [(8, [0, 1, 6, 8, 31, 32])]),
  (27, [(6, [0, 5, 16, 17, 18]), (10, [0, 5, 6, 7, 8, 16, 17, 18, 26, 27, 28])]),
  (28, [(6, [6, 7]), (11, [6, 7, 8])]),
  (29, [(5, [0, 4, 13, 14, 15]), (9, [0, 4, 5, 6, 7, 13, 14, 15, 22, 23, 24])]),
  (30, [(7, [1, 6, 8]), (14, [1, 8, 10, 11, 50, 51, 52])]),
  (32, [(6, [0, 4, 5, 16, 17]), (10, [0, 4, 5, 7, 8, 16, 17])]),
  (33, [(5, [0, 4, 12, 13, 14]), (8, [0, 4, 6, 12, 13, 14, 21, 22, 23])]),
  (34, [(4, [0, 1, 13, 14]), (9, [0, 1, 5, 13, 14, 32, 33])]),
  (38, [(4, [6, 15, 16]), (12, [1, 29, 30]), (16, [1, 8, 9, 29, 30, 33, 34, 35])]),
  (40, [(3, [0, 1, 2])]),
  (41, [(1, [0, 2, 3])]),
  (43, [(3, [1, 5, 8, 9, 10])])]
def hint : Hint := { eqt := fun _ => none, keep := fun f i => (keepTab.lookup f).bind fun l => l.lookup i }
noncomputable def run (f : FuncId) (args : List Value) (h : Hp) : Option (Value × Hp) := arun Try.prog hint f args h
/-- purfle/purflelaw03.PermCycles, region 12. -/
noncomputable def L3_12 (p0a : Option Addr) (p0n p0c : Nat) (up3 : Bool) (odd6 : Bool) (met8 : Option Nat) (even9 : Int) (last10 : Int) (t43a : Option Addr) (t43n t43c : Nat) (t44 : Int) (t45 : Int) (h : Hp) : Option (Value × Hp) := atP Try.prog hint 3 Try.f3 129 [.snd, .snd, .snd, .snd, .snd, .snd, .snd, .snd, .snd, .fst, .snd, .blk] [(0, (.slice p0a p0n p0c)), (3, (.bool up3)), (6, (.bool odd6)), (8, (.map met8)), (9, (.int .i64 even9)), (10, (.int .i64 last10)), (43, (.slice t43a t43n t43c)), (44, (.int .i64 t44)), (45, (.int .i64 t45))] h
/-- purfle/purflelaw03.PermCycles, region 19. -/
noncomputable def J3_19 (p0a : Option Addr) (p0n p0c : Nat) (up3 : Bool) (odd6 : Bool) (met8 : Option Nat) (even9 : Int) (last10 : Int) (c12a : Option Addr) (c12n c12c : Nat) (t43a : Option Addr) (t43n t43c : Nat) (t44 : Int) (t45 : Int) (h : Hp) : Option (Value × Hp) := atP Try.prog hint 3 Try.f3 129 [.snd, .snd, .snd, .snd, .snd, .snd, .snd, .snd, .snd, .fst, .snd, .blk, .lp, .snd, .snd, .fst, .blk, .snd, .snd, .snd, .snd] [(0, (.slice p0a p0n p0c)), (3, (.bool up3)), (6, (.bool odd6)), (8, (.map met8)), (9, (.int .i64 even9)), (10, (.int .i64 last10)), (12, (.slice c12a c12n c12c)), (43, (.slice t43a t43n t43c)), (44, (.int .i64 t44)), (45, (.int .i64 t45))] h
/-- purfle/purflelaw03.PermCycles, region 20. -/
noncomputable def L3_20 (p0a : Option Addr) (p0n p0c : Nat) (up3 : Bool) (odd6 : Bool) (met8 : Option Nat) (even9 : Int) (last10 : Int) (c12a : Option Addr) (c12n c12c : Nat) (t43a : Option Addr) (t43n t43c : Nat) (t44 : Int) (t45 : Int) (t68a : Option Addr) (t68n t68c : Nat) (t69 : Int) (t70 : Int) (h : Hp) : Option (Value × Hp) := atP Try.prog hint 3 Try.f3 129 [.snd, .snd, .snd, .snd, .snd, .snd, .snd, .snd, .snd, .fst, .snd, .blk, .lp, .snd, .snd, .fst, .blk, .snd, .snd, .snd, .snd, .snd, .blk] [(0, (.slice p0a p0n p0c)), (3, (.bool up3)), (6, (.bool odd6)), (8, (.map met8)), (9, (.int .i64 even9)), (10, (.int .i64 last10)), (12, (.slice c12a c12n c12c)), (43, (.slice t43a t43n t43c)), (44, (.int .i64 t44)), (45, (.int .i64 t45)), (68, (.slice t68a t68n t68c)), (69, (.int .i64 t69)), (70, (.int .i64 t70))] h
/-- purfle/purflelaw03.PermTurns, region 16. -/
noncomputable def L5_16 (p0a : Option Addr) (p0n p0c : Nat) (up9 : Bool) (was10a : Option Addr) (was10n was10c : Nat) (t136a : Option Addr) (t136n t136c : Nat) (t137 : Int) (t138 : Int) (h : Hp) : Option (Value × Hp) := atP Try.prog hint 5 Try.f5 161 [.snd, .snd, .snd, .snd, .snd, .snd, .snd, .snd, .snd, .snd, .snd, .snd, .snd, .fst, .snd, .blk] [(0, (.slice p0a p0n p0c)), (9, (.bool up9)), (10, (.slice was10a was10n was10c)), (136, (.slice t136a t136n t136c)), (137, (.int .i64 t137)), (138, (.int .i64 t138))] h
/-- purfle/purflelaw03.PermTurns, region 19. -/
noncomputable def L5_19 (p0a : Option Addr) (p0n p0c : Nat) (up9 : Bool) (was10a : Option Addr) (was10n was10c : Nat) (z28a : Option Addr) (z28n z28c : Nat) (t136a : Option Addr) (t136n t136c : Nat) (t137 : Int) (t138 : Int) (t143 : Int) (t144 : Int) (h : Hp) : Option (Value × Hp) := atP Try.prog hint 5 Try.f5 161 [.snd, .snd, .snd, .snd, .snd, .snd, .snd, .snd, .snd, .snd, .snd, .snd, .snd, .fst, .snd, .blk, .lp, .snd, .snd, .fst, .blk, .snd, .snd, .blk] [(0, (.slice p0a p0n p0c)), (9, (.bool up9)), (10, (.slice was10a was10n was10c)), (28, (.slice z28a z28n z28c)), (136, (.slice t136a t136n t136c)), (137, (.int .i64 t137)), (138, (.int .i64 t138)), (143, (.int .i64 t143)), (144, (.int .i64 t144))] h
/-- purfle/purflelaw03.PermRanks, region 18. -/
noncomputable def L9_18 (p0a : Option Addr) (p0n p0c : Nat) (up7 : Bool) (was8a : Option Addr) (was8n was8c : Nat) (x17a : Option Addr) (x17n x17c : Nat) (t151 : Int) (t152 : Int) (h : Hp) : Option (Value × Hp) := atP Try.prog hint 9 Try.f9 168 [.snd, .snd, .snd, .snd, .snd, .snd, .snd, .snd, .snd, .snd, .snd, .snd, .snd, .snd, .snd, .fst, .snd, .blk] [(0, (.slice p0a p0n p0c)), (7, (.bool up7)), (8, (.slice was8a was8n was8c)), (17, (.slice x17a x17n x17c)), (151, (.int .i64 t151)), (152, (.int .i64 t152))] h
/-- purfle/purflelaw03.PermEnds, region 11. -/
noncomputable def L10_11 (n0 : Int) (up3 : Bool) (t92a : Option Addr) (t92n t92c : Nat) (t93 : Int) (t94 : Int) (h : Hp) : Option (Value × Hp) := atP Try.prog hint 10 Try.f10 160 [.snd, .snd, .snd, .snd, .snd, .snd, .snd, .snd, .snd, .fst, .snd, .blk] [(0, (.int .i64 n0)), (3, (.bool up3)), (92, (.slice t92a t92n t92c)), (93, (.int .i64 t93)), (94, (.int .i64 t94))] h
/-- purfle/purflelaw03.PermEnds, region 18. -/
noncomputable def L10_18 (n0 : Int) (up3 : Bool) (last16a : Option Addr) (last16n last16c : Nat) (t108 : Int) (t109 : Int) (h : Hp) : Option (Value × Hp) := atP Try.prog hint 10 Try.f10 160 [.snd, .snd, .snd, .snd, .snd, .snd, .snd, .snd, .snd, .snd, .snd, .fst, .snd, .blk] [(0, (.int .i64 n0)), (3, (.bool up3)), (16, (.slice last16a last16n last16c)), (108, (.int .i64 t108)), (109, (.int .i64 t109))] h
/-- purfle/purflelaw03.few, region 2. -/
noncomputable def L12_2 (t5a : Option Addr) (t5n t5c : Nat) (t6 : Int) (t7 : Int) (h : Hp) : Option (Value × Hp) := atP Try.prog hint 12 Try.f12 15 [.snd, .fst, .snd, .blk] [(5, (.slice t5a t5n t5c)), (6, (.int .i64 t6)), (7, (.int .i64 t7))] h
/-- purfle/perm.Check, region 5. -/
noncomputable def L13_5 (p0a : Option Addr) (p0n p0c : Nat) (met3 : Int) (t9a : Option Addr) (t9n t9c : Nat) (t10 : Int) (t11 : Int) (h : Hp) : Option (Value × Hp) := atP Try.prog hint 13 Try.f13 34 [.snd, .snd, .snd, .fst, .snd, .blk] [(0, (.slice p0a p0n p0c)), (3, (.int .i64 met3)), (9, (.slice t9a t9n t9c)), (10, (.int .i64 t10)), (11, (.int .i64 t11))] h
/-- purfle/perm.Cycles, region 7. -/
noncomputable def L14_7 (left5a : Option Addr) (left5n left5c : Nat) (out6a : Option Addr) (out6n out6c : Nat) (t19 : Int) (t20 : Int) (h : Hp) : Option (Value × Hp) := atP Try.prog hint 14 Try.f14 49 [.snd, .snd, .snd, .snd, .fst, .snd, .blk] [(5, (.slice left5a left5n left5c)), (6, (.slice out6a out6n out6c)), (19, (.int .i64 t19)), (20, (.int .i64 t20))] h
/-- purfle/perm.Cycles, region 11. -/
noncomputable def L14_11 (left5a : Option Addr) (left5n left5c : Nat) (out6a : Option Addr) (out6n out6c : Nat) (c8a : Option Addr) (c8n c8c : Nat) (x9 : Int) (t19 : Int) (t20 : Int) (h : Hp) : Option (Value × Hp) := atP Try.prog hint 14 Try.f14 49 [.snd, .snd, .snd, .snd, .fst, .snd, .blk, .lp, .snd, .snd, .fst, .blk, .snd, .snd, .fst, .snd, .blk] [(5, (.slice left5a left5n left5c)), (6, (.slice out6a out6n out6c)), (8, (.slice c8a c8n c8c)), (9, (.int .i64 x9)), (19, (.int .i64 t19)), (20, (.int .i64 t20))] h
/-- purfle/perm.Odd, region 4. -/
noncomputable def L15_4 (e5 : Int) (odd6 : Bool) (t14a : Option Addr) (t14n t14c : Nat) (t15 : Int) (t16 : Int) (h : Hp) : Option (Value × Hp) := atP Try.prog hint 15 Try.f15 29 [.snd, .snd, .snd, .fst, .snd, .blk] [(5, (.int .i64 e5)), (6, (.bool odd6)), (14, (.slice t14a t14n t14c)), (15, (.int .i64 t15)), (16, (.int .i64 t16))] h
/-- purfle/perm.Plain, region 5. -/
noncomputable def L17_5 (l4a : Option Addr) (l4n l4c : Nat) (t15 : Int) (t16 : Int) (h : Hp) : Option (Value × Hp) := atP Try.prog hint 17 Try.f17 25 [.snd, .snd, .snd, .fst, .snd, .blk] [(4, (.slice l4a l4n l4c)), (15, (.int .i64 t15)), (16, (.int .i64 t16))] h
/-- purfle/purfleref01.Equal, region 4. -/
noncomputable def L18_4 (a0a : Option Addr) (a0n a0c : Nat) (b1a : Option Addr) (b1n b1c : Nat) (t12 : Int) (t13 : Int) (h : Hp) : Option (Value × Hp) := atP Try.prog hint 18 Try.f18 26 [.snd, .snd, .fst, .snd, .blk] [(0, (.slice a0a a0n a0c)), (1, (.slice b1a b1n b1c)), (12, (.int .i64 t12)), (13, (.int .i64 t13))] h
/-- purfle/perm.Inverse, region 6. -/
noncomputable def L19_6 (out5a : Option Addr) (out5n out5c : Nat) (t16a : Option Addr) (t16n t16c : Nat) (t17 : Int) (t18 : Int) (h : Hp) : Option (Value × Hp) := atP Try.prog hint 19 Try.f19 29 [.snd, .snd, .snd, .fst, .snd, .blk] [(5, (.slice out5a out5n out5c)), (16, (.slice t16a t16n t16c)), (17, (.int .i64 t17)), (18, (.int .i64 t18))] h
/-- purfle/purfleref03.Inverse, region 5. -/
noncomputable def L21_5 (out4a : Option Addr) (out4n out4c : Nat) (t13a : Option Addr) (t13n t13c : Nat) (t14 : Int) (t15 : Int) (h : Hp) : Option (Value × Hp) := atP Try.prog hint 21 Try.f21 26 [.snd, .snd, .snd, .fst, .snd, .blk] [(4, (.slice out4a out4n out4c)), (13, (.slice t13a t13n t13c)), (14, (.int .i64 t14)), (15, (.int .i64 t15))] h
/-- purfle/purfleref03.After, region 7. -/
noncomputable def L22_7 (p0a : Option Addr) (p0n p0c : Nat) (out6a : Option Addr) (out6n out6c : Nat) (t22a : Option Addr) (t22n t22c : Nat) (t23 : Int) (t24 : Int) (h : Hp) : Option (Value × Hp) := atP Try.prog hint 22 Try.f22 37 [.snd, .snd, .snd, .snd, .fst, .snd, .blk] [(0, (.slice p0a p0n p0c)), (6, (.slice out6a out6n out6c)), (22, (.slice t22a t22n t22c)), (23, (.int .i64 t23)), (24, (.int .i64 t24))] h
/-- purfle/purfleref03.Turn, region 7. -/
noncomputable def L24_7 (l0a : Option Addr) (l0n l0c : Nat) (out6a : Option Addr) (out6n out6c : Nat) (t17a : Option Addr) (t17n t17c : Nat) (t18 : Int) (t19 : Int) (h : Hp) : Option (Value × Hp) := atP Try.prog hint 24 Try.f24 32 [.snd, .snd, .snd, .snd, .fst, .snd, .blk] [(0, (.slice l0a l0n l0c)), (6, (.slice out6a out6n out6c)), (17, (.slice t17a t17n t17c)), (18, (.int .i64 t18)), (19, (.int .i64 t19))] h
/-- purfle/perm.Nth, region 8. -/
noncomputable def L26_8 (n0 : Int) (k1 : Int) (l6a : Option Addr) (l6n l6c : Nat) (f8 : Option Addr) (t31 : Int) (t32 : Int) (h : Hp) : Option (Value × Hp) := atP Try.prog hint 26 Try.f26 78 [.snd, .snd, .snd, .snd, .snd, .fst, .snd, .blk] [(0, (.int .i64 n0)), (1, (.int .i64 k1)), (6, (.slice l6a l6n l6c)), (8, (.pointer f8)), (31, (.int .i64 t31)), (32, (.int .i64 t32))] h
/-- purfle/perm.Rank, region 6. -/
noncomputable def L27_6 (p0a : Option Addr) (p0n p0c : Nat) (n5 : Int) (t16a : Option Addr) (t16n t16c : Nat) (t17 : Int) (t18 : Int) (h : Hp) : Option (Value × Hp) := atP Try.prog hint 27 Try.f27 48 [.snd, .snd, .snd, .fst, .snd, .blk] [(0, (.slice p0a p0n p0c)), (5, (.int .i64 n5)), (16, (.slice t16a t16n t16c)), (17, (.int .i64 t17)), (18, (.int .i64 t18))] h
/-- purfle/perm.Rank, region 10. -/
noncomputable def L27_10 (p0a : Option Addr) (p0n p0c : Nat) (n5 : Int) (i6 : Int) (x7 : Int) (less8 : Int) (t16a : Option Addr) (t16n t16c : Nat) (t17 : Int) (t18 : Int) (t26a : Option Addr) (t26n t26c : Nat) (t27 : Int) (t28 : Int) (h : Hp) : Option (Value × Hp) := atP Try.prog hint 27 Try.f27 48 [.snd, .snd, .snd, .fst, .snd, .blk, .lp, .snd, .snd, .fst, .blk, .snd, .snd, .fst, .snd, .blk] [(0, (.slice p0a p0n p0c)), (5, (.int .i64 n5)), (6, (.int .i64 i6)), (7, (.int .i64 x7)), (8, (.int .i64 less8)), (16, (.slice t16a t16n t16c)), (17, (.int .i64 t17)), (18, (.int .i64 t18)), (26, (.slice t26a t26n t26c)), (27, (.int .i64 t27)), (28, (.int .i64 t28))] h
/-- purfle/perm.Next, region 6. -/
noncomputable def L28_6 (l6a : Option Addr) (l6n l6c : Nat) (i7 : Int) (h : Hp) : Option (Value × Hp) := atP Try.prog hint 28 Try.f28 72 [.snd, .snd, .snd, .snd, .fst, .blk] [(6, (.slice l6a l6n l6c)), (7, (.int .i64 i7))] h
/-- purfle/perm.Next, region 11. -/
noncomputable def L28_11 (l6a : Option Addr) (l6n l6c : Nat) (i7 : Int) (k8 : Int) (h : Hp) : Option (Value × Hp) := atP Try.prog hint 28 Try.f28 72 [.snd, .snd, .snd, .snd, .snd, .snd, .snd, .fst, .blk] [(6, (.slice l6a l6n l6c)), (7, (.int .i64 i7)), (8, (.int .i64 k8))] h
/-- purfle/purfleref03.Rank, region 5. -/
noncomputable def L29_5 (p0a : Option Addr) (p0n p0c : Nat) (n4 : Int) (t13a : Option Addr) (t13n t13c : Nat) (t14 : Int) (t15 : Int) (h : Hp) : Option (Value × Hp) := atP Try.prog hint 29 Try.f29 46 [.snd, .snd, .snd, .fst, .snd, .blk] [(0, (.slice p0a p0n p0c)), (4, (.int .i64 n4)), (13, (.slice t13a t13n t13c)), (14, (.int .i64 t14)), (15, (.int .i64 t15))] h
/-- purfle/purfleref03.Rank, region 9. -/
noncomputable def L29_9 (p0a : Option Addr) (p0n p0c : Nat) (n4 : Int) (i5 : Int) (x6 : Int) (less7 : Int) (t13a : Option Addr) (t13n t13c : Nat) (t14 : Int) (t15 : Int) (t22a : Option Addr) (t22n t22c : Nat) (t23 : Int) (t24 : Int) (h : Hp) : Option (Value × Hp) := atP Try.prog hint 29 Try.f29 46 [.snd, .snd, .snd, .fst, .snd, .blk, .lp, .snd, .snd, .fst, .blk, .snd, .snd, .fst, .snd, .blk] [(0, (.slice p0a p0n p0c)), (4, (.int .i64 n4)), (5, (.int .i64 i5)), (6, (.int .i64 x6)), (7, (.int .i64 less7)), (13, (.slice t13a t13n t13c)), (14, (.int .i64 t14)), (15, (.int .i64 t15)), (22, (.slice t22a t22n t22c)), (23, (.int .i64 t23)), (24, (.int .i64 t24))] h
/-- purfle/purfleref03.Nth, region 7. -/
noncomputable def L30_7 (k1 : Int) (left6a : Option Addr) (left6n left6c : Nat) (out8a : Option Addr) (out8n out8c : Nat) (h : Hp) : Option (Value × Hp) := atP Try.prog hint 30 Try.f30 67 [.snd, .snd, .snd, .snd, .snd, .fst, .blk] [(1, (.int .i64 k1)), (6, (.slice left6a left6n left6c)), (8, (.slice out8a out8n out8c))] h
/-- purfle/purfleref03.Nth, region 14. -/
noncomputable def L30_14 (k1 : Int) (out8a : Option Addr) (out8n out8c : Nat) (i10 : Int) (rest11a : Option Addr) (rest11n rest11c : Nat) (t50a : Option Addr) (t50n t50c : Nat) (t51 : Int) (t52 : Int) (h : Hp) : Option (Value × Hp) := atP Try.prog hint 30 Try.f30 67 [.snd, .snd, .snd, .snd, .snd, .fst, .blk, .lp, .snd, .blk, .snd, .snd, .snd, .snd, .snd, .fst, .snd, .blk] [(1, (.int .i64 k1)), (8, (.slice out8a out8n out8c)), (10, (.int .i64 i10)), (11, (.slice rest11a rest11n rest11c)), (50, (.slice t50a t50n t50c)), (51, (.int .i64 t51)), (52, (.int .i64 t52))] h
/-- purfle/purfleref03.Cycles, region 6. -/
noncomputable def L32_6 (p0a : Option Addr) (p0n p0c : Nat) (out4a : Option Addr) (out4n out4c : Nat) (met5a : Option Addr) (met5n met5c : Nat) (t16 : Int) (t17 : Int) (h : Hp) : Option (Value × Hp) := atP Try.prog hint 32 Try.f32 46 [.snd, .snd, .snd, .snd, .fst, .snd, .blk] [(0, (.slice p0a p0n p0c)), (4, (.slice out4a out4n out4c)), (5, (.slice met5a met5n met5c)), (16, (.int .i64 t16)), (17, (.int .i64 t17))] h
/-- purfle/purfleref03.Cycles, region 10. -/
noncomputable def L32_10 (p0a : Option Addr) (p0n p0c : Nat) (out4a : Option Addr) (out4n out4c : Nat) (met5a : Option Addr) (met5n met5c : Nat) (c7a : Option Addr) (c7n c7c : Nat) (x8 : Int) (t16 : Int) (t17 : Int) (h : Hp) : Option (Value × Hp) := atP Try.prog hint 32 Try.f32 46 [.snd, .snd, .snd, .snd, .fst, .snd, .blk, .lp, .snd, .snd, .fst, .blk, .snd, .snd, .fst, .snd, .blk] [(0, (.slice p0a p0n p0c)), (4, (.slice out4a out4n out4c)), (5, (.slice met5a met5n met5c)), (7, (.slice c7a c7n c7c)), (8, (.int .i64 x8)), (16, (.int .i64 t16)), (17, (.int .i64 t17))] h
/-- purfle/purfleref03.Odd, region 5. -/
noncomputable def L33_5 (p0a : Option Addr) (p0n p0c : Nat) (n4 : Int) (t12a : Option Addr) (t12n t12c : Nat) (t13 : Int) (t14 : Int) (h : Hp) : Option (Value × Hp) := atP Try.prog hint 33 Try.f33 37 [.snd, .snd, .snd, .fst, .snd, .blk] [(0, (.slice p0a p0n p0c)), (4, (.int .i64 n4)), (12, (.slice t12a t12n t12c)), (13, (.int .i64 t13)), (14, (.int .i64 t14))] h
/-- purfle/purfleref03.Odd, region 8. -/
noncomputable def L33_8 (p0a : Option Addr) (p0n p0c : Nat) (n4 : Int) (x6 : Int) (t12a : Option Addr) (t12n t12c : Nat) (t13 : Int) (t14 : Int) (t21a : Option Addr) (t21n t21c : Nat) (t22 : Int) (t23 : Int) (h : Hp) : Option (Value × Hp) := atP Try.prog hint 33 Try.f33 37 [.snd, .snd, .snd, .fst, .snd, .blk, .lp, .snd, .snd, .fst, .blk, .snd, .snd, .blk] [(0, (.slice p0a p0n p0c)), (4, (.int .i64 n4)), (6, (.int .i64 x6)), (12, (.slice t12a t12n t12c)), (13, (.int .i64 t13)), (14, (.int .i64 t14)), (21, (.slice t21a t21n t21c)), (22, (.int .i64 t22)), (23, (.int .i64 t23))] h
/-- purfle/purfleref03.SameLists, region 4. -/
noncomputable def L34_4 (a0a : Option Addr) (a0n a0c : Nat) (b1a : Option Addr) (b1n b1c : Nat) (t13 : Int) (t14 : Int) (h : Hp) : Option (Value × Hp) := atP Try.prog hint 34 Try.f34 53 [.snd, .snd, .fst, .snd, .blk] [(0, (.slice a0a a0n a0c)), (1, (.slice b1a b1n b1c)), (13, (.int .i64 t13)), (14, (.int .i64 t14))] h
/-- purfle/purfleref03.SameLists, region 9. -/
noncomputable def L34_9 (a0a : Option Addr) (a0n a0c : Nat) (b1a : Option Addr) (b1n b1c : Nat) (i5 : Int) (t13 : Int) (t14 : Int) (t32 : Int) (t33 : Int) (h : Hp) : Option (Value × Hp) := atP Try.prog hint 34 Try.f34 53 [.snd, .snd, .fst, .snd, .blk, .lp, .snd, .snd, .fst, .blk, .snd, .snd, .snd, .blk] [(0, (.slice a0a a0n a0c)), (1, (.slice b1a b1n b1c)), (5, (.int .i64 i5)), (13, (.int .i64 t13)), (14, (.int .i64 t14)), (32, (.int .i64 t32)), (33, (.int .i64 t33))] h
/-- purfle/purfleref02.Order, region 4. -/
noncomputable def L38_4 (out6a : Option Addr) (out6n out6c : Nat) (t15 : Int) (t16 : Int) (h : Hp) : Option (Value × Hp) := atP Try.prog hint 38 Try.f38 49 [.snd, .fst, .snd, .yes, .snd, .fst, .snd, .blk] [(6, (.slice out6a out6n out6c)), (15, (.int .i64 t15)), (16, (.int .i64 t16))] h
/-- purfle/purfleref02.Order, region 12. -/
noncomputable def L38_12 (order1a : Option Addr) (order1n order1c : Nat) (t29 : Int) (t30 : Int) (h : Hp) : Option (Value × Hp) := atP Try.prog hint 38 Try.f38 49 [.snd, .snd, .snd, .fst, .snd, .blk] [(1, (.slice order1a order1n order1c)), (29, (.int .i64 t29)), (30, (.int .i64 t30))] h
/-- purfle/purfleref02.Order, region 16. -/
noncomputable def L38_16 (order1a : Option Addr) (order1n order1c : Nat) (i8 : Int) (many9 : Int) (t29 : Int) (t30 : Int) (t33a : Option Addr) (t33n t33c : Nat) (t34 : Int) (t35 : Int) (h : Hp) : Option (Value × Hp) := atP Try.prog hint 38 Try.f38 49 [.snd, .snd, .snd, .fst, .snd, .blk, .lp, .snd, .snd, .fst, .blk, .snd, .snd, .fst, .snd, .blk] [(1, (.slice order1a order1n order1c)), (8, (.int .i64 i8)), (9, (.int .i64 many9)), (29, (.int .i64 t29)), (30, (.int .i64 t30)), (33, (.slice t33a t33n t33c)), (34, (.int .i64 t34)), (35, (.int .i64 t35))] h
/-- purfle/perm.factorials, region 3. -/
noncomputable def L40_3 (t0 : Option Addr) (f1 : Option Addr) (n2 : Int) (h : Hp) : Option (Value × Hp) := atP Try.prog hint 40 Try.f40 17 [.snd, .snd, .fst, .snd, .blk] [(0, (.pointer t0)), (1, (.pointer f1)), (2, (.int .i64 n2))] h
/-- slices.Reverse[[]int,int], region 1. -/
noncomputable def L41_1 (s0a : Option Addr) (s0n s0c : Nat) (i2 : Int) (j3 : Int) (h : Hp) : Option (Value × Hp) := atP Try.prog hint 41 Try.f41 28 [.snd, .blk] [(0, (.slice s0a s0n s0c)), (2, (.int .i64 i2)), (3, (.int .i64 j3))] h
/-- purfle/perm.each, region 3. -/
noncomputable def L43_3 (do1_0a : Option Addr) (do1_0n do1_0c : Nat) (out5a : Option Addr) (out5n out5c : Nat) (t8a : Option Addr) (t8n t8c : Nat) (t9 : Int) (t10 : Int) (h : Hp) : Option (Value × Hp) := atP Try.prog hint 43 Try.f43 22 [.snd, .snd, .fst, .snd, .blk] [(1, (.func (.func 44) #[(.slice do1_0a do1_0n do1_0c)] #[])), (5, (.slice out5a out5n out5c)), (8, (.slice t8a t8n t8c)), (9, (.int .i64 t9)), (10, (.int .i64 t10))] h
theorem eq3 (p0a : Option Addr) (p0n p0c : Nat) (h : Hp) : run 3 [(.slice p0a p0n p0c)] h =
 runC (run 11 [] h) fun v_1 h_2 =>
 asBoolC v_1 fun b_3 =>
 lt (h_2.alloc [(.slice p0a p0n p0c)] 1 []) fun h_4 =>
 runC (run 12 [(.slice (some ⟨h_2.next, 0, none⟩) 1 0)] h_4) fun v_5 h_6 =>
 asBoolC v_5 fun b_7 =>
(bif (!b_7) then
 some ((.bool b_3), h_6)
else
 runC (run 13 [(.slice p0a p0n p0c)] h_6) fun v_8 h_9 =>
 asIntC .i64 v_8 fun x_10 =>
(bif (!decide (x_10 = 0)) then
 some ((.bool b_3), h_9)
else
 runC (run 14 [(.slice p0a p0n p0c)] h_9) fun v_11 h_12 =>
 tupC v_11 fun l_13 =>
 consC l_13 fun v_14 l_15 =>
 asSliceC v_14 fun a_16 n_17 c_18 =>
 consC l_15 fun v_19 l_20 =>
 asIntC .i64 v_19 fun x_21 =>
 endC l_20 <|
 runC (run 15 [(.slice p0a p0n p0c)] h_12) fun v_22 h_23 =>
 tupC v_22 fun l_24 =>
 consC l_24 fun v_25 l_26 =>
 asBoolC v_25 fun b_27 =>
 consC l_26 fun v_28 l_29 =>
 asIntC .i64 v_28 fun x_30 =>
 endC l_29 <|
(bif (!decide (x_21 = 0)) then
 some ((.bool false), h_23)
else
(bif (!decide (x_30 = 0)) then
 some ((.bool false), h_23)
else
 lt h_23.allocMap fun h_31 =>
 L3_12 (p0a) (p0n) (p0c) (b_3) (b_27) ((some h_23.next)) (0) (-1) (a_16) (n_17) (c_18) ((n_17 : Int)) (0) h_31)))) :=
  (arun_eq Try.prog hint Try.func3 (c := bodyOf Try.f3) rfl rfl _ _).trans (by kernel_rfl)
theorem L3_12_eq (p0a : Option Addr) (p0n p0c : Nat) (up3 : Bool) (odd6 : Bool) (met8 : Option Nat) (even9 : Int) (last10 : Int) (t43a : Option Addr) (t43n t43c : Nat) (t44 : Int) (t45 : Int) (h : Hp) : L3_12 p0a p0n p0c up3 odd6 met8 even9 last10 t43a t43n t43c t44 t45 h =
(bif (decide (t45 < t44)) then
 atC t43a t43n 1 t45 fun d_1 =>
 ldSl h d_1 fun a_2 n_3 c_4 =>
(bif (decide ((n_3 : Int) = 0)) then
 some ((.bool false), h)
else
 atC a_2 n_3 1 0 fun d_5 =>
 ldI h .i64 d_5 fun x_6 =>
(bif (decide (x_6 ≤ last10)) then
 some ((.bool false), h)
else
 atC a_2 n_3 1 0 fun d_7 =>
 ldI h .i64 d_7 fun x_8 =>
(bif (decide ((Int.tmod (n_3 : Int) 2) = 0)) then
 J3_19 (p0a) (p0n) (p0c) (up3) (odd6) (met8) ((IntKind.i64.wrap (even9 + 1))) (x_8) (a_2) (n_3) (c_4) (t43a) (t43n) (t43c) (t44) (t45) h
else
 J3_19 (p0a) (p0n) (p0c) (up3) (odd6) (met8) (even9) (x_8) (a_2) (n_3) (c_4) (t43a) (t43n) (t43c) (t44) (t45) h)))
else
(bif up3 then
 mapLenC h met8 fun x_9 =>
(bif (decide (x_9 = (p0n : Int))) then
 some ((.bool (odd6 == (decide ((Int.tmod even9 2) = 1)))), h)
else
 some ((.bool false), h))
else
 some ((.bool false), h))) :=
  (atP_loop Try.prog hint (b := nav [.snd, .snd, .snd, .snd, .snd, .snd, .snd, .snd, .snd, .fst, .snd, .blk, .lp] (bodyOf Try.f3)) rfl).trans (by kernel_rfl)
theorem J3_19_eq (p0a : Option Addr) (p0n p0c : Nat) (up3 : Bool) (odd6 : Bool) (met8 : Option Nat) (even9 : Int) (last10 : Int) (c12a : Option Addr) (c12n c12c : Nat) (t43a : Option Addr) (t43n t43c : Nat) (t44 : Int) (t45 : Int) (h : Hp) : J3_19 p0a p0n p0c up3 odd6 met8 even9 last10 c12a c12n c12c t43a t43n t43c t44 t45 h =
 L3_20 (p0a) (p0n) (p0c) (up3) (odd6) (met8) (even9) (last10) (c12a) (c12n) (c12c) (t43a) (t43n) (t43c) (t44) (t45) (c12a) (c12n) (c12c) ((c12n : Int)) (0) h := by kernel_rfl
theorem L3_20_eq (p0a : Option Addr) (p0n p0c : Nat) (up3 : Bool) (odd6 : Bool) (met8 : Option Nat) (even9 : Int) (last10 : Int) (c12a : Option Addr) (c12n c12c : Nat) (t43a : Option Addr) (t43n t43c : Nat) (t44 : Int) (t45 : Int) (t68a : Option Addr) (t68n t68c : Nat) (t69 : Int) (t70 : Int) (h : Hp) : L3_20 p0a p0n p0c up3 odd6 met8 even9 last10 c12a c12n c12c t43a t43n t43c t44 t45 t68a t68n t68c t69 t70 h =
(bif (decide (t70 < t69)) then
 atC t68a t68n 1 t70 fun d_1 =>
 ldI h .i64 d_1 fun x_2 =>
 mapAtC h (.map met8) fun es_3 =>
 lkC es_3 (.int .i64 x_2) (.bool false) fun v_4 p_5 =>
 asBoolC v_4 fun b_6 =>
(bif b_6 then
 some ((.bool false), h)
else
 atC c12a c12n 1 0 fun d_7 =>
 ldI h .i64 d_7 fun x_8 =>
(bif (decide (x_2 < x_8)) then
 some ((.bool false), h)
else
(bif (decide (x_2 < 0)) then
 some ((.bool false), h)
else
(bif (decide ((p0n : Int) ≤ x_2)) then
 some ((.bool false), h)
else
 atC p0a p0n 1 x_2 fun d_9 =>
 ldI h .i64 d_9 fun x_10 =>
 needC (!decide ((c12n : Int) = 0)) fun _ =>
 atC c12a c12n 1 (Int.tmod (IntKind.i64.wrap (t70 + 1)) (c12n : Int)) fun d_11 =>
 ldI h .i64 d_11 fun x_12 =>
(bif (!decide (x_10 = x_12)) then
 some ((.bool false), h)
else
 mapSetC h met8 (.int .i64 x_2) (.bool true) fun h_13 =>
 L3_20 (p0a) (p0n) (p0c) (up3) (odd6) (met8) (even9) (last10) (c12a) (c12n) (c12c) (t43a) (t43n) (t43c) (t44) (t45) (t68a) (t68n) (t68c) (t69) ((IntKind.i64.wrap (t70 + 1))) h_13)))))
else
 L3_12 (p0a) (p0n) (p0c) (up3) (odd6) (met8) (even9) (last10) (t43a) (t43n) (t43c) (t44) ((IntKind.i64.wrap (t45 + 1))) h) :=
  (atP_loop Try.prog hint (b := nav [.snd, .snd, .snd, .snd, .snd, .snd, .snd, .snd, .snd, .fst, .snd, .blk, .lp, .snd, .snd, .fst, .blk, .snd, .snd, .snd, .snd, .snd, .blk, .lp] (bodyOf Try.f3)) rfl).trans (by kernel_rfl)
theorem eq4 (p0a : Option Addr) (p0n p0c : Nat) (q1a : Option Addr) (q1n q1c : Nat) (r2a : Option Addr) (r2n r2c : Nat) (h : Hp) : run 4 [(.slice p0a p0n p0c), (.slice q1a q1n q1c), (.slice r2a r2n r2c)] h =
 runC (run 11 [] h) fun v_1 h_2 =>
 asBoolC v_1 fun b_3 =>
 lt (h_2.alloc [(.slice p0a p0n p0c), (.slice q1a q1n q1c), (.slice r2a r2n r2c)] 1 []) fun h_4 =>
 runC (run 12 [(.slice (some ⟨h_2.next, 0, none⟩) 3 0)] h_4) fun v_5 h_6 =>
 asBoolC v_5 fun b_7 =>
(bif (!b_7) then
 some ((.bool b_3), h_6)
else
 runC (run 13 [(.slice p0a p0n p0c)] h_6) fun v_8 h_9 =>
 asIntC .i64 v_8 fun x_10 =>
(bif (!decide (x_10 = 0)) then
 some ((.bool b_3), h_9)
else
 runC (run 13 [(.slice q1a q1n q1c)] h_9) fun v_11 h_12 =>
 asIntC .i64 v_11 fun x_13 =>
(bif (!decide (x_13 = 0)) then
 some ((.bool b_3), h_12)
else
 runC (run 13 [(.slice r2a r2n r2c)] h_12) fun v_14 h_15 =>
 asIntC .i64 v_14 fun x_16 =>
(bif (!decide (x_16 = 0)) then
 some ((.bool b_3), h_15)
else
(bif (!decide ((p0n : Int) = (q1n : Int))) then
 some ((.bool b_3), h_15)
else
(bif (!decide ((q1n : Int) = (r2n : Int))) then
 some ((.bool b_3), h_15)
else
 runC (run 16 [(.slice p0a p0n p0c), (.slice q1a q1n q1c)] h_15) fun v_17 h_18 =>
 tupC v_17 fun l_19 =>
 consC l_19 fun v_20 l_21 =>
 asSliceC v_20 fun a_22 n_23 c_24 =>
 consC l_21 fun v_25 l_26 =>
 asIntC .i64 v_25 fun x_27 =>
 endC l_26 <|
 runC (run 16 [(.slice a_22 n_23 c_24), (.slice r2a r2n r2c)] h_18) fun v_28 h_29 =>
 tupC v_28 fun l_30 =>
 consC l_30 fun v_31 l_32 =>
 asSliceC v_31 fun a_33 n_34 c_35 =>
 consC l_32 fun v_36 l_37 =>
 asIntC .i64 v_36 fun x_38 =>
 endC l_37 <|
 runC (run 16 [(.slice q1a q1n q1c), (.slice r2a r2n r2c)] h_29) fun v_39 h_40 =>
 tupC v_39 fun l_41 =>
 consC l_41 fun v_42 l_43 =>
 asSliceC v_42 fun a_44 n_45 c_46 =>
 consC l_43 fun v_47 l_48 =>
 asIntC .i64 v_47 fun x_49 =>
 endC l_48 <|
 runC (run 16 [(.slice p0a p0n p0c), (.slice a_44 n_45 c_46)] h_40) fun v_50 h_51 =>
 tupC v_50 fun l_52 =>
 consC l_52 fun v_53 l_54 =>
 asSliceC v_53 fun a_55 n_56 c_57 =>
 consC l_54 fun v_58 l_59 =>
 asIntC .i64 v_58 fun x_60 =>
 endC l_59 <|
 runC (run 17 [(.int .i64 (p0n : Int))] h_51) fun v_61 h_62 =>
 tupC v_61 fun l_63 =>
 consC l_63 fun v_64 l_65 =>
 asSliceC v_64 fun a_66 n_67 c_68 =>
 consC l_65 fun v_69 l_70 =>
 asIntC .i64 v_69 fun x_71 =>
 endC l_70 <|
 runC (run 16 [(.slice p0a p0n p0c), (.slice a_66 n_67 c_68)] h_62) fun v_72 h_73 =>
 tupC v_72 fun l_74 =>
 consC l_74 fun v_75 l_76 =>
 asSliceC v_75 fun a_77 n_78 c_79 =>
 consC l_76 fun v_80 l_81 =>
 asIntC .i64 v_80 fun x_82 =>
 endC l_81 <|
 runC (run 16 [(.slice a_66 n_67 c_68), (.slice p0a p0n p0c)] h_73) fun v_83 h_84 =>
 tupC v_83 fun l_85 =>
 consC l_85 fun v_86 l_87 =>
 asSliceC v_86 fun a_88 n_89 c_90 =>
 consC l_87 fun v_91 l_92 =>
 asIntC .i64 v_91 fun x_93 =>
 endC l_92 <|
(bif (!decide (x_27 = 0)) then
 some ((.bool false), h_84)
else
(bif (!decide (x_38 = 0)) then
 some ((.bool false), h_84)
else
(bif (!decide (x_49 = 0)) then
 some ((.bool false), h_84)
else
(bif (!decide (x_60 = 0)) then
 some ((.bool false), h_84)
else
(bif (!decide (x_71 = 0)) then
 some ((.bool false), h_84)
else
(bif (!decide (x_82 = 0)) then
 some ((.bool false), h_84)
else
(bif (!decide (x_93 = 0)) then
 some ((.bool false), h_84)
else
 runC (run 18 [(.slice a_33 n_34 c_35), (.slice a_55 n_56 c_57)] h_84) fun v_94 h_95 =>
 asBoolC v_94 fun b_96 =>
(bif (!b_96) then
 some ((.bool false), h_95)
else
 runC (run 18 [(.slice a_77 n_78 c_79), (.slice p0a p0n p0c)] h_95) fun v_97 h_98 =>
 asBoolC v_97 fun b_99 =>
(bif (!b_99) then
 some ((.bool false), h_98)
else
 runC (run 18 [(.slice a_88 n_89 c_90), (.slice p0a p0n p0c)] h_98) fun v_100 h_101 =>
 asBoolC v_100 fun b_102 =>
(bif (!b_102) then
 some ((.bool false), h_101)
else
 runC (run 16 [(.slice p0a p0n p0c), (.slice q1a q1n q1c)] h_101) fun v_103 h_104 =>
 tupC v_103 fun l_105 =>
 consC l_105 fun v_106 l_107 =>
 asSliceC v_106 fun a_108 n_109 c_110 =>
 consC l_107 fun v_111 l_112 =>
 asIntC .i64 v_111 fun x_113 =>
 endC l_112 <|
 runC (run 19 [(.slice a_108 n_109 c_110)] h_104) fun v_114 h_115 =>
 tupC v_114 fun l_116 =>
 consC l_116 fun v_117 l_118 =>
 asSliceC v_117 fun a_119 n_120 c_121 =>
 consC l_118 fun v_122 l_123 =>
 asIntC .i64 v_122 fun x_124 =>
 endC l_123 <|
 runC (run 19 [(.slice p0a p0n p0c)] h_115) fun v_125 h_126 =>
 tupC v_125 fun l_127 =>
 consC l_127 fun v_128 l_129 =>
 asSliceC v_128 fun a_130 n_131 c_132 =>
 consC l_129 fun v_133 l_134 =>
 asIntC .i64 v_133 fun x_135 =>
 endC l_134 <|
 runC (run 19 [(.slice q1a q1n q1c)] h_126) fun v_136 h_137 =>
 tupC v_136 fun l_138 =>
 consC l_138 fun v_139 l_140 =>
 asSliceC v_139 fun a_141 n_142 c_143 =>
 consC l_140 fun v_144 l_145 =>
 asIntC .i64 v_144 fun x_146 =>
 endC l_145 <|
 runC (run 16 [(.slice a_141 n_142 c_143), (.slice a_130 n_131 c_132)] h_137) fun v_147 h_148 =>
 tupC v_147 fun l_149 =>
 consC l_149 fun v_150 l_151 =>
 asSliceC v_150 fun a_152 n_153 c_154 =>
 consC l_151 fun v_155 l_156 =>
 asIntC .i64 v_155 fun x_157 =>
 endC l_156 <|
(bif b_3 then
(bif (decide (x_124 = 0)) then
(bif (decide (x_135 = 0)) then
(bif (decide (x_146 = 0)) then
(bif (decide (x_157 = 0)) then
 runC (run 18 [(.slice a_119 n_120 c_121), (.slice a_152 n_153 c_154)] h_148) fun v_158 h_159 =>
 asBoolC v_158 fun b_160 =>
 some ((.bool b_160), h_159)
else
 some ((.bool false), h_148))
else
 some ((.bool false), h_148))
else
 some ((.bool false), h_148))
else
 some ((.bool false), h_148))
else
 some ((.bool false), h_148)))))))))))))))))) :=
  (arun_eq Try.prog hint Try.func4 (c := bodyOf Try.f4) rfl rfl _ _).trans (by kernel_rfl)
theorem eq5 (p0a : Option Addr) (p0n p0c : Nat) (q1a : Option Addr) (q1n q1c : Nat) (l2a : Option Addr) (l2n l2c : Nat) (n3 : Int) (h : Hp) : run 5 [(.slice p0a p0n p0c), (.slice q1a q1n q1c), (.slice l2a l2n l2c), (.int .i64 n3)] h =
 runC (run 11 [] h) fun v_1 h_2 =>
 asBoolC v_1 fun b_3 =>
 lt (h_2.alloc [(.slice p0a p0n p0c), (.slice q1a q1n q1c), (.slice l2a l2n l2c)] 1 []) fun h_4 =>
 runC (run 12 [(.slice (some ⟨h_2.next, 0, none⟩) 3 0)] h_4) fun v_5 h_6 =>
 asBoolC v_5 fun b_7 =>
(bif (!b_7) then
 some ((.bool b_3), h_6)
else
 srcC h_6 1 p0n (.slice p0a p0n p0c) fun vs_8 =>
 growT h_6 1 8 none 0 0 p0n vs_8 fun a_9 n_10 c_11 h_12 =>
 runC (run 17 [(.int .i64 n3)] h_12) fun v_13 h_14 =>
 tupC v_13 fun l_15 =>
 consC l_15 fun v_16 l_17 =>
 asSliceC v_16 fun a_18 n_19 c_20 =>
 consC l_17 fun v_21 l_22 =>
 asIntC .i64 v_21 fun x_23 =>
 endC l_22 <|
 runC (run 20 [(.int .i64 n3)] h_14) fun v_24 h_25 =>
 tupC v_24 fun l_26 =>
 consC l_26 fun v_27 l_28 =>
 asSliceC v_27 fun a_29 n_30 c_31 =>
 consC l_28 fun v_32 l_33 =>
 asIntC .i64 v_32 fun x_34 =>
 endC l_33 <|
 runC (run 19 [(.slice p0a p0n p0c)] h_25) fun v_35 h_36 =>
 tupC v_35 fun l_37 =>
 consC l_37 fun v_38 l_39 =>
 asSliceC v_38 fun a_40 n_41 c_42 =>
 consC l_39 fun v_43 l_44 =>
 asIntC .i64 v_43 fun x_45 =>
 endC l_44 <|
 runC (run 21 [(.slice p0a p0n p0c)] h_36) fun v_46 h_47 =>
 tupC v_46 fun l_48 =>
 consC l_48 fun v_49 l_50 =>
 asSliceC v_49 fun a_51 n_52 c_53 =>
 consC l_50 fun v_54 l_55 =>
 asIntC .i64 v_54 fun x_56 =>
 endC l_55 <|
 runC (run 16 [(.slice p0a p0n p0c), (.slice q1a q1n q1c)] h_47) fun v_57 h_58 =>
 tupC v_57 fun l_59 =>
 consC l_59 fun v_60 l_61 =>
 asSliceC v_60 fun a_62 n_63 c_64 =>
 consC l_61 fun v_65 l_66 =>
 asIntC .i64 v_65 fun x_67 =>
 endC l_66 <|
 runC (run 22 [(.slice p0a p0n p0c), (.slice q1a q1n q1c)] h_58) fun v_68 h_69 =>
 tupC v_68 fun l_70 =>
 consC l_70 fun v_71 l_72 =>
 asSliceC v_71 fun a_73 n_74 c_75 =>
 consC l_72 fun v_76 l_77 =>
 asIntC .i64 v_76 fun x_78 =>
 endC l_77 <|
 runC (run 23 [(.slice l2a l2n l2c), (.slice p0a p0n p0c)] h_69) fun v_79 h_80 =>
 tupC v_79 fun l_81 =>
 consC l_81 fun v_82 l_83 =>
 asSliceC v_82 fun a_84 n_85 c_86 =>
 consC l_83 fun v_87 l_88 =>
 asIntC .i64 v_87 fun x_89 =>
 endC l_88 <|
 runC (run 24 [(.slice l2a l2n l2c), (.slice p0a p0n p0c)] h_80) fun v_90 h_91 =>
 tupC v_90 fun l_92 =>
 consC l_92 fun v_93 l_94 =>
 asSliceC v_93 fun a_95 n_96 c_97 =>
 consC l_94 fun v_98 l_99 =>
 asIntC .i64 v_98 fun x_100 =>
 endC l_99 <|
 runC (run 18 [(.slice a_18 n_19 c_20), (.slice a_29 n_30 c_31)] h_91) fun v_101 h_102 =>
 asBoolC v_101 fun b_103 =>
(bif (!b_103) then
 some ((.bool false), h_102)
else
(bif (!decide (x_23 = x_34)) then
 some ((.bool false), h_102)
else
 runC (run 18 [(.slice a_40 n_41 c_42), (.slice a_51 n_52 c_53)] h_102) fun v_104 h_105 =>
 asBoolC v_104 fun b_106 =>
(bif (!b_106) then
 some ((.bool false), h_105)
else
(bif (!decide (x_45 = x_56)) then
 some ((.bool false), h_105)
else
 runC (run 18 [(.slice a_62 n_63 c_64), (.slice a_73 n_74 c_75)] h_105) fun v_107 h_108 =>
 asBoolC v_107 fun b_109 =>
(bif (!b_109) then
 some ((.bool false), h_108)
else
(bif (!decide (x_67 = x_78)) then
 some ((.bool false), h_108)
else
 runC (run 18 [(.slice a_84 n_85 c_86), (.slice a_95 n_96 c_97)] h_108) fun v_110 h_111 =>
 asBoolC v_110 fun b_112 =>
(bif (!b_112) then
 some ((.bool false), h_111)
else
(bif (!decide (x_89 = x_100)) then
 some ((.bool false), h_111)
else
 runC (run 13 [(.slice p0a p0n p0c)] h_111) fun v_113 h_114 =>
 asIntC .i64 v_113 fun x_115 =>
 runC (run 25 [(.slice p0a p0n p0c)] h_114) fun v_116 h_117 =>
 asIntC .i64 v_116 fun x_118 =>
(bif (!decide (x_115 = x_118)) then
 some ((.bool false), h_117)
else
 lt (h_117.alloc [(.slice a_40 n_41 c_42), (.slice a_62 n_63 c_64), (.slice a_84 n_85 c_86)] 1 []) fun h_119 =>
 L5_16 (p0a) (p0n) (p0c) (b_3) (a_9) (n_10) (c_11) ((some ⟨h_117.next, 0, none⟩)) (3) (0) ((3 : Int)) (0) h_119)))))))))) :=
  (arun_eq Try.prog hint Try.func5 (c := bodyOf Try.f5) rfl rfl _ _).trans (by kernel_rfl)
theorem L5_16_eq (p0a : Option Addr) (p0n p0c : Nat) (up9 : Bool) (was10a : Option Addr) (was10n was10c : Nat) (t136a : Option Addr) (t136n t136c : Nat) (t137 : Int) (t138 : Int) (h : Hp) : L5_16 p0a p0n p0c up9 was10a was10n was10c t136a t136n t136c t137 t138 h =
(bif (decide (t138 < t137)) then
 atC t136a t136n 1 t138 fun d_1 =>
 ldSl h d_1 fun a_2 n_3 c_4 =>
 L5_19 (p0a) (p0n) (p0c) (up9) (was10a) (was10n) (was10c) (a_2) (n_3) (c_4) (t136a) (t136n) (t136c) (t137) (t138) ((n_3 : Int)) (0) h
else
(bif up9 then
 runC (run 18 [(.slice p0a p0n p0c), (.slice was10a was10n was10c)] h) fun v_5 h_6 =>
 asBoolC v_5 fun b_7 =>
 some ((.bool b_7), h_6)
else
 some ((.bool false), h))) :=
  (atP_loop Try.prog hint (b := nav [.snd, .snd, .snd, .snd, .snd, .snd, .snd, .snd, .snd, .snd, .snd, .snd, .snd, .fst, .snd, .blk, .lp] (bodyOf Try.f5)) rfl).trans (by kernel_rfl)
theorem L5_19_eq (p0a : Option Addr) (p0n p0c : Nat) (up9 : Bool) (was10a : Option Addr) (was10n was10c : Nat) (z28a : Option Addr) (z28n z28c : Nat) (t136a : Option Addr) (t136n t136c : Nat) (t137 : Int) (t138 : Int) (t143 : Int) (t144 : Int) (h : Hp) : L5_19 p0a p0n p0c up9 was10a was10n was10c z28a z28n z28c t136a t136n t136c t137 t138 t143 t144 h =
(bif (decide (t144 < t143)) then
 atC z28a z28n 1 t144 fun d_1 =>
 ldI h .i64 d_1 fun x_2 =>
 atC z28a z28n 1 t144 fun d_3 =>
 h.stC d_3 [(.int .i64 (IntKind.i64.wrap (x_2 + 1)))] fun h_4 =>
 L5_19 (p0a) (p0n) (p0c) (up9) (was10a) (was10n) (was10c) (z28a) (z28n) (z28c) (t136a) (t136n) (t136c) (t137) (t138) (t143) ((IntKind.i64.wrap (t144 + 1))) h_4
else
 L5_16 (p0a) (p0n) (p0c) (up9) (was10a) (was10n) (was10c) (t136a) (t136n) (t136c) (t137) ((IntKind.i64.wrap (t138 + 1))) h) :=
  (atP_loop Try.prog hint (b := nav [.snd, .snd, .snd, .snd, .snd, .snd, .snd, .snd, .snd, .snd, .snd, .snd, .snd, .fst, .snd, .blk, .lp, .snd, .snd, .fst, .blk, .snd, .snd, .blk, .lp] (bodyOf Try.f5)) rfl).trans (by kernel_rfl)
theorem eq6 (p0a : Option Addr) (p0n p0c : Nat) (l1a : Option Addr) (l1n l1c : Nat) (h : Hp) : run 6 [(.slice p0a p0n p0c), (.slice l1a l1n l1c)] h =
 runC (run 11 [] h) fun v_1 h_2 =>
 asBoolC v_1 fun b_3 =>
 lt (h_2.alloc [(.slice p0a p0n p0c), (.slice l1a l1n l1c)] 1 []) fun h_4 =>
 runC (run 12 [(.slice (some ⟨h_2.next, 0, none⟩) 2 0)] h_4) fun v_5 h_6 =>
 asBoolC v_5 fun b_7 =>
(bif (!b_7) then
 some ((.bool b_3), h_6)
else
 runC (run 13 [(.slice p0a p0n p0c)] h_6) fun v_8 h_9 =>
 asIntC .i64 v_8 fun x_10 =>
(bif (!decide (x_10 = 0)) then
 some ((.bool b_3), h_9)
else
 runC (run 19 [(.slice p0a p0n p0c)] h_9) fun v_11 h_12 =>
 tupC v_11 fun l_13 =>
 consC l_13 fun v_14 l_15 =>
 asSliceC v_14 fun a_16 n_17 c_18 =>
 consC l_15 fun v_19 l_20 =>
 asIntC .i64 v_19 fun x_21 =>
 endC l_20 <|
 runC (run 17 [(.int .i64 (p0n : Int))] h_12) fun v_22 h_23 =>
 tupC v_22 fun l_24 =>
 consC l_24 fun v_25 l_26 =>
 asSliceC v_25 fun a_27 n_28 c_29 =>
 consC l_26 fun v_30 l_31 =>
 asIntC .i64 v_30 fun x_32 =>
 endC l_31 <|
 runC (run 16 [(.slice p0a p0n p0c), (.slice a_16 n_17 c_18)] h_23) fun v_33 h_34 =>
 tupC v_33 fun l_35 =>
 consC l_35 fun v_36 l_37 =>
 asSliceC v_36 fun a_38 n_39 c_40 =>
 consC l_37 fun v_41 l_42 =>
 asIntC .i64 v_41 fun x_43 =>
 endC l_42 <|
 runC (run 16 [(.slice a_16 n_17 c_18), (.slice p0a p0n p0c)] h_34) fun v_44 h_45 =>
 tupC v_44 fun l_46 =>
 consC l_46 fun v_47 l_48 =>
 asSliceC v_47 fun a_49 n_50 c_51 =>
 consC l_48 fun v_52 l_53 =>
 asIntC .i64 v_52 fun x_54 =>
 endC l_53 <|
 runC (run 19 [(.slice a_16 n_17 c_18)] h_45) fun v_55 h_56 =>
 tupC v_55 fun l_57 =>
 consC l_57 fun v_58 l_59 =>
 asSliceC v_58 fun a_60 n_61 c_62 =>
 consC l_59 fun v_63 l_64 =>
 asIntC .i64 v_63 fun x_65 =>
 endC l_64 <|
(bif (!decide (x_21 = 0)) then
 some ((.bool false), h_56)
else
(bif (!decide (x_32 = 0)) then
 some ((.bool false), h_56)
else
(bif (!decide (x_43 = 0)) then
 some ((.bool false), h_56)
else
(bif (!decide (x_54 = 0)) then
 some ((.bool false), h_56)
else
(bif (!decide (x_65 = 0)) then
 some ((.bool false), h_56)
else
 runC (run 18 [(.slice a_38 n_39 c_40), (.slice a_27 n_28 c_29)] h_56) fun v_66 h_67 =>
 asBoolC v_66 fun b_68 =>
(bif (!b_68) then
 some ((.bool false), h_67)
else
 runC (run 18 [(.slice a_49 n_50 c_51), (.slice a_27 n_28 c_29)] h_67) fun v_69 h_70 =>
 asBoolC v_69 fun b_71 =>
(bif (!b_71) then
 some ((.bool false), h_70)
else
 runC (run 18 [(.slice a_60 n_61 c_62), (.slice p0a p0n p0c)] h_70) fun v_72 h_73 =>
 asBoolC v_72 fun b_74 =>
(bif (!b_74) then
 some ((.bool false), h_73)
else
(bif (!decide ((l1n : Int) = (p0n : Int))) then
 runC (run 23 [(.slice l1a l1n l1c), (.slice p0a p0n p0c)] h_73) fun v_75 h_76 =>
 tupC v_75 fun l_77 =>
 consC l_77 fun v_78 l_79 =>
 asSliceC v_78 fun a_80 n_81 c_82 =>
 consC l_79 fun v_83 l_84 =>
 asIntC .i64 v_83 fun x_85 =>
 endC l_84 <|
(bif b_3 then
 some ((.bool (decide (x_85 = 4))), h_76)
else
 some ((.bool false), h_76))
else
 runC (run 23 [(.slice l1a l1n l1c), (.slice p0a p0n p0c)] h_73) fun v_86 h_87 =>
 tupC v_86 fun l_88 =>
 consC l_88 fun v_89 l_90 =>
 asSliceC v_89 fun a_91 n_92 c_93 =>
 consC l_90 fun v_94 l_95 =>
 asIntC .i64 v_94 fun x_96 =>
 endC l_95 <|
 runC (run 23 [(.slice a_91 n_92 c_93), (.slice a_16 n_17 c_18)] h_87) fun v_97 h_98 =>
 tupC v_97 fun l_99 =>
 consC l_99 fun v_100 l_101 =>
 asSliceC v_100 fun a_102 n_103 c_104 =>
 consC l_101 fun v_105 l_106 =>
 asIntC .i64 v_105 fun x_107 =>
 endC l_106 <|
(bif b_3 then
(bif (decide (x_96 = 0)) then
(bif (decide (x_107 = 0)) then
 runC (run 18 [(.slice a_102 n_103 c_104), (.slice l1a l1n l1c)] h_98) fun v_108 h_109 =>
 asBoolC v_108 fun b_110 =>
 some ((.bool b_110), h_109)
else
 some ((.bool false), h_98))
else
 some ((.bool false), h_98))
else
 some ((.bool false), h_98))))))))))))) :=
  (arun_eq Try.prog hint Try.func6 (c := bodyOf Try.f6) rfl rfl _ _).trans (by kernel_rfl)
theorem eq7 (n0 : Int) (k1 : Int) (h : Hp) : run 7 [(.int .i64 n0), (.int .i64 k1)] h =
 runC (run 11 [] h) fun v_1 h_2 =>
 asBoolC v_1 fun b_3 =>
 runC (run 26 [(.int .i64 (Int.tmod (IntKind.i64.wrap ((Int.tmod n0 13) + 13)) 13)), (.int .i64 k1)] h_2) fun v_4 h_5 =>
 tupC v_4 fun l_6 =>
 consC l_6 fun v_7 l_8 =>
 asSliceC v_7 fun a_9 n_10 c_11 =>
 consC l_8 fun v_12 l_13 =>
 asIntC .i64 v_12 fun x_14 =>
 endC l_13 <|
(bif (!decide (x_14 = 0)) then
(bif b_3 then
(bif (decide (x_14 = 3)) then
 some ((.bool (decide ((n_10 : Int) = 0))), h_5)
else
 some ((.bool false), h_5))
else
 some ((.bool false), h_5))
else
 runC (run 27 [(.slice a_9 n_10 c_11)] h_5) fun v_15 h_16 =>
 tupC v_15 fun l_17 =>
 consC l_17 fun v_18 l_19 =>
 asIntC .i64 v_18 fun x_20 =>
 consC l_19 fun v_21 l_22 =>
 asIntC .i64 v_21 fun x_23 =>
 endC l_22 <|
 runC (run 28 [(.slice a_9 n_10 c_11)] h_16) fun v_24 h_25 =>
 tupC v_24 fun l_26 =>
 consC l_26 fun v_27 l_28 =>
 asSliceC v_27 fun a_29 n_30 c_31 =>
 consC l_28 fun v_32 l_33 =>
 asBoolC v_32 fun b_34 =>
 consC l_33 fun v_35 l_36 =>
 asIntC .i64 v_35 fun x_37 =>
 endC l_36 <|
(bif (!decide (x_23 = 0)) then
 some ((.bool false), h_25)
else
(bif (!decide (x_37 = 0)) then
 some ((.bool false), h_25)
else
(bif (!decide (x_20 = k1)) then
 some ((.bool false), h_25)
else
(bif (!decide ((n_10 : Int) = (Int.tmod (IntKind.i64.wrap ((Int.tmod n0 13) + 13)) 13))) then
 some ((.bool false), h_25)
else
 runC (run 13 [(.slice a_9 n_10 c_11)] h_25) fun v_38 h_39 =>
 asIntC .i64 v_38 fun x_40 =>
(bif (!decide (x_40 = 0)) then
 some ((.bool false), h_39)
else
(bif (!b_34) then
 runC (run 26 [(.int .i64 (Int.tmod (IntKind.i64.wrap ((Int.tmod n0 13) + 13)) 13)), (.int .i64 (IntKind.i64.wrap (k1 + 1)))] h_39) fun v_41 h_42 =>
 tupC v_41 fun l_43 =>
 consC l_43 fun v_44 l_45 =>
 asSliceC v_44 fun a_46 n_47 c_48 =>
 consC l_45 fun v_49 l_50 =>
 asIntC .i64 v_49 fun x_51 =>
 endC l_50 <|
(bif b_3 then
(bif (decide (x_51 = 3)) then
 runC (run 18 [(.slice a_9 n_10 c_11), (.slice a_29 n_30 c_31)] h_42) fun v_52 h_53 =>
 asBoolC v_52 fun b_54 =>
 some ((.bool b_54), h_53)
else
 some ((.bool false), h_42))
else
 some ((.bool false), h_42))
else
 runC (run 27 [(.slice a_29 n_30 c_31)] h_39) fun v_55 h_56 =>
 tupC v_55 fun l_57 =>
 consC l_57 fun v_58 l_59 =>
 asIntC .i64 v_58 fun x_60 =>
 consC l_59 fun v_61 l_62 =>
 asIntC .i64 v_61 fun x_63 =>
 endC l_62 <|
(bif b_3 then
(bif (decide (x_63 = 0)) then
 some ((.bool (decide (x_60 = (IntKind.i64.wrap (k1 + 1))))), h_56)
else
 some ((.bool false), h_56))
else
 some ((.bool false), h_56))))))))) :=
  (arun_eq Try.prog hint Try.func7 (c := bodyOf Try.f7) rfl rfl _ _).trans (by kernel_rfl)
theorem eq8 (p0a : Option Addr) (p0n p0c : Nat) (q1a : Option Addr) (q1n q1c : Nat) (i2 : Int) (k3 : Int) (h : Hp) : run 8 [(.slice p0a p0n p0c), (.slice q1a q1n q1c), (.int .i64 i2), (.int .i64 k3)] h =
 runC (run 11 [] h) fun v_1 h_2 =>
 asBoolC v_1 fun b_3 =>
 lt (h_2.alloc [(.slice p0a p0n p0c), (.slice q1a q1n q1c)] 1 []) fun h_4 =>
 runC (run 12 [(.slice (some ⟨h_2.next, 0, none⟩) 2 0)] h_4) fun v_5 h_6 =>
 asBoolC v_5 fun b_7 =>
(bif (!b_7) then
 some ((.bool b_3), h_6)
else
 runC (run 13 [(.slice p0a p0n p0c)] h_6) fun v_8 h_9 =>
 asIntC .i64 v_8 fun x_10 =>
(bif (!decide (x_10 = 0)) then
 some ((.bool b_3), h_9)
else
 runC (run 13 [(.slice q1a q1n q1c)] h_9) fun v_11 h_12 =>
 asIntC .i64 v_11 fun x_13 =>
(bif (!decide (x_13 = 0)) then
 some ((.bool b_3), h_12)
else
(bif (!decide ((p0n : Int) = (q1n : Int))) then
 some ((.bool b_3), h_12)
else
 runC (run 15 [(.slice p0a p0n p0c)] h_12) fun v_14 h_15 =>
 tupC v_14 fun l_16 =>
 consC l_16 fun v_17 l_18 =>
 asBoolC v_17 fun b_19 =>
 consC l_18 fun v_20 l_21 =>
 asIntC .i64 v_20 fun x_22 =>
 endC l_21 <|
 runC (run 15 [(.slice q1a q1n q1c)] h_15) fun v_23 h_24 =>
 tupC v_23 fun l_25 =>
 consC l_25 fun v_26 l_27 =>
 asBoolC v_26 fun b_28 =>
 consC l_27 fun v_29 l_30 =>
 asIntC .i64 v_29 fun x_31 =>
 endC l_30 <|
 runC (run 16 [(.slice p0a p0n p0c), (.slice q1a q1n q1c)] h_24) fun v_32 h_33 =>
 tupC v_32 fun l_34 =>
 consC l_34 fun v_35 l_36 =>
 asSliceC v_35 fun a_37 n_38 c_39 =>
 consC l_36 fun v_40 l_41 =>
 asIntC .i64 v_40 fun x_42 =>
 endC l_41 <|
 runC (run 15 [(.slice a_37 n_38 c_39)] h_33) fun v_43 h_44 =>
 tupC v_43 fun l_45 =>
 consC l_45 fun v_46 l_47 =>
 asBoolC v_46 fun b_48 =>
 consC l_47 fun v_49 l_50 =>
 asIntC .i64 v_49 fun x_51 =>
 endC l_50 <|
 runC (run 19 [(.slice p0a p0n p0c)] h_44) fun v_52 h_53 =>
 tupC v_52 fun l_54 =>
 consC l_54 fun v_55 l_56 =>
 asSliceC v_55 fun a_57 n_58 c_59 =>
 consC l_56 fun v_60 l_61 =>
 asIntC .i64 v_60 fun x_62 =>
 endC l_61 <|
 runC (run 15 [(.slice a_57 n_58 c_59)] h_53) fun v_63 h_64 =>
 tupC v_63 fun l_65 =>
 consC l_65 fun v_66 l_67 =>
 asBoolC v_66 fun b_68 =>
 consC l_67 fun v_69 l_70 =>
 asIntC .i64 v_69 fun x_71 =>
 endC l_70 <|
(bif (!decide (x_22 = 0)) then
 some ((.bool false), h_64)
else
(bif (!decide (x_31 = 0)) then
 some ((.bool false), h_64)
else
(bif (!decide (x_42 = 0)) then
 some ((.bool false), h_64)
else
(bif (!decide (x_51 = 0)) then
 some ((.bool false), h_64)
else
(bif (!decide (x_62 = 0)) then
 some ((.bool false), h_64)
else
(bif (!decide (x_71 = 0)) then
 some ((.bool false), h_64)
else
(bif (!(b_48 == (!(b_19 == b_28)))) then
 some ((.bool false), h_64)
else
(bif (!(b_68 == b_19)) then
 some ((.bool false), h_64)
else
(bif (decide ((p0n : Int) < 2)) then
(bif b_3 then
 some ((.bool (!b_19)), h_64)
else
 some ((.bool false), h_64))
else
 needC (!decide ((p0n : Int) = 0)) fun _ =>
 needC (!decide ((p0n : Int) = 0)) fun _ =>
 needC (!decide ((p0n : Int) = 0)) fun _ =>
 needC (!decide ((p0n : Int) = 0)) fun _ =>
(bif (decide ((Int.tmod (IntKind.i64.wrap ((Int.tmod i2 (p0n : Int)) + (p0n : Int))) (p0n : Int)) = (Int.tmod (IntKind.i64.wrap ((Int.tmod k3 (p0n : Int)) + (p0n : Int))) (p0n : Int)))) then
 some ((.bool b_3), h_64)
else
 srcC h_64 1 p0n (.slice p0a p0n p0c) fun vs_72 =>
 growT h_64 1 8 none 0 0 p0n vs_72 fun a_73 n_74 c_75 h_76 =>
 atC a_73 n_74 1 (Int.tmod (IntKind.i64.wrap ((Int.tmod k3 (p0n : Int)) + (p0n : Int))) (p0n : Int)) fun d_77 =>
 ldI h_76 .i64 d_77 fun x_78 =>
 atC a_73 n_74 1 (Int.tmod (IntKind.i64.wrap ((Int.tmod i2 (p0n : Int)) + (p0n : Int))) (p0n : Int)) fun d_79 =>
 ldI h_76 .i64 d_79 fun x_80 =>
 atC a_73 n_74 1 (Int.tmod (IntKind.i64.wrap ((Int.tmod i2 (p0n : Int)) + (p0n : Int))) (p0n : Int)) fun d_81 =>
 h_76.stC d_81 [(.int .i64 x_78)] fun h_82 =>
 atC a_73 n_74 1 (Int.tmod (IntKind.i64.wrap ((Int.tmod k3 (p0n : Int)) + (p0n : Int))) (p0n : Int)) fun d_83 =>
 h_82.stC d_83 [(.int .i64 x_80)] fun h_84 =>
 runC (run 15 [(.slice a_73 n_74 c_75)] h_84) fun v_85 h_86 =>
 tupC v_85 fun l_87 =>
 consC l_87 fun v_88 l_89 =>
 asBoolC v_88 fun b_90 =>
 consC l_89 fun v_91 l_92 =>
 asIntC .i64 v_91 fun x_93 =>
 endC l_92 <|
(bif b_3 then
(bif (decide (x_93 = 0)) then
 some ((.bool (!(b_90 == b_19))), h_86)
else
 some ((.bool false), h_86))
else
 some ((.bool false), h_86)))))))))))))))) :=
  (arun_eq Try.prog hint Try.func8 (c := bodyOf Try.f8) rfl rfl _ _).trans (by kernel_rfl)
theorem eq9 (p0a : Option Addr) (p0n p0c : Nat) (n1 : Int) (k2 : Int) (h : Hp) : run 9 [(.slice p0a p0n p0c), (.int .i64 n1), (.int .i64 k2)] h =
 runC (run 11 [] h) fun v_1 h_2 =>
 asBoolC v_1 fun b_3 =>
 lt (h_2.alloc [(.slice p0a p0n p0c)] 1 []) fun h_4 =>
 runC (run 12 [(.slice (some ⟨h_2.next, 0, none⟩) 1 0)] h_4) fun v_5 h_6 =>
 asBoolC v_5 fun b_7 =>
(bif (!b_7) then
 some ((.bool b_3), h_6)
else
 srcC h_6 1 p0n (.slice p0a p0n p0c) fun vs_8 =>
 growT h_6 1 8 none 0 0 p0n vs_8 fun a_9 n_10 c_11 h_12 =>
 runC (run 27 [(.slice p0a p0n p0c)] h_12) fun v_13 h_14 =>
 tupC v_13 fun l_15 =>
 consC l_15 fun v_16 l_17 =>
 asIntC .i64 v_16 fun x_18 =>
 consC l_17 fun v_19 l_20 =>
 asIntC .i64 v_19 fun x_21 =>
 endC l_20 <|
 runC (run 29 [(.slice p0a p0n p0c)] h_14) fun v_22 h_23 =>
 tupC v_22 fun l_24 =>
 consC l_24 fun v_25 l_26 =>
 asIntC .i64 v_25 fun x_27 =>
 consC l_26 fun v_28 l_29 =>
 asIntC .i64 v_28 fun x_30 =>
 endC l_29 <|
 runC (run 26 [(.int .i64 n1), (.int .i64 k2)] h_23) fun v_31 h_32 =>
 tupC v_31 fun l_33 =>
 consC l_33 fun v_34 l_35 =>
 asSliceC v_34 fun a_36 n_37 c_38 =>
 consC l_35 fun v_39 l_40 =>
 asIntC .i64 v_39 fun x_41 =>
 endC l_40 <|
 runC (run 30 [(.int .i64 n1), (.int .i64 k2)] h_32) fun v_42 h_43 =>
 tupC v_42 fun l_44 =>
 consC l_44 fun v_45 l_46 =>
 asSliceC v_45 fun a_47 n_48 c_49 =>
 consC l_46 fun v_50 l_51 =>
 asIntC .i64 v_50 fun x_52 =>
 endC l_51 <|
 runC (run 28 [(.slice p0a p0n p0c)] h_43) fun v_53 h_54 =>
 tupC v_53 fun l_55 =>
 consC l_55 fun v_56 l_57 =>
 asSliceC v_56 fun a_58 n_59 c_60 =>
 consC l_57 fun v_61 l_62 =>
 asBoolC v_61 fun b_63 =>
 consC l_62 fun v_64 l_65 =>
 asIntC .i64 v_64 fun x_66 =>
 endC l_65 <|
 runC (run 31 [(.slice p0a p0n p0c)] h_54) fun v_67 h_68 =>
 tupC v_67 fun l_69 =>
 consC l_69 fun v_70 l_71 =>
 asSliceC v_70 fun a_72 n_73 c_74 =>
 consC l_71 fun v_75 l_76 =>
 asBoolC v_75 fun b_77 =>
 consC l_76 fun v_78 l_79 =>
 asIntC .i64 v_78 fun x_80 =>
 endC l_79 <|
 runC (run 14 [(.slice p0a p0n p0c)] h_68) fun v_81 h_82 =>
 tupC v_81 fun l_83 =>
 consC l_83 fun v_84 l_85 =>
 asSliceC v_84 fun a_86 n_87 c_88 =>
 consC l_85 fun v_89 l_90 =>
 asIntC .i64 v_89 fun x_91 =>
 endC l_90 <|
 runC (run 32 [(.slice p0a p0n p0c)] h_82) fun v_92 h_93 =>
 tupC v_92 fun l_94 =>
 consC l_94 fun v_95 l_96 =>
 asSliceC v_95 fun a_97 n_98 c_99 =>
 consC l_96 fun v_100 l_101 =>
 asIntC .i64 v_100 fun x_102 =>
 endC l_101 <|
 runC (run 15 [(.slice p0a p0n p0c)] h_93) fun v_103 h_104 =>
 tupC v_103 fun l_105 =>
 consC l_105 fun v_106 l_107 =>
 asBoolC v_106 fun b_108 =>
 consC l_107 fun v_109 l_110 =>
 asIntC .i64 v_109 fun x_111 =>
 endC l_110 <|
 runC (run 33 [(.slice p0a p0n p0c)] h_104) fun v_112 h_113 =>
 tupC v_112 fun l_114 =>
 consC l_114 fun v_115 l_116 =>
 asBoolC v_115 fun b_117 =>
 consC l_116 fun v_118 l_119 =>
 asIntC .i64 v_118 fun x_120 =>
 endC l_119 <|
(bif (!decide (x_18 = x_27)) then
 some ((.bool false), h_113)
else
(bif (!decide (x_21 = x_30)) then
 some ((.bool false), h_113)
else
 runC (run 18 [(.slice a_36 n_37 c_38), (.slice a_47 n_48 c_49)] h_113) fun v_121 h_122 =>
 asBoolC v_121 fun b_123 =>
(bif (!b_123) then
 some ((.bool false), h_122)
else
(bif (!decide (x_41 = x_52)) then
 some ((.bool false), h_122)
else
 runC (run 18 [(.slice a_58 n_59 c_60), (.slice a_72 n_73 c_74)] h_122) fun v_124 h_125 =>
 asBoolC v_124 fun b_126 =>
(bif (!b_126) then
 some ((.bool false), h_125)
else
(bif (!(b_63 == b_77)) then
 some ((.bool false), h_125)
else
(bif (!decide (x_66 = x_80)) then
 some ((.bool false), h_125)
else
 runC (run 34 [(.slice a_86 n_87 c_88), (.slice a_97 n_98 c_99)] h_125) fun v_127 h_128 =>
 asBoolC v_127 fun b_129 =>
(bif (!b_129) then
 some ((.bool false), h_128)
else
(bif (!decide (x_91 = x_102)) then
 some ((.bool false), h_128)
else
(bif (!(b_108 == b_117)) then
 some ((.bool false), h_128)
else
(bif (!decide (x_111 = x_120)) then
 some ((.bool false), h_128)
else
 L9_18 (p0a) (p0n) (p0c) (b_3) (a_9) (n_10) (c_11) (a_58) (n_59) (c_60) ((n_59 : Int)) (0) h_128)))))))))))) :=
  (arun_eq Try.prog hint Try.func9 (c := bodyOf Try.f9) rfl rfl _ _).trans (by kernel_rfl)
theorem L9_18_eq (p0a : Option Addr) (p0n p0c : Nat) (up7 : Bool) (was8a : Option Addr) (was8n was8c : Nat) (x17a : Option Addr) (x17n x17c : Nat) (t151 : Int) (t152 : Int) (h : Hp) : L9_18 p0a p0n p0c up7 was8a was8n was8c x17a x17n x17c t151 t152 h =
(bif (decide (t152 < t151)) then
 atC x17a x17n 1 t152 fun d_1 =>
 ldI h .i64 d_1 fun x_2 =>
 atC x17a x17n 1 t152 fun d_3 =>
 h.stC d_3 [(.int .i64 (IntKind.i64.wrap (x_2 + 1)))] fun h_4 =>
 L9_18 (p0a) (p0n) (p0c) (up7) (was8a) (was8n) (was8c) (x17a) (x17n) (x17c) (t151) ((IntKind.i64.wrap (t152 + 1))) h_4
else
(bif up7 then
 runC (run 18 [(.slice p0a p0n p0c), (.slice was8a was8n was8c)] h) fun v_5 h_6 =>
 asBoolC v_5 fun b_7 =>
 some ((.bool b_7), h_6)
else
 some ((.bool false), h))) :=
  (atP_loop Try.prog hint (b := nav [.snd, .snd, .snd, .snd, .snd, .snd, .snd, .snd, .snd, .snd, .snd, .snd, .snd, .snd, .snd, .fst, .snd, .blk, .lp] (bodyOf Try.f9)) rfl).trans (by kernel_rfl)
theorem eq10 (n0 : Int) (h : Hp) : run 10 [(.int .i64 n0)] h =
 runC (run 11 [] h) fun v_1 h_2 =>
 asBoolC v_1 fun b_3 =>
 runC (run 17 [(.int .i64 (Int.tmod (IntKind.i64.wrap ((Int.tmod n0 13) + 13)) 13))] h_2) fun v_4 h_5 =>
 tupC v_4 fun l_6 =>
 consC l_6 fun v_7 l_8 =>
 asSliceC v_7 fun a_9 n_10 c_11 =>
 consC l_8 fun v_12 l_13 =>
 asIntC .i64 v_12 fun x_14 =>
 endC l_13 <|
 runC (run 27 [(.slice a_9 n_10 c_11)] h_5) fun v_15 h_16 =>
 tupC v_15 fun l_17 =>
 consC l_17 fun v_18 l_19 =>
 asIntC .i64 v_18 fun x_20 =>
 consC l_19 fun v_21 l_22 =>
 asIntC .i64 v_21 fun x_23 =>
 endC l_22 <|
 runC (run 15 [(.slice a_9 n_10 c_11)] h_16) fun v_24 h_25 =>
 tupC v_24 fun l_26 =>
 consC l_26 fun v_27 l_28 =>
 asBoolC v_27 fun b_29 =>
 consC l_28 fun v_30 l_31 =>
 asIntC .i64 v_30 fun x_32 =>
 endC l_31 <|
 runC (run 14 [(.slice a_9 n_10 c_11)] h_25) fun v_33 h_34 =>
 tupC v_33 fun l_35 =>
 consC l_35 fun v_36 l_37 =>
 asSliceC v_36 fun a_38 n_39 c_40 =>
 consC l_37 fun v_41 l_42 =>
 asIntC .i64 v_41 fun x_43 =>
 endC l_42 <|
 runC (run 26 [(.int .i64 (Int.tmod (IntKind.i64.wrap ((Int.tmod n0 13) + 13)) 13)), (.int .i64 0)] h_34) fun v_44 h_45 =>
 tupC v_44 fun l_46 =>
 consC l_46 fun v_47 l_48 =>
 asSliceC v_47 fun a_49 n_50 c_51 =>
 consC l_48 fun v_52 l_53 =>
 asIntC .i64 v_52 fun x_54 =>
 endC l_53 <|
(bif (!decide (x_14 = 0)) then
 some ((.bool false), h_45)
else
(bif (!decide (x_23 = 0)) then
 some ((.bool false), h_45)
else
(bif (!decide (x_32 = 0)) then
 some ((.bool false), h_45)
else
(bif (!decide (x_43 = 0)) then
 some ((.bool false), h_45)
else
(bif (!decide (x_54 = 0)) then
 some ((.bool false), h_45)
else
(bif (!decide (x_20 = 0)) then
 some ((.bool false), h_45)
else
(bif b_29 then
 some ((.bool false), h_45)
else
(bif (!decide ((n_39 : Int) = (Int.tmod (IntKind.i64.wrap ((Int.tmod n0 13) + 13)) 13))) then
 some ((.bool false), h_45)
else
 runC (run 18 [(.slice a_49 n_50 c_51), (.slice a_9 n_10 c_11)] h_45) fun v_55 h_56 =>
 asBoolC v_55 fun b_57 =>
(bif (!b_57) then
 some ((.bool false), h_56)
else
 L10_11 ((Int.tmod (IntKind.i64.wrap ((Int.tmod n0 13) + 13)) 13)) (b_3) (a_38) (n_39) (c_40) ((n_39 : Int)) (0) h_56))))))))) :=
  (arun_eq Try.prog hint Try.func10 (c := bodyOf Try.f10) rfl rfl _ _).trans (by kernel_rfl)
theorem L10_11_eq (n0 : Int) (up3 : Bool) (t92a : Option Addr) (t92n t92c : Nat) (t93 : Int) (t94 : Int) (h : Hp) : L10_11 n0 up3 t92a t92n t92c t93 t94 h =
(bif (decide (t94 < t93)) then
 atC t92a t92n 1 t94 fun d_1 =>
 ldSl h d_1 fun a_2 n_3 c_4 =>
 lt (h.alloc [(.int .i64 t94)] 1 []) fun h_5 =>
 runC (run 18 [(.slice a_2 n_3 c_4), (.slice (some ⟨h.next, 0, none⟩) 1 0)] h_5) fun v_6 h_7 =>
 asBoolC v_6 fun b_8 =>
(bif (!b_8) then
 some ((.bool false), h_7)
else
 L10_11 (n0) (up3) (t92a) (t92n) (t92c) (t93) ((IntKind.i64.wrap (t94 + 1))) h_7)
else
 mkC h (.int .i64 0) 1 8 n0 n0 fun a_9 n_10 c_11 h_12 =>
 L10_18 (n0) (up3) (a_9) (n_10) (c_11) ((n_10 : Int)) (0) h_12) :=
  (atP_loop Try.prog hint (b := nav [.snd, .snd, .snd, .snd, .snd, .snd, .snd, .snd, .snd, .fst, .snd, .blk, .lp] (bodyOf Try.f10)) rfl).trans (by kernel_rfl)
theorem L10_18_eq (n0 : Int) (up3 : Bool) (last16a : Option Addr) (last16n last16c : Nat) (t108 : Int) (t109 : Int) (h : Hp) : L10_18 n0 up3 last16a last16n last16c t108 t109 h =
(bif (decide (t109 < t108)) then
 atC last16a last16n 1 t109 fun d_1 =>
 h.stC d_1 [(.int .i64 (IntKind.i64.wrap ((IntKind.i64.wrap (n0 - 1)) - t109)))] fun h_2 =>
 L10_18 (n0) (up3) (last16a) (last16n) (last16c) (t108) ((IntKind.i64.wrap (t109 + 1))) h_2
else
 runC (run 28 [(.slice last16a last16n last16c)] h) fun v_3 h_4 =>
 tupC v_3 fun l_5 =>
 consC l_5 fun v_6 l_7 =>
 asSliceC v_6 fun a_8 n_9 c_10 =>
 consC l_7 fun v_11 l_12 =>
 asBoolC v_11 fun b_13 =>
 consC l_12 fun v_14 l_15 =>
 asIntC .i64 v_14 fun x_16 =>
 endC l_15 <|
 runC (run 27 [(.slice last16a last16n last16c)] h_4) fun v_17 h_18 =>
 tupC v_17 fun l_19 =>
 consC l_19 fun v_20 l_21 =>
 asIntC .i64 v_20 fun x_22 =>
 consC l_21 fun v_23 l_24 =>
 asIntC .i64 v_23 fun x_25 =>
 endC l_24 <|
 runC (run 26 [(.int .i64 n0), (.int .i64 (IntKind.i64.wrap (x_22 + 1)))] h_18) fun v_26 h_27 =>
 tupC v_26 fun l_28 =>
 consC l_28 fun v_29 l_30 =>
 asSliceC v_29 fun a_31 n_32 c_33 =>
 consC l_30 fun v_34 l_35 =>
 asIntC .i64 v_34 fun x_36 =>
 endC l_35 <|
(bif up3 then
(bif (decide (x_16 = 0)) then
(bif (!b_13) then
 runC (run 18 [(.slice a_8 n_9 c_10), (.slice last16a last16n last16c)] h_27) fun v_37 h_38 =>
 asBoolC v_37 fun b_39 =>
(bif b_39 then
(bif (decide (x_25 = 0)) then
 some ((.bool (decide (x_36 = 3))), h_38)
else
 some ((.bool false), h_38))
else
 some ((.bool false), h_38))
else
 some ((.bool false), h_27))
else
 some ((.bool false), h_27))
else
 some ((.bool false), h_27))) :=
  (atP_loop Try.prog hint (b := nav [.snd, .snd, .snd, .snd, .snd, .snd, .snd, .snd, .snd, .snd, .snd, .fst, .snd, .blk, .lp] (bodyOf Try.f10)) rfl).trans (by kernel_rfl)
theorem eq11  (h : Hp) : run 11 [] h =
 runC (run 26 [(.int .i64 3), (.int .i64 3)] h) fun v_1 h_2 =>
 tupC v_1 fun l_3 =>
 consC l_3 fun v_4 l_5 =>
 asSliceC v_4 fun a_6 n_7 c_8 =>
 consC l_5 fun v_9 l_10 =>
 asIntC .i64 v_9 fun x_11 =>
 endC l_10 <|
 lt (h_2.alloc [(.int .i64 1), (.int .i64 0), (.int .i64 2)] 1 []) fun h_12 =>
 runC (run 14 [(.slice (some ⟨h_2.next, 0, none⟩) 3 0)] h_12) fun v_13 h_14 =>
 tupC v_13 fun l_15 =>
 consC l_15 fun v_16 l_17 =>
 asSliceC v_16 fun a_18 n_19 c_20 =>
 consC l_17 fun v_21 l_22 =>
 asIntC .i64 v_21 fun x_23 =>
 endC l_22 <|
 lt (h_14.alloc [(.int .i64 1), (.int .i64 2), (.int .i64 0)] 1 []) fun h_24 =>
 runC (run 18 [(.slice a_6 n_7 c_8), (.slice (some ⟨h_14.next, 0, none⟩) 3 0)] h_24) fun v_25 h_26 =>
 asBoolC v_25 fun b_27 =>
(bif b_27 then
(bif (decide (x_11 = 0)) then
 lt (h_26.alloc [(.int .i64 0), (.int .i64 1)] 1 []) fun h_28 =>
 lt (h_28.alloc [(.int .i64 2)] 1 []) fun h_29 =>
 lt (h_29.alloc [(.slice (some ⟨h_26.next, 0, none⟩) 2 0), (.slice (some ⟨h_28.next, 0, none⟩) 1 0)] 1 []) fun h_30 =>
 runC (run 34 [(.slice a_18 n_19 c_20), (.slice (some ⟨h_29.next, 0, none⟩) 2 0)] h_30) fun v_31 h_32 =>
 asBoolC v_31 fun b_33 =>
(bif b_33 then
 some ((.bool (decide (x_23 = 0))), h_32)
else
 some ((.bool false), h_32))
else
 some ((.bool false), h_26))
else
 some ((.bool false), h_26)) :=
  (arun_eq Try.prog hint Try.func11 (c := bodyOf Try.f11) rfl rfl _ _).trans (by kernel_rfl)
theorem eq12 (l0a : Option Addr) (l0n l0c : Nat) (h : Hp) : run 12 [(.slice l0a l0n l0c)] h =
 L12_2 (l0a) (l0n) (l0c) ((l0n : Int)) (0) h :=
  (arun_eq Try.prog hint Try.func12 (c := bodyOf Try.f12) rfl rfl _ _).trans (by kernel_rfl)
theorem L12_2_eq (t5a : Option Addr) (t5n t5c : Nat) (t6 : Int) (t7 : Int) (h : Hp) : L12_2 t5a t5n t5c t6 t7 h =
(bif (decide (t7 < t6)) then
 atC t5a t5n 1 t7 fun d_1 =>
 ldSl h d_1 fun a_2 n_3 c_4 =>
(bif (decide (100 < (n_3 : Int))) then
 some ((.bool false), h)
else
 L12_2 (t5a) (t5n) (t5c) (t6) ((IntKind.i64.wrap (t7 + 1))) h)
else
 some ((.bool true), h)) :=
  (atP_loop Try.prog hint (b := nav [.snd, .fst, .snd, .blk, .lp] (bodyOf Try.f12)) rfl).trans (by kernel_rfl)
theorem eq13 (p0a : Option Addr) (p0n p0c : Nat) (h : Hp) : run 13 [(.slice p0a p0n p0c)] h =
(bif (decide (12 < (p0n : Int))) then
 some ((.int .i64 1), h)
else
 L13_5 (p0a) (p0n) (p0c) (0) (p0a) (p0n) (p0c) ((p0n : Int)) (0) h) :=
  (arun_eq Try.prog hint Try.func13 (c := bodyOf Try.f13) rfl rfl _ _).trans (by kernel_rfl)
theorem L13_5_eq (p0a : Option Addr) (p0n p0c : Nat) (met3 : Int) (t9a : Option Addr) (t9n t9c : Nat) (t10 : Int) (t11 : Int) (h : Hp) : L13_5 p0a p0n p0c met3 t9a t9n t9c t10 t11 h =
(bif (decide (t11 < t10)) then
 atC t9a t9n 1 t11 fun d_1 =>
 ldI h .i64 d_1 fun x_2 =>
(bif (decide (x_2 < 0)) then
 some ((.int .i64 1), h)
else
(bif (decide ((p0n : Int) ≤ x_2)) then
 some ((.int .i64 1), h)
else
 needC (decide (0 ≤ x_2)) fun _ =>
 L13_5 (p0a) (p0n) (p0c) ((bitsI .or .i64 met3 (shlI .i64 1 x_2))) (t9a) (t9n) (t9c) (t10) ((IntKind.i64.wrap (t11 + 1))) h))
else
 needC (decide (0 ≤ (p0n : Int))) fun _ =>
(bif (!decide (met3 = (IntKind.i64.wrap ((shlI .i64 1 (p0n : Int)) - 1)))) then
 some ((.int .i64 1), h)
else
 some ((.int .i64 0), h))) :=
  (atP_loop Try.prog hint (b := nav [.snd, .snd, .snd, .fst, .snd, .blk, .lp] (bodyOf Try.f13)) rfl).trans (by kernel_rfl)
theorem eq14 (p0a : Option Addr) (p0n p0c : Nat) (h : Hp) : run 14 [(.slice p0a p0n p0c)] h =
 runC (run 13 [(.slice p0a p0n p0c)] h) fun v_1 h_2 =>
 asIntC .i64 v_1 fun x_3 =>
(bif (!decide (x_3 = 0)) then
 some ((.tuple #[(.slice none 0 0), (.int .i64 x_3)]), h_2)
else
 runC (run 35 [(.slice p0a p0n p0c)] h_2) fun v_4 h_5 =>
 asSliceC v_4 fun a_6 n_7 c_8 =>
 L14_7 (a_6) (n_7) (c_8) (none) (0) (0) ((n_7 : Int)) (0) h_5) :=
  (arun_eq Try.prog hint Try.func14 (c := bodyOf Try.f14) rfl rfl _ _).trans (by kernel_rfl)
theorem L14_7_eq (left5a : Option Addr) (left5n left5c : Nat) (out6a : Option Addr) (out6n out6c : Nat) (t19 : Int) (t20 : Int) (h : Hp) : L14_7 left5a left5n left5c out6a out6n out6c t19 t20 h =
(bif (decide (t20 < t19)) then
 L14_11 (left5a) (left5n) (left5c) (out6a) (out6n) (out6c) (none) (0) (0) (t20) (t19) (t20) h
else
 some ((.tuple #[(.slice out6a out6n out6c), (.int .i64 0)]), h)) :=
  (atP_loop Try.prog hint (b := nav [.snd, .snd, .snd, .snd, .fst, .snd, .blk, .lp] (bodyOf Try.f14)) rfl).trans (by kernel_rfl)
theorem L14_11_eq (left5a : Option Addr) (left5n left5c : Nat) (out6a : Option Addr) (out6n out6c : Nat) (c8a : Option Addr) (c8n c8c : Nat) (x9 : Int) (t19 : Int) (t20 : Int) (h : Hp) : L14_11 left5a left5n left5c out6a out6n out6c c8a c8n c8c x9 t19 t20 h =
 atC left5a left5n 1 x9 fun d_1 =>
 ldI h .i64 d_1 fun x_2 =>
(bif (decide (0 ≤ x_2)) then
 lt (h.alloc [(.int .i64 x9)] 1 []) fun h_3 =>
 srcC h_3 1 1 (.slice (some ⟨h.next, 0, none⟩) 1 0) fun vs_4 =>
 growT h_3 1 8 c8a c8n c8c 1 vs_4 fun a_5 n_6 c_7 h_8 =>
 atC left5a left5n 1 x9 fun d_9 =>
 ldI h_8 .i64 d_9 fun x_10 =>
 atC left5a left5n 1 x9 fun d_11 =>
 h_8.stC d_11 [(.int .i64 (-1))] fun h_12 =>
 L14_11 (left5a) (left5n) (left5c) (out6a) (out6n) (out6c) (a_5) (n_6) (c_7) (x_10) (t19) (t20) h_12
else
(bif (!c8a.isNone) then
 lt (h.alloc [(.slice c8a c8n c8c)] 1 []) fun h_13 =>
 srcC h_13 1 1 (.slice (some ⟨h.next, 0, none⟩) 1 0) fun vs_14 =>
 growT h_13 1 24 out6a out6n out6c 1 vs_14 fun a_15 n_16 c_17 h_18 =>
 L14_7 (left5a) (left5n) (left5c) (a_15) (n_16) (c_17) (t19) ((IntKind.i64.wrap (t20 + 1))) h_18
else
 L14_7 (left5a) (left5n) (left5c) (out6a) (out6n) (out6c) (t19) ((IntKind.i64.wrap (t20 + 1))) h)) :=
  (atP_loop Try.prog hint (b := nav [.snd, .snd, .snd, .snd, .fst, .snd, .blk, .lp, .snd, .snd, .fst, .blk, .snd, .snd, .fst, .snd, .blk, .lp] (bodyOf Try.f14)) rfl).trans (by kernel_rfl)
theorem eq15 (p0a : Option Addr) (p0n p0c : Nat) (h : Hp) : run 15 [(.slice p0a p0n p0c)] h =
 runC (run 14 [(.slice p0a p0n p0c)] h) fun v_1 h_2 =>
 tupC v_1 fun l_3 =>
 consC l_3 fun v_4 l_5 =>
 asSliceC v_4 fun a_6 n_7 c_8 =>
 consC l_5 fun v_9 l_10 =>
 asIntC .i64 v_9 fun x_11 =>
 endC l_10 <|
 L15_4 (x_11) (false) (a_6) (n_7) (c_8) ((n_7 : Int)) (0) h_2 :=
  (arun_eq Try.prog hint Try.func15 (c := bodyOf Try.f15) rfl rfl _ _).trans (by kernel_rfl)
theorem L15_4_eq (e5 : Int) (odd6 : Bool) (t14a : Option Addr) (t14n t14c : Nat) (t15 : Int) (t16 : Int) (h : Hp) : L15_4 e5 odd6 t14a t14n t14c t15 t16 h =
(bif (decide (t16 < t15)) then
 atC t14a t14n 1 t16 fun d_1 =>
 ldSl h d_1 fun a_2 n_3 c_4 =>
 L15_4 (e5) ((!(odd6 == (decide ((Int.tmod (n_3 : Int) 2) = 0))))) (t14a) (t14n) (t14c) (t15) ((IntKind.i64.wrap (t16 + 1))) h
else
 some ((.tuple #[(.bool odd6), (.int .i64 e5)]), h)) :=
  (atP_loop Try.prog hint (b := nav [.snd, .snd, .snd, .fst, .snd, .blk, .lp] (bodyOf Try.f15)) rfl).trans (by kernel_rfl)
theorem eq16 (p0a : Option Addr) (p0n p0c : Nat) (q1a : Option Addr) (q1n q1c : Nat) (h : Hp) : run 16 [(.slice p0a p0n p0c), (.slice q1a q1n q1c)] h =
 runC (run 13 [(.slice p0a p0n p0c)] h) fun v_1 h_2 =>
 asIntC .i64 v_1 fun x_3 =>
(bif (!decide (x_3 = 0)) then
 some ((.tuple #[(.slice none 0 0), (.int .i64 x_3)]), h_2)
else
 runC (run 36 [(.slice q1a q1n q1c), (.slice p0a p0n p0c), (.func (.func 37) #[] #[])] h_2) fun v_4 h_5 =>
 tupC v_4 fun l_6 =>
 consC l_6 fun v_7 l_8 =>
 asSliceC v_7 fun a_9 n_10 c_11 =>
 consC l_8 fun v_12 l_13 =>
 asIntC .i64 v_12 fun x_14 =>
 endC l_13 <|
 some ((.tuple #[(.slice a_9 n_10 c_11), (.int .i64 x_14)]), h_5)) :=
  (arun_eq Try.prog hint Try.func16 (c := bodyOf Try.f16) rfl rfl _ _).trans (by kernel_rfl)
theorem eq17 (n0 : Int) (h : Hp) : run 17 [(.int .i64 n0)] h =
(bif (decide (n0 < 0)) then
 some ((.tuple #[(.slice none 0 0), (.int .i64 1)]), h)
else
(bif (decide (12 < n0)) then
 some ((.tuple #[(.slice none 0 0), (.int .i64 1)]), h)
else
 mkC h (.int .i64 0) 1 8 n0 n0 fun a_1 n_2 c_3 h_4 =>
 L17_5 (a_1) (n_2) (c_3) ((n_2 : Int)) (0) h_4)) :=
  (arun_eq Try.prog hint Try.func17 (c := bodyOf Try.f17) rfl rfl _ _).trans (by kernel_rfl)
theorem L17_5_eq (l4a : Option Addr) (l4n l4c : Nat) (t15 : Int) (t16 : Int) (h : Hp) : L17_5 l4a l4n l4c t15 t16 h =
(bif (decide (t16 < t15)) then
 atC l4a l4n 1 t16 fun d_1 =>
 h.stC d_1 [(.int .i64 t16)] fun h_2 =>
 L17_5 (l4a) (l4n) (l4c) (t15) ((IntKind.i64.wrap (t16 + 1))) h_2
else
 some ((.tuple #[(.slice l4a l4n l4c), (.int .i64 0)]), h)) :=
  (atP_loop Try.prog hint (b := nav [.snd, .snd, .snd, .fst, .snd, .blk, .lp] (bodyOf Try.f17)) rfl).trans (by kernel_rfl)
theorem eq18 (a0a : Option Addr) (a0n a0c : Nat) (b1a : Option Addr) (b1n b1c : Nat) (h : Hp) : run 18 [(.slice a0a a0n a0c), (.slice b1a b1n b1c)] h =
(bif (!decide ((a0n : Int) = (b1n : Int))) then
 some ((.bool false), h)
else
 L18_4 (a0a) (a0n) (a0c) (b1a) (b1n) (b1c) ((a0n : Int)) (0) h) :=
  (arun_eq Try.prog hint Try.func18 (c := bodyOf Try.f18) rfl rfl _ _).trans (by kernel_rfl)
theorem L18_4_eq (a0a : Option Addr) (a0n a0c : Nat) (b1a : Option Addr) (b1n b1c : Nat) (t12 : Int) (t13 : Int) (h : Hp) : L18_4 a0a a0n a0c b1a b1n b1c t12 t13 h =
(bif (decide (t13 < t12)) then
 atC a0a a0n 1 t13 fun d_1 =>
 ldI h .i64 d_1 fun x_2 =>
 atC b1a b1n 1 t13 fun d_3 =>
 ldI h .i64 d_3 fun x_4 =>
(bif (!decide (x_2 = x_4)) then
 some ((.bool false), h)
else
 L18_4 (a0a) (a0n) (a0c) (b1a) (b1n) (b1c) (t12) ((IntKind.i64.wrap (t13 + 1))) h)
else
 some ((.bool true), h)) :=
  (atP_loop Try.prog hint (b := nav [.snd, .snd, .fst, .snd, .blk, .lp] (bodyOf Try.f18)) rfl).trans (by kernel_rfl)
theorem eq19 (p0a : Option Addr) (p0n p0c : Nat) (h : Hp) : run 19 [(.slice p0a p0n p0c)] h =
 runC (run 13 [(.slice p0a p0n p0c)] h) fun v_1 h_2 =>
 asIntC .i64 v_1 fun x_3 =>
(bif (!decide (x_3 = 0)) then
 some ((.tuple #[(.slice none 0 0), (.int .i64 x_3)]), h_2)
else
 mkC h_2 (.int .i64 0) 1 8 (p0n : Int) (p0n : Int) fun a_4 n_5 c_6 h_7 =>
 L19_6 (a_4) (n_5) (c_6) (p0a) (p0n) (p0c) ((p0n : Int)) (0) h_7) :=
  (arun_eq Try.prog hint Try.func19 (c := bodyOf Try.f19) rfl rfl _ _).trans (by kernel_rfl)
theorem L19_6_eq (out5a : Option Addr) (out5n out5c : Nat) (t16a : Option Addr) (t16n t16c : Nat) (t17 : Int) (t18 : Int) (h : Hp) : L19_6 out5a out5n out5c t16a t16n t16c t17 t18 h =
(bif (decide (t18 < t17)) then
 atC t16a t16n 1 t18 fun d_1 =>
 ldI h .i64 d_1 fun x_2 =>
 atC out5a out5n 1 x_2 fun d_3 =>
 h.stC d_3 [(.int .i64 t18)] fun h_4 =>
 L19_6 (out5a) (out5n) (out5c) (t16a) (t16n) (t16c) (t17) ((IntKind.i64.wrap (t18 + 1))) h_4
else
 some ((.tuple #[(.slice out5a out5n out5c), (.int .i64 0)]), h)) :=
  (atP_loop Try.prog hint (b := nav [.snd, .snd, .snd, .fst, .snd, .blk, .lp] (bodyOf Try.f19)) rfl).trans (by kernel_rfl)
theorem eq20 (n0 : Int) (h : Hp) : run 20 [(.int .i64 n0)] h =
(bif (decide (n0 < 0)) then
 some ((.tuple #[(.slice none 0 0), (.int .i64 1)]), h)
else
(bif (decide (12 < n0)) then
 some ((.tuple #[(.slice none 0 0), (.int .i64 1)]), h)
else
 runC (run 38 [(.int .i64 n0), (.slice none 0 0)] h) fun v_1 h_2 =>
 tupC v_1 fun l_3 =>
 consC l_3 fun v_4 l_5 =>
 asSliceC v_4 fun a_6 n_7 c_8 =>
 consC l_5 fun v_9 l_10 =>
 asBoolC v_9 fun b_11 =>
 endC l_10 <|
 some ((.tuple #[(.slice a_6 n_7 c_8), (.int .i64 0)]), h_2))) :=
  (arun_eq Try.prog hint Try.func20 (c := bodyOf Try.f20) rfl rfl _ _).trans (by kernel_rfl)
theorem eq21 (p0a : Option Addr) (p0n p0c : Nat) (h : Hp) : run 21 [(.slice p0a p0n p0c)] h =
 runC (run 39 [(.slice p0a p0n p0c)] h) fun v_1 h_2 =>
 asBoolC v_1 fun b_3 =>
(bif (!b_3) then
 some ((.tuple #[(.slice none 0 0), (.int .i64 1)]), h_2)
else
 mkC h_2 (.int .i64 0) 1 8 (p0n : Int) (p0n : Int) fun a_4 n_5 c_6 h_7 =>
 L21_5 (a_4) (n_5) (c_6) (p0a) (p0n) (p0c) ((p0n : Int)) (0) h_7) :=
  (arun_eq Try.prog hint Try.func21 (c := bodyOf Try.f21) rfl rfl _ _).trans (by kernel_rfl)
theorem L21_5_eq (out4a : Option Addr) (out4n out4c : Nat) (t13a : Option Addr) (t13n t13c : Nat) (t14 : Int) (t15 : Int) (h : Hp) : L21_5 out4a out4n out4c t13a t13n t13c t14 t15 h =
(bif (decide (t15 < t14)) then
 atC t13a t13n 1 t15 fun d_1 =>
 ldI h .i64 d_1 fun x_2 =>
 atC out4a out4n 1 x_2 fun d_3 =>
 h.stC d_3 [(.int .i64 t15)] fun h_4 =>
 L21_5 (out4a) (out4n) (out4c) (t13a) (t13n) (t13c) (t14) ((IntKind.i64.wrap (t15 + 1))) h_4
else
 some ((.tuple #[(.slice out4a out4n out4c), (.int .i64 0)]), h)) :=
  (atP_loop Try.prog hint (b := nav [.snd, .snd, .snd, .fst, .snd, .blk, .lp] (bodyOf Try.f21)) rfl).trans (by kernel_rfl)
theorem eq22 (p0a : Option Addr) (p0n p0c : Nat) (q1a : Option Addr) (q1n q1c : Nat) (h : Hp) : run 22 [(.slice p0a p0n p0c), (.slice q1a q1n q1c)] h =
 runC (run 39 [(.slice p0a p0n p0c)] h) fun v_1 h_2 =>
 asBoolC v_1 fun b_3 =>
(bif (!b_3) then
 some ((.tuple #[(.slice none 0 0), (.int .i64 1)]), h_2)
else
 runC (run 39 [(.slice q1a q1n q1c)] h_2) fun v_4 h_5 =>
 asBoolC v_4 fun b_6 =>
(bif (!b_6) then
 some ((.tuple #[(.slice none 0 0), (.int .i64 1)]), h_5)
else
(bif (!decide ((p0n : Int) = (q1n : Int))) then
 some ((.tuple #[(.slice none 0 0), (.int .i64 4)]), h_5)
else
 L22_7 (p0a) (p0n) (p0c) (none) (0) (0) (q1a) (q1n) (q1c) ((q1n : Int)) (0) h_5))) :=
  (arun_eq Try.prog hint Try.func22 (c := bodyOf Try.f22) rfl rfl _ _).trans (by kernel_rfl)
theorem L22_7_eq (p0a : Option Addr) (p0n p0c : Nat) (out6a : Option Addr) (out6n out6c : Nat) (t22a : Option Addr) (t22n t22c : Nat) (t23 : Int) (t24 : Int) (h : Hp) : L22_7 p0a p0n p0c out6a out6n out6c t22a t22n t22c t23 t24 h =
(bif (decide (t24 < t23)) then
 atC t22a t22n 1 t24 fun d_1 =>
 ldI h .i64 d_1 fun x_2 =>
 atC p0a p0n 1 x_2 fun d_3 =>
 ldI h .i64 d_3 fun x_4 =>
 lt (h.alloc [(.int .i64 x_4)] 1 []) fun h_5 =>
 srcC h_5 1 1 (.slice (some ⟨h.next, 0, none⟩) 1 0) fun vs_6 =>
 growT h_5 1 8 out6a out6n out6c 1 vs_6 fun a_7 n_8 c_9 h_10 =>
 L22_7 (p0a) (p0n) (p0c) (a_7) (n_8) (c_9) (t22a) (t22n) (t22c) (t23) ((IntKind.i64.wrap (t24 + 1))) h_10
else
 some ((.tuple #[(.slice out6a out6n out6c), (.int .i64 0)]), h)) :=
  (atP_loop Try.prog hint (b := nav [.snd, .snd, .snd, .snd, .fst, .snd, .blk, .lp] (bodyOf Try.f22)) rfl).trans (by kernel_rfl)
theorem eq23 (l0a : Option Addr) (l0n l0c : Nat) (p1a : Option Addr) (p1n p1c : Nat) (h : Hp) : run 23 [(.slice l0a l0n l0c), (.slice p1a p1n p1c)] h =
 runC (run 36 [(.slice p1a p1n p1c), (.slice l0a l0n l0c), (.func (.func 37) #[] #[])] h) fun v_1 h_2 =>
 tupC v_1 fun l_3 =>
 consC l_3 fun v_4 l_5 =>
 asSliceC v_4 fun a_6 n_7 c_8 =>
 consC l_5 fun v_9 l_10 =>
 asIntC .i64 v_9 fun x_11 =>
 endC l_10 <|
 some ((.tuple #[(.slice a_6 n_7 c_8), (.int .i64 x_11)]), h_2) :=
  (arun_eq Try.prog hint Try.func23 (c := bodyOf Try.f23) rfl rfl _ _).trans (by kernel_rfl)
theorem eq24 (l0a : Option Addr) (l0n l0c : Nat) (p1a : Option Addr) (p1n p1c : Nat) (h : Hp) : run 24 [(.slice l0a l0n l0c), (.slice p1a p1n p1c)] h =
 runC (run 39 [(.slice p1a p1n p1c)] h) fun v_1 h_2 =>
 asBoolC v_1 fun b_3 =>
(bif (!b_3) then
 some ((.tuple #[(.slice none 0 0), (.int .i64 1)]), h_2)
else
(bif (!decide ((l0n : Int) = (p1n : Int))) then
 some ((.tuple #[(.slice none 0 0), (.int .i64 4)]), h_2)
else
 L24_7 (l0a) (l0n) (l0c) (none) (0) (0) (p1a) (p1n) (p1c) ((p1n : Int)) (0) h_2)) :=
  (arun_eq Try.prog hint Try.func24 (c := bodyOf Try.f24) rfl rfl _ _).trans (by kernel_rfl)
theorem L24_7_eq (l0a : Option Addr) (l0n l0c : Nat) (out6a : Option Addr) (out6n out6c : Nat) (t17a : Option Addr) (t17n t17c : Nat) (t18 : Int) (t19 : Int) (h : Hp) : L24_7 l0a l0n l0c out6a out6n out6c t17a t17n t17c t18 t19 h =
(bif (decide (t19 < t18)) then
 atC t17a t17n 1 t19 fun d_1 =>
 ldI h .i64 d_1 fun x_2 =>
 atC l0a l0n 1 x_2 fun d_3 =>
 ldI h .i64 d_3 fun x_4 =>
 lt (h.alloc [(.int .i64 x_4)] 1 []) fun h_5 =>
 srcC h_5 1 1 (.slice (some ⟨h.next, 0, none⟩) 1 0) fun vs_6 =>
 growT h_5 1 8 out6a out6n out6c 1 vs_6 fun a_7 n_8 c_9 h_10 =>
 L24_7 (l0a) (l0n) (l0c) (a_7) (n_8) (c_9) (t17a) (t17n) (t17c) (t18) ((IntKind.i64.wrap (t19 + 1))) h_10
else
 some ((.tuple #[(.slice out6a out6n out6c), (.int .i64 0)]), h)) :=
  (atP_loop Try.prog hint (b := nav [.snd, .snd, .snd, .snd, .fst, .snd, .blk, .lp] (bodyOf Try.f24)) rfl).trans (by kernel_rfl)
theorem eq25 (p0a : Option Addr) (p0n p0c : Nat) (h : Hp) : run 25 [(.slice p0a p0n p0c)] h =
 runC (run 39 [(.slice p0a p0n p0c)] h) fun v_1 h_2 =>
 asBoolC v_1 fun b_3 =>
(bif (!b_3) then
 some ((.int .i64 1), h_2)
else
 some ((.int .i64 0), h_2)) :=
  (arun_eq Try.prog hint Try.func25 (c := bodyOf Try.f25) rfl rfl _ _).trans (by kernel_rfl)
theorem eq26 (n0 : Int) (k1 : Int) (h : Hp) : run 26 [(.int .i64 n0), (.int .i64 k1)] h =
 runC (run 17 [(.int .i64 n0)] h) fun v_1 h_2 =>
 tupC v_1 fun l_3 =>
 consC l_3 fun v_4 l_5 =>
 asSliceC v_4 fun a_6 n_7 c_8 =>
 consC l_5 fun v_9 l_10 =>
 asIntC .i64 v_9 fun x_11 =>
 endC l_10 <|
(bif (!decide (x_11 = 0)) then
 some ((.tuple #[(.slice none 0 0), (.int .i64 x_11)]), h_2)
else
 runC (run 40 [] h_2) fun v_12 h_13 =>
 asAggC v_12 fun l_14 =>
 consC l_14 fun v_15 l_16 =>
 asIntC .i64 v_15 fun x_17 =>
 consC l_16 fun v_18 l_19 =>
 asIntC .i64 v_18 fun x_20 =>
 consC l_19 fun v_21 l_22 =>
 asIntC .i64 v_21 fun x_23 =>
 consC l_22 fun v_24 l_25 =>
 asIntC .i64 v_24 fun x_26 =>
 consC l_25 fun v_27 l_28 =>
 asIntC .i64 v_27 fun x_29 =>
 consC l_28 fun v_30 l_31 =>
 asIntC .i64 v_30 fun x_32 =>
 consC l_31 fun v_33 l_34 =>
 asIntC .i64 v_33 fun x_35 =>
 consC l_34 fun v_36 l_37 =>
 asIntC .i64 v_36 fun x_38 =>
 consC l_37 fun v_39 l_40 =>
 asIntC .i64 v_39 fun x_41 =>
 consC l_40 fun v_42 l_43 =>
 asIntC .i64 v_42 fun x_44 =>
 consC l_43 fun v_45 l_46 =>
 asIntC .i64 v_45 fun x_47 =>
 consC l_46 fun v_48 l_49 =>
 asIntC .i64 v_48 fun x_50 =>
 consC l_49 fun v_51 l_52 =>
 asIntC .i64 v_51 fun x_53 =>
 endC l_52 <|
 lt (h_13.alloc [(.int .i64 0), (.int .i64 0), (.int .i64 0), (.int .i64 0), (.int .i64 0), (.int .i64 0), (.int .i64 0), (.int .i64 0), (.int .i64 0), (.int .i64 0), (.int .i64 0), (.int .i64 0), (.int .i64 0)] 0 []) fun h_54 =>
 h_54.stC ⟨h_13.next, 0, none⟩ [(.int .i64 x_17), (.int .i64 x_20), (.int .i64 x_23), (.int .i64 x_26), (.int .i64 x_29), (.int .i64 x_32), (.int .i64 x_35), (.int .i64 x_38), (.int .i64 x_41), (.int .i64 x_44), (.int .i64 x_47), (.int .i64 x_50), (.int .i64 x_53)] fun h_55 =>
(bif (decide (k1 < 0)) then
 some ((.tuple #[(.slice none 0 0), (.int .i64 3)]), h_55)
else
 atC (some ⟨h_13.next, 0, none⟩) 13 1 n0 fun d_56 =>
 ldI h_55 .i64 d_56 fun x_57 =>
(bif (decide (x_57 ≤ k1)) then
 some ((.tuple #[(.slice none 0 0), (.int .i64 3)]), h_55)
else
 L26_8 (n0) (k1) (a_6) (n_7) (c_8) ((some ⟨h_13.next, 0, none⟩)) ((n_7 : Int)) (0) h_55))) :=
  (arun_eq Try.prog hint Try.func26 (c := bodyOf Try.f26) rfl rfl _ _).trans (by kernel_rfl)
theorem L26_8_eq (n0 : Int) (k1 : Int) (l6a : Option Addr) (l6n l6c : Nat) (f8 : Option Addr) (t31 : Int) (t32 : Int) (h : Hp) : L26_8 n0 k1 l6a l6n l6c f8 t31 t32 h =
(bif (decide (t32 < t31)) then
 atC f8 13 1 (IntKind.i64.wrap ((IntKind.i64.wrap (n0 - 1)) - t32)) fun d_1 =>
 ldI h .i64 d_1 fun x_2 =>
 needC (!decide (x_2 = 0)) fun _ =>
 atC f8 13 1 (IntKind.i64.wrap ((IntKind.i64.wrap (n0 - 1)) - t32)) fun d_3 =>
 ldI h .i64 d_3 fun x_4 =>
 needC (!decide (x_4 = 0)) fun _ =>
 atC l6a l6n 1 (IntKind.i64.wrap (t32 + (IntKind.i64.wrap (Int.tdiv k1 x_2)))) fun d_5 =>
 ldI h .i64 d_5 fun x_6 =>
 cutT h l6a l6n l6c 1 (some (IntKind.i64.wrap (t32 + 1))) (some (IntKind.i64.wrap ((IntKind.i64.wrap (t32 + (IntKind.i64.wrap (Int.tdiv k1 x_2)))) + 1))) fun a_7 n_8 c_9 =>
 cutT h l6a l6n l6c 1 (some t32) (some (IntKind.i64.wrap (t32 + (IntKind.i64.wrap (Int.tdiv k1 x_2))))) fun a_10 n_11 c_12 =>
 srcC h 1 (Nat.min n_11 n_8) (.slice a_10 n_11 c_12) fun vs_13 =>
 putT h 1 a_7 (Nat.min n_11 n_8) vs_13 fun h_14 =>
 atC l6a l6n 1 t32 fun d_15 =>
 h_14.stC d_15 [(.int .i64 x_6)] fun h_16 =>
 L26_8 (n0) ((Int.tmod k1 x_4)) (l6a) (l6n) (l6c) (f8) (t31) ((IntKind.i64.wrap (t32 + 1))) h_16
else
 some ((.tuple #[(.slice l6a l6n l6c), (.int .i64 0)]), h)) :=
  (atP_loop Try.prog hint (b := nav [.snd, .snd, .snd, .snd, .snd, .fst, .snd, .blk, .lp] (bodyOf Try.f26)) rfl).trans (by kernel_rfl)
theorem eq27 (p0a : Option Addr) (p0n p0c : Nat) (h : Hp) : run 27 [(.slice p0a p0n p0c)] h =
 runC (run 13 [(.slice p0a p0n p0c)] h) fun v_1 h_2 =>
 asIntC .i64 v_1 fun x_3 =>
(bif (!decide (x_3 = 0)) then
 some ((.tuple #[(.int .i64 0), (.int .i64 x_3)]), h_2)
else
 L27_6 (p0a) (p0n) (p0c) (0) (p0a) (p0n) (p0c) ((p0n : Int)) (0) h_2) :=
  (arun_eq Try.prog hint Try.func27 (c := bodyOf Try.f27) rfl rfl _ _).trans (by kernel_rfl)
theorem L27_6_eq (p0a : Option Addr) (p0n p0c : Nat) (n5 : Int) (t16a : Option Addr) (t16n t16c : Nat) (t17 : Int) (t18 : Int) (h : Hp) : L27_6 p0a p0n p0c n5 t16a t16n t16c t17 t18 h =
(bif (decide (t18 < t17)) then
 atC t16a t16n 1 t18 fun d_1 =>
 ldI h .i64 d_1 fun x_2 =>
 cutT h p0a p0n p0c 1 (some (IntKind.i64.wrap (t18 + 1))) none fun a_3 n_4 c_5 =>
 L27_10 (p0a) (p0n) (p0c) (n5) (t18) (x_2) (0) (t16a) (t16n) (t16c) (t17) (t18) (a_3) (n_4) (c_5) ((n_4 : Int)) (0) h
else
 some ((.tuple #[(.int .i64 n5), (.int .i64 0)]), h)) :=
  (atP_loop Try.prog hint (b := nav [.snd, .snd, .snd, .fst, .snd, .blk, .lp] (bodyOf Try.f27)) rfl).trans (by kernel_rfl)
theorem L27_10_eq (p0a : Option Addr) (p0n p0c : Nat) (n5 : Int) (i6 : Int) (x7 : Int) (less8 : Int) (t16a : Option Addr) (t16n t16c : Nat) (t17 : Int) (t18 : Int) (t26a : Option Addr) (t26n t26c : Nat) (t27 : Int) (t28 : Int) (h : Hp) : L27_10 p0a p0n p0c n5 i6 x7 less8 t16a t16n t16c t17 t18 t26a t26n t26c t27 t28 h =
(bif (decide (t28 < t27)) then
 atC t26a t26n 1 t28 fun d_1 =>
 ldI h .i64 d_1 fun x_2 =>
(bif (decide (x_2 < x7)) then
 L27_10 (p0a) (p0n) (p0c) (n5) (i6) (x7) ((IntKind.i64.wrap (less8 + 1))) (t16a) (t16n) (t16c) (t17) (t18) (t26a) (t26n) (t26c) (t27) ((IntKind.i64.wrap (t28 + 1))) h
else
 L27_10 (p0a) (p0n) (p0c) (n5) (i6) (x7) (less8) (t16a) (t16n) (t16c) (t17) (t18) (t26a) (t26n) (t26c) (t27) ((IntKind.i64.wrap (t28 + 1))) h)
else
 L27_6 (p0a) (p0n) (p0c) ((IntKind.i64.wrap ((IntKind.i64.wrap (n5 * (IntKind.i64.wrap ((p0n : Int) - i6)))) + less8))) (t16a) (t16n) (t16c) (t17) ((IntKind.i64.wrap (t18 + 1))) h) :=
  (atP_loop Try.prog hint (b := nav [.snd, .snd, .snd, .fst, .snd, .blk, .lp, .snd, .snd, .fst, .blk, .snd, .snd, .fst, .snd, .blk, .lp] (bodyOf Try.f27)) rfl).trans (by kernel_rfl)
theorem eq28 (p0a : Option Addr) (p0n p0c : Nat) (h : Hp) : run 28 [(.slice p0a p0n p0c)] h =
 runC (run 13 [(.slice p0a p0n p0c)] h) fun v_1 h_2 =>
 asIntC .i64 v_1 fun x_3 =>
(bif (!decide (x_3 = 0)) then
 some ((.tuple #[(.slice none 0 0), (.bool false), (.int .i64 x_3)]), h_2)
else
 runC (run 35 [(.slice p0a p0n p0c)] h_2) fun v_4 h_5 =>
 asSliceC v_4 fun a_6 n_7 c_8 =>
 L28_6 (a_6) (n_7) (c_8) ((IntKind.i64.wrap ((n_7 : Int) - 2))) h_5) :=
  (arun_eq Try.prog hint Try.func28 (c := bodyOf Try.f28) rfl rfl _ _).trans (by kernel_rfl)
theorem L28_6_eq (l6a : Option Addr) (l6n l6c : Nat) (i7 : Int) (h : Hp) : L28_6 l6a l6n l6c i7 h =
(bif (decide (0 ≤ i7)) then
 atC l6a l6n 1 i7 fun d_1 =>
 ldI h .i64 d_1 fun x_2 =>
 atC l6a l6n 1 (IntKind.i64.wrap (i7 + 1)) fun d_3 =>
 ldI h .i64 d_3 fun x_4 =>
(bif (decide (x_4 < x_2)) then
 L28_6 (l6a) (l6n) (l6c) ((IntKind.i64.wrap (i7 - 1))) h
else
(bif (decide (i7 < 0)) then
 some ((.tuple #[(.slice l6a l6n l6c), (.bool false), (.int .i64 0)]), h)
else
 L28_11 (l6a) (l6n) (l6c) (i7) ((IntKind.i64.wrap ((l6n : Int) - 1))) h))
else
(bif (decide (i7 < 0)) then
 some ((.tuple #[(.slice l6a l6n l6c), (.bool false), (.int .i64 0)]), h)
else
 L28_11 (l6a) (l6n) (l6c) (i7) ((IntKind.i64.wrap ((l6n : Int) - 1))) h)) :=
  (atP_loop Try.prog hint (b := nav [.snd, .snd, .snd, .snd, .fst, .blk, .lp] (bodyOf Try.f28)) rfl).trans (by kernel_rfl)
theorem L28_11_eq (l6a : Option Addr) (l6n l6c : Nat) (i7 : Int) (k8 : Int) (h : Hp) : L28_11 l6a l6n l6c i7 k8 h =
 atC l6a l6n 1 k8 fun d_1 =>
 ldI h .i64 d_1 fun x_2 =>
 atC l6a l6n 1 i7 fun d_3 =>
 ldI h .i64 d_3 fun x_4 =>
(bif (decide (x_2 < x_4)) then
 L28_11 (l6a) (l6n) (l6c) (i7) ((IntKind.i64.wrap (k8 - 1))) h
else
 atC l6a l6n 1 k8 fun d_5 =>
 ldI h .i64 d_5 fun x_6 =>
 atC l6a l6n 1 i7 fun d_7 =>
 ldI h .i64 d_7 fun x_8 =>
 atC l6a l6n 1 i7 fun d_9 =>
 h.stC d_9 [(.int .i64 x_6)] fun h_10 =>
 atC l6a l6n 1 k8 fun d_11 =>
 h_10.stC d_11 [(.int .i64 x_8)] fun h_12 =>
 cutT h_12 l6a l6n l6c 1 (some (IntKind.i64.wrap (i7 + 1))) none fun a_13 n_14 c_15 =>
 runC (run 41 [(.slice a_13 n_14 c_15)] h_12) fun v_16 h_17 =>
 tupC v_16 fun l_18 =>
 endC l_18 <|
 some ((.tuple #[(.slice l6a l6n l6c), (.bool true), (.int .i64 0)]), h_17)) :=
  (atP_loop Try.prog hint (b := nav [.snd, .snd, .snd, .snd, .snd, .snd, .snd, .fst, .blk, .lp] (bodyOf Try.f28)) rfl).trans (by kernel_rfl)
theorem eq29 (p0a : Option Addr) (p0n p0c : Nat) (h : Hp) : run 29 [(.slice p0a p0n p0c)] h =
 runC (run 39 [(.slice p0a p0n p0c)] h) fun v_1 h_2 =>
 asBoolC v_1 fun b_3 =>
(bif (!b_3) then
 some ((.tuple #[(.int .i64 0), (.int .i64 1)]), h_2)
else
 L29_5 (p0a) (p0n) (p0c) (0) (p0a) (p0n) (p0c) ((p0n : Int)) (0) h_2) :=
  (arun_eq Try.prog hint Try.func29 (c := bodyOf Try.f29) rfl rfl _ _).trans (by kernel_rfl)
theorem L29_5_eq (p0a : Option Addr) (p0n p0c : Nat) (n4 : Int) (t13a : Option Addr) (t13n t13c : Nat) (t14 : Int) (t15 : Int) (h : Hp) : L29_5 p0a p0n p0c n4 t13a t13n t13c t14 t15 h =
(bif (decide (t15 < t14)) then
 atC t13a t13n 1 t15 fun d_1 =>
 ldI h .i64 d_1 fun x_2 =>
 cutT h p0a p0n p0c 1 (some t15) none fun a_3 n_4 c_5 =>
 L29_9 (p0a) (p0n) (p0c) (n4) (t15) (x_2) (0) (t13a) (t13n) (t13c) (t14) (t15) (a_3) (n_4) (c_5) ((n_4 : Int)) (0) h
else
 some ((.tuple #[(.int .i64 n4), (.int .i64 0)]), h)) :=
  (atP_loop Try.prog hint (b := nav [.snd, .snd, .snd, .fst, .snd, .blk, .lp] (bodyOf Try.f29)) rfl).trans (by kernel_rfl)
theorem L29_9_eq (p0a : Option Addr) (p0n p0c : Nat) (n4 : Int) (i5 : Int) (x6 : Int) (less7 : Int) (t13a : Option Addr) (t13n t13c : Nat) (t14 : Int) (t15 : Int) (t22a : Option Addr) (t22n t22c : Nat) (t23 : Int) (t24 : Int) (h : Hp) : L29_9 p0a p0n p0c n4 i5 x6 less7 t13a t13n t13c t14 t15 t22a t22n t22c t23 t24 h =
(bif (decide (t24 < t23)) then
 atC t22a t22n 1 t24 fun d_1 =>
 ldI h .i64 d_1 fun x_2 =>
(bif (decide (x_2 < x6)) then
 L29_9 (p0a) (p0n) (p0c) (n4) (i5) (x6) ((IntKind.i64.wrap (less7 + 1))) (t13a) (t13n) (t13c) (t14) (t15) (t22a) (t22n) (t22c) (t23) ((IntKind.i64.wrap (t24 + 1))) h
else
 L29_9 (p0a) (p0n) (p0c) (n4) (i5) (x6) (less7) (t13a) (t13n) (t13c) (t14) (t15) (t22a) (t22n) (t22c) (t23) ((IntKind.i64.wrap (t24 + 1))) h)
else
 runC (run 42 [(.int .i64 (IntKind.i64.wrap ((IntKind.i64.wrap ((p0n : Int) - 1)) - i5)))] h) fun v_3 h_4 =>
 asIntC .i64 v_3 fun x_5 =>
 L29_5 (p0a) (p0n) (p0c) ((IntKind.i64.wrap (n4 + (IntKind.i64.wrap (less7 * x_5))))) (t13a) (t13n) (t13c) (t14) ((IntKind.i64.wrap (t15 + 1))) h_4) :=
  (atP_loop Try.prog hint (b := nav [.snd, .snd, .snd, .fst, .snd, .blk, .lp, .snd, .snd, .fst, .blk, .snd, .snd, .fst, .snd, .blk, .lp] (bodyOf Try.f29)) rfl).trans (by kernel_rfl)
theorem eq30 (n0 : Int) (k1 : Int) (h : Hp) : run 30 [(.int .i64 n0), (.int .i64 k1)] h =
 runC (run 20 [(.int .i64 n0)] h) fun v_1 h_2 =>
 tupC v_1 fun l_3 =>
 consC l_3 fun v_4 l_5 =>
 asSliceC v_4 fun a_6 n_7 c_8 =>
 consC l_5 fun v_9 l_10 =>
 asIntC .i64 v_9 fun x_11 =>
 endC l_10 <|
(bif (!decide (x_11 = 0)) then
 some ((.tuple #[(.slice none 0 0), (.int .i64 x_11)]), h_2)
else
(bif (decide (k1 < 0)) then
 some ((.tuple #[(.slice none 0 0), (.int .i64 3)]), h_2)
else
 runC (run 42 [(.int .i64 n0)] h_2) fun v_12 h_13 =>
 asIntC .i64 v_12 fun x_14 =>
(bif (decide (x_14 ≤ k1)) then
 some ((.tuple #[(.slice none 0 0), (.int .i64 3)]), h_13)
else
 L30_7 (k1) (a_6) (n_7) (c_8) (none) (0) (0) h_13))) :=
  (arun_eq Try.prog hint Try.func30 (c := bodyOf Try.f30) rfl rfl _ _).trans (by kernel_rfl)
theorem L30_7_eq (k1 : Int) (left6a : Option Addr) (left6n left6c : Nat) (out8a : Option Addr) (out8n out8c : Nat) (h : Hp) : L30_7 k1 left6a left6n left6c out8a out8n out8c h =
(bif (decide (0 < (left6n : Int))) then
 runC (run 42 [(.int .i64 (IntKind.i64.wrap ((left6n : Int) - 1)))] h) fun v_1 h_2 =>
 asIntC .i64 v_1 fun x_3 =>
 needC (!decide (x_3 = 0)) fun _ =>
 needC (!decide (x_3 = 0)) fun _ =>
 atC left6a left6n 1 (IntKind.i64.wrap (Int.tdiv k1 x_3)) fun d_4 =>
 ldI h_2 .i64 d_4 fun x_5 =>
 lt (h_2.alloc [(.int .i64 x_5)] 1 []) fun h_6 =>
 srcC h_6 1 1 (.slice (some ⟨h_2.next, 0, none⟩) 1 0) fun vs_7 =>
 growT h_6 1 8 out8a out8n out8c 1 vs_7 fun a_8 n_9 c_10 h_11 =>
 L30_14 ((Int.tmod k1 x_3)) (a_8) (n_9) (c_10) ((IntKind.i64.wrap (Int.tdiv k1 x_3))) (none) (0) (0) (left6a) (left6n) (left6c) ((left6n : Int)) (0) h_11
else
 some ((.tuple #[(.slice out8a out8n out8c), (.int .i64 0)]), h)) :=
  (atP_loop Try.prog hint (b := nav [.snd, .snd, .snd, .snd, .snd, .fst, .blk, .lp] (bodyOf Try.f30)) rfl).trans (by kernel_rfl)
theorem L30_14_eq (k1 : Int) (out8a : Option Addr) (out8n out8c : Nat) (i10 : Int) (rest11a : Option Addr) (rest11n rest11c : Nat) (t50a : Option Addr) (t50n t50c : Nat) (t51 : Int) (t52 : Int) (h : Hp) : L30_14 k1 out8a out8n out8c i10 rest11a rest11n rest11c t50a t50n t50c t51 t52 h =
(bif (decide (t52 < t51)) then
 atC t50a t50n 1 t52 fun d_1 =>
 ldI h .i64 d_1 fun x_2 =>
(bif (!decide (t52 = i10)) then
 lt (h.alloc [(.int .i64 x_2)] 1 []) fun h_3 =>
 srcC h_3 1 1 (.slice (some ⟨h.next, 0, none⟩) 1 0) fun vs_4 =>
 growT h_3 1 8 rest11a rest11n rest11c 1 vs_4 fun a_5 n_6 c_7 h_8 =>
 L30_14 (k1) (out8a) (out8n) (out8c) (i10) (a_5) (n_6) (c_7) (t50a) (t50n) (t50c) (t51) ((IntKind.i64.wrap (t52 + 1))) h_8
else
 L30_14 (k1) (out8a) (out8n) (out8c) (i10) (rest11a) (rest11n) (rest11c) (t50a) (t50n) (t50c) (t51) ((IntKind.i64.wrap (t52 + 1))) h)
else
 L30_7 (k1) (rest11a) (rest11n) (rest11c) (out8a) (out8n) (out8c) h) :=
  (atP_loop Try.prog hint (b := nav [.snd, .snd, .snd, .snd, .snd, .fst, .blk, .lp, .snd, .blk, .snd, .snd, .snd, .snd, .snd, .fst, .snd, .blk, .lp] (bodyOf Try.f30)) rfl).trans (by kernel_rfl)
theorem eq31 (p0a : Option Addr) (p0n p0c : Nat) (h : Hp) : run 31 [(.slice p0a p0n p0c)] h =
 runC (run 29 [(.slice p0a p0n p0c)] h) fun v_1 h_2 =>
 tupC v_1 fun l_3 =>
 consC l_3 fun v_4 l_5 =>
 asIntC .i64 v_4 fun x_6 =>
 consC l_5 fun v_7 l_8 =>
 asIntC .i64 v_7 fun x_9 =>
 endC l_8 <|
(bif (!decide (x_9 = 0)) then
 some ((.tuple #[(.slice none 0 0), (.bool false), (.int .i64 x_9)]), h_2)
else
 runC (run 42 [(.int .i64 (p0n : Int))] h_2) fun v_10 h_11 =>
 asIntC .i64 v_10 fun x_12 =>
(bif (decide (x_12 ≤ (IntKind.i64.wrap (x_6 + 1)))) then
 srcC h_11 1 p0n (.slice p0a p0n p0c) fun vs_13 =>
 growT h_11 1 8 none 0 0 p0n vs_13 fun a_14 n_15 c_16 h_17 =>
 some ((.tuple #[(.slice a_14 n_15 c_16), (.bool false), (.int .i64 0)]), h_17)
else
 runC (run 30 [(.int .i64 (p0n : Int)), (.int .i64 (IntKind.i64.wrap (x_6 + 1)))] h_11) fun v_18 h_19 =>
 tupC v_18 fun l_20 =>
 consC l_20 fun v_21 l_22 =>
 asSliceC v_21 fun a_23 n_24 c_25 =>
 consC l_22 fun v_26 l_27 =>
 asIntC .i64 v_26 fun x_28 =>
 endC l_27 <|
 some ((.tuple #[(.slice a_23 n_24 c_25), (.bool true), (.int .i64 x_28)]), h_19))) :=
  (arun_eq Try.prog hint Try.func31 (c := bodyOf Try.f31) rfl rfl _ _).trans (by kernel_rfl)
theorem eq32 (p0a : Option Addr) (p0n p0c : Nat) (h : Hp) : run 32 [(.slice p0a p0n p0c)] h =
 runC (run 39 [(.slice p0a p0n p0c)] h) fun v_1 h_2 =>
 asBoolC v_1 fun b_3 =>
(bif (!b_3) then
 some ((.tuple #[(.slice none 0 0), (.int .i64 1)]), h_2)
else
 mkC h_2 (.bool false) 1 1 (p0n : Int) (p0n : Int) fun a_4 n_5 c_6 h_7 =>
 L32_6 (p0a) (p0n) (p0c) (none) (0) (0) (a_4) (n_5) (c_6) ((p0n : Int)) (0) h_7) :=
  (arun_eq Try.prog hint Try.func32 (c := bodyOf Try.f32) rfl rfl _ _).trans (by kernel_rfl)
theorem L32_6_eq (p0a : Option Addr) (p0n p0c : Nat) (out4a : Option Addr) (out4n out4c : Nat) (met5a : Option Addr) (met5n met5c : Nat) (t16 : Int) (t17 : Int) (h : Hp) : L32_6 p0a p0n p0c out4a out4n out4c met5a met5n met5c t16 t17 h =
(bif (decide (t17 < t16)) then
 L32_10 (p0a) (p0n) (p0c) (out4a) (out4n) (out4c) (met5a) (met5n) (met5c) (none) (0) (0) (t17) (t16) (t17) h
else
 some ((.tuple #[(.slice out4a out4n out4c), (.int .i64 0)]), h)) :=
  (atP_loop Try.prog hint (b := nav [.snd, .snd, .snd, .snd, .fst, .snd, .blk, .lp] (bodyOf Try.f32)) rfl).trans (by kernel_rfl)
theorem L32_10_eq (p0a : Option Addr) (p0n p0c : Nat) (out4a : Option Addr) (out4n out4c : Nat) (met5a : Option Addr) (met5n met5c : Nat) (c7a : Option Addr) (c7n c7c : Nat) (x8 : Int) (t16 : Int) (t17 : Int) (h : Hp) : L32_10 p0a p0n p0c out4a out4n out4c met5a met5n met5c c7a c7n c7c x8 t16 t17 h =
 atC met5a met5n 1 x8 fun d_1 =>
 ldB h d_1 fun b_2 =>
(bif (!b_2) then
 atC met5a met5n 1 x8 fun d_3 =>
 h.stC d_3 [(.bool true)] fun h_4 =>
 lt (h_4.alloc [(.int .i64 x8)] 1 []) fun h_5 =>
 srcC h_5 1 1 (.slice (some ⟨h_4.next, 0, none⟩) 1 0) fun vs_6 =>
 growT h_5 1 8 c7a c7n c7c 1 vs_6 fun a_7 n_8 c_9 h_10 =>
 atC p0a p0n 1 x8 fun d_11 =>
 ldI h_10 .i64 d_11 fun x_12 =>
 L32_10 (p0a) (p0n) (p0c) (out4a) (out4n) (out4c) (met5a) (met5n) (met5c) (a_7) (n_8) (c_9) (x_12) (t16) (t17) h_10
else
(bif (decide (0 < (c7n : Int))) then
 lt (h.alloc [(.slice c7a c7n c7c)] 1 []) fun h_13 =>
 srcC h_13 1 1 (.slice (some ⟨h.next, 0, none⟩) 1 0) fun vs_14 =>
 growT h_13 1 24 out4a out4n out4c 1 vs_14 fun a_15 n_16 c_17 h_18 =>
 L32_6 (p0a) (p0n) (p0c) (a_15) (n_16) (c_17) (met5a) (met5n) (met5c) (t16) ((IntKind.i64.wrap (t17 + 1))) h_18
else
 L32_6 (p0a) (p0n) (p0c) (out4a) (out4n) (out4c) (met5a) (met5n) (met5c) (t16) ((IntKind.i64.wrap (t17 + 1))) h)) :=
  (atP_loop Try.prog hint (b := nav [.snd, .snd, .snd, .snd, .fst, .snd, .blk, .lp, .snd, .snd, .fst, .blk, .snd, .snd, .fst, .snd, .blk, .lp] (bodyOf Try.f32)) rfl).trans (by kernel_rfl)
theorem eq33 (p0a : Option Addr) (p0n p0c : Nat) (h : Hp) : run 33 [(.slice p0a p0n p0c)] h =
 runC (run 39 [(.slice p0a p0n p0c)] h) fun v_1 h_2 =>
 asBoolC v_1 fun b_3 =>
(bif (!b_3) then
 some ((.tuple #[(.bool false), (.int .i64 1)]), h_2)
else
 L33_5 (p0a) (p0n) (p0c) (0) (p0a) (p0n) (p0c) ((p0n : Int)) (0) h_2) :=
  (arun_eq Try.prog hint Try.func33 (c := bodyOf Try.f33) rfl rfl _ _).trans (by kernel_rfl)
theorem L33_5_eq (p0a : Option Addr) (p0n p0c : Nat) (n4 : Int) (t12a : Option Addr) (t12n t12c : Nat) (t13 : Int) (t14 : Int) (h : Hp) : L33_5 p0a p0n p0c n4 t12a t12n t12c t13 t14 h =
(bif (decide (t14 < t13)) then
 atC t12a t12n 1 t14 fun d_1 =>
 ldI h .i64 d_1 fun x_2 =>
 cutT h p0a p0n p0c 1 none (some t14) fun a_3 n_4 c_5 =>
 L33_8 (p0a) (p0n) (p0c) (n4) (x_2) (t12a) (t12n) (t12c) (t13) (t14) (a_3) (n_4) (c_5) ((n_4 : Int)) (0) h
else
 some ((.tuple #[(.bool (decide ((Int.tmod n4 2) = 1))), (.int .i64 0)]), h)) :=
  (atP_loop Try.prog hint (b := nav [.snd, .snd, .snd, .fst, .snd, .blk, .lp] (bodyOf Try.f33)) rfl).trans (by kernel_rfl)
theorem L33_8_eq (p0a : Option Addr) (p0n p0c : Nat) (n4 : Int) (x6 : Int) (t12a : Option Addr) (t12n t12c : Nat) (t13 : Int) (t14 : Int) (t21a : Option Addr) (t21n t21c : Nat) (t22 : Int) (t23 : Int) (h : Hp) : L33_8 p0a p0n p0c n4 x6 t12a t12n t12c t13 t14 t21a t21n t21c t22 t23 h =
(bif (decide (t23 < t22)) then
 atC t21a t21n 1 t23 fun d_1 =>
 ldI h .i64 d_1 fun x_2 =>
(bif (decide (x6 < x_2)) then
 L33_8 (p0a) (p0n) (p0c) ((IntKind.i64.wrap (n4 + 1))) (x6) (t12a) (t12n) (t12c) (t13) (t14) (t21a) (t21n) (t21c) (t22) ((IntKind.i64.wrap (t23 + 1))) h
else
 L33_8 (p0a) (p0n) (p0c) (n4) (x6) (t12a) (t12n) (t12c) (t13) (t14) (t21a) (t21n) (t21c) (t22) ((IntKind.i64.wrap (t23 + 1))) h)
else
 L33_5 (p0a) (p0n) (p0c) (n4) (t12a) (t12n) (t12c) (t13) ((IntKind.i64.wrap (t14 + 1))) h) :=
  (atP_loop Try.prog hint (b := nav [.snd, .snd, .snd, .fst, .snd, .blk, .lp, .snd, .snd, .fst, .blk, .snd, .snd, .blk, .lp] (bodyOf Try.f33)) rfl).trans (by kernel_rfl)
theorem eq34 (a0a : Option Addr) (a0n a0c : Nat) (b1a : Option Addr) (b1n b1c : Nat) (h : Hp) : run 34 [(.slice a0a a0n a0c), (.slice b1a b1n b1c)] h =
(bif (!decide ((a0n : Int) = (b1n : Int))) then
 some ((.bool false), h)
else
 L34_4 (a0a) (a0n) (a0c) (b1a) (b1n) (b1c) ((a0n : Int)) (0) h) :=
  (arun_eq Try.prog hint Try.func34 (c := bodyOf Try.f34) rfl rfl _ _).trans (by kernel_rfl)
theorem L34_4_eq (a0a : Option Addr) (a0n a0c : Nat) (b1a : Option Addr) (b1n b1c : Nat) (t13 : Int) (t14 : Int) (h : Hp) : L34_4 a0a a0n a0c b1a b1n b1c t13 t14 h =
(bif (decide (t14 < t13)) then
 atC a0a a0n 1 t14 fun d_1 =>
 ldSl h d_1 fun a_2 n_3 c_4 =>
 atC b1a b1n 1 t14 fun d_5 =>
 ldSl h d_5 fun a_6 n_7 c_8 =>
(bif (!decide ((n_3 : Int) = (n_7 : Int))) then
 some ((.bool false), h)
else
 atC a0a a0n 1 t14 fun d_9 =>
 ldSl h d_9 fun a_10 n_11 c_12 =>
 L34_9 (a0a) (a0n) (a0c) (b1a) (b1n) (b1c) (t14) (t13) (t14) ((n_11 : Int)) (0) h)
else
 some ((.bool true), h)) :=
  (atP_loop Try.prog hint (b := nav [.snd, .snd, .fst, .snd, .blk, .lp] (bodyOf Try.f34)) rfl).trans (by kernel_rfl)
theorem L34_9_eq (a0a : Option Addr) (a0n a0c : Nat) (b1a : Option Addr) (b1n b1c : Nat) (i5 : Int) (t13 : Int) (t14 : Int) (t32 : Int) (t33 : Int) (h : Hp) : L34_9 a0a a0n a0c b1a b1n b1c i5 t13 t14 t32 t33 h =
(bif (decide (t33 < t32)) then
 atC a0a a0n 1 i5 fun d_1 =>
 ldSl h d_1 fun a_2 n_3 c_4 =>
 atC a_2 n_3 1 t33 fun d_5 =>
 ldI h .i64 d_5 fun x_6 =>
 atC b1a b1n 1 i5 fun d_7 =>
 ldSl h d_7 fun a_8 n_9 c_10 =>
 atC a_8 n_9 1 t33 fun d_11 =>
 ldI h .i64 d_11 fun x_12 =>
(bif (!decide (x_6 = x_12)) then
 some ((.bool false), h)
else
 L34_9 (a0a) (a0n) (a0c) (b1a) (b1n) (b1c) (i5) (t13) (t14) (t32) ((IntKind.i64.wrap (t33 + 1))) h)
else
 L34_4 (a0a) (a0n) (a0c) (b1a) (b1n) (b1c) (t13) ((IntKind.i64.wrap (t14 + 1))) h) :=
  (atP_loop Try.prog hint (b := nav [.snd, .snd, .fst, .snd, .blk, .lp, .snd, .snd, .fst, .blk, .snd, .snd, .snd, .blk, .lp] (bodyOf Try.f34)) rfl).trans (by kernel_rfl)
theorem eq35 (s0a : Option Addr) (s0n s0c : Nat) (h : Hp) : run 35 [(.slice s0a s0n s0c)] h =
(bif s0a.isNone then
 some ((.slice none 0 0), h)
else
 lt (h.alloc [] 1 []) fun h_1 =>
 srcC h_1 1 s0n (.slice s0a s0n s0c) fun vs_2 =>
 growT h_1 1 8 (some ⟨h.next, 0, none⟩) 0 0 s0n vs_2 fun a_3 n_4 c_5 h_6 =>
 some ((.slice a_3 n_4 c_5), h_6)) :=
  (arun_eq Try.prog hint Try.func35 (c := bodyOf Try.f35) rfl rfl _ _).trans (by kernel_rfl)
theorem eq36 (p0a : Option Addr) (p0n p0c : Nat) (l1a : Option Addr) (l1n l1c : Nat)  (h : Hp) : run 36 [(.slice p0a p0n p0c), (.slice l1a l1n l1c), (.func (.func 37) #[] #[])] h =
 runC (run 13 [(.slice p0a p0n p0c)] h) fun v_1 h_2 =>
 asIntC .i64 v_1 fun x_3 =>
(bif (!decide (x_3 = 0)) then
 some ((.tuple #[(.slice none 0 0), (.int .i64 1)]), h_2)
else
(bif (!decide ((p0n : Int) = (l1n : Int))) then
 some ((.tuple #[(.slice none 0 0), (.int .i64 4)]), h_2)
else
 runC (run 37 [(.slice p0a p0n p0c), (.slice l1a l1n l1c)] h_2) fun v_4 h_5 =>
 asSliceC v_4 fun a_6 n_7 c_8 =>
 some ((.tuple #[(.slice a_6 n_7 c_8), (.int .i64 0)]), h_5))) :=
  (arun_eq Try.prog hint Try.func36 (c := bodyOf Try.f36) rfl rfl _ _).trans (by kernel_rfl)
theorem eq37 (o0a : Option Addr) (o0n o0c : Nat) (l1a : Option Addr) (l1n l1c : Nat) (h : Hp) : run 37 [(.slice o0a o0n o0c), (.slice l1a l1n l1c)] h =
 runC (run 43 [(.slice o0a o0n o0c), (.func (.func 44) #[(.slice l1a l1n l1c)] #[])] h) fun v_1 h_2 =>
 asSliceC v_1 fun a_3 n_4 c_5 =>
 some ((.slice a_3 n_4 c_5), h_2) :=
  (arun_eq Try.prog hint Try.func37 (c := bodyOf Try.f37) rfl rfl _ _).trans (by kernel_rfl)
theorem eq38 (rank0 : Int) (order1a : Option Addr) (order1n order1c : Nat) (h : Hp) : run 38 [(.int .i64 rank0), (.slice order1a order1n order1c)] h =
(bif (decide ((order1n : Int) = 0)) then
 L38_4 (none) (0) (0) (rank0) (0) h
else
(bif (!decide ((order1n : Int) = rank0)) then
 some ((.tuple #[(.slice none 0 0), (.bool false)]), h)
else
 L38_12 (order1a) (order1n) (order1c) (rank0) (0) h)) :=
  (arun_eq Try.prog hint Try.func38 (c := bodyOf Try.f38) rfl rfl _ _).trans (by kernel_rfl)
theorem L38_4_eq (out6a : Option Addr) (out6n out6c : Nat) (t15 : Int) (t16 : Int) (h : Hp) : L38_4 out6a out6n out6c t15 t16 h =
(bif (decide (t16 < t15)) then
 lt (h.alloc [(.int .i64 t16)] 1 []) fun h_1 =>
 srcC h_1 1 1 (.slice (some ⟨h.next, 0, none⟩) 1 0) fun vs_2 =>
 growT h_1 1 8 out6a out6n out6c 1 vs_2 fun a_3 n_4 c_5 h_6 =>
 L38_4 (a_3) (n_4) (c_5) (t15) ((IntKind.i64.wrap (t16 + 1))) h_6
else
 some ((.tuple #[(.slice out6a out6n out6c), (.bool true)]), h)) :=
  (atP_loop Try.prog hint (b := nav [.snd, .fst, .snd, .yes, .snd, .fst, .snd, .blk, .lp] (bodyOf Try.f38)) rfl).trans (by kernel_rfl)
theorem L38_12_eq (order1a : Option Addr) (order1n order1c : Nat) (t29 : Int) (t30 : Int) (h : Hp) : L38_12 order1a order1n order1c t29 t30 h =
(bif (decide (t30 < t29)) then
 L38_16 (order1a) (order1n) (order1c) (t30) (0) (t29) (t30) (order1a) (order1n) (order1c) ((order1n : Int)) (0) h
else
 some ((.tuple #[(.slice order1a order1n order1c), (.bool true)]), h)) :=
  (atP_loop Try.prog hint (b := nav [.snd, .snd, .snd, .fst, .snd, .blk, .lp] (bodyOf Try.f38)) rfl).trans (by kernel_rfl)
theorem L38_16_eq (order1a : Option Addr) (order1n order1c : Nat) (i8 : Int) (many9 : Int) (t29 : Int) (t30 : Int) (t33a : Option Addr) (t33n t33c : Nat) (t34 : Int) (t35 : Int) (h : Hp) : L38_16 order1a order1n order1c i8 many9 t29 t30 t33a t33n t33c t34 t35 h =
(bif (decide (t35 < t34)) then
 atC t33a t33n 1 t35 fun d_1 =>
 ldI h .i64 d_1 fun x_2 =>
(bif (decide (x_2 = i8)) then
 L38_16 (order1a) (order1n) (order1c) (i8) ((IntKind.i64.wrap (many9 + 1))) (t29) (t30) (t33a) (t33n) (t33c) (t34) ((IntKind.i64.wrap (t35 + 1))) h
else
 L38_16 (order1a) (order1n) (order1c) (i8) (many9) (t29) (t30) (t33a) (t33n) (t33c) (t34) ((IntKind.i64.wrap (t35 + 1))) h)
else
(bif (!decide (many9 = 1)) then
 some ((.tuple #[(.slice none 0 0), (.bool false)]), h)
else
 L38_12 (order1a) (order1n) (order1c) (t29) ((IntKind.i64.wrap (t30 + 1))) h)) :=
  (atP_loop Try.prog hint (b := nav [.snd, .snd, .snd, .fst, .snd, .blk, .lp, .snd, .snd, .fst, .blk, .snd, .snd, .fst, .snd, .blk, .lp] (bodyOf Try.f38)) rfl).trans (by kernel_rfl)
theorem eq39 (p0a : Option Addr) (p0n p0c : Nat) (h : Hp) : run 39 [(.slice p0a p0n p0c)] h =
(bif (decide (12 < (p0n : Int))) then
 some ((.bool false), h)
else
(bif (decide ((p0n : Int) = 0)) then
 some ((.bool true), h)
else
 runC (run 38 [(.int .i64 (p0n : Int)), (.slice p0a p0n p0c)] h) fun v_1 h_2 =>
 tupC v_1 fun l_3 =>
 consC l_3 fun v_4 l_5 =>
 asSliceC v_4 fun a_6 n_7 c_8 =>
 consC l_5 fun v_9 l_10 =>
 asBoolC v_9 fun b_11 =>
 endC l_10 <|
 some ((.bool b_11), h_2))) :=
  (arun_eq Try.prog hint Try.func39 (c := bodyOf Try.f39) rfl rfl _ _).trans (by kernel_rfl)
theorem eq40  (h : Hp) : run 40 [] h =
 lt (h.alloc [(.int .i64 0), (.int .i64 0), (.int .i64 0), (.int .i64 0), (.int .i64 0), (.int .i64 0), (.int .i64 0), (.int .i64 0), (.int .i64 0), (.int .i64 0), (.int .i64 0), (.int .i64 0), (.int .i64 0)] 0 []) fun h_1 =>
 lt (h_1.alloc [(.int .i64 0), (.int .i64 0), (.int .i64 0), (.int .i64 0), (.int .i64 0), (.int .i64 0), (.int .i64 0), (.int .i64 0), (.int .i64 0), (.int .i64 0), (.int .i64 0), (.int .i64 0), (.int .i64 0)] 0 []) fun h_2 =>
 h_2.stC ⟨h_1.next, 0, none⟩ [(.int .i64 1), (.int .i64 0), (.int .i64 0), (.int .i64 0), (.int .i64 0), (.int .i64 0), (.int .i64 0), (.int .i64 0), (.int .i64 0), (.int .i64 0), (.int .i64 0), (.int .i64 0), (.int .i64 0)] fun h_3 =>
 L40_3 ((some ⟨h.next, 0, none⟩)) ((some ⟨h_1.next, 0, none⟩)) (1) h_3 :=
  (arun_eq Try.prog hint Try.func40 (c := bodyOf Try.f40) rfl rfl _ _).trans (by kernel_rfl)
theorem L40_3_eq (t0 : Option Addr) (f1 : Option Addr) (n2 : Int) (h : Hp) : L40_3 t0 f1 n2 h =
(bif (decide (n2 < 13)) then
 atC f1 13 1 (IntKind.i64.wrap (n2 - 1)) fun d_1 =>
 ldI h .i64 d_1 fun x_2 =>
 atC f1 13 1 n2 fun d_3 =>
 h.stC d_3 [(.int .i64 (IntKind.i64.wrap (n2 * x_2)))] fun h_4 =>
 L40_3 (t0) (f1) ((IntKind.i64.wrap (n2 + 1))) h_4
else
 someC f1 fun d_5 =>
 ldI h .i64 (d_5.add 0) fun x_6 =>
 ldI h .i64 (d_5.add 1) fun x_7 =>
 ldI h .i64 (d_5.add 2) fun x_8 =>
 ldI h .i64 (d_5.add 3) fun x_9 =>
 ldI h .i64 (d_5.add 4) fun x_10 =>
 ldI h .i64 (d_5.add 5) fun x_11 =>
 ldI h .i64 (d_5.add 6) fun x_12 =>
 ldI h .i64 (d_5.add 7) fun x_13 =>
 ldI h .i64 (d_5.add 8) fun x_14 =>
 ldI h .i64 (d_5.add 9) fun x_15 =>
 ldI h .i64 (d_5.add 10) fun x_16 =>
 ldI h .i64 (d_5.add 11) fun x_17 =>
 ldI h .i64 (d_5.add 12) fun x_18 =>
 someC t0 fun d_19 =>
 h.stC d_19 [(.int .i64 x_6), (.int .i64 x_7), (.int .i64 x_8), (.int .i64 x_9), (.int .i64 x_10), (.int .i64 x_11), (.int .i64 x_12), (.int .i64 x_13), (.int .i64 x_14), (.int .i64 x_15), (.int .i64 x_16), (.int .i64 x_17), (.int .i64 x_18)] fun h_20 =>
 someC t0 fun d_21 =>
 ldI h_20 .i64 (d_21.add 0) fun x_22 =>
 ldI h_20 .i64 (d_21.add 1) fun x_23 =>
 ldI h_20 .i64 (d_21.add 2) fun x_24 =>
 ldI h_20 .i64 (d_21.add 3) fun x_25 =>
 ldI h_20 .i64 (d_21.add 4) fun x_26 =>
 ldI h_20 .i64 (d_21.add 5) fun x_27 =>
 ldI h_20 .i64 (d_21.add 6) fun x_28 =>
 ldI h_20 .i64 (d_21.add 7) fun x_29 =>
 ldI h_20 .i64 (d_21.add 8) fun x_30 =>
 ldI h_20 .i64 (d_21.add 9) fun x_31 =>
 ldI h_20 .i64 (d_21.add 10) fun x_32 =>
 ldI h_20 .i64 (d_21.add 11) fun x_33 =>
 ldI h_20 .i64 (d_21.add 12) fun x_34 =>
 some ((.agg #[(.int .i64 x_22), (.int .i64 x_23), (.int .i64 x_24), (.int .i64 x_25), (.int .i64 x_26), (.int .i64 x_27), (.int .i64 x_28), (.int .i64 x_29), (.int .i64 x_30), (.int .i64 x_31), (.int .i64 x_32), (.int .i64 x_33), (.int .i64 x_34)]), h_20)) :=
  (atP_loop Try.prog hint (b := nav [.snd, .snd, .fst, .snd, .blk, .lp] (bodyOf Try.f40)) rfl).trans (by kernel_rfl)
theorem eq41 (s0a : Option Addr) (s0n s0c : Nat) (h : Hp) : run 41 [(.slice s0a s0n s0c)] h =
 L41_1 (s0a) (s0n) (s0c) (0) ((IntKind.i64.wrap ((s0n : Int) - 1))) h :=
  (arun_eq Try.prog hint Try.func41 (c := bodyOf Try.f41) rfl rfl _ _).trans (by kernel_rfl)
theorem L41_1_eq (s0a : Option Addr) (s0n s0c : Nat) (i2 : Int) (j3 : Int) (h : Hp) : L41_1 s0a s0n s0c i2 j3 h =
(bif (decide (i2 < j3)) then
 atC s0a s0n 1 j3 fun d_1 =>
 ldI h .i64 d_1 fun x_2 =>
 atC s0a s0n 1 i2 fun d_3 =>
 ldI h .i64 d_3 fun x_4 =>
 atC s0a s0n 1 i2 fun d_5 =>
 h.stC d_5 [(.int .i64 x_2)] fun h_6 =>
 atC s0a s0n 1 j3 fun d_7 =>
 h_6.stC d_7 [(.int .i64 x_4)] fun h_8 =>
 L41_1 (s0a) (s0n) (s0c) ((IntKind.i64.wrap (i2 + 1))) ((IntKind.i64.wrap (j3 - 1))) h_8
else
 some ((.tuple #[]), h)) :=
  (atP_loop Try.prog hint (b := nav [.snd, .blk, .lp] (bodyOf Try.f41)) rfl).trans (by kernel_rfl)
theorem eq42 (n0 : Int) (h : Hp) : run 42 [(.int .i64 n0)] h =
(bif (decide (n0 < 2)) then
 some ((.int .i64 1), h)
else
 runC (run 42 [(.int .i64 (IntKind.i64.wrap (n0 - 1)))] h) fun v_1 h_2 =>
 asIntC .i64 v_1 fun x_3 =>
 some ((.int .i64 (IntKind.i64.wrap (n0 * x_3))), h_2)) :=
  (arun_eq Try.prog hint Try.func42 (c := bodyOf Try.f42) rfl rfl _ _).trans (by kernel_rfl)
theorem eq43 (l0a : Option Addr) (l0n l0c : Nat) (do1_0a : Option Addr) (do1_0n do1_0c : Nat) (h : Hp) : run 43 [(.slice l0a l0n l0c), (.func (.func 44) #[(.slice do1_0a do1_0n do1_0c)] #[])] h =
 L43_3 (do1_0a) (do1_0n) (do1_0c) (none) (0) (0) (l0a) (l0n) (l0c) ((l0n : Int)) (0) h :=
  (arun_eq Try.prog hint Try.func43 (c := bodyOf Try.f43) rfl rfl _ _).trans (by kernel_rfl)
theorem L43_3_eq (do1_0a : Option Addr) (do1_0n do1_0c : Nat) (out5a : Option Addr) (out5n out5c : Nat) (t8a : Option Addr) (t8n t8c : Nat) (t9 : Int) (t10 : Int) (h : Hp) : L43_3 do1_0a do1_0n do1_0c out5a out5n out5c t8a t8n t8c t9 t10 h =
(bif (decide (t10 < t9)) then
 atC t8a t8n 1 t10 fun d_1 =>
 ldI h .i64 d_1 fun x_2 =>
 runC (run 44 [(.slice do1_0a do1_0n do1_0c), (.int .i64 x_2)] h) fun v_3 h_4 =>
 asIntC .i64 v_3 fun x_5 =>
 lt (h_4.alloc [(.int .i64 x_5)] 1 []) fun h_6 =>
 srcC h_6 1 1 (.slice (some ⟨h_4.next, 0, none⟩) 1 0) fun vs_7 =>
 growT h_6 1 8 out5a out5n out5c 1 vs_7 fun a_8 n_9 c_10 h_11 =>
 L43_3 (do1_0a) (do1_0n) (do1_0c) (a_8) (n_9) (c_10) (t8a) (t8n) (t8c) (t9) ((IntKind.i64.wrap (t10 + 1))) h_11
else
 some ((.slice out5a out5n out5c), h)) :=
  (atP_loop Try.prog hint (b := nav [.snd, .snd, .fst, .snd, .blk, .lp] (bodyOf Try.f43)) rfl).trans (by kernel_rfl)
theorem eq44 (o0a : Option Addr) (o0n o0c : Nat) (x1 : Int) (h : Hp) : run 44 [(.slice o0a o0n o0c), (.int .i64 x1)] h =
 atC o0a o0n 1 x1 fun d_1 =>
 ldI h .i64 d_1 fun x_2 =>
 some ((.int .i64 x_2), h) :=
  (arun_eq Try.prog hint Try.func44 (c := bodyOf Try.f44) rfl rfl _ _).trans (by kernel_rfl)
end Go.Proofs.Ytcdeeppiljcddaa.AM
