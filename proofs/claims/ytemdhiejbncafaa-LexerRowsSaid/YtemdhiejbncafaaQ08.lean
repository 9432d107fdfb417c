/- The equations of the functions, as the small evaluator gives them (printed by vgen.py). Conditions: none. -/
import Derived.Test.YtemdhiejbncafaaVmD
import Derived.Test.YtemdhiejbncafaaProg
set_option linter.all false
set_option linter.unusedVariables false
namespace Go.Proofs.Ytemdhiejbncafaa.VM
set_option linter.unusedSimpArgs false
set_option linter.unusedSectionVars false
open Go AM
def normTab : List (Nat × Nat × List (Nat × Norm)) := [
  (30, 0, [(2, { slots := [(0, 0), (3, 0)], cells := [] })]),
  (15, 0, [(4, { slots := [(0, 0), (2, 0), (23, 0), (24, 0)], cells := [] })]),
  (12, 0, [(6, { slots := [(0, 0), (5, 5), (6, 0), (7, 0)], cells := [] }), (21, { slots := [(0, 0), (5, 0), (6, 0), (7, 0), (8, 0)], cells := [] }), (26, { slots := [(0, 0), (5, 0), (7, 0), (8, 0), (9, 0)], cells := [] }), (28, { slots := [(0, 0), (5, 0)], cells := [] })]),
  (16, 0, [(5, { slots := [(0, 0), (4, 0), (25, 0), (26, 0)], cells := [] })]),
  (19, 0, [(4, { slots := [(0, 0), (19, 0), (20, 0)], cells := [] })]),
  (13, 0, [(6, { slots := [(0, 0), (5, 5), (6, 0), (7, 0)], cells := [] }), (12, { slots := [(0, 0), (5, 0), (6, 0), (7, 0)], cells := [] }), (15, { slots := [(0, 0), (5, 0), (6, 0), (7, 0), (8, 0), (9, 0)], cells := [] }), (22, { slots := [(0, 0), (5, 0), (7, 0), (9, 0), (10, 0)], cells := [] })]),
  (14, 0, [(4, { slots := [(0, 0), (1, 0), (12, 0), (13, 0)], cells := [] })]),
  (4, 0, [(17, { slots := [(7, 0), (11, 0), (19, 0), (22, 0)], cells := [] })]),
  (35, 0, [(1, { slots := [(0, 3), (2, 0), (3, 0)], cells := [] })]),
  (17, 0, [(5, { slots := [(0, 0), (3, 3), (4, 0)], cells := [] })]),
  (36, 0, [(4, { slots := [(0, 0), (3, 0)], cells := [] })]),
  (21, 0, [(2, { slots := [(0, 0), (5, 0), (6, 0), (7, 0)], cells := [] })]),
  (37, 0, [(2, { slots := [(0, 0), (1, 0), (7, 0), (8, 0)], cells := [] })]),
  (22, 0, [(2, { slots := [(0, 0), (3, 3)], cells := [] })]),
  (8, 0, [(12, { slots := [(5, 0), (9, 0), (10, 0), (57, 0), (58, 0)], cells := [] }), (17, { slots := [(5, 0), (9, 0), (10, 0), (57, 0), (58, 0), (74, 0), (75, 0), (76, 0)], cells := [] })]),
  (27, 0, [(12, { slots := [(5, 0)], cells := [] })]),
  (24, 0, [(2, { slots := [(0, 0), (9, 0), (10, 0), (11, 0)], cells := [] }), (11, { slots := [(0, 0), (6, 0), (48, 0), (49, 0), (50, 0)], cells := [] })])]
def callTab : List (Nat × Nat × List (Nat × Nat × CallH)) := [
  (17, 0, [(10, 1, { w := 0, own := [2], pre := [], out := (.tup []), blks := [(0, (.arr 1))] })])]
def unrollTab : List (Nat × Nat × Nat) := []
def ownTab : List (Nat × List Nat) := []
def eqtTab : List (Nat × List Value) := [(31, [.int .i64 0, .string ByteArray.empty, .int .i64 0])]
def ovSet : List Nat := [43]
def hint : Hint := mkHint eqtTab normTab callTab ownTab unrollTab ovSet
noncomputable def vr (f w : Nat) (args : List V) (st : St) : Option (V × St) := vrun Try.prog hint f w args st
/-- purfle/lexer.run, region 2. -/
noncomputable def L30_2 (s0 : ByteArray) (n3 : Int) : Option (V × St) := atV Try.prog hint 30 0 Try.f30 25 (List.reverse [.blk, .fst, .snd, .snd]) [(0, (.t (.str s0))), (3, (.t (.int .i64 n3)))] ⟨[], []⟩
/-- purfle/lexer.Number, region 4. -/
noncomputable def L15_4 (s0 : ByteArray) (n2 : Int) (t23 : Int) (t24 : Int) : Option (V × St) := atV Try.prog hint 15 0 Try.f15 42 (List.reverse [.blk, .snd, .fst, .snd, .snd]) [(0, (.t (.str s0))), (2, (.t (.int .i64 n2))), (23, (.t (.int .i64 t23))), (24, (.t (.int .i64 t24)))] ⟨[], []⟩
/-- purfle/lexer.Cut, region 6. -/
noncomputable def L12_6 (s0 : ByteArray) (ends6 : Bool) (at7 : Int) (m8z : Bool) (m8 : List T) : Option (V × St) := atV Try.prog hint 12 0 Try.f12 82 (List.reverse [.blk, .fst, .snd, .snd, .snd, .snd, .snd, .blk, .snd]) [(0, (.t (.str s0))), (5, (.buf 8)), (6, (.t (.bool ends6))), (7, (.t (.int .i64 at7)))] ⟨[(8, (.arr true 3 m8z m8))], []⟩
/-- purfle/lexer.Cut, region 28. -/
noncomputable def J12_28 (s0 : ByteArray) (m8z : Bool) (m8 : List T) : Option (V × St) := atV Try.prog hint 12 0 Try.f12 82 (List.reverse [.snd, .snd, .snd, .snd, .snd, .snd, .blk, .snd]) [(0, (.t (.str s0))), (5, (.buf 8))] ⟨[(8, (.arr true 3 m8z m8))], []⟩
/-- purfle/lexer.Cut, region 21. -/
noncomputable def J12_21 (s0 : ByteArray) (ends6 : Bool) (at7 : Int) (n8 : Int) (m8z : Bool) (m8 : List T) : Option (V × St) := atV Try.prog hint 12 0 Try.f12 82 (List.reverse [.snd, .snd, .blk, .snd, .lp, .blk, .fst, .snd, .snd, .snd, .snd, .snd, .blk, .snd]) [(0, (.t (.str s0))), (5, (.buf 8)), (6, (.t (.bool ends6))), (7, (.t (.int .i64 at7))), (8, (.t (.int .i64 n8)))] ⟨[(8, (.arr true 3 m8z m8))], []⟩
/-- purfle/lexer.Cut, region 26. -/
noncomputable def J12_26 (s0 : ByteArray) (at7 : Int) (n8 : Int) (m8z : Bool) (m8 : List T) (m9_0 : Int) (m9_1 : ByteArray) (m9_2 : Int) : Option (V × St) := atV Try.prog hint 12 0 Try.f12 82 (List.reverse [.snd, .snd, .snd, .snd, .snd, .blk, .snd, .lp, .blk, .fst, .snd, .snd, .snd, .snd, .snd, .blk, .snd]) [(0, (.t (.str s0))), (5, (.buf 8)), (7, (.t (.int .i64 at7))), (8, (.t (.int .i64 n8))), (9, (.ptr 9 0 0))] ⟨[(8, (.arr true 3 m8z m8)), (9, (.var [(.t (.int .i64 m9_0)), (.t (.str m9_1)), (.t (.int .i64 m9_2))]))], []⟩
/-- purfle/purfleref08.Number, region 5. -/
noncomputable def L16_5 (s0 : ByteArray) (n4 : Int) (t25 : Int) (t26 : Int) : Option (V × St) := atV Try.prog hint 16 0 Try.f16 44 (List.reverse [.blk, .snd, .fst, .snd, .snd, .snd]) [(0, (.t (.str s0))), (4, (.t (.int .i64 n4))), (25, (.t (.int .i64 t25))), (26, (.t (.int .i64 t26)))] ⟨[], []⟩
/-- purfle/purfleref08.Word, region 4. -/
noncomputable def L19_4 (s0 : ByteArray) (t19 : Int) (t20 : Int) : Option (V × St) := atV Try.prog hint 19 0 Try.f19 36 (List.reverse [.blk, .snd, .fst, .snd, .snd]) [(0, (.t (.str s0))), (19, (.t (.int .i64 t19))), (20, (.t (.int .i64 t20)))] ⟨[], []⟩
/-- purfle/purfleref08.Cut, region 6. -/
noncomputable def L13_6 (s0 : ByteArray) (line6 : Bool) (i7 : Int) (m8z : Bool) (m8 : List T) : Option (V × St) := atV Try.prog hint 13 0 Try.f13 121 (List.reverse [.blk, .snd, .fst, .snd, .snd, .snd, .snd]) [(0, (.t (.str s0))), (5, (.buf 8)), (6, (.t (.bool line6))), (7, (.t (.int .i64 i7)))] ⟨[(8, (.arr true 3 m8z m8))], []⟩
/-- purfle/purfleref08.Cut, region 12. -/
noncomputable def L13_12 (s0 : ByteArray) (line6 : Bool) (i7 : Int) (m8z : Bool) (m8 : List T) : Option (V × St) := atV Try.prog hint 13 0 Try.f13 121 (List.reverse [.blk, .fst, .yes, .snd, .fst, .snd, .snd, .blk, .snd, .lp, .blk, .snd, .fst, .snd, .snd, .snd, .snd]) [(0, (.t (.str s0))), (5, (.buf 8)), (6, (.t (.bool line6))), (7, (.t (.int .i64 i7)))] ⟨[(8, (.arr true 3 m8z m8))], []⟩
/-- purfle/purfleref08.Cut, region 15. -/
noncomputable def L13_15 (s0 : ByteArray) (line6 : Bool) (i7 : Int) (c8 : Int) (n9 : Int) (m8z : Bool) (m8 : List T) : Option (V × St) := atV Try.prog hint 13 0 Try.f13 121 (List.reverse [.blk, .fst, .snd, .snd, .snd, .snd, .blk, .snd, .lp, .blk, .snd, .fst, .snd, .snd, .snd, .snd]) [(0, (.t (.str s0))), (5, (.buf 8)), (6, (.t (.bool line6))), (7, (.t (.int .i64 i7))), (8, (.t (.int .u8 c8))), (9, (.t (.int .i64 n9)))] ⟨[(8, (.arr true 3 m8z m8))], []⟩
/-- purfle/purfleref08.Cut, region 22. -/
noncomputable def J13_22 (s0 : ByteArray) (i7 : Int) (n9 : Int) (m8z : Bool) (m8 : List T) (m9_0 : Int) (m9_1 : ByteArray) (m9_2 : Int) : Option (V × St) := atV Try.prog hint 13 0 Try.f13 121 (List.reverse [.snd, .snd, .snd, .snd, .snd, .snd, .snd, .snd, .blk, .snd, .lp, .blk, .snd, .fst, .snd, .snd, .snd, .snd]) [(0, (.t (.str s0))), (5, (.buf 8)), (7, (.t (.int .i64 i7))), (9, (.t (.int .i64 n9))), (10, (.ptr 9 0 0))] ⟨[(8, (.arr true 3 m8z m8)), (9, (.var [(.t (.int .i64 m9_0)), (.t (.str m9_1)), (.t (.int .i64 m9_2))]))], []⟩
/-- purfle/purfleref08.Same, region 4. -/
noncomputable def L14_4 (a0z : Bool) (a0 : List T) (b1z : Bool) (b1 : List T) (t12 : Int) (t13 : Int) : Option (V × St) := atV Try.prog hint 14 0 Try.f14 26 (List.reverse [.blk, .snd, .fst, .snd, .snd]) [(0, (.t (.list 3 a0z a0))), (1, (.t (.list 3 b1z b1))), (12, (.t (.int .i64 t12))), (13, (.t (.int .i64 t13)))] ⟨[], []⟩
/-- purfle/purflelaw08.LexerBlanks, region 17. -/
noncomputable def J4_17 (up7 : Bool) (b11z : Bool) (b11 : List T) (d19z : Bool) (d19 : List T) (m8z : Bool) (m8 : List T) : Option (V × St) := atV Try.prog hint 4 0 Try.f4 128 (List.reverse [.snd, .snd, .snd, .snd, .snd, .snd, .snd, .snd, .snd, .snd, .snd, .snd, .snd]) [(7, (.t (.bool up7))), (11, (.t (.list 3 b11z b11))), (19, (.t (.list 3 d19z d19))), (22, (.buf 8))] ⟨[(8, (.arr true 3 m8z m8))], []⟩
/-- slices.Reverse[[]byte,byte], region 1. -/
noncomputable def L35_1 (i2 : Int) (j3 : Int) (m0z : Bool) (m0 : List T) : Option (V × St) := atV Try.prog hint 35 0 Try.f35 28 (List.reverse [.blk, .snd]) [(0, (.buf 0)), (2, (.t (.int .i64 i2))), (3, (.t (.int .i64 j3)))] ⟨[(0, (.arr true 1 m0z m0))], []⟩
/-- purfle/lexer.Digits, region 5. -/
noncomputable def L17_5 (n0 : Int) (u4 : Int) (m8z : Bool) (m8 : List T) : Option (V × St) := atV Try.prog hint 17 0 Try.f17 31 (List.reverse [.blk, .fst, .snd, .snd, .snd, .snd]) [(0, (.t (.int .i64 n0))), (3, (.buf 8)), (4, (.t (.int .u64 u4)))] ⟨[(8, (.arr true 1 m8z m8))], []⟩
/-- purfle/purfleref08.last, region 4. -/
noncomputable def J36_4 (n0 : Int) (d3 : Int) : Option (V × St) := atV Try.prog hint 36 0 Try.f36 24 (List.reverse [.snd, .snd, .snd]) [(0, (.t (.int .i64 n0))), (3, (.t (.int .i64 d3)))] ⟨[], []⟩
/-- purfle/purflelaw08.few, region 2. -/
noncomputable def L21_2 (l0z : Bool) (l0 : List T) (t5z : Bool) (t5 : List T) (t6 : Int) (t7 : Int) : Option (V × St) := atV Try.prog hint 21 0 Try.f21 19 (List.reverse [.blk, .snd, .fst, .snd]) [(0, (.t (.list 3 l0z l0))), (5, (.t (.list 3 t5z t5))), (6, (.t (.int .i64 t6))), (7, (.t (.int .i64 t7)))] ⟨[], []⟩
/-- slices.IndexFunc[[]purfle/api.Token,purfle/api.Token], region 2. -/
noncomputable def L37_2 (s0z : Bool) (s0 : List T) (t7 : Int) (t8 : Int) : Option (V × St) := atV Try.prog hint 37 0 Try.f37 19 (List.reverse [.blk, .snd, .fst, .snd]) [(0, (.t (.list 3 s0z s0))), (1, (.fn 38 [] [])), (7, (.t (.int .i64 t7))), (8, (.t (.int .i64 t8)))] ⟨[], []⟩
/-- purfle/lexer.Lines, region 2. -/
noncomputable def L22_2 (l0z : Bool) (l0 : List T) (m8z : Bool) (m8 : List T) : Option (V × St) := atV Try.prog hint 22 0 Try.f22 35 (List.reverse [.blk, .fst, .snd, .snd]) [(0, (.t (.list 3 l0z l0))), (3, (.buf 8))] ⟨[(8, (.arr true 1 m8z m8))], []⟩
/-- purfle/purflelaw08.LexerRows, region 12. -/
noncomputable def L8_12 (up5 : Bool) (z9z : Bool) (z9 : List T) (t57 : Int) (t58 : Int) (m8z : Bool) (m8 : List T) : Option (V × St) := atV Try.prog hint 8 0 Try.f8 86 (List.reverse [.blk, .snd, .fst, .snd, .snd, .snd, .snd, .snd, .snd, .snd, .snd, .snd]) [(5, (.t (.bool up5))), (9, (.t (.list 1 z9z z9))), (10, (.buf 8)), (57, (.t (.int .i64 t57))), (58, (.t (.int .i64 t58)))] ⟨[(8, (.arr true 1 m8z m8))], []⟩
/-- purfle/purflelaw08.LexerRows, region 17. -/
noncomputable def L8_17 (up5 : Bool) (z9z : Bool) (z9 : List T) (t57 : Int) (t58 : Int) (t74z : Bool) (t74 : List T) (t75 : Int) (t76 : Int) (m8z : Bool) (m8 : List T) : Option (V × St) := atV Try.prog hint 8 0 Try.f8 86 (List.reverse [.blk, .snd, .snd, .snd, .blk, .fst, .snd, .snd, .lp, .blk, .snd, .fst, .snd, .snd, .snd, .snd, .snd, .snd, .snd, .snd, .snd]) [(5, (.t (.bool up5))), (9, (.t (.list 1 z9z z9))), (10, (.buf 8)), (57, (.t (.int .i64 t57))), (58, (.t (.int .i64 t58))), (74, (.t (.list 3 t74z t74))), (75, (.t (.int .i64 t75))), (76, (.t (.int .i64 t76)))] ⟨[(8, (.arr true 1 m8z m8))], []⟩
/-- purfle/purfleref08.Check, region 12. -/
noncomputable def J27_12 (ok5 : Bool) : Option (V × St) := atV Try.prog hint 27 0 Try.f27 55 (List.reverse [.snd, .snd, .snd, .snd]) [(5, (.t (.bool ok5)))] ⟨[], []⟩
/-- purfle/purfleref08.Join, region 2. -/
noncomputable def L24_2 (l0z : Bool) (l0 : List T) (t9z : Bool) (t9 : List T) (t10 : Int) (t11 : Int) : Option (V × St) := atV Try.prog hint 24 0 Try.f24 79 (List.reverse [.blk, .snd, .fst, .snd]) [(0, (.t (.list 3 l0z l0))), (9, (.t (.list 3 t9z t9))), (10, (.t (.int .i64 t10))), (11, (.t (.int .i64 t11)))] ⟨[], []⟩
/-- purfle/purfleref08.Join, region 11. -/
noncomputable def L24_11 (l0z : Bool) (l0 : List T) (s6 : ByteArray) (t48z : Bool) (t48 : List T) (t49 : Int) (t50 : Int) : Option (V × St) := atV Try.prog hint 24 0 Try.f24 79 (List.reverse [.blk, .snd, .fst, .snd, .snd, .snd, .snd]) [(0, (.t (.list 3 l0z l0))), (6, (.t (.str s6))), (48, (.t (.list 3 t48z t48))), (49, (.t (.int .i64 t49))), (50, (.t (.int .i64 t50)))] ⟨[], []⟩
theorem eq29g  (a0 : ByteArray) (a1 : Int) : codeT Try.prog hint 29 0 8 [] [] (resKV Try.prog Try.f29 (hint.own 29 0)) (nrm hint 29 0 (bodyOf Try.f29) (envV [(.t (.str a0)), (.t (.int .u8 a1))] 0) ⟨[], []⟩).1 (nrm hint 29 0 (bodyOf Try.f29) (envV [(.t (.str a0)), (.t (.int .u8 a1))] 0) ⟨[], []⟩).2 (bodyOf Try.f29) =
 callK (vr 43 0 [(.t (.str a0)), (.t (.int .u8 a1))] ⟨[], []⟩) fun v_1 b_2 =>
 asT v_1 fun x_3 =>
 asI .i64 x_3 fun x_4 =>
 endB b_2 <|
 some ((.t (.int .i64 x_4)), ⟨[], []⟩) := by kernel_rfl
/-- strings.IndexByte -/
theorem eq29 (a0 : ByteArray) (a1 : Int) : vr 29 0 [(.t (.str a0)), (.t (.int .u8 a1))] ⟨[], []⟩ =
 callK (vr 43 0 [(.t (.str a0)), (.t (.int .u8 a1))] ⟨[], []⟩) fun v_1 b_2 =>
 asT v_1 fun x_3 =>
 asI .i64 x_3 fun x_4 =>
 endB b_2 <|
 some ((.t (.int .i64 x_4)), ⟨[], []⟩) :=
  (call_eq Try.prog hint (fn := Try.f29) (nt := 8) (T := []) [] rfl [(.t (.str a0)), (.t (.int .u8 a1))] ⟨[], []⟩ rfl rfl rfl rfl rfl).trans (eq29g  a0 a1)
theorem eq28g  (a0 : Int) : codeT Try.prog hint 28 0 36 [] [] (resKV Try.prog Try.f28 (hint.own 28 0)) (nrm hint 28 0 (bodyOf Try.f28) (envV [(.t (.int .u8 a0))] 0) ⟨[], []⟩).1 (nrm hint 28 0 (bodyOf Try.f28) (envV [(.t (.int .u8 a0))] 0) ⟨[], []⟩).2 (bodyOf Try.f28) =
(bif (decide (97 ≤ (bitsI .or .u8 a0 32))) then
(bif (decide ((bitsI .or .u8 a0 32) ≤ 122)) then
 some ((.t (.int .i64 1)), ⟨[], []⟩)
else
(bif (decide (48 ≤ a0)) then
(bif (decide (a0 ≤ 57)) then
 some ((.t (.int .i64 2)), ⟨[], []⟩)
else
 callK (vr 29 0 [(.t (.str ⟨#[43, 45, 42, 40, 41, 91, 93, 44, 61, 58]⟩)), (.t (.int .u8 a0))] ⟨[], []⟩) fun v_1 b_2 =>
 asT v_1 fun x_3 =>
 asI .i64 x_3 fun x_4 =>
 endB b_2 <|
(bif (decide (0 ≤ x_4)) then
 some ((.t (.int .i64 3)), ⟨[], []⟩)
else
(bif (decide (a0 = 32)) then
 some ((.t (.int .i64 4)), ⟨[], []⟩)
else
(bif (decide (a0 = 9)) then
 some ((.t (.int .i64 4)), ⟨[], []⟩)
else
(bif (decide (a0 = 10)) then
 some ((.t (.int .i64 5)), ⟨[], []⟩)
else
(bif (decide (a0 = 35)) then
 some ((.t (.int .i64 6)), ⟨[], []⟩)
else
 some ((.t (.int .i64 0)), ⟨[], []⟩)))))))
else
 callK (vr 29 0 [(.t (.str ⟨#[43, 45, 42, 40, 41, 91, 93, 44, 61, 58]⟩)), (.t (.int .u8 a0))] ⟨[], []⟩) fun v_5 b_6 =>
 asT v_5 fun x_7 =>
 asI .i64 x_7 fun x_8 =>
 endB b_6 <|
(bif (decide (0 ≤ x_8)) then
 some ((.t (.int .i64 3)), ⟨[], []⟩)
else
(bif (decide (a0 = 32)) then
 some ((.t (.int .i64 4)), ⟨[], []⟩)
else
(bif (decide (a0 = 9)) then
 some ((.t (.int .i64 4)), ⟨[], []⟩)
else
(bif (decide (a0 = 10)) then
 some ((.t (.int .i64 5)), ⟨[], []⟩)
else
(bif (decide (a0 = 35)) then
 some ((.t (.int .i64 6)), ⟨[], []⟩)
else
 some ((.t (.int .i64 0)), ⟨[], []⟩))))))))
else
(bif (decide (48 ≤ a0)) then
(bif (decide (a0 ≤ 57)) then
 some ((.t (.int .i64 2)), ⟨[], []⟩)
else
 callK (vr 29 0 [(.t (.str ⟨#[43, 45, 42, 40, 41, 91, 93, 44, 61, 58]⟩)), (.t (.int .u8 a0))] ⟨[], []⟩) fun v_9 b_10 =>
 asT v_9 fun x_11 =>
 asI .i64 x_11 fun x_12 =>
 endB b_10 <|
(bif (decide (0 ≤ x_12)) then
 some ((.t (.int .i64 3)), ⟨[], []⟩)
else
(bif (decide (a0 = 32)) then
 some ((.t (.int .i64 4)), ⟨[], []⟩)
else
(bif (decide (a0 = 9)) then
 some ((.t (.int .i64 4)), ⟨[], []⟩)
else
(bif (decide (a0 = 10)) then
 some ((.t (.int .i64 5)), ⟨[], []⟩)
else
(bif (decide (a0 = 35)) then
 some ((.t (.int .i64 6)), ⟨[], []⟩)
else
 some ((.t (.int .i64 0)), ⟨[], []⟩)))))))
else
 callK (vr 29 0 [(.t (.str ⟨#[43, 45, 42, 40, 41, 91, 93, 44, 61, 58]⟩)), (.t (.int .u8 a0))] ⟨[], []⟩) fun v_13 b_14 =>
 asT v_13 fun x_15 =>
 asI .i64 x_15 fun x_16 =>
 endB b_14 <|
(bif (decide (0 ≤ x_16)) then
 some ((.t (.int .i64 3)), ⟨[], []⟩)
else
(bif (decide (a0 = 32)) then
 some ((.t (.int .i64 4)), ⟨[], []⟩)
else
(bif (decide (a0 = 9)) then
 some ((.t (.int .i64 4)), ⟨[], []⟩)
else
(bif (decide (a0 = 10)) then
 some ((.t (.int .i64 5)), ⟨[], []⟩)
else
(bif (decide (a0 = 35)) then
 some ((.t (.int .i64 6)), ⟨[], []⟩)
else
 some ((.t (.int .i64 0)), ⟨[], []⟩)))))))) := by kernel_rfl
/-- purfle/lexer.kind -/
theorem eq28 (a0 : Int) : vr 28 0 [(.t (.int .u8 a0))] ⟨[], []⟩ =
(bif (decide (97 ≤ (bitsI .or .u8 a0 32))) then
(bif (decide ((bitsI .or .u8 a0 32) ≤ 122)) then
 some ((.t (.int .i64 1)), ⟨[], []⟩)
else
(bif (decide (48 ≤ a0)) then
(bif (decide (a0 ≤ 57)) then
 some ((.t (.int .i64 2)), ⟨[], []⟩)
else
 callK (vr 29 0 [(.t (.str ⟨#[43, 45, 42, 40, 41, 91, 93, 44, 61, 58]⟩)), (.t (.int .u8 a0))] ⟨[], []⟩) fun v_1 b_2 =>
 asT v_1 fun x_3 =>
 asI .i64 x_3 fun x_4 =>
 endB b_2 <|
(bif (decide (0 ≤ x_4)) then
 some ((.t (.int .i64 3)), ⟨[], []⟩)
else
(bif (decide (a0 = 32)) then
 some ((.t (.int .i64 4)), ⟨[], []⟩)
else
(bif (decide (a0 = 9)) then
 some ((.t (.int .i64 4)), ⟨[], []⟩)
else
(bif (decide (a0 = 10)) then
 some ((.t (.int .i64 5)), ⟨[], []⟩)
else
(bif (decide (a0 = 35)) then
 some ((.t (.int .i64 6)), ⟨[], []⟩)
else
 some ((.t (.int .i64 0)), ⟨[], []⟩)))))))
else
 callK (vr 29 0 [(.t (.str ⟨#[43, 45, 42, 40, 41, 91, 93, 44, 61, 58]⟩)), (.t (.int .u8 a0))] ⟨[], []⟩) fun v_5 b_6 =>
 asT v_5 fun x_7 =>
 asI .i64 x_7 fun x_8 =>
 endB b_6 <|
(bif (decide (0 ≤ x_8)) then
 some ((.t (.int .i64 3)), ⟨[], []⟩)
else
(bif (decide (a0 = 32)) then
 some ((.t (.int .i64 4)), ⟨[], []⟩)
else
(bif (decide (a0 = 9)) then
 some ((.t (.int .i64 4)), ⟨[], []⟩)
else
(bif (decide (a0 = 10)) then
 some ((.t (.int .i64 5)), ⟨[], []⟩)
else
(bif (decide (a0 = 35)) then
 some ((.t (.int .i64 6)), ⟨[], []⟩)
else
 some ((.t (.int .i64 0)), ⟨[], []⟩))))))))
else
(bif (decide (48 ≤ a0)) then
(bif (decide (a0 ≤ 57)) then
 some ((.t (.int .i64 2)), ⟨[], []⟩)
else
 callK (vr 29 0 [(.t (.str ⟨#[43, 45, 42, 40, 41, 91, 93, 44, 61, 58]⟩)), (.t (.int .u8 a0))] ⟨[], []⟩) fun v_9 b_10 =>
 asT v_9 fun x_11 =>
 asI .i64 x_11 fun x_12 =>
 endB b_10 <|
(bif (decide (0 ≤ x_12)) then
 some ((.t (.int .i64 3)), ⟨[], []⟩)
else
(bif (decide (a0 = 32)) then
 some ((.t (.int .i64 4)), ⟨[], []⟩)
else
(bif (decide (a0 = 9)) then
 some ((.t (.int .i64 4)), ⟨[], []⟩)
else
(bif (decide (a0 = 10)) then
 some ((.t (.int .i64 5)), ⟨[], []⟩)
else
(bif (decide (a0 = 35)) then
 some ((.t (.int .i64 6)), ⟨[], []⟩)
else
 some ((.t (.int .i64 0)), ⟨[], []⟩)))))))
else
 callK (vr 29 0 [(.t (.str ⟨#[43, 45, 42, 40, 41, 91, 93, 44, 61, 58]⟩)), (.t (.int .u8 a0))] ⟨[], []⟩) fun v_13 b_14 =>
 asT v_13 fun x_15 =>
 asI .i64 x_15 fun x_16 =>
 endB b_14 <|
(bif (decide (0 ≤ x_16)) then
 some ((.t (.int .i64 3)), ⟨[], []⟩)
else
(bif (decide (a0 = 32)) then
 some ((.t (.int .i64 4)), ⟨[], []⟩)
else
(bif (decide (a0 = 9)) then
 some ((.t (.int .i64 4)), ⟨[], []⟩)
else
(bif (decide (a0 = 10)) then
 some ((.t (.int .i64 5)), ⟨[], []⟩)
else
(bif (decide (a0 = 35)) then
 some ((.t (.int .i64 6)), ⟨[], []⟩)
else
 some ((.t (.int .i64 0)), ⟨[], []⟩)))))))) :=
  (call_eq Try.prog hint (fn := Try.f28) (nt := 36) (T := []) [] rfl [(.t (.int .u8 a0))] ⟨[], []⟩ rfl rfl rfl rfl rfl).trans (eq28g  a0)
theorem eq30g (KL30_2 : Env → St → Option Res) (a0 : ByteArray) : codeT Try.prog hint 30 0 25 [([.blk, .fst, .snd, .snd], KL30_2)] [] (resKV Try.prog Try.f30 (hint.own 30 0)) (nrm hint 30 0 (bodyOf Try.f30) (envV [(.t (.str a0))] 0) ⟨[], []⟩).1 (nrm hint 30 0 (bodyOf Try.f30) (envV [(.t (.str a0))] 0) ⟨[], []⟩).2 (bodyOf Try.f30) =
 KL30_2 [(0, (.t (.str a0))), (3, (.t (.int .i64 0)))] ⟨[], []⟩ := by kernel_rfl
/-- purfle/lexer.run -/
theorem eq30 (a0 : ByteArray) : vr 30 0 [(.t (.str a0))] ⟨[], []⟩ =
 L30_2 (a0) (0) :=
  (call_eq Try.prog hint (fn := Try.f30) (nt := 25) (T := [([.blk, .fst, .snd, .snd], fun e st => atV Try.prog hint 30 0 Try.f30 25 (List.reverse [.blk, .fst, .snd, .snd]) e st)]) [[.blk, .fst, .snd, .snd]] rfl [(.t (.str a0))] ⟨[], []⟩ rfl rfl rfl rfl rfl).trans (eq30g (fun e st => atV Try.prog hint 30 0 Try.f30 25 (List.reverse [.blk, .fst, .snd, .snd]) e st) a0)
theorem L30_2g (KL30_2 : Env → St → Option Res) (s0 : ByteArray) (n3 : Int) : codeT Try.prog hint 30 0 25 [([.blk, .fst, .snd, .snd], KL30_2)] [.lp, .blk, .fst, .snd, .snd] (ctxT Try.prog hint 30 0 25 [([.blk, .fst, .snd, .snd], KL30_2)] [] (List.reverse [.lp, .blk, .fst, .snd, .snd]) (bodyOf Try.f30) (resKV Try.prog Try.f30 (hint.own 30 0))) [(0, (.t (.str s0))), (3, (.t (.int .i64 n3)))] ⟨[], []⟩ (nav (List.reverse [.lp, .blk, .fst, .snd, .snd]) (bodyOf Try.f30)) =
(bif (decide (n3 < (s0.size : Int))) then
 needC (decide (0 ≤ n3) && decide (n3 < (s0.size : Int))) fun _ =>
 callK (vr 28 0 [(.t (.int .u8 (((s0 : ByteArray)[(n3).toNat]!).toNat : Int)))] ⟨[], []⟩) fun v_1 b_2 =>
 asT v_1 fun x_3 =>
 asI .i64 x_3 fun x_4 =>
 endB b_2 <|
(bif (decide (x_4 = 1)) then
 KL30_2 [(0, (.t (.str s0))), (3, (.t (.int .i64 (IntKind.i64.wrap (n3 + 1)))))] ⟨[], []⟩
else
 needC (decide (0 ≤ n3) && decide (n3 < (s0.size : Int))) fun _ =>
 callK (vr 28 0 [(.t (.int .u8 (((s0 : ByteArray)[(n3).toNat]!).toNat : Int)))] ⟨[], []⟩) fun v_5 b_6 =>
 asT v_5 fun x_7 =>
 asI .i64 x_7 fun x_8 =>
 endB b_6 <|
(bif (decide (x_8 = 2)) then
 KL30_2 [(0, (.t (.str s0))), (3, (.t (.int .i64 (IntKind.i64.wrap (n3 + 1)))))] ⟨[], []⟩
else
 some ((.t (.int .i64 n3)), ⟨[], []⟩)))
else
 some ((.t (.int .i64 n3)), ⟨[], []⟩)) := by kernel_rfl
theorem L30_2_eq (s0 : ByteArray) (n3 : Int) : L30_2 s0 n3 =
(bif (decide (n3 < (s0.size : Int))) then
 needC (decide (0 ≤ n3) && decide (n3 < (s0.size : Int))) fun _ =>
 callK (vr 28 0 [(.t (.int .u8 (((s0 : ByteArray)[(n3).toNat]!).toNat : Int)))] ⟨[], []⟩) fun v_1 b_2 =>
 asT v_1 fun x_3 =>
 asI .i64 x_3 fun x_4 =>
 endB b_2 <|
(bif (decide (x_4 = 1)) then
 L30_2 (s0) ((IntKind.i64.wrap (n3 + 1)))
else
 needC (decide (0 ≤ n3) && decide (n3 < (s0.size : Int))) fun _ =>
 callK (vr 28 0 [(.t (.int .u8 (((s0 : ByteArray)[(n3).toNat]!).toNat : Int)))] ⟨[], []⟩) fun v_5 b_6 =>
 asT v_5 fun x_7 =>
 asI .i64 x_7 fun x_8 =>
 endB b_6 <|
(bif (decide (x_8 = 2)) then
 L30_2 (s0) ((IntKind.i64.wrap (n3 + 1)))
else
 some ((.t (.int .i64 n3)), ⟨[], []⟩)))
else
 some ((.t (.int .i64 n3)), ⟨[], []⟩)) :=
  (round_eq Try.prog hint (b := (nav (List.reverse [.lp, .blk, .fst, .snd, .snd]) (bodyOf Try.f30))) (fn := Try.f30) (nt := 25) (T := [([.blk, .fst, .snd, .snd], fun e st => atV Try.prog hint 30 0 Try.f30 25 (List.reverse [.blk, .fst, .snd, .snd]) e st)]) [[.blk, .fst, .snd, .snd]] rfl [.blk, .fst, .snd, .snd] [(0, (.t (.str s0))), (3, (.t (.int .i64 n3)))] ⟨[], []⟩ rfl rfl rfl).trans (L30_2g (fun e st => atV Try.prog hint 30 0 Try.f30 25 (List.reverse [.blk, .fst, .snd, .snd]) e st) s0 n3)
theorem eq18g  (a0 : ByteArray) : codeT Try.prog hint 18 0 23 [] [] (resKV Try.prog Try.f18 (hint.own 18 0)) (nrm hint 18 0 (bodyOf Try.f18) (envV [(.t (.str a0))] 0) ⟨[], []⟩).1 (nrm hint 18 0 (bodyOf Try.f18) (envV [(.t (.str a0))] 0) ⟨[], []⟩).2 (bodyOf Try.f18) =
(bif (!decide ((a0 : ByteArray) = ⟨#[]⟩)) then
(bif (decide ((a0.size : Int) ≤ 16)) then
 needC (decide (0 ≤ 0) && decide ((0 : Int) < (a0.size : Int))) fun _ =>
 callK (vr 28 0 [(.t (.int .u8 (((a0 : ByteArray)[((0 : Int)).toNat]!).toNat : Int)))] ⟨[], []⟩) fun v_1 b_2 =>
 asT v_1 fun x_3 =>
 asI .i64 x_3 fun x_4 =>
 endB b_2 <|
(bif (decide (x_4 = 1)) then
 callK (vr 30 0 [(.t (.str a0))] ⟨[], []⟩) fun v_5 b_6 =>
 asT v_5 fun x_7 =>
 asI .i64 x_7 fun x_8 =>
 endB b_6 <|
 some ((.t (.bool (decide (x_8 = (a0.size : Int))))), ⟨[], []⟩)
else
 some ((.t (.bool false)), ⟨[], []⟩))
else
 some ((.t (.bool false)), ⟨[], []⟩))
else
 some ((.t (.bool false)), ⟨[], []⟩)) := by kernel_rfl
/-- purfle/lexer.Word -/
theorem eq18 (a0 : ByteArray) : vr 18 0 [(.t (.str a0))] ⟨[], []⟩ =
(bif (!decide ((a0 : ByteArray) = ⟨#[]⟩)) then
(bif (decide ((a0.size : Int) ≤ 16)) then
 needC (decide (0 ≤ 0) && decide ((0 : Int) < (a0.size : Int))) fun _ =>
 callK (vr 28 0 [(.t (.int .u8 (((a0 : ByteArray)[((0 : Int)).toNat]!).toNat : Int)))] ⟨[], []⟩) fun v_1 b_2 =>
 asT v_1 fun x_3 =>
 asI .i64 x_3 fun x_4 =>
 endB b_2 <|
(bif (decide (x_4 = 1)) then
 callK (vr 30 0 [(.t (.str a0))] ⟨[], []⟩) fun v_5 b_6 =>
 asT v_5 fun x_7 =>
 asI .i64 x_7 fun x_8 =>
 endB b_6 <|
 some ((.t (.bool (decide (x_8 = (a0.size : Int))))), ⟨[], []⟩)
else
 some ((.t (.bool false)), ⟨[], []⟩))
else
 some ((.t (.bool false)), ⟨[], []⟩))
else
 some ((.t (.bool false)), ⟨[], []⟩)) :=
  (call_eq Try.prog hint (fn := Try.f18) (nt := 23) (T := []) [] rfl [(.t (.str a0))] ⟨[], []⟩ rfl rfl rfl rfl rfl).trans (eq18g  a0)
theorem eq15g (KL15_4 : Env → St → Option Res) (a0 : ByteArray) : codeT Try.prog hint 15 0 42 [([.blk, .snd, .fst, .snd, .snd], KL15_4)] [] (resKV Try.prog Try.f15 (hint.own 15 0)) (nrm hint 15 0 (bodyOf Try.f15) (envV [(.t (.str a0))] 0) ⟨[], []⟩).1 (nrm hint 15 0 (bodyOf Try.f15) (envV [(.t (.str a0))] 0) ⟨[], []⟩).2 (bodyOf Try.f15) =
(bif (decide ((a0 : ByteArray) = ⟨#[]⟩)) then
 some ((.tup [(.t (.int .i64 0)), (.t (.bool false))]), ⟨[], []⟩)
else
(bif (decide (18 < (a0.size : Int))) then
 some ((.tup [(.t (.int .i64 0)), (.t (.bool false))]), ⟨[], []⟩)
else
(bif (decide (1 < (a0.size : Int))) then
 needC (decide (0 ≤ 0) && decide ((0 : Int) < (a0.size : Int))) fun _ =>
(bif (decide ((((a0 : ByteArray)[((0 : Int)).toNat]!).toNat : Int) = 48)) then
 some ((.tup [(.t (.int .i64 0)), (.t (.bool false))]), ⟨[], []⟩)
else
 KL15_4 [(0, (.t (.str a0))), (2, (.t (.int .i64 0))), (23, (.t (.int .i64 (a0.size : Int)))), (24, (.t (.int .i64 0)))] ⟨[], []⟩)
else
 KL15_4 [(0, (.t (.str a0))), (2, (.t (.int .i64 0))), (23, (.t (.int .i64 (a0.size : Int)))), (24, (.t (.int .i64 0)))] ⟨[], []⟩))) := by kernel_rfl
/-- purfle/lexer.Number -/
theorem eq15 (a0 : ByteArray) : vr 15 0 [(.t (.str a0))] ⟨[], []⟩ =
(bif (decide ((a0 : ByteArray) = ⟨#[]⟩)) then
 some ((.tup [(.t (.int .i64 0)), (.t (.bool false))]), ⟨[], []⟩)
else
(bif (decide (18 < (a0.size : Int))) then
 some ((.tup [(.t (.int .i64 0)), (.t (.bool false))]), ⟨[], []⟩)
else
(bif (decide (1 < (a0.size : Int))) then
 needC (decide (0 ≤ 0) && decide ((0 : Int) < (a0.size : Int))) fun _ =>
(bif (decide ((((a0 : ByteArray)[((0 : Int)).toNat]!).toNat : Int) = 48)) then
 some ((.tup [(.t (.int .i64 0)), (.t (.bool false))]), ⟨[], []⟩)
else
 L15_4 (a0) (0) ((a0.size : Int)) (0))
else
 L15_4 (a0) (0) ((a0.size : Int)) (0)))) :=
  (call_eq Try.prog hint (fn := Try.f15) (nt := 42) (T := [([.blk, .snd, .fst, .snd, .snd], fun e st => atV Try.prog hint 15 0 Try.f15 42 (List.reverse [.blk, .snd, .fst, .snd, .snd]) e st)]) [[.blk, .snd, .fst, .snd, .snd]] rfl [(.t (.str a0))] ⟨[], []⟩ rfl rfl rfl rfl rfl).trans (eq15g (fun e st => atV Try.prog hint 15 0 Try.f15 42 (List.reverse [.blk, .snd, .fst, .snd, .snd]) e st) a0)
theorem L15_4g (KL15_4 : Env → St → Option Res) (s0 : ByteArray) (n2 : Int) (t23 : Int) (t24 : Int) : codeT Try.prog hint 15 0 42 [([.blk, .snd, .fst, .snd, .snd], KL15_4)] [.lp, .blk, .snd, .fst, .snd, .snd] (ctxT Try.prog hint 15 0 42 [([.blk, .snd, .fst, .snd, .snd], KL15_4)] [] (List.reverse [.lp, .blk, .snd, .fst, .snd, .snd]) (bodyOf Try.f15) (resKV Try.prog Try.f15 (hint.own 15 0))) [(0, (.t (.str s0))), (2, (.t (.int .i64 n2))), (23, (.t (.int .i64 t23))), (24, (.t (.int .i64 t24)))] ⟨[], []⟩ (nav (List.reverse [.lp, .blk, .snd, .fst, .snd, .snd]) (bodyOf Try.f15)) =
(bif (decide (t24 < t23)) then
 needC (decide (0 ≤ t24) && decide (t24 < (s0.size : Int))) fun _ =>
 callK (vr 28 0 [(.t (.int .u8 (((s0 : ByteArray)[(t24).toNat]!).toNat : Int)))] ⟨[], []⟩) fun v_1 b_2 =>
 asT v_1 fun x_3 =>
 asI .i64 x_3 fun x_4 =>
 endB b_2 <|
(bif (!decide (x_4 = 2)) then
 some ((.tup [(.t (.int .i64 0)), (.t (.bool false))]), ⟨[], []⟩)
else
 needC (decide (0 ≤ t24) && decide (t24 < (s0.size : Int))) fun _ =>
 KL15_4 [(0, (.t (.str s0))), (2, (.t (.int .i64 (IntKind.i64.wrap ((IntKind.i64.wrap ((10 : Int) * n2)) + (IntKind.i64.wrap (IntKind.u8.wrap ((((s0 : ByteArray)[(t24).toNat]!).toNat : Int) - 48)))))))), (23, (.t (.int .i64 t23))), (24, (.t (.int .i64 (IntKind.i64.wrap (t24 + 1)))))] ⟨[], []⟩)
else
 some ((.tup [(.t (.int .i64 n2)), (.t (.bool true))]), ⟨[], []⟩)) := by kernel_rfl
theorem L15_4_eq (s0 : ByteArray) (n2 : Int) (t23 : Int) (t24 : Int) : L15_4 s0 n2 t23 t24 =
(bif (decide (t24 < t23)) then
 needC (decide (0 ≤ t24) && decide (t24 < (s0.size : Int))) fun _ =>
 callK (vr 28 0 [(.t (.int .u8 (((s0 : ByteArray)[(t24).toNat]!).toNat : Int)))] ⟨[], []⟩) fun v_1 b_2 =>
 asT v_1 fun x_3 =>
 asI .i64 x_3 fun x_4 =>
 endB b_2 <|
(bif (!decide (x_4 = 2)) then
 some ((.tup [(.t (.int .i64 0)), (.t (.bool false))]), ⟨[], []⟩)
else
 needC (decide (0 ≤ t24) && decide (t24 < (s0.size : Int))) fun _ =>
 L15_4 (s0) ((IntKind.i64.wrap ((IntKind.i64.wrap ((10 : Int) * n2)) + (IntKind.i64.wrap (IntKind.u8.wrap ((((s0 : ByteArray)[(t24).toNat]!).toNat : Int) - 48)))))) (t23) ((IntKind.i64.wrap (t24 + 1))))
else
 some ((.tup [(.t (.int .i64 n2)), (.t (.bool true))]), ⟨[], []⟩)) :=
  (round_eq Try.prog hint (b := (nav (List.reverse [.lp, .blk, .snd, .fst, .snd, .snd]) (bodyOf Try.f15))) (fn := Try.f15) (nt := 42) (T := [([.blk, .snd, .fst, .snd, .snd], fun e st => atV Try.prog hint 15 0 Try.f15 42 (List.reverse [.blk, .snd, .fst, .snd, .snd]) e st)]) [[.blk, .snd, .fst, .snd, .snd]] rfl [.blk, .snd, .fst, .snd, .snd] [(0, (.t (.str s0))), (2, (.t (.int .i64 n2))), (23, (.t (.int .i64 t23))), (24, (.t (.int .i64 t24)))] ⟨[], []⟩ rfl rfl rfl).trans (L15_4g (fun e st => atV Try.prog hint 15 0 Try.f15 42 (List.reverse [.blk, .snd, .fst, .snd, .snd]) e st) s0 n2 t23 t24)
theorem eq31g  (a0 : ByteArray) : codeT Try.prog hint 31 0 31 [] [] (resKV Try.prog Try.f31 (hint.own 31 0)) (nrm hint 31 0 (bodyOf Try.f31) (envV [(.t (.str a0))] 0) ⟨[], []⟩).1 (nrm hint 31 0 (bodyOf Try.f31) (envV [(.t (.str a0))] 0) ⟨[], []⟩).2 (bodyOf Try.f31) =
 callK (vr 18 0 [(.t (.str a0))] ⟨[], []⟩) fun v_1 b_2 =>
 asT v_1 fun x_3 =>
 asB x_3 fun b_4 =>
 endB b_2 <|
(bif b_4 then
 some ((.tup [(.t (.agg [(.int .i64 1), (.str a0), (.int .i64 0)])), (.t (.bool true))]), ⟨[], []⟩)
else
(bif (decide ((a0.size : Int) = 1)) then
 needC (decide (0 ≤ 0) && decide ((0 : Int) < (a0.size : Int))) fun _ =>
 callK (vr 28 0 [(.t (.int .u8 (((a0 : ByteArray)[((0 : Int)).toNat]!).toNat : Int)))] ⟨[], []⟩) fun v_5 b_6 =>
 asT v_5 fun x_7 =>
 asI .i64 x_7 fun x_8 =>
 endB b_6 <|
(bif (decide (x_8 = 3)) then
 some ((.tup [(.t (.agg [(.int .i64 3), (.str a0), (.int .i64 0)])), (.t (.bool true))]), ⟨[], []⟩)
else
 callK (vr 15 0 [(.t (.str a0))] ⟨[], []⟩) fun v_9 b_10 =>
 asTup v_9 fun l_11 =>
 consV l_11 fun v_12 l_13 =>
 asT v_12 fun x_14 =>
 asI .i64 x_14 fun x_15 =>
 consV l_13 fun v_16 l_17 =>
 asT v_16 fun x_18 =>
 asB x_18 fun b_19 =>
 endV l_17 <|
 endB b_10 <|
 some ((.tup [(.t (.agg [(.int .i64 2), (.str a0), (.int .i64 x_15)])), (.t (.bool b_19))]), ⟨[], []⟩))
else
 callK (vr 15 0 [(.t (.str a0))] ⟨[], []⟩) fun v_20 b_21 =>
 asTup v_20 fun l_22 =>
 consV l_22 fun v_23 l_24 =>
 asT v_23 fun x_25 =>
 asI .i64 x_25 fun x_26 =>
 consV l_24 fun v_27 l_28 =>
 asT v_27 fun x_29 =>
 asB x_29 fun b_30 =>
 endV l_28 <|
 endB b_21 <|
 some ((.tup [(.t (.agg [(.int .i64 2), (.str a0), (.int .i64 x_26)])), (.t (.bool b_30))]), ⟨[], []⟩))) := by kernel_rfl
/-- purfle/lexer.read -/
theorem eq31 (a0 : ByteArray) : vr 31 0 [(.t (.str a0))] ⟨[], []⟩ =
 callK (vr 18 0 [(.t (.str a0))] ⟨[], []⟩) fun v_1 b_2 =>
 asT v_1 fun x_3 =>
 asB x_3 fun b_4 =>
 endB b_2 <|
(bif b_4 then
 some ((.tup [(.t (.agg [(.int .i64 1), (.str a0), (.int .i64 0)])), (.t (.bool true))]), ⟨[], []⟩)
else
(bif (decide ((a0.size : Int) = 1)) then
 needC (decide (0 ≤ 0) && decide ((0 : Int) < (a0.size : Int))) fun _ =>
 callK (vr 28 0 [(.t (.int .u8 (((a0 : ByteArray)[((0 : Int)).toNat]!).toNat : Int)))] ⟨[], []⟩) fun v_5 b_6 =>
 asT v_5 fun x_7 =>
 asI .i64 x_7 fun x_8 =>
 endB b_6 <|
(bif (decide (x_8 = 3)) then
 some ((.tup [(.t (.agg [(.int .i64 3), (.str a0), (.int .i64 0)])), (.t (.bool true))]), ⟨[], []⟩)
else
 callK (vr 15 0 [(.t (.str a0))] ⟨[], []⟩) fun v_9 b_10 =>
 asTup v_9 fun l_11 =>
 consV l_11 fun v_12 l_13 =>
 asT v_12 fun x_14 =>
 asI .i64 x_14 fun x_15 =>
 consV l_13 fun v_16 l_17 =>
 asT v_16 fun x_18 =>
 asB x_18 fun b_19 =>
 endV l_17 <|
 endB b_10 <|
 some ((.tup [(.t (.agg [(.int .i64 2), (.str a0), (.int .i64 x_15)])), (.t (.bool b_19))]), ⟨[], []⟩))
else
 callK (vr 15 0 [(.t (.str a0))] ⟨[], []⟩) fun v_20 b_21 =>
 asTup v_20 fun l_22 =>
 consV l_22 fun v_23 l_24 =>
 asT v_23 fun x_25 =>
 asI .i64 x_25 fun x_26 =>
 consV l_24 fun v_27 l_28 =>
 asT v_27 fun x_29 =>
 asB x_29 fun b_30 =>
 endV l_28 <|
 endB b_21 <|
 some ((.tup [(.t (.agg [(.int .i64 2), (.str a0), (.int .i64 x_26)])), (.t (.bool b_30))]), ⟨[], []⟩))) :=
  (call_eq Try.prog hint (fn := Try.f31) (nt := 31) (T := []) [] rfl [(.t (.str a0))] ⟨[], []⟩ rfl rfl rfl rfl rfl).trans (eq31g  a0)
theorem eq12g (KL12_6 KJ12_28 KJ12_21 KJ12_26 : Env → St → Option Res) (a0 : ByteArray) : codeT Try.prog hint 12 0 82 [([.blk, .fst, .snd, .snd, .snd, .snd, .snd, .blk, .snd], KL12_6), ([.snd, .snd, .snd, .snd, .snd, .snd, .blk, .snd], KJ12_28), ([.snd, .snd, .blk, .snd, .lp, .blk, .fst, .snd, .snd, .snd, .snd, .snd, .blk, .snd], KJ12_21), ([.snd, .snd, .snd, .snd, .snd, .blk, .snd, .lp, .blk, .fst, .snd, .snd, .snd, .snd, .snd, .blk, .snd], KJ12_26)] [] (resKV Try.prog Try.f12 (hint.own 12 0)) (nrm hint 12 0 (bodyOf Try.f12) (envV [(.t (.str a0))] 0) ⟨[], []⟩).1 (nrm hint 12 0 (bodyOf Try.f12) (envV [(.t (.str a0))] 0) ⟨[], []⟩).2 (bodyOf Try.f12) =
(bif (decide (65536 < (a0.size : Int))) then
 some ((.tup [(.t (.list 3 false [])), (.t (.int .i64 0)), (.t (.int .i64 2))]), ⟨[], []⟩)
else
 KL12_6 [(0, (.t (.str a0))), (5, (.buf 8)), (6, (.t (.bool false))), (7, (.t (.int .i64 0)))] ⟨[(8, (.arr true 3 false []))], []⟩) := by kernel_rfl
/-- purfle/lexer.Cut -/
theorem eq12 (a0 : ByteArray) : vr 12 0 [(.t (.str a0))] ⟨[], []⟩ =
(bif (decide (65536 < (a0.size : Int))) then
 some ((.tup [(.t (.list 3 false [])), (.t (.int .i64 0)), (.t (.int .i64 2))]), ⟨[], []⟩)
else
 L12_6 (a0) (false) (0) (false) ([])) :=
  (call_eq Try.prog hint (fn := Try.f12) (nt := 82) (T := [([.blk, .fst, .snd, .snd, .snd, .snd, .snd, .blk, .snd], fun e st => atV Try.prog hint 12 0 Try.f12 82 (List.reverse [.blk, .fst, .snd, .snd, .snd, .snd, .snd, .blk, .snd]) e st), ([.snd, .snd, .snd, .snd, .snd, .snd, .blk, .snd], fun e st => atV Try.prog hint 12 0 Try.f12 82 (List.reverse [.snd, .snd, .snd, .snd, .snd, .snd, .blk, .snd]) e st), ([.snd, .snd, .blk, .snd, .lp, .blk, .fst, .snd, .snd, .snd, .snd, .snd, .blk, .snd], fun e st => atV Try.prog hint 12 0 Try.f12 82 (List.reverse [.snd, .snd, .blk, .snd, .lp, .blk, .fst, .snd, .snd, .snd, .snd, .snd, .blk, .snd]) e st), ([.snd, .snd, .snd, .snd, .snd, .blk, .snd, .lp, .blk, .fst, .snd, .snd, .snd, .snd, .snd, .blk, .snd], fun e st => atV Try.prog hint 12 0 Try.f12 82 (List.reverse [.snd, .snd, .snd, .snd, .snd, .blk, .snd, .lp, .blk, .fst, .snd, .snd, .snd, .snd, .snd, .blk, .snd]) e st)]) [[.blk, .fst, .snd, .snd, .snd, .snd, .snd, .blk, .snd], [.snd, .snd, .snd, .snd, .snd, .snd, .blk, .snd], [.snd, .snd, .blk, .snd, .lp, .blk, .fst, .snd, .snd, .snd, .snd, .snd, .blk, .snd], [.snd, .snd, .snd, .snd, .snd, .blk, .snd, .lp, .blk, .fst, .snd, .snd, .snd, .snd, .snd, .blk, .snd]] rfl [(.t (.str a0))] ⟨[], []⟩ rfl rfl rfl rfl rfl).trans (eq12g (fun e st => atV Try.prog hint 12 0 Try.f12 82 (List.reverse [.blk, .fst, .snd, .snd, .snd, .snd, .snd, .blk, .snd]) e st) (fun e st => atV Try.prog hint 12 0 Try.f12 82 (List.reverse [.snd, .snd, .snd, .snd, .snd, .snd, .blk, .snd]) e st) (fun e st => atV Try.prog hint 12 0 Try.f12 82 (List.reverse [.snd, .snd, .blk, .snd, .lp, .blk, .fst, .snd, .snd, .snd, .snd, .snd, .blk, .snd]) e st) (fun e st => atV Try.prog hint 12 0 Try.f12 82 (List.reverse [.snd, .snd, .snd, .snd, .snd, .blk, .snd, .lp, .blk, .fst, .snd, .snd, .snd, .snd, .snd, .blk, .snd]) e st) a0)
theorem L12_6g (KL12_6 KJ12_28 KJ12_21 KJ12_26 : Env → St → Option Res) (s0 : ByteArray) (ends6 : Bool) (at7 : Int) (m8z : Bool) (m8 : List T) : codeT Try.prog hint 12 0 82 [([.blk, .fst, .snd, .snd, .snd, .snd, .snd, .blk, .snd], KL12_6), ([.snd, .snd, .snd, .snd, .snd, .snd, .blk, .snd], KJ12_28), ([.snd, .snd, .blk, .snd, .lp, .blk, .fst, .snd, .snd, .snd, .snd, .snd, .blk, .snd], KJ12_21), ([.snd, .snd, .snd, .snd, .snd, .blk, .snd, .lp, .blk, .fst, .snd, .snd, .snd, .snd, .snd, .blk, .snd], KJ12_26)] [.lp, .blk, .fst, .snd, .snd, .snd, .snd, .snd, .blk, .snd] (ctxT Try.prog hint 12 0 82 [([.blk, .fst, .snd, .snd, .snd, .snd, .snd, .blk, .snd], KL12_6), ([.snd, .snd, .snd, .snd, .snd, .snd, .blk, .snd], KJ12_28), ([.snd, .snd, .blk, .snd, .lp, .blk, .fst, .snd, .snd, .snd, .snd, .snd, .blk, .snd], KJ12_21), ([.snd, .snd, .snd, .snd, .snd, .blk, .snd, .lp, .blk, .fst, .snd, .snd, .snd, .snd, .snd, .blk, .snd], KJ12_26)] [] (List.reverse [.lp, .blk, .fst, .snd, .snd, .snd, .snd, .snd, .blk, .snd]) (bodyOf Try.f12) (resKV Try.prog Try.f12 (hint.own 12 0))) [(0, (.t (.str s0))), (5, (.buf 8)), (6, (.t (.bool ends6))), (7, (.t (.int .i64 at7)))] ⟨[(8, (.arr true 3 m8z m8))], []⟩ (nav (List.reverse [.lp, .blk, .fst, .snd, .snd, .snd, .snd, .snd, .blk, .snd]) (bodyOf Try.f12)) =
(bif (decide (at7 < (s0.size : Int))) then
 needC (decide (0 ≤ at7) && decide (at7 < (s0.size : Int))) fun _ =>
 callK (vr 28 0 [(.t (.int .u8 (((s0 : ByteArray)[(at7).toNat]!).toNat : Int)))] ⟨[], []⟩) fun v_1 b_2 =>
 asT v_1 fun x_3 =>
 asI .i64 x_3 fun x_4 =>
 endB b_2 <|
(bif (decide (x_4 = 5)) then
 KL12_6 [(0, (.t (.str s0))), (5, (.buf 8)), (6, (.t (.bool (decide (0 < (m8.length : Int)))))), (7, (.t (.int .i64 (IntKind.i64.wrap (at7 + 1)))))] ⟨[(8, (.arr true 3 m8z m8))], []⟩
else
(bif (decide (x_4 = 4)) then
 KL12_6 [(0, (.t (.str s0))), (5, (.buf 8)), (6, (.t (.bool ends6))), (7, (.t (.int .i64 (IntKind.i64.wrap (at7 + 1)))))] ⟨[(8, (.arr true 3 m8z m8))], []⟩
else
(bif (decide (x_4 = 6)) then
 subS s0 (some at7) none fun s_5 =>
 callK (vr 29 0 [(.t (.str s_5)), (.t (.int .u8 10))] ⟨[], []⟩) fun v_6 b_7 =>
 asT v_6 fun x_8 =>
 asI .i64 x_8 fun x_9 =>
 endB b_7 <|
(bif (decide (x_9 < 0)) then
 KJ12_28 [(0, (.t (.str s0))), (5, (.buf 8))] ⟨[(8, (.arr true 3 m8z m8))], []⟩
else
 KL12_6 [(0, (.t (.str s0))), (5, (.buf 8)), (6, (.t (.bool ends6))), (7, (.t (.int .i64 (IntKind.i64.wrap (at7 + x_9)))))] ⟨[(8, (.arr true 3 m8z m8))], []⟩)
else
(bif (decide (x_4 = 1)) then
 subS s0 (some at7) none fun s_10 =>
 callK (vr 30 0 [(.t (.str s_10))] ⟨[], []⟩) fun v_11 b_12 =>
 asT v_11 fun x_13 =>
 asI .i64 x_13 fun x_14 =>
 endB b_12 <|
 KJ12_21 [(0, (.t (.str s0))), (5, (.buf 8)), (6, (.t (.bool ends6))), (7, (.t (.int .i64 at7))), (8, (.t (.int .i64 x_14)))] ⟨[(8, (.arr true 3 m8z m8))], []⟩
else
(bif (decide (x_4 = 2)) then
 subS s0 (some at7) none fun s_15 =>
 callK (vr 30 0 [(.t (.str s_15))] ⟨[], []⟩) fun v_16 b_17 =>
 asT v_16 fun x_18 =>
 asI .i64 x_18 fun x_19 =>
 endB b_17 <|
 KJ12_21 [(0, (.t (.str s0))), (5, (.buf 8)), (6, (.t (.bool ends6))), (7, (.t (.int .i64 at7))), (8, (.t (.int .i64 x_19)))] ⟨[(8, (.arr true 3 m8z m8))], []⟩
else
 KJ12_21 [(0, (.t (.str s0))), (5, (.buf 8)), (6, (.t (.bool ends6))), (7, (.t (.int .i64 at7))), (8, (.t (.int .i64 1)))] ⟨[(8, (.arr true 3 m8z m8))], []⟩)))))
else
 KJ12_28 [(0, (.t (.str s0))), (5, (.buf 8))] ⟨[(8, (.arr true 3 m8z m8))], []⟩) := by kernel_rfl
theorem L12_6_eq (s0 : ByteArray) (ends6 : Bool) (at7 : Int) (m8z : Bool) (m8 : List T) : L12_6 s0 ends6 at7 m8z m8 =
(bif (decide (at7 < (s0.size : Int))) then
 needC (decide (0 ≤ at7) && decide (at7 < (s0.size : Int))) fun _ =>
 callK (vr 28 0 [(.t (.int .u8 (((s0 : ByteArray)[(at7).toNat]!).toNat : Int)))] ⟨[], []⟩) fun v_1 b_2 =>
 asT v_1 fun x_3 =>
 asI .i64 x_3 fun x_4 =>
 endB b_2 <|
(bif (decide (x_4 = 5)) then
 L12_6 (s0) ((decide (0 < (m8.length : Int)))) ((IntKind.i64.wrap (at7 + 1))) (m8z) (m8)
else
(bif (decide (x_4 = 4)) then
 L12_6 (s0) (ends6) ((IntKind.i64.wrap (at7 + 1))) (m8z) (m8)
else
(bif (decide (x_4 = 6)) then
 subS s0 (some at7) none fun s_5 =>
 callK (vr 29 0 [(.t (.str s_5)), (.t (.int .u8 10))] ⟨[], []⟩) fun v_6 b_7 =>
 asT v_6 fun x_8 =>
 asI .i64 x_8 fun x_9 =>
 endB b_7 <|
(bif (decide (x_9 < 0)) then
 J12_28 (s0) (m8z) (m8)
else
 L12_6 (s0) (ends6) ((IntKind.i64.wrap (at7 + x_9))) (m8z) (m8))
else
(bif (decide (x_4 = 1)) then
 subS s0 (some at7) none fun s_10 =>
 callK (vr 30 0 [(.t (.str s_10))] ⟨[], []⟩) fun v_11 b_12 =>
 asT v_11 fun x_13 =>
 asI .i64 x_13 fun x_14 =>
 endB b_12 <|
 J12_21 (s0) (ends6) (at7) (x_14) (m8z) (m8)
else
(bif (decide (x_4 = 2)) then
 subS s0 (some at7) none fun s_15 =>
 callK (vr 30 0 [(.t (.str s_15))] ⟨[], []⟩) fun v_16 b_17 =>
 asT v_16 fun x_18 =>
 asI .i64 x_18 fun x_19 =>
 endB b_17 <|
 J12_21 (s0) (ends6) (at7) (x_19) (m8z) (m8)
else
 J12_21 (s0) (ends6) (at7) (1) (m8z) (m8))))))
else
 J12_28 (s0) (m8z) (m8)) :=
  (round_eq Try.prog hint (b := (nav (List.reverse [.lp, .blk, .fst, .snd, .snd, .snd, .snd, .snd, .blk, .snd]) (bodyOf Try.f12))) (fn := Try.f12) (nt := 82) (T := [([.blk, .fst, .snd, .snd, .snd, .snd, .snd, .blk, .snd], fun e st => atV Try.prog hint 12 0 Try.f12 82 (List.reverse [.blk, .fst, .snd, .snd, .snd, .snd, .snd, .blk, .snd]) e st), ([.snd, .snd, .snd, .snd, .snd, .snd, .blk, .snd], fun e st => atV Try.prog hint 12 0 Try.f12 82 (List.reverse [.snd, .snd, .snd, .snd, .snd, .snd, .blk, .snd]) e st), ([.snd, .snd, .blk, .snd, .lp, .blk, .fst, .snd, .snd, .snd, .snd, .snd, .blk, .snd], fun e st => atV Try.prog hint 12 0 Try.f12 82 (List.reverse [.snd, .snd, .blk, .snd, .lp, .blk, .fst, .snd, .snd, .snd, .snd, .snd, .blk, .snd]) e st), ([.snd, .snd, .snd, .snd, .snd, .blk, .snd, .lp, .blk, .fst, .snd, .snd, .snd, .snd, .snd, .blk, .snd], fun e st => atV Try.prog hint 12 0 Try.f12 82 (List.reverse [.snd, .snd, .snd, .snd, .snd, .blk, .snd, .lp, .blk, .fst, .snd, .snd, .snd, .snd, .snd, .blk, .snd]) e st)]) [[.blk, .fst, .snd, .snd, .snd, .snd, .snd, .blk, .snd], [.snd, .snd, .snd, .snd, .snd, .snd, .blk, .snd], [.snd, .snd, .blk, .snd, .lp, .blk, .fst, .snd, .snd, .snd, .snd, .snd, .blk, .snd], [.snd, .snd, .snd, .snd, .snd, .blk, .snd, .lp, .blk, .fst, .snd, .snd, .snd, .snd, .snd, .blk, .snd]] rfl [.blk, .fst, .snd, .snd, .snd, .snd, .snd, .blk, .snd] [(0, (.t (.str s0))), (5, (.buf 8)), (6, (.t (.bool ends6))), (7, (.t (.int .i64 at7)))] ⟨[(8, (.arr true 3 m8z m8))], []⟩ rfl rfl rfl).trans (L12_6g (fun e st => atV Try.prog hint 12 0 Try.f12 82 (List.reverse [.blk, .fst, .snd, .snd, .snd, .snd, .snd, .blk, .snd]) e st) (fun e st => atV Try.prog hint 12 0 Try.f12 82 (List.reverse [.snd, .snd, .snd, .snd, .snd, .snd, .blk, .snd]) e st) (fun e st => atV Try.prog hint 12 0 Try.f12 82 (List.reverse [.snd, .snd, .blk, .snd, .lp, .blk, .fst, .snd, .snd, .snd, .snd, .snd, .blk, .snd]) e st) (fun e st => atV Try.prog hint 12 0 Try.f12 82 (List.reverse [.snd, .snd, .snd, .snd, .snd, .blk, .snd, .lp, .blk, .fst, .snd, .snd, .snd, .snd, .snd, .blk, .snd]) e st) s0 ends6 at7 m8z m8)
theorem J12_28g (KL12_6 KJ12_28 KJ12_21 KJ12_26 : Env → St → Option Res) (s0 : ByteArray) (m8z : Bool) (m8 : List T) : codeT Try.prog hint 12 0 82 [([.blk, .fst, .snd, .snd, .snd, .snd, .snd, .blk, .snd], KL12_6), ([.snd, .snd, .snd, .snd, .snd, .snd, .blk, .snd], KJ12_28), ([.snd, .snd, .blk, .snd, .lp, .blk, .fst, .snd, .snd, .snd, .snd, .snd, .blk, .snd], KJ12_21), ([.snd, .snd, .snd, .snd, .snd, .blk, .snd, .lp, .blk, .fst, .snd, .snd, .snd, .snd, .snd, .blk, .snd], KJ12_26)] [.snd, .snd, .snd, .snd, .snd, .snd, .blk, .snd] (ctxT Try.prog hint 12 0 82 [([.blk, .fst, .snd, .snd, .snd, .snd, .snd, .blk, .snd], KL12_6), ([.snd, .snd, .snd, .snd, .snd, .snd, .blk, .snd], KJ12_28), ([.snd, .snd, .blk, .snd, .lp, .blk, .fst, .snd, .snd, .snd, .snd, .snd, .blk, .snd], KJ12_21), ([.snd, .snd, .snd, .snd, .snd, .blk, .snd, .lp, .blk, .fst, .snd, .snd, .snd, .snd, .snd, .blk, .snd], KJ12_26)] [] (List.reverse [.snd, .snd, .snd, .snd, .snd, .snd, .blk, .snd]) (bodyOf Try.f12) (resKV Try.prog Try.f12 (hint.own 12 0))) [(0, (.t (.str s0))), (5, (.buf 8))] ⟨[(8, (.arr true 3 m8z m8))], []⟩ (nav (List.reverse [.snd, .snd, .snd, .snd, .snd, .snd, .blk, .snd]) (bodyOf Try.f12)) =
(bif (decide (4096 < (m8.length : Int))) then
 some ((.tup [(.t (.list 3 false [])), (.t (.int .i64 0)), (.t (.int .i64 2))]), ⟨[], []⟩)
else
 some ((.tup [(.t (.list 3 m8z m8)), (.t (.int .i64 (s0.size : Int))), (.t (.int .i64 0))]), ⟨[], []⟩)) := by kernel_rfl
theorem J12_28_eq (s0 : ByteArray) (m8z : Bool) (m8 : List T) : J12_28 s0 m8z m8 =
(bif (decide (4096 < (m8.length : Int))) then
 some ((.tup [(.t (.list 3 false [])), (.t (.int .i64 0)), (.t (.int .i64 2))]), ⟨[], []⟩)
else
 some ((.tup [(.t (.list 3 m8z m8)), (.t (.int .i64 (s0.size : Int))), (.t (.int .i64 0))]), ⟨[], []⟩)) :=
  (join_eq Try.prog hint (fn := Try.f12) (nt := 82) (T := [([.blk, .fst, .snd, .snd, .snd, .snd, .snd, .blk, .snd], fun e st => atV Try.prog hint 12 0 Try.f12 82 (List.reverse [.blk, .fst, .snd, .snd, .snd, .snd, .snd, .blk, .snd]) e st), ([.snd, .snd, .snd, .snd, .snd, .snd, .blk, .snd], fun e st => atV Try.prog hint 12 0 Try.f12 82 (List.reverse [.snd, .snd, .snd, .snd, .snd, .snd, .blk, .snd]) e st), ([.snd, .snd, .blk, .snd, .lp, .blk, .fst, .snd, .snd, .snd, .snd, .snd, .blk, .snd], fun e st => atV Try.prog hint 12 0 Try.f12 82 (List.reverse [.snd, .snd, .blk, .snd, .lp, .blk, .fst, .snd, .snd, .snd, .snd, .snd, .blk, .snd]) e st), ([.snd, .snd, .snd, .snd, .snd, .blk, .snd, .lp, .blk, .fst, .snd, .snd, .snd, .snd, .snd, .blk, .snd], fun e st => atV Try.prog hint 12 0 Try.f12 82 (List.reverse [.snd, .snd, .snd, .snd, .snd, .blk, .snd, .lp, .blk, .fst, .snd, .snd, .snd, .snd, .snd, .blk, .snd]) e st)]) [[.blk, .fst, .snd, .snd, .snd, .snd, .snd, .blk, .snd], [.snd, .snd, .snd, .snd, .snd, .snd, .blk, .snd], [.snd, .snd, .blk, .snd, .lp, .blk, .fst, .snd, .snd, .snd, .snd, .snd, .blk, .snd], [.snd, .snd, .snd, .snd, .snd, .blk, .snd, .lp, .blk, .fst, .snd, .snd, .snd, .snd, .snd, .blk, .snd]] rfl [.snd, .snd, .snd, .snd, .snd, .snd, .blk, .snd] [(0, (.t (.str s0))), (5, (.buf 8))] ⟨[(8, (.arr true 3 m8z m8))], []⟩ rfl).trans (J12_28g (fun e st => atV Try.prog hint 12 0 Try.f12 82 (List.reverse [.blk, .fst, .snd, .snd, .snd, .snd, .snd, .blk, .snd]) e st) (fun e st => atV Try.prog hint 12 0 Try.f12 82 (List.reverse [.snd, .snd, .snd, .snd, .snd, .snd, .blk, .snd]) e st) (fun e st => atV Try.prog hint 12 0 Try.f12 82 (List.reverse [.snd, .snd, .blk, .snd, .lp, .blk, .fst, .snd, .snd, .snd, .snd, .snd, .blk, .snd]) e st) (fun e st => atV Try.prog hint 12 0 Try.f12 82 (List.reverse [.snd, .snd, .snd, .snd, .snd, .blk, .snd, .lp, .blk, .fst, .snd, .snd, .snd, .snd, .snd, .blk, .snd]) e st) s0 m8z m8)
theorem J12_21g (KL12_6 KJ12_28 KJ12_21 KJ12_26 : Env → St → Option Res) (s0 : ByteArray) (ends6 : Bool) (at7 : Int) (n8 : Int) (m8z : Bool) (m8 : List T) : codeT Try.prog hint 12 0 82 [([.blk, .fst, .snd, .snd, .snd, .snd, .snd, .blk, .snd], KL12_6), ([.snd, .snd, .snd, .snd, .snd, .snd, .blk, .snd], KJ12_28), ([.snd, .snd, .blk, .snd, .lp, .blk, .fst, .snd, .snd, .snd, .snd, .snd, .blk, .snd], KJ12_21), ([.snd, .snd, .snd, .snd, .snd, .blk, .snd, .lp, .blk, .fst, .snd, .snd, .snd, .snd, .snd, .blk, .snd], KJ12_26)] [.snd, .snd, .blk, .snd, .lp, .blk, .fst, .snd, .snd, .snd, .snd, .snd, .blk, .snd] (ctxT Try.prog hint 12 0 82 [([.blk, .fst, .snd, .snd, .snd, .snd, .snd, .blk, .snd], KL12_6), ([.snd, .snd, .snd, .snd, .snd, .snd, .blk, .snd], KJ12_28), ([.snd, .snd, .blk, .snd, .lp, .blk, .fst, .snd, .snd, .snd, .snd, .snd, .blk, .snd], KJ12_21), ([.snd, .snd, .snd, .snd, .snd, .blk, .snd, .lp, .blk, .fst, .snd, .snd, .snd, .snd, .snd, .blk, .snd], KJ12_26)] [] (List.reverse [.snd, .snd, .blk, .snd, .lp, .blk, .fst, .snd, .snd, .snd, .snd, .snd, .blk, .snd]) (bodyOf Try.f12) (resKV Try.prog Try.f12 (hint.own 12 0))) [(0, (.t (.str s0))), (5, (.buf 8)), (6, (.t (.bool ends6))), (7, (.t (.int .i64 at7))), (8, (.t (.int .i64 n8)))] ⟨[(8, (.arr true 3 m8z m8))], []⟩ (nav (List.reverse [.snd, .snd, .blk, .snd, .lp, .blk, .fst, .snd, .snd, .snd, .snd, .snd, .blk, .snd]) (bodyOf Try.f12)) =
 subS s0 (some at7) (some (IntKind.i64.wrap (at7 + n8))) fun s_1 =>
 callK (vr 31 0 [(.t (.str s_1))] ⟨[], []⟩) fun v_2 b_3 =>
 asTup v_2 fun l_4 =>
 consV l_4 fun v_5 l_6 =>
 asT v_5 fun x_7 =>
 asA x_7 fun l_8 =>
 consT l_8 fun v_9 l_10 =>
 asI .i64 v_9 fun x_11 =>
 consT l_10 fun v_12 l_13 =>
 asS v_12 fun s_14 =>
 consT l_13 fun v_15 l_16 =>
 asI .i64 v_15 fun x_17 =>
 endT l_16 <|
 consV l_6 fun v_18 l_19 =>
 asT v_18 fun x_20 =>
 asB x_20 fun b_21 =>
 endV l_19 <|
 endB b_3 <|
(bif (!b_21) then
 some ((.tup [(.t (.list 3 false [])), (.t (.int .i64 at7)), (.t (.int .i64 6))]), ⟨[], []⟩)
else
(bif ends6 then
 needC (decide ((m8.length + 1) * (32 + 1) ≤ 70368744177664) && decide (32 ≤ 1048576)) fun _ =>
 KJ12_26 [(0, (.t (.str s0))), (5, (.buf 8)), (7, (.t (.int .i64 at7))), (8, (.t (.int .i64 n8))), (9, (.ptr 9 0 0))] ⟨[(8, (.arr true 3 (m8z || true) (m8 ++ ([(.agg [(.int .i64 4), (.str ByteArray.empty), (.int .i64 0)])] : List T)))), (9, (.var [(.t (.int .i64 x_11)), (.t (.str s_14)), (.t (.int .i64 x_17))]))], []⟩
else
 KJ12_26 [(0, (.t (.str s0))), (5, (.buf 8)), (7, (.t (.int .i64 at7))), (8, (.t (.int .i64 n8))), (9, (.ptr 9 0 0))] ⟨[(8, (.arr true 3 m8z m8)), (9, (.var [(.t (.int .i64 x_11)), (.t (.str s_14)), (.t (.int .i64 x_17))]))], []⟩)) := by kernel_rfl
theorem J12_21_eq (s0 : ByteArray) (ends6 : Bool) (at7 : Int) (n8 : Int) (m8z : Bool) (m8 : List T) : J12_21 s0 ends6 at7 n8 m8z m8 =
 subS s0 (some at7) (some (IntKind.i64.wrap (at7 + n8))) fun s_1 =>
 callK (vr 31 0 [(.t (.str s_1))] ⟨[], []⟩) fun v_2 b_3 =>
 asTup v_2 fun l_4 =>
 consV l_4 fun v_5 l_6 =>
 asT v_5 fun x_7 =>
 asA x_7 fun l_8 =>
 consT l_8 fun v_9 l_10 =>
 asI .i64 v_9 fun x_11 =>
 consT l_10 fun v_12 l_13 =>
 asS v_12 fun s_14 =>
 consT l_13 fun v_15 l_16 =>
 asI .i64 v_15 fun x_17 =>
 endT l_16 <|
 consV l_6 fun v_18 l_19 =>
 asT v_18 fun x_20 =>
 asB x_20 fun b_21 =>
 endV l_19 <|
 endB b_3 <|
(bif (!b_21) then
 some ((.tup [(.t (.list 3 false [])), (.t (.int .i64 at7)), (.t (.int .i64 6))]), ⟨[], []⟩)
else
(bif ends6 then
 needC (decide ((m8.length + 1) * (32 + 1) ≤ 70368744177664) && decide (32 ≤ 1048576)) fun _ =>
 J12_26 (s0) (at7) (n8) ((m8z || true)) ((m8 ++ ([(.agg [(.int .i64 4), (.str ByteArray.empty), (.int .i64 0)])] : List T))) (x_11) (s_14) (x_17)
else
 J12_26 (s0) (at7) (n8) (m8z) (m8) (x_11) (s_14) (x_17))) :=
  (join_eq Try.prog hint (fn := Try.f12) (nt := 82) (T := [([.blk, .fst, .snd, .snd, .snd, .snd, .snd, .blk, .snd], fun e st => atV Try.prog hint 12 0 Try.f12 82 (List.reverse [.blk, .fst, .snd, .snd, .snd, .snd, .snd, .blk, .snd]) e st), ([.snd, .snd, .snd, .snd, .snd, .snd, .blk, .snd], fun e st => atV Try.prog hint 12 0 Try.f12 82 (List.reverse [.snd, .snd, .snd, .snd, .snd, .snd, .blk, .snd]) e st), ([.snd, .snd, .blk, .snd, .lp, .blk, .fst, .snd, .snd, .snd, .snd, .snd, .blk, .snd], fun e st => atV Try.prog hint 12 0 Try.f12 82 (List.reverse [.snd, .snd, .blk, .snd, .lp, .blk, .fst, .snd, .snd, .snd, .snd, .snd, .blk, .snd]) e st), ([.snd, .snd, .snd, .snd, .snd, .blk, .snd, .lp, .blk, .fst, .snd, .snd, .snd, .snd, .snd, .blk, .snd], fun e st => atV Try.prog hint 12 0 Try.f12 82 (List.reverse [.snd, .snd, .snd, .snd, .snd, .blk, .snd, .lp, .blk, .fst, .snd, .snd, .snd, .snd, .snd, .blk, .snd]) e st)]) [[.blk, .fst, .snd, .snd, .snd, .snd, .snd, .blk, .snd], [.snd, .snd, .snd, .snd, .snd, .snd, .blk, .snd], [.snd, .snd, .blk, .snd, .lp, .blk, .fst, .snd, .snd, .snd, .snd, .snd, .blk, .snd], [.snd, .snd, .snd, .snd, .snd, .blk, .snd, .lp, .blk, .fst, .snd, .snd, .snd, .snd, .snd, .blk, .snd]] rfl [.snd, .snd, .blk, .snd, .lp, .blk, .fst, .snd, .snd, .snd, .snd, .snd, .blk, .snd] [(0, (.t (.str s0))), (5, (.buf 8)), (6, (.t (.bool ends6))), (7, (.t (.int .i64 at7))), (8, (.t (.int .i64 n8)))] ⟨[(8, (.arr true 3 m8z m8))], []⟩ rfl).trans (J12_21g (fun e st => atV Try.prog hint 12 0 Try.f12 82 (List.reverse [.blk, .fst, .snd, .snd, .snd, .snd, .snd, .blk, .snd]) e st) (fun e st => atV Try.prog hint 12 0 Try.f12 82 (List.reverse [.snd, .snd, .snd, .snd, .snd, .snd, .blk, .snd]) e st) (fun e st => atV Try.prog hint 12 0 Try.f12 82 (List.reverse [.snd, .snd, .blk, .snd, .lp, .blk, .fst, .snd, .snd, .snd, .snd, .snd, .blk, .snd]) e st) (fun e st => atV Try.prog hint 12 0 Try.f12 82 (List.reverse [.snd, .snd, .snd, .snd, .snd, .blk, .snd, .lp, .blk, .fst, .snd, .snd, .snd, .snd, .snd, .blk, .snd]) e st) s0 ends6 at7 n8 m8z m8)
theorem J12_26g (KL12_6 KJ12_28 KJ12_21 KJ12_26 : Env → St → Option Res) (s0 : ByteArray) (at7 : Int) (n8 : Int) (m8z : Bool) (m8 : List T) (m9_0 : Int) (m9_1 : ByteArray) (m9_2 : Int) : codeT Try.prog hint 12 0 82 [([.blk, .fst, .snd, .snd, .snd, .snd, .snd, .blk, .snd], KL12_6), ([.snd, .snd, .snd, .snd, .snd, .snd, .blk, .snd], KJ12_28), ([.snd, .snd, .blk, .snd, .lp, .blk, .fst, .snd, .snd, .snd, .snd, .snd, .blk, .snd], KJ12_21), ([.snd, .snd, .snd, .snd, .snd, .blk, .snd, .lp, .blk, .fst, .snd, .snd, .snd, .snd, .snd, .blk, .snd], KJ12_26)] [.snd, .snd, .snd, .snd, .snd, .blk, .snd, .lp, .blk, .fst, .snd, .snd, .snd, .snd, .snd, .blk, .snd] (ctxT Try.prog hint 12 0 82 [([.blk, .fst, .snd, .snd, .snd, .snd, .snd, .blk, .snd], KL12_6), ([.snd, .snd, .snd, .snd, .snd, .snd, .blk, .snd], KJ12_28), ([.snd, .snd, .blk, .snd, .lp, .blk, .fst, .snd, .snd, .snd, .snd, .snd, .blk, .snd], KJ12_21), ([.snd, .snd, .snd, .snd, .snd, .blk, .snd, .lp, .blk, .fst, .snd, .snd, .snd, .snd, .snd, .blk, .snd], KJ12_26)] [] (List.reverse [.snd, .snd, .snd, .snd, .snd, .blk, .snd, .lp, .blk, .fst, .snd, .snd, .snd, .snd, .snd, .blk, .snd]) (bodyOf Try.f12) (resKV Try.prog Try.f12 (hint.own 12 0))) [(0, (.t (.str s0))), (5, (.buf 8)), (7, (.t (.int .i64 at7))), (8, (.t (.int .i64 n8))), (9, (.ptr 9 0 0))] ⟨[(8, (.arr true 3 m8z m8)), (9, (.var [(.t (.int .i64 m9_0)), (.t (.str m9_1)), (.t (.int .i64 m9_2))]))], []⟩ (nav (List.reverse [.snd, .snd, .snd, .snd, .snd, .blk, .snd, .lp, .blk, .fst, .snd, .snd, .snd, .snd, .snd, .blk, .snd]) (bodyOf Try.f12)) =
 needC (decide ((m8.length + 1) * (32 + 1) ≤ 70368744177664) && decide (32 ≤ 1048576)) fun _ =>
 KL12_6 [(0, (.t (.str s0))), (5, (.buf 8)), (6, (.t (.bool false))), (7, (.t (.int .i64 (IntKind.i64.wrap (at7 + n8)))))] ⟨[(8, (.arr true 3 (m8z || true) (m8 ++ ([(.agg [(.int .i64 m9_0), (.str m9_1), (.int .i64 m9_2)])] : List T))))], []⟩ := by kernel_rfl
theorem J12_26_eq (s0 : ByteArray) (at7 : Int) (n8 : Int) (m8z : Bool) (m8 : List T) (m9_0 : Int) (m9_1 : ByteArray) (m9_2 : Int) : J12_26 s0 at7 n8 m8z m8 m9_0 m9_1 m9_2 =
 needC (decide ((m8.length + 1) * (32 + 1) ≤ 70368744177664) && decide (32 ≤ 1048576)) fun _ =>
 L12_6 (s0) (false) ((IntKind.i64.wrap (at7 + n8))) ((m8z || true)) ((m8 ++ ([(.agg [(.int .i64 m9_0), (.str m9_1), (.int .i64 m9_2)])] : List T))) :=
  (join_eq Try.prog hint (fn := Try.f12) (nt := 82) (T := [([.blk, .fst, .snd, .snd, .snd, .snd, .snd, .blk, .snd], fun e st => atV Try.prog hint 12 0 Try.f12 82 (List.reverse [.blk, .fst, .snd, .snd, .snd, .snd, .snd, .blk, .snd]) e st), ([.snd, .snd, .snd, .snd, .snd, .snd, .blk, .snd], fun e st => atV Try.prog hint 12 0 Try.f12 82 (List.reverse [.snd, .snd, .snd, .snd, .snd, .snd, .blk, .snd]) e st), ([.snd, .snd, .blk, .snd, .lp, .blk, .fst, .snd, .snd, .snd, .snd, .snd, .blk, .snd], fun e st => atV Try.prog hint 12 0 Try.f12 82 (List.reverse [.snd, .snd, .blk, .snd, .lp, .blk, .fst, .snd, .snd, .snd, .snd, .snd, .blk, .snd]) e st), ([.snd, .snd, .snd, .snd, .snd, .blk, .snd, .lp, .blk, .fst, .snd, .snd, .snd, .snd, .snd, .blk, .snd], fun e st => atV Try.prog hint 12 0 Try.f12 82 (List.reverse [.snd, .snd, .snd, .snd, .snd, .blk, .snd, .lp, .blk, .fst, .snd, .snd, .snd, .snd, .snd, .blk, .snd]) e st)]) [[.blk, .fst, .snd, .snd, .snd, .snd, .snd, .blk, .snd], [.snd, .snd, .snd, .snd, .snd, .snd, .blk, .snd], [.snd, .snd, .blk, .snd, .lp, .blk, .fst, .snd, .snd, .snd, .snd, .snd, .blk, .snd], [.snd, .snd, .snd, .snd, .snd, .blk, .snd, .lp, .blk, .fst, .snd, .snd, .snd, .snd, .snd, .blk, .snd]] rfl [.snd, .snd, .snd, .snd, .snd, .blk, .snd, .lp, .blk, .fst, .snd, .snd, .snd, .snd, .snd, .blk, .snd] [(0, (.t (.str s0))), (5, (.buf 8)), (7, (.t (.int .i64 at7))), (8, (.t (.int .i64 n8))), (9, (.ptr 9 0 0))] ⟨[(8, (.arr true 3 m8z m8)), (9, (.var [(.t (.int .i64 m9_0)), (.t (.str m9_1)), (.t (.int .i64 m9_2))]))], []⟩ rfl).trans (J12_26g (fun e st => atV Try.prog hint 12 0 Try.f12 82 (List.reverse [.blk, .fst, .snd, .snd, .snd, .snd, .snd, .blk, .snd]) e st) (fun e st => atV Try.prog hint 12 0 Try.f12 82 (List.reverse [.snd, .snd, .snd, .snd, .snd, .snd, .blk, .snd]) e st) (fun e st => atV Try.prog hint 12 0 Try.f12 82 (List.reverse [.snd, .snd, .blk, .snd, .lp, .blk, .fst, .snd, .snd, .snd, .snd, .snd, .blk, .snd]) e st) (fun e st => atV Try.prog hint 12 0 Try.f12 82 (List.reverse [.snd, .snd, .snd, .snd, .snd, .blk, .snd, .lp, .blk, .fst, .snd, .snd, .snd, .snd, .snd, .blk, .snd]) e st) s0 at7 n8 m8z m8 m9_0 m9_1 m9_2)
theorem eq11g   : codeT Try.prog hint 11 0 39 [] [] (resKV Try.prog Try.f11 (hint.own 11 0)) (nrm hint 11 0 (bodyOf Try.f11) (envV [] 0) ⟨[], []⟩).1 (nrm hint 11 0 (bodyOf Try.f11) (envV [] 0) ⟨[], []⟩).2 (bodyOf Try.f11) =
 callK (vr 12 0 [(.t (.str ⟨#[65, 91, 105, 93, 32, 61, 32, 50]⟩))] ⟨[], []⟩) fun v_1 b_2 =>
 asTup v_1 fun l_3 =>
 consV l_3 fun v_4 l_5 =>
 asT v_4 fun x_6 =>
 asL 3 x_6 fun nn_7 l_8 =>
 consV l_5 fun v_9 l_10 =>
 asT v_9 fun x_11 =>
 asI .i64 x_11 fun x_12 =>
 consV l_10 fun v_13 l_14 =>
 asT v_13 fun x_15 =>
 asI .i64 x_15 fun x_16 =>
 endV l_14 <|
 endB b_2 <|
(bif (!decide ((l_8.length : Int) = 6)) then
 some ((.t (.bool false)), ⟨[], []⟩)
else
(bif (!decide (x_12 = 8)) then
 some ((.t (.bool false)), ⟨[], []⟩)
else
(bif (!decide (x_16 = 0)) then
 some ((.t (.bool false)), ⟨[], []⟩)
else
 needC (decide (0 ≤ 0)) fun _ =>
 getT l_8 ((0 : Int)).toNat fun e_17 =>
 asA e_17 fun l_18 =>
 consT l_18 fun v_19 l_20 =>
 asI .i64 v_19 fun x_21 =>
 consT l_20 fun v_22 l_23 =>
 asS v_22 fun s_24 =>
 consT l_23 fun v_25 l_26 =>
 asI .i64 v_25 fun x_27 =>
 endT l_26 <|
(bif (decide (x_21 = 1) && (decide ((s_24 : ByteArray) = ⟨#[65]⟩) && (decide (x_27 = 0) && true))) then
 needC (decide (0 ≤ 1)) fun _ =>
 getT l_8 ((1 : Int)).toNat fun e_28 =>
 asA e_28 fun l_29 =>
 consT l_29 fun v_30 l_31 =>
 asI .i64 v_30 fun x_32 =>
 consT l_31 fun v_33 l_34 =>
 asS v_33 fun s_35 =>
 consT l_34 fun v_36 l_37 =>
 asI .i64 v_36 fun x_38 =>
 endT l_37 <|
(bif (decide (x_32 = 3) && (decide ((s_35 : ByteArray) = ⟨#[91]⟩) && (decide (x_38 = 0) && true))) then
 needC (decide (0 ≤ 5)) fun _ =>
 getT l_8 ((5 : Int)).toNat fun e_39 =>
 asA e_39 fun l_40 =>
 consT l_40 fun v_41 l_42 =>
 asI .i64 v_41 fun x_43 =>
 consT l_42 fun v_44 l_45 =>
 asS v_44 fun s_46 =>
 consT l_45 fun v_47 l_48 =>
 asI .i64 v_47 fun x_49 =>
 endT l_48 <|
 some ((.t (.bool (decide (x_43 = 2) && (decide ((s_46 : ByteArray) = ⟨#[50]⟩) && (decide (x_49 = 2) && true))))), ⟨[], []⟩)
else
 some ((.t (.bool false)), ⟨[], []⟩))
else
 some ((.t (.bool false)), ⟨[], []⟩))))) := by kernel_rfl
/-- purfle/purflelaw08.live -/
theorem eq11  : vr 11 0 [] ⟨[], []⟩ =
 callK (vr 12 0 [(.t (.str ⟨#[65, 91, 105, 93, 32, 61, 32, 50]⟩))] ⟨[], []⟩) fun v_1 b_2 =>
 asTup v_1 fun l_3 =>
 consV l_3 fun v_4 l_5 =>
 asT v_4 fun x_6 =>
 asL 3 x_6 fun nn_7 l_8 =>
 consV l_5 fun v_9 l_10 =>
 asT v_9 fun x_11 =>
 asI .i64 x_11 fun x_12 =>
 consV l_10 fun v_13 l_14 =>
 asT v_13 fun x_15 =>
 asI .i64 x_15 fun x_16 =>
 endV l_14 <|
 endB b_2 <|
(bif (!decide ((l_8.length : Int) = 6)) then
 some ((.t (.bool false)), ⟨[], []⟩)
else
(bif (!decide (x_12 = 8)) then
 some ((.t (.bool false)), ⟨[], []⟩)
else
(bif (!decide (x_16 = 0)) then
 some ((.t (.bool false)), ⟨[], []⟩)
else
 needC (decide (0 ≤ 0)) fun _ =>
 getT l_8 ((0 : Int)).toNat fun e_17 =>
 asA e_17 fun l_18 =>
 consT l_18 fun v_19 l_20 =>
 asI .i64 v_19 fun x_21 =>
 consT l_20 fun v_22 l_23 =>
 asS v_22 fun s_24 =>
 consT l_23 fun v_25 l_26 =>
 asI .i64 v_25 fun x_27 =>
 endT l_26 <|
(bif (decide (x_21 = 1) && (decide ((s_24 : ByteArray) = ⟨#[65]⟩) && (decide (x_27 = 0) && true))) then
 needC (decide (0 ≤ 1)) fun _ =>
 getT l_8 ((1 : Int)).toNat fun e_28 =>
 asA e_28 fun l_29 =>
 consT l_29 fun v_30 l_31 =>
 asI .i64 v_30 fun x_32 =>
 consT l_31 fun v_33 l_34 =>
 asS v_33 fun s_35 =>
 consT l_34 fun v_36 l_37 =>
 asI .i64 v_36 fun x_38 =>
 endT l_37 <|
(bif (decide (x_32 = 3) && (decide ((s_35 : ByteArray) = ⟨#[91]⟩) && (decide (x_38 = 0) && true))) then
 needC (decide (0 ≤ 5)) fun _ =>
 getT l_8 ((5 : Int)).toNat fun e_39 =>
 asA e_39 fun l_40 =>
 consT l_40 fun v_41 l_42 =>
 asI .i64 v_41 fun x_43 =>
 consT l_42 fun v_44 l_45 =>
 asS v_44 fun s_46 =>
 consT l_45 fun v_47 l_48 =>
 asI .i64 v_47 fun x_49 =>
 endT l_48 <|
 some ((.t (.bool (decide (x_43 = 2) && (decide ((s_46 : ByteArray) = ⟨#[50]⟩) && (decide (x_49 = 2) && true))))), ⟨[], []⟩)
else
 some ((.t (.bool false)), ⟨[], []⟩))
else
 some ((.t (.bool false)), ⟨[], []⟩))))) :=
  (call_eq Try.prog hint (fn := Try.f11) (nt := 39) (T := []) [] rfl [] ⟨[], []⟩ rfl rfl rfl rfl rfl).trans (eq11g  )
theorem eq32g  (a0 : Int) : codeT Try.prog hint 32 0 17 [] [] (resKV Try.prog Try.f32 (hint.own 32 0)) (nrm hint 32 0 (bodyOf Try.f32) (envV [(.t (.int .u8 a0))] 0) ⟨[], []⟩).1 (nrm hint 32 0 (bodyOf Try.f32) (envV [(.t (.int .u8 a0))] 0) ⟨[], []⟩).2 (bodyOf Try.f32) =
(bif (decide (97 ≤ a0)) then
(bif (decide (a0 ≤ 122)) then
 some ((.t (.bool true)), ⟨[], []⟩)
else
(bif (decide (65 ≤ a0)) then
 some ((.t (.bool (decide (a0 ≤ 90)))), ⟨[], []⟩)
else
 some ((.t (.bool false)), ⟨[], []⟩)))
else
(bif (decide (65 ≤ a0)) then
 some ((.t (.bool (decide (a0 ≤ 90)))), ⟨[], []⟩)
else
 some ((.t (.bool false)), ⟨[], []⟩))) := by kernel_rfl
/-- purfle/purfleref08.letter -/
theorem eq32 (a0 : Int) : vr 32 0 [(.t (.int .u8 a0))] ⟨[], []⟩ =
(bif (decide (97 ≤ a0)) then
(bif (decide (a0 ≤ 122)) then
 some ((.t (.bool true)), ⟨[], []⟩)
else
(bif (decide (65 ≤ a0)) then
 some ((.t (.bool (decide (a0 ≤ 90)))), ⟨[], []⟩)
else
 some ((.t (.bool false)), ⟨[], []⟩)))
else
(bif (decide (65 ≤ a0)) then
 some ((.t (.bool (decide (a0 ≤ 90)))), ⟨[], []⟩)
else
 some ((.t (.bool false)), ⟨[], []⟩))) :=
  (call_eq Try.prog hint (fn := Try.f32) (nt := 17) (T := []) [] rfl [(.t (.int .u8 a0))] ⟨[], []⟩ rfl rfl rfl rfl rfl).trans (eq32g  a0)
theorem eq33g  (a0 : Int) : codeT Try.prog hint 33 0 9 [] [] (resKV Try.prog Try.f33 (hint.own 33 0)) (nrm hint 33 0 (bodyOf Try.f33) (envV [(.t (.int .u8 a0))] 0) ⟨[], []⟩).1 (nrm hint 33 0 (bodyOf Try.f33) (envV [(.t (.int .u8 a0))] 0) ⟨[], []⟩).2 (bodyOf Try.f33) =
(bif (decide (48 ≤ a0)) then
 some ((.t (.bool (decide (a0 ≤ 57)))), ⟨[], []⟩)
else
 some ((.t (.bool false)), ⟨[], []⟩)) := by kernel_rfl
/-- purfle/purfleref08.digit -/
theorem eq33 (a0 : Int) : vr 33 0 [(.t (.int .u8 a0))] ⟨[], []⟩ =
(bif (decide (48 ≤ a0)) then
 some ((.t (.bool (decide (a0 ≤ 57)))), ⟨[], []⟩)
else
 some ((.t (.bool false)), ⟨[], []⟩)) :=
  (call_eq Try.prog hint (fn := Try.f33) (nt := 9) (T := []) [] rfl [(.t (.int .u8 a0))] ⟨[], []⟩ rfl rfl rfl rfl rfl).trans (eq33g  a0)
theorem eq16g (KL16_5 : Env → St → Option Res) (a0 : ByteArray) : codeT Try.prog hint 16 0 44 [([.blk, .snd, .fst, .snd, .snd, .snd], KL16_5)] [] (resKV Try.prog Try.f16 (hint.own 16 0)) (nrm hint 16 0 (bodyOf Try.f16) (envV [(.t (.str a0))] 0) ⟨[], []⟩).1 (nrm hint 16 0 (bodyOf Try.f16) (envV [(.t (.str a0))] 0) ⟨[], []⟩).2 (bodyOf Try.f16) =
(bif (decide ((a0.size : Int) < 1)) then
 some ((.tup [(.t (.int .i64 0)), (.t (.bool false))]), ⟨[], []⟩)
else
(bif (decide (18 < (a0.size : Int))) then
 some ((.tup [(.t (.int .i64 0)), (.t (.bool false))]), ⟨[], []⟩)
else
(bif (decide (1 < (a0.size : Int))) then
 needC (decide (0 ≤ 0) && decide ((0 : Int) < (a0.size : Int))) fun _ =>
(bif (decide ((((a0 : ByteArray)[((0 : Int)).toNat]!).toNat : Int) = 48)) then
 some ((.tup [(.t (.int .i64 0)), (.t (.bool false))]), ⟨[], []⟩)
else
 KL16_5 [(0, (.t (.str a0))), (4, (.t (.int .i64 0))), (25, (.t (.int .i64 (a0.size : Int)))), (26, (.t (.int .i64 0)))] ⟨[], []⟩)
else
 KL16_5 [(0, (.t (.str a0))), (4, (.t (.int .i64 0))), (25, (.t (.int .i64 (a0.size : Int)))), (26, (.t (.int .i64 0)))] ⟨[], []⟩))) := by kernel_rfl
/-- purfle/purfleref08.Number -/
theorem eq16 (a0 : ByteArray) : vr 16 0 [(.t (.str a0))] ⟨[], []⟩ =
(bif (decide ((a0.size : Int) < 1)) then
 some ((.tup [(.t (.int .i64 0)), (.t (.bool false))]), ⟨[], []⟩)
else
(bif (decide (18 < (a0.size : Int))) then
 some ((.tup [(.t (.int .i64 0)), (.t (.bool false))]), ⟨[], []⟩)
else
(bif (decide (1 < (a0.size : Int))) then
 needC (decide (0 ≤ 0) && decide ((0 : Int) < (a0.size : Int))) fun _ =>
(bif (decide ((((a0 : ByteArray)[((0 : Int)).toNat]!).toNat : Int) = 48)) then
 some ((.tup [(.t (.int .i64 0)), (.t (.bool false))]), ⟨[], []⟩)
else
 L16_5 (a0) (0) ((a0.size : Int)) (0))
else
 L16_5 (a0) (0) ((a0.size : Int)) (0)))) :=
  (call_eq Try.prog hint (fn := Try.f16) (nt := 44) (T := [([.blk, .snd, .fst, .snd, .snd, .snd], fun e st => atV Try.prog hint 16 0 Try.f16 44 (List.reverse [.blk, .snd, .fst, .snd, .snd, .snd]) e st)]) [[.blk, .snd, .fst, .snd, .snd, .snd]] rfl [(.t (.str a0))] ⟨[], []⟩ rfl rfl rfl rfl rfl).trans (eq16g (fun e st => atV Try.prog hint 16 0 Try.f16 44 (List.reverse [.blk, .snd, .fst, .snd, .snd, .snd]) e st) a0)
theorem L16_5g (KL16_5 : Env → St → Option Res) (s0 : ByteArray) (n4 : Int) (t25 : Int) (t26 : Int) : codeT Try.prog hint 16 0 44 [([.blk, .snd, .fst, .snd, .snd, .snd], KL16_5)] [.lp, .blk, .snd, .fst, .snd, .snd, .snd] (ctxT Try.prog hint 16 0 44 [([.blk, .snd, .fst, .snd, .snd, .snd], KL16_5)] [] (List.reverse [.lp, .blk, .snd, .fst, .snd, .snd, .snd]) (bodyOf Try.f16) (resKV Try.prog Try.f16 (hint.own 16 0))) [(0, (.t (.str s0))), (4, (.t (.int .i64 n4))), (25, (.t (.int .i64 t25))), (26, (.t (.int .i64 t26)))] ⟨[], []⟩ (nav (List.reverse [.lp, .blk, .snd, .fst, .snd, .snd, .snd]) (bodyOf Try.f16)) =
(bif (decide (t26 < t25)) then
 needC (decide (0 ≤ t26) && decide (t26 < (s0.size : Int))) fun _ =>
 callK (vr 33 0 [(.t (.int .u8 (((s0 : ByteArray)[(t26).toNat]!).toNat : Int)))] ⟨[], []⟩) fun v_1 b_2 =>
 asT v_1 fun x_3 =>
 asB x_3 fun b_4 =>
 endB b_2 <|
(bif (!b_4) then
 some ((.tup [(.t (.int .i64 0)), (.t (.bool false))]), ⟨[], []⟩)
else
 needC (decide (0 ≤ t26) && decide (t26 < (s0.size : Int))) fun _ =>
 KL16_5 [(0, (.t (.str s0))), (4, (.t (.int .i64 (IntKind.i64.wrap ((IntKind.i64.wrap ((10 : Int) * n4)) + (IntKind.i64.wrap (IntKind.u8.wrap ((((s0 : ByteArray)[(t26).toNat]!).toNat : Int) - 48)))))))), (25, (.t (.int .i64 t25))), (26, (.t (.int .i64 (IntKind.i64.wrap (t26 + 1)))))] ⟨[], []⟩)
else
 some ((.tup [(.t (.int .i64 n4)), (.t (.bool true))]), ⟨[], []⟩)) := by kernel_rfl
theorem L16_5_eq (s0 : ByteArray) (n4 : Int) (t25 : Int) (t26 : Int) : L16_5 s0 n4 t25 t26 =
(bif (decide (t26 < t25)) then
 needC (decide (0 ≤ t26) && decide (t26 < (s0.size : Int))) fun _ =>
 callK (vr 33 0 [(.t (.int .u8 (((s0 : ByteArray)[(t26).toNat]!).toNat : Int)))] ⟨[], []⟩) fun v_1 b_2 =>
 asT v_1 fun x_3 =>
 asB x_3 fun b_4 =>
 endB b_2 <|
(bif (!b_4) then
 some ((.tup [(.t (.int .i64 0)), (.t (.bool false))]), ⟨[], []⟩)
else
 needC (decide (0 ≤ t26) && decide (t26 < (s0.size : Int))) fun _ =>
 L16_5 (s0) ((IntKind.i64.wrap ((IntKind.i64.wrap ((10 : Int) * n4)) + (IntKind.i64.wrap (IntKind.u8.wrap ((((s0 : ByteArray)[(t26).toNat]!).toNat : Int) - 48)))))) (t25) ((IntKind.i64.wrap (t26 + 1))))
else
 some ((.tup [(.t (.int .i64 n4)), (.t (.bool true))]), ⟨[], []⟩)) :=
  (round_eq Try.prog hint (b := (nav (List.reverse [.lp, .blk, .snd, .fst, .snd, .snd, .snd]) (bodyOf Try.f16))) (fn := Try.f16) (nt := 44) (T := [([.blk, .snd, .fst, .snd, .snd, .snd], fun e st => atV Try.prog hint 16 0 Try.f16 44 (List.reverse [.blk, .snd, .fst, .snd, .snd, .snd]) e st)]) [[.blk, .snd, .fst, .snd, .snd, .snd]] rfl [.blk, .snd, .fst, .snd, .snd, .snd] [(0, (.t (.str s0))), (4, (.t (.int .i64 n4))), (25, (.t (.int .i64 t25))), (26, (.t (.int .i64 t26)))] ⟨[], []⟩ rfl rfl rfl).trans (L16_5g (fun e st => atV Try.prog hint 16 0 Try.f16 44 (List.reverse [.blk, .snd, .fst, .snd, .snd, .snd]) e st) s0 n4 t25 t26)
theorem eq19g (KL19_4 : Env → St → Option Res) (a0 : ByteArray) : codeT Try.prog hint 19 0 36 [([.blk, .snd, .fst, .snd, .snd], KL19_4)] [] (resKV Try.prog Try.f19 (hint.own 19 0)) (nrm hint 19 0 (bodyOf Try.f19) (envV [(.t (.str a0))] 0) ⟨[], []⟩).1 (nrm hint 19 0 (bodyOf Try.f19) (envV [(.t (.str a0))] 0) ⟨[], []⟩).2 (bodyOf Try.f19) =
(bif (decide ((a0.size : Int) < 1)) then
 some ((.t (.bool false)), ⟨[], []⟩)
else
(bif (decide (16 < (a0.size : Int))) then
 some ((.t (.bool false)), ⟨[], []⟩)
else
 needC (decide (0 ≤ 0) && decide ((0 : Int) < (a0.size : Int))) fun _ =>
 callK (vr 32 0 [(.t (.int .u8 (((a0 : ByteArray)[((0 : Int)).toNat]!).toNat : Int)))] ⟨[], []⟩) fun v_1 b_2 =>
 asT v_1 fun x_3 =>
 asB x_3 fun b_4 =>
 endB b_2 <|
(bif (!b_4) then
 some ((.t (.bool false)), ⟨[], []⟩)
else
 KL19_4 [(0, (.t (.str a0))), (19, (.t (.int .i64 (a0.size : Int)))), (20, (.t (.int .i64 0)))] ⟨[], []⟩))) := by kernel_rfl
/-- purfle/purfleref08.Word -/
theorem eq19 (a0 : ByteArray) : vr 19 0 [(.t (.str a0))] ⟨[], []⟩ =
(bif (decide ((a0.size : Int) < 1)) then
 some ((.t (.bool false)), ⟨[], []⟩)
else
(bif (decide (16 < (a0.size : Int))) then
 some ((.t (.bool false)), ⟨[], []⟩)
else
 needC (decide (0 ≤ 0) && decide ((0 : Int) < (a0.size : Int))) fun _ =>
 callK (vr 32 0 [(.t (.int .u8 (((a0 : ByteArray)[((0 : Int)).toNat]!).toNat : Int)))] ⟨[], []⟩) fun v_1 b_2 =>
 asT v_1 fun x_3 =>
 asB x_3 fun b_4 =>
 endB b_2 <|
(bif (!b_4) then
 some ((.t (.bool false)), ⟨[], []⟩)
else
 L19_4 (a0) ((a0.size : Int)) (0)))) :=
  (call_eq Try.prog hint (fn := Try.f19) (nt := 36) (T := [([.blk, .snd, .fst, .snd, .snd], fun e st => atV Try.prog hint 19 0 Try.f19 36 (List.reverse [.blk, .snd, .fst, .snd, .snd]) e st)]) [[.blk, .snd, .fst, .snd, .snd]] rfl [(.t (.str a0))] ⟨[], []⟩ rfl rfl rfl rfl rfl).trans (eq19g (fun e st => atV Try.prog hint 19 0 Try.f19 36 (List.reverse [.blk, .snd, .fst, .snd, .snd]) e st) a0)
theorem L19_4g (KL19_4 : Env → St → Option Res) (s0 : ByteArray) (t19 : Int) (t20 : Int) : codeT Try.prog hint 19 0 36 [([.blk, .snd, .fst, .snd, .snd], KL19_4)] [.lp, .blk, .snd, .fst, .snd, .snd] (ctxT Try.prog hint 19 0 36 [([.blk, .snd, .fst, .snd, .snd], KL19_4)] [] (List.reverse [.lp, .blk, .snd, .fst, .snd, .snd]) (bodyOf Try.f19) (resKV Try.prog Try.f19 (hint.own 19 0))) [(0, (.t (.str s0))), (19, (.t (.int .i64 t19))), (20, (.t (.int .i64 t20)))] ⟨[], []⟩ (nav (List.reverse [.lp, .blk, .snd, .fst, .snd, .snd]) (bodyOf Try.f19)) =
(bif (decide (t20 < t19)) then
 needC (decide (0 ≤ t20) && decide (t20 < (s0.size : Int))) fun _ =>
 callK (vr 32 0 [(.t (.int .u8 (((s0 : ByteArray)[(t20).toNat]!).toNat : Int)))] ⟨[], []⟩) fun v_1 b_2 =>
 asT v_1 fun x_3 =>
 asB x_3 fun b_4 =>
 endB b_2 <|
(bif (!b_4) then
 needC (decide (0 ≤ t20) && decide (t20 < (s0.size : Int))) fun _ =>
 callK (vr 33 0 [(.t (.int .u8 (((s0 : ByteArray)[(t20).toNat]!).toNat : Int)))] ⟨[], []⟩) fun v_5 b_6 =>
 asT v_5 fun x_7 =>
 asB x_7 fun b_8 =>
 endB b_6 <|
(bif (!b_8) then
 some ((.t (.bool false)), ⟨[], []⟩)
else
 KL19_4 [(0, (.t (.str s0))), (19, (.t (.int .i64 t19))), (20, (.t (.int .i64 (IntKind.i64.wrap (t20 + 1)))))] ⟨[], []⟩)
else
 KL19_4 [(0, (.t (.str s0))), (19, (.t (.int .i64 t19))), (20, (.t (.int .i64 (IntKind.i64.wrap (t20 + 1)))))] ⟨[], []⟩)
else
 some ((.t (.bool true)), ⟨[], []⟩)) := by kernel_rfl
theorem L19_4_eq (s0 : ByteArray) (t19 : Int) (t20 : Int) : L19_4 s0 t19 t20 =
(bif (decide (t20 < t19)) then
 needC (decide (0 ≤ t20) && decide (t20 < (s0.size : Int))) fun _ =>
 callK (vr 32 0 [(.t (.int .u8 (((s0 : ByteArray)[(t20).toNat]!).toNat : Int)))] ⟨[], []⟩) fun v_1 b_2 =>
 asT v_1 fun x_3 =>
 asB x_3 fun b_4 =>
 endB b_2 <|
(bif (!b_4) then
 needC (decide (0 ≤ t20) && decide (t20 < (s0.size : Int))) fun _ =>
 callK (vr 33 0 [(.t (.int .u8 (((s0 : ByteArray)[(t20).toNat]!).toNat : Int)))] ⟨[], []⟩) fun v_5 b_6 =>
 asT v_5 fun x_7 =>
 asB x_7 fun b_8 =>
 endB b_6 <|
(bif (!b_8) then
 some ((.t (.bool false)), ⟨[], []⟩)
else
 L19_4 (s0) (t19) ((IntKind.i64.wrap (t20 + 1))))
else
 L19_4 (s0) (t19) ((IntKind.i64.wrap (t20 + 1))))
else
 some ((.t (.bool true)), ⟨[], []⟩)) :=
  (round_eq Try.prog hint (b := (nav (List.reverse [.lp, .blk, .snd, .fst, .snd, .snd]) (bodyOf Try.f19))) (fn := Try.f19) (nt := 36) (T := [([.blk, .snd, .fst, .snd, .snd], fun e st => atV Try.prog hint 19 0 Try.f19 36 (List.reverse [.blk, .snd, .fst, .snd, .snd]) e st)]) [[.blk, .snd, .fst, .snd, .snd]] rfl [.blk, .snd, .fst, .snd, .snd] [(0, (.t (.str s0))), (19, (.t (.int .i64 t19))), (20, (.t (.int .i64 t20)))] ⟨[], []⟩ rfl rfl rfl).trans (L19_4g (fun e st => atV Try.prog hint 19 0 Try.f19 36 (List.reverse [.blk, .snd, .fst, .snd, .snd]) e st) s0 t19 t20)
theorem eq42g  (a0 : ByteArray) : codeT Try.prog hint 42 0 15 [] [] (resKV Try.prog Try.f42 (hint.own 42 0)) (nrm hint 42 0 (bodyOf Try.f42) (envV [(.t (.str a0))] 0) ⟨[], []⟩).1 (nrm hint 42 0 (bodyOf Try.f42) (envV [(.t (.str a0))] 0) ⟨[], []⟩).2 (bodyOf Try.f42) =
(bif (decide ((a0 : ByteArray) = ⟨#[43]⟩)) then
 some ((.t (.bool true)), ⟨[], []⟩)
else
(bif (decide ((a0 : ByteArray) = ⟨#[45]⟩)) then
 some ((.t (.bool true)), ⟨[], []⟩)
else
(bif (decide ((a0 : ByteArray) = ⟨#[42]⟩)) then
 some ((.t (.bool true)), ⟨[], []⟩)
else
(bif (decide ((a0 : ByteArray) = ⟨#[40]⟩)) then
 some ((.t (.bool true)), ⟨[], []⟩)
else
(bif (decide ((a0 : ByteArray) = ⟨#[41]⟩)) then
 some ((.t (.bool true)), ⟨[], []⟩)
else
(bif (decide ((a0 : ByteArray) = ⟨#[91]⟩)) then
 some ((.t (.bool true)), ⟨[], []⟩)
else
(bif (decide ((a0 : ByteArray) = ⟨#[93]⟩)) then
 some ((.t (.bool true)), ⟨[], []⟩)
else
(bif (decide ((a0 : ByteArray) = ⟨#[44]⟩)) then
 some ((.t (.bool true)), ⟨[], []⟩)
else
(bif (decide ((a0 : ByteArray) = ⟨#[61]⟩)) then
 some ((.t (.bool true)), ⟨[], []⟩)
else
(bif (decide ((a0 : ByteArray) = ⟨#[58]⟩)) then
 some ((.t (.bool true)), ⟨[], []⟩)
else
 some ((.t (.bool false)), ⟨[], []⟩))))))))))) := by kernel_rfl
/-- purfle/purfleref08.sign -/
theorem eq42 (a0 : ByteArray) : vr 42 0 [(.t (.str a0))] ⟨[], []⟩ =
(bif (decide ((a0 : ByteArray) = ⟨#[43]⟩)) then
 some ((.t (.bool true)), ⟨[], []⟩)
else
(bif (decide ((a0 : ByteArray) = ⟨#[45]⟩)) then
 some ((.t (.bool true)), ⟨[], []⟩)
else
(bif (decide ((a0 : ByteArray) = ⟨#[42]⟩)) then
 some ((.t (.bool true)), ⟨[], []⟩)
else
(bif (decide ((a0 : ByteArray) = ⟨#[40]⟩)) then
 some ((.t (.bool true)), ⟨[], []⟩)
else
(bif (decide ((a0 : ByteArray) = ⟨#[41]⟩)) then
 some ((.t (.bool true)), ⟨[], []⟩)
else
(bif (decide ((a0 : ByteArray) = ⟨#[91]⟩)) then
 some ((.t (.bool true)), ⟨[], []⟩)
else
(bif (decide ((a0 : ByteArray) = ⟨#[93]⟩)) then
 some ((.t (.bool true)), ⟨[], []⟩)
else
(bif (decide ((a0 : ByteArray) = ⟨#[44]⟩)) then
 some ((.t (.bool true)), ⟨[], []⟩)
else
(bif (decide ((a0 : ByteArray) = ⟨#[61]⟩)) then
 some ((.t (.bool true)), ⟨[], []⟩)
else
(bif (decide ((a0 : ByteArray) = ⟨#[58]⟩)) then
 some ((.t (.bool true)), ⟨[], []⟩)
else
 some ((.t (.bool false)), ⟨[], []⟩))))))))))) :=
  (call_eq Try.prog hint (fn := Try.f42) (nt := 15) (T := []) [] rfl [(.t (.str a0))] ⟨[], []⟩ rfl rfl rfl rfl rfl).trans (eq42g  a0)
theorem eq34g  (a0 : ByteArray) : codeT Try.prog hint 34 0 24 [] [] (resKV Try.prog Try.f34 (hint.own 34 0)) (nrm hint 34 0 (bodyOf Try.f34) (envV [(.t (.str a0))] 0) ⟨[], []⟩).1 (nrm hint 34 0 (bodyOf Try.f34) (envV [(.t (.str a0))] 0) ⟨[], []⟩).2 (bodyOf Try.f34) =
 callK (vr 16 0 [(.t (.str a0))] ⟨[], []⟩) fun v_1 b_2 =>
 asTup v_1 fun l_3 =>
 consV l_3 fun v_4 l_5 =>
 asT v_4 fun x_6 =>
 asI .i64 x_6 fun x_7 =>
 consV l_5 fun v_8 l_9 =>
 asT v_8 fun x_10 =>
 asB x_10 fun b_11 =>
 endV l_9 <|
 endB b_2 <|
(bif b_11 then
 some ((.tup [(.t (.agg [(.int .i64 2), (.str a0), (.int .i64 x_7)])), (.t (.bool true))]), ⟨[], []⟩)
else
 callK (vr 19 0 [(.t (.str a0))] ⟨[], []⟩) fun v_12 b_13 =>
 asT v_12 fun x_14 =>
 asB x_14 fun b_15 =>
 endB b_13 <|
(bif b_15 then
 some ((.tup [(.t (.agg [(.int .i64 1), (.str a0), (.int .i64 0)])), (.t (.bool true))]), ⟨[], []⟩)
else
 callK (vr 42 0 [(.t (.str a0))] ⟨[], []⟩) fun v_16 b_17 =>
 asT v_16 fun x_18 =>
 asB x_18 fun b_19 =>
 endB b_17 <|
(bif b_19 then
 some ((.tup [(.t (.agg [(.int .i64 3), (.str a0), (.int .i64 0)])), (.t (.bool true))]), ⟨[], []⟩)
else
 some ((.tup [(.t (.agg [(.int .i64 0), (.str ByteArray.empty), (.int .i64 0)])), (.t (.bool false))]), ⟨[], []⟩)))) := by kernel_rfl
/-- purfle/purfleref08.token -/
theorem eq34 (a0 : ByteArray) : vr 34 0 [(.t (.str a0))] ⟨[], []⟩ =
 callK (vr 16 0 [(.t (.str a0))] ⟨[], []⟩) fun v_1 b_2 =>
 asTup v_1 fun l_3 =>
 consV l_3 fun v_4 l_5 =>
 asT v_4 fun x_6 =>
 asI .i64 x_6 fun x_7 =>
 consV l_5 fun v_8 l_9 =>
 asT v_8 fun x_10 =>
 asB x_10 fun b_11 =>
 endV l_9 <|
 endB b_2 <|
(bif b_11 then
 some ((.tup [(.t (.agg [(.int .i64 2), (.str a0), (.int .i64 x_7)])), (.t (.bool true))]), ⟨[], []⟩)
else
 callK (vr 19 0 [(.t (.str a0))] ⟨[], []⟩) fun v_12 b_13 =>
 asT v_12 fun x_14 =>
 asB x_14 fun b_15 =>
 endB b_13 <|
(bif b_15 then
 some ((.tup [(.t (.agg [(.int .i64 1), (.str a0), (.int .i64 0)])), (.t (.bool true))]), ⟨[], []⟩)
else
 callK (vr 42 0 [(.t (.str a0))] ⟨[], []⟩) fun v_16 b_17 =>
 asT v_16 fun x_18 =>
 asB x_18 fun b_19 =>
 endB b_17 <|
(bif b_19 then
 some ((.tup [(.t (.agg [(.int .i64 3), (.str a0), (.int .i64 0)])), (.t (.bool true))]), ⟨[], []⟩)
else
 some ((.tup [(.t (.agg [(.int .i64 0), (.str ByteArray.empty), (.int .i64 0)])), (.t (.bool false))]), ⟨[], []⟩)))) :=
  (call_eq Try.prog hint (fn := Try.f34) (nt := 24) (T := []) [] rfl [(.t (.str a0))] ⟨[], []⟩ rfl rfl rfl rfl rfl).trans (eq34g  a0)
theorem eq13g (KL13_6 KL13_12 KL13_15 KJ13_22 : Env → St → Option Res) (a0 : ByteArray) : codeT Try.prog hint 13 0 121 [([.blk, .snd, .fst, .snd, .snd, .snd, .snd], KL13_6), ([.blk, .fst, .yes, .snd, .fst, .snd, .snd, .blk, .snd, .lp, .blk, .snd, .fst, .snd, .snd, .snd, .snd], KL13_12), ([.blk, .fst, .snd, .snd, .snd, .snd, .blk, .snd, .lp, .blk, .snd, .fst, .snd, .snd, .snd, .snd], KL13_15), ([.snd, .snd, .snd, .snd, .snd, .snd, .snd, .snd, .blk, .snd, .lp, .blk, .snd, .fst, .snd, .snd, .snd, .snd], KJ13_22)] [] (resKV Try.prog Try.f13 (hint.own 13 0)) (nrm hint 13 0 (bodyOf Try.f13) (envV [(.t (.str a0))] 0) ⟨[], []⟩).1 (nrm hint 13 0 (bodyOf Try.f13) (envV [(.t (.str a0))] 0) ⟨[], []⟩).2 (bodyOf Try.f13) =
(bif (decide (65536 < (a0.size : Int))) then
 some ((.tup [(.t (.list 3 false [])), (.t (.int .i64 0)), (.t (.int .i64 2))]), ⟨[], []⟩)
else
 KL13_6 [(0, (.t (.str a0))), (5, (.buf 8)), (6, (.t (.bool false))), (7, (.t (.int .i64 0)))] ⟨[(8, (.arr true 3 false []))], []⟩) := by kernel_rfl
/-- purfle/purfleref08.Cut -/
theorem eq13 (a0 : ByteArray) : vr 13 0 [(.t (.str a0))] ⟨[], []⟩ =
(bif (decide (65536 < (a0.size : Int))) then
 some ((.tup [(.t (.list 3 false [])), (.t (.int .i64 0)), (.t (.int .i64 2))]), ⟨[], []⟩)
else
 L13_6 (a0) (false) (0) (false) ([])) :=
  (call_eq Try.prog hint (fn := Try.f13) (nt := 121) (T := [([.blk, .snd, .fst, .snd, .snd, .snd, .snd], fun e st => atV Try.prog hint 13 0 Try.f13 121 (List.reverse [.blk, .snd, .fst, .snd, .snd, .snd, .snd]) e st), ([.blk, .fst, .yes, .snd, .fst, .snd, .snd, .blk, .snd, .lp, .blk, .snd, .fst, .snd, .snd, .snd, .snd], fun e st => atV Try.prog hint 13 0 Try.f13 121 (List.reverse [.blk, .fst, .yes, .snd, .fst, .snd, .snd, .blk, .snd, .lp, .blk, .snd, .fst, .snd, .snd, .snd, .snd]) e st), ([.blk, .fst, .snd, .snd, .snd, .snd, .blk, .snd, .lp, .blk, .snd, .fst, .snd, .snd, .snd, .snd], fun e st => atV Try.prog hint 13 0 Try.f13 121 (List.reverse [.blk, .fst, .snd, .snd, .snd, .snd, .blk, .snd, .lp, .blk, .snd, .fst, .snd, .snd, .snd, .snd]) e st), ([.snd, .snd, .snd, .snd, .snd, .snd, .snd, .snd, .blk, .snd, .lp, .blk, .snd, .fst, .snd, .snd, .snd, .snd], fun e st => atV Try.prog hint 13 0 Try.f13 121 (List.reverse [.snd, .snd, .snd, .snd, .snd, .snd, .snd, .snd, .blk, .snd, .lp, .blk, .snd, .fst, .snd, .snd, .snd, .snd]) e st)]) [[.blk, .snd, .fst, .snd, .snd, .snd, .snd], [.blk, .fst, .yes, .snd, .fst, .snd, .snd, .blk, .snd, .lp, .blk, .snd, .fst, .snd, .snd, .snd, .snd], [.blk, .fst, .snd, .snd, .snd, .snd, .blk, .snd, .lp, .blk, .snd, .fst, .snd, .snd, .snd, .snd], [.snd, .snd, .snd, .snd, .snd, .snd, .snd, .snd, .blk, .snd, .lp, .blk, .snd, .fst, .snd, .snd, .snd, .snd]] rfl [(.t (.str a0))] ⟨[], []⟩ rfl rfl rfl rfl rfl).trans (eq13g (fun e st => atV Try.prog hint 13 0 Try.f13 121 (List.reverse [.blk, .snd, .fst, .snd, .snd, .snd, .snd]) e st) (fun e st => atV Try.prog hint 13 0 Try.f13 121 (List.reverse [.blk, .fst, .yes, .snd, .fst, .snd, .snd, .blk, .snd, .lp, .blk, .snd, .fst, .snd, .snd, .snd, .snd]) e st) (fun e st => atV Try.prog hint 13 0 Try.f13 121 (List.reverse [.blk, .fst, .snd, .snd, .snd, .snd, .blk, .snd, .lp, .blk, .snd, .fst, .snd, .snd, .snd, .snd]) e st) (fun e st => atV Try.prog hint 13 0 Try.f13 121 (List.reverse [.snd, .snd, .snd, .snd, .snd, .snd, .snd, .snd, .blk, .snd, .lp, .blk, .snd, .fst, .snd, .snd, .snd, .snd]) e st) a0)
theorem L13_6g (KL13_6 KL13_12 KL13_15 KJ13_22 : Env → St → Option Res) (s0 : ByteArray) (line6 : Bool) (i7 : Int) (m8z : Bool) (m8 : List T) : codeT Try.prog hint 13 0 121 [([.blk, .snd, .fst, .snd, .snd, .snd, .snd], KL13_6), ([.blk, .fst, .yes, .snd, .fst, .snd, .snd, .blk, .snd, .lp, .blk, .snd, .fst, .snd, .snd, .snd, .snd], KL13_12), ([.blk, .fst, .snd, .snd, .snd, .snd, .blk, .snd, .lp, .blk, .snd, .fst, .snd, .snd, .snd, .snd], KL13_15), ([.snd, .snd, .snd, .snd, .snd, .snd, .snd, .snd, .blk, .snd, .lp, .blk, .snd, .fst, .snd, .snd, .snd, .snd], KJ13_22)] [.lp, .blk, .snd, .fst, .snd, .snd, .snd, .snd] (ctxT Try.prog hint 13 0 121 [([.blk, .snd, .fst, .snd, .snd, .snd, .snd], KL13_6), ([.blk, .fst, .yes, .snd, .fst, .snd, .snd, .blk, .snd, .lp, .blk, .snd, .fst, .snd, .snd, .snd, .snd], KL13_12), ([.blk, .fst, .snd, .snd, .snd, .snd, .blk, .snd, .lp, .blk, .snd, .fst, .snd, .snd, .snd, .snd], KL13_15), ([.snd, .snd, .snd, .snd, .snd, .snd, .snd, .snd, .blk, .snd, .lp, .blk, .snd, .fst, .snd, .snd, .snd, .snd], KJ13_22)] [] (List.reverse [.lp, .blk, .snd, .fst, .snd, .snd, .snd, .snd]) (bodyOf Try.f13) (resKV Try.prog Try.f13 (hint.own 13 0))) [(0, (.t (.str s0))), (5, (.buf 8)), (6, (.t (.bool line6))), (7, (.t (.int .i64 i7)))] ⟨[(8, (.arr true 3 m8z m8))], []⟩ (nav (List.reverse [.lp, .blk, .snd, .fst, .snd, .snd, .snd, .snd]) (bodyOf Try.f13)) =
(bif (decide (i7 < (s0.size : Int))) then
 needC (decide (0 ≤ i7) && decide (i7 < (s0.size : Int))) fun _ =>
(bif (decide ((((s0 : ByteArray)[(i7).toNat]!).toNat : Int) = 32)) then
(bif line6 then
 KL13_6 [(0, (.t (.str s0))), (5, (.buf 8)), (6, (.t (.bool true))), (7, (.t (.int .i64 (IntKind.i64.wrap (i7 + 1)))))] ⟨[(8, (.arr true 3 m8z m8))], []⟩
else
 KL13_6 [(0, (.t (.str s0))), (5, (.buf 8)), (6, (.t (.bool (decide ((((s0 : ByteArray)[(i7).toNat]!).toNat : Int) = 10))))), (7, (.t (.int .i64 (IntKind.i64.wrap (i7 + 1)))))] ⟨[(8, (.arr true 3 m8z m8))], []⟩)
else
(bif (decide ((((s0 : ByteArray)[(i7).toNat]!).toNat : Int) = 9)) then
(bif line6 then
 KL13_6 [(0, (.t (.str s0))), (5, (.buf 8)), (6, (.t (.bool true))), (7, (.t (.int .i64 (IntKind.i64.wrap (i7 + 1)))))] ⟨[(8, (.arr true 3 m8z m8))], []⟩
else
 KL13_6 [(0, (.t (.str s0))), (5, (.buf 8)), (6, (.t (.bool (decide ((((s0 : ByteArray)[(i7).toNat]!).toNat : Int) = 10))))), (7, (.t (.int .i64 (IntKind.i64.wrap (i7 + 1)))))] ⟨[(8, (.arr true 3 m8z m8))], []⟩)
else
(bif (decide ((((s0 : ByteArray)[(i7).toNat]!).toNat : Int) = 10)) then
(bif line6 then
 KL13_6 [(0, (.t (.str s0))), (5, (.buf 8)), (6, (.t (.bool true))), (7, (.t (.int .i64 (IntKind.i64.wrap (i7 + 1)))))] ⟨[(8, (.arr true 3 m8z m8))], []⟩
else
 KL13_6 [(0, (.t (.str s0))), (5, (.buf 8)), (6, (.t (.bool (decide ((((s0 : ByteArray)[(i7).toNat]!).toNat : Int) = 10))))), (7, (.t (.int .i64 (IntKind.i64.wrap (i7 + 1)))))] ⟨[(8, (.arr true 3 m8z m8))], []⟩)
else
(bif (decide ((((s0 : ByteArray)[(i7).toNat]!).toNat : Int) = 35)) then
 KL13_12 [(0, (.t (.str s0))), (5, (.buf 8)), (6, (.t (.bool line6))), (7, (.t (.int .i64 i7)))] ⟨[(8, (.arr true 3 m8z m8))], []⟩
else
 KL13_15 [(0, (.t (.str s0))), (5, (.buf 8)), (6, (.t (.bool line6))), (7, (.t (.int .i64 i7))), (8, (.t (.int .u8 (((s0 : ByteArray)[(i7).toNat]!).toNat : Int)))), (9, (.t (.int .i64 1)))] ⟨[(8, (.arr true 3 m8z m8))], []⟩))))
else
(bif (decide (4096 < (m8.length : Int))) then
 some ((.tup [(.t (.list 3 false [])), (.t (.int .i64 0)), (.t (.int .i64 2))]), ⟨[], []⟩)
else
 some ((.tup [(.t (.list 3 m8z m8)), (.t (.int .i64 (s0.size : Int))), (.t (.int .i64 0))]), ⟨[], []⟩))) := by kernel_rfl
theorem L13_6_eq (s0 : ByteArray) (line6 : Bool) (i7 : Int) (m8z : Bool) (m8 : List T) : L13_6 s0 line6 i7 m8z m8 =
(bif (decide (i7 < (s0.size : Int))) then
 needC (decide (0 ≤ i7) && decide (i7 < (s0.size : Int))) fun _ =>
(bif (decide ((((s0 : ByteArray)[(i7).toNat]!).toNat : Int) = 32)) then
(bif line6 then
 L13_6 (s0) (true) ((IntKind.i64.wrap (i7 + 1))) (m8z) (m8)
else
 L13_6 (s0) ((decide ((((s0 : ByteArray)[(i7).toNat]!).toNat : Int) = 10))) ((IntKind.i64.wrap (i7 + 1))) (m8z) (m8))
else
(bif (decide ((((s0 : ByteArray)[(i7).toNat]!).toNat : Int) = 9)) then
(bif line6 then
 L13_6 (s0) (true) ((IntKind.i64.wrap (i7 + 1))) (m8z) (m8)
else
 L13_6 (s0) ((decide ((((s0 : ByteArray)[(i7).toNat]!).toNat : Int) = 10))) ((IntKind.i64.wrap (i7 + 1))) (m8z) (m8))
else
(bif (decide ((((s0 : ByteArray)[(i7).toNat]!).toNat : Int) = 10)) then
(bif line6 then
 L13_6 (s0) (true) ((IntKind.i64.wrap (i7 + 1))) (m8z) (m8)
else
 L13_6 (s0) ((decide ((((s0 : ByteArray)[(i7).toNat]!).toNat : Int) = 10))) ((IntKind.i64.wrap (i7 + 1))) (m8z) (m8))
else
(bif (decide ((((s0 : ByteArray)[(i7).toNat]!).toNat : Int) = 35)) then
 L13_12 (s0) (line6) (i7) (m8z) (m8)
else
 L13_15 (s0) (line6) (i7) ((((s0 : ByteArray)[(i7).toNat]!).toNat : Int)) (1) (m8z) (m8)))))
else
(bif (decide (4096 < (m8.length : Int))) then
 some ((.tup [(.t (.list 3 false [])), (.t (.int .i64 0)), (.t (.int .i64 2))]), ⟨[], []⟩)
else
 some ((.tup [(.t (.list 3 m8z m8)), (.t (.int .i64 (s0.size : Int))), (.t (.int .i64 0))]), ⟨[], []⟩))) :=
  (round_eq Try.prog hint (b := (nav (List.reverse [.lp, .blk, .snd, .fst, .snd, .snd, .snd, .snd]) (bodyOf Try.f13))) (fn := Try.f13) (nt := 121) (T := [([.blk, .snd, .fst, .snd, .snd, .snd, .snd], fun e st => atV Try.prog hint 13 0 Try.f13 121 (List.reverse [.blk, .snd, .fst, .snd, .snd, .snd, .snd]) e st), ([.blk, .fst, .yes, .snd, .fst, .snd, .snd, .blk, .snd, .lp, .blk, .snd, .fst, .snd, .snd, .snd, .snd], fun e st => atV Try.prog hint 13 0 Try.f13 121 (List.reverse [.blk, .fst, .yes, .snd, .fst, .snd, .snd, .blk, .snd, .lp, .blk, .snd, .fst, .snd, .snd, .snd, .snd]) e st), ([.blk, .fst, .snd, .snd, .snd, .snd, .blk, .snd, .lp, .blk, .snd, .fst, .snd, .snd, .snd, .snd], fun e st => atV Try.prog hint 13 0 Try.f13 121 (List.reverse [.blk, .fst, .snd, .snd, .snd, .snd, .blk, .snd, .lp, .blk, .snd, .fst, .snd, .snd, .snd, .snd]) e st), ([.snd, .snd, .snd, .snd, .snd, .snd, .snd, .snd, .blk, .snd, .lp, .blk, .snd, .fst, .snd, .snd, .snd, .snd], fun e st => atV Try.prog hint 13 0 Try.f13 121 (List.reverse [.snd, .snd, .snd, .snd, .snd, .snd, .snd, .snd, .blk, .snd, .lp, .blk, .snd, .fst, .snd, .snd, .snd, .snd]) e st)]) [[.blk, .snd, .fst, .snd, .snd, .snd, .snd], [.blk, .fst, .yes, .snd, .fst, .snd, .snd, .blk, .snd, .lp, .blk, .snd, .fst, .snd, .snd, .snd, .snd], [.blk, .fst, .snd, .snd, .snd, .snd, .blk, .snd, .lp, .blk, .snd, .fst, .snd, .snd, .snd, .snd], [.snd, .snd, .snd, .snd, .snd, .snd, .snd, .snd, .blk, .snd, .lp, .blk, .snd, .fst, .snd, .snd, .snd, .snd]] rfl [.blk, .snd, .fst, .snd, .snd, .snd, .snd] [(0, (.t (.str s0))), (5, (.buf 8)), (6, (.t (.bool line6))), (7, (.t (.int .i64 i7)))] ⟨[(8, (.arr true 3 m8z m8))], []⟩ rfl rfl rfl).trans (L13_6g (fun e st => atV Try.prog hint 13 0 Try.f13 121 (List.reverse [.blk, .snd, .fst, .snd, .snd, .snd, .snd]) e st) (fun e st => atV Try.prog hint 13 0 Try.f13 121 (List.reverse [.blk, .fst, .yes, .snd, .fst, .snd, .snd, .blk, .snd, .lp, .blk, .snd, .fst, .snd, .snd, .snd, .snd]) e st) (fun e st => atV Try.prog hint 13 0 Try.f13 121 (List.reverse [.blk, .fst, .snd, .snd, .snd, .snd, .blk, .snd, .lp, .blk, .snd, .fst, .snd, .snd, .snd, .snd]) e st) (fun e st => atV Try.prog hint 13 0 Try.f13 121 (List.reverse [.snd, .snd, .snd, .snd, .snd, .snd, .snd, .snd, .blk, .snd, .lp, .blk, .snd, .fst, .snd, .snd, .snd, .snd]) e st) s0 line6 i7 m8z m8)
theorem L13_12g (KL13_6 KL13_12 KL13_15 KJ13_22 : Env → St → Option Res) (s0 : ByteArray) (line6 : Bool) (i7 : Int) (m8z : Bool) (m8 : List T) : codeT Try.prog hint 13 0 121 [([.blk, .snd, .fst, .snd, .snd, .snd, .snd], KL13_6), ([.blk, .fst, .yes, .snd, .fst, .snd, .snd, .blk, .snd, .lp, .blk, .snd, .fst, .snd, .snd, .snd, .snd], KL13_12), ([.blk, .fst, .snd, .snd, .snd, .snd, .blk, .snd, .lp, .blk, .snd, .fst, .snd, .snd, .snd, .snd], KL13_15), ([.snd, .snd, .snd, .snd, .snd, .snd, .snd, .snd, .blk, .snd, .lp, .blk, .snd, .fst, .snd, .snd, .snd, .snd], KJ13_22)] [.lp, .blk, .fst, .yes, .snd, .fst, .snd, .snd, .blk, .snd, .lp, .blk, .snd, .fst, .snd, .snd, .snd, .snd] (ctxT Try.prog hint 13 0 121 [([.blk, .snd, .fst, .snd, .snd, .snd, .snd], KL13_6), ([.blk, .fst, .yes, .snd, .fst, .snd, .snd, .blk, .snd, .lp, .blk, .snd, .fst, .snd, .snd, .snd, .snd], KL13_12), ([.blk, .fst, .snd, .snd, .snd, .snd, .blk, .snd, .lp, .blk, .snd, .fst, .snd, .snd, .snd, .snd], KL13_15), ([.snd, .snd, .snd, .snd, .snd, .snd, .snd, .snd, .blk, .snd, .lp, .blk, .snd, .fst, .snd, .snd, .snd, .snd], KJ13_22)] [] (List.reverse [.lp, .blk, .fst, .yes, .snd, .fst, .snd, .snd, .blk, .snd, .lp, .blk, .snd, .fst, .snd, .snd, .snd, .snd]) (bodyOf Try.f13) (resKV Try.prog Try.f13 (hint.own 13 0))) [(0, (.t (.str s0))), (5, (.buf 8)), (6, (.t (.bool line6))), (7, (.t (.int .i64 i7)))] ⟨[(8, (.arr true 3 m8z m8))], []⟩ (nav (List.reverse [.lp, .blk, .fst, .yes, .snd, .fst, .snd, .snd, .blk, .snd, .lp, .blk, .snd, .fst, .snd, .snd, .snd, .snd]) (bodyOf Try.f13)) =
(bif (decide (i7 < (s0.size : Int))) then
 needC (decide (0 ≤ i7) && decide (i7 < (s0.size : Int))) fun _ =>
(bif (!decide ((((s0 : ByteArray)[(i7).toNat]!).toNat : Int) = 10)) then
 KL13_12 [(0, (.t (.str s0))), (5, (.buf 8)), (6, (.t (.bool line6))), (7, (.t (.int .i64 (IntKind.i64.wrap (i7 + 1)))))] ⟨[(8, (.arr true 3 m8z m8))], []⟩
else
 KL13_6 [(0, (.t (.str s0))), (5, (.buf 8)), (6, (.t (.bool line6))), (7, (.t (.int .i64 i7)))] ⟨[(8, (.arr true 3 m8z m8))], []⟩)
else
 KL13_6 [(0, (.t (.str s0))), (5, (.buf 8)), (6, (.t (.bool line6))), (7, (.t (.int .i64 i7)))] ⟨[(8, (.arr true 3 m8z m8))], []⟩) := by kernel_rfl
theorem L13_12_eq (s0 : ByteArray) (line6 : Bool) (i7 : Int) (m8z : Bool) (m8 : List T) : L13_12 s0 line6 i7 m8z m8 =
(bif (decide (i7 < (s0.size : Int))) then
 needC (decide (0 ≤ i7) && decide (i7 < (s0.size : Int))) fun _ =>
(bif (!decide ((((s0 : ByteArray)[(i7).toNat]!).toNat : Int) = 10)) then
 L13_12 (s0) (line6) ((IntKind.i64.wrap (i7 + 1))) (m8z) (m8)
else
 L13_6 (s0) (line6) (i7) (m8z) (m8))
else
 L13_6 (s0) (line6) (i7) (m8z) (m8)) :=
  (round_eq Try.prog hint (b := (nav (List.reverse [.lp, .blk, .fst, .yes, .snd, .fst, .snd, .snd, .blk, .snd, .lp, .blk, .snd, .fst, .snd, .snd, .snd, .snd]) (bodyOf Try.f13))) (fn := Try.f13) (nt := 121) (T := [([.blk, .snd, .fst, .snd, .snd, .snd, .snd], fun e st => atV Try.prog hint 13 0 Try.f13 121 (List.reverse [.blk, .snd, .fst, .snd, .snd, .snd, .snd]) e st), ([.blk, .fst, .yes, .snd, .fst, .snd, .snd, .blk, .snd, .lp, .blk, .snd, .fst, .snd, .snd, .snd, .snd], fun e st => atV Try.prog hint 13 0 Try.f13 121 (List.reverse [.blk, .fst, .yes, .snd, .fst, .snd, .snd, .blk, .snd, .lp, .blk, .snd, .fst, .snd, .snd, .snd, .snd]) e st), ([.blk, .fst, .snd, .snd, .snd, .snd, .blk, .snd, .lp, .blk, .snd, .fst, .snd, .snd, .snd, .snd], fun e st => atV Try.prog hint 13 0 Try.f13 121 (List.reverse [.blk, .fst, .snd, .snd, .snd, .snd, .blk, .snd, .lp, .blk, .snd, .fst, .snd, .snd, .snd, .snd]) e st), ([.snd, .snd, .snd, .snd, .snd, .snd, .snd, .snd, .blk, .snd, .lp, .blk, .snd, .fst, .snd, .snd, .snd, .snd], fun e st => atV Try.prog hint 13 0 Try.f13 121 (List.reverse [.snd, .snd, .snd, .snd, .snd, .snd, .snd, .snd, .blk, .snd, .lp, .blk, .snd, .fst, .snd, .snd, .snd, .snd]) e st)]) [[.blk, .snd, .fst, .snd, .snd, .snd, .snd], [.blk, .fst, .yes, .snd, .fst, .snd, .snd, .blk, .snd, .lp, .blk, .snd, .fst, .snd, .snd, .snd, .snd], [.blk, .fst, .snd, .snd, .snd, .snd, .blk, .snd, .lp, .blk, .snd, .fst, .snd, .snd, .snd, .snd], [.snd, .snd, .snd, .snd, .snd, .snd, .snd, .snd, .blk, .snd, .lp, .blk, .snd, .fst, .snd, .snd, .snd, .snd]] rfl [.blk, .fst, .yes, .snd, .fst, .snd, .snd, .blk, .snd, .lp, .blk, .snd, .fst, .snd, .snd, .snd, .snd] [(0, (.t (.str s0))), (5, (.buf 8)), (6, (.t (.bool line6))), (7, (.t (.int .i64 i7)))] ⟨[(8, (.arr true 3 m8z m8))], []⟩ rfl rfl rfl).trans (L13_12g (fun e st => atV Try.prog hint 13 0 Try.f13 121 (List.reverse [.blk, .snd, .fst, .snd, .snd, .snd, .snd]) e st) (fun e st => atV Try.prog hint 13 0 Try.f13 121 (List.reverse [.blk, .fst, .yes, .snd, .fst, .snd, .snd, .blk, .snd, .lp, .blk, .snd, .fst, .snd, .snd, .snd, .snd]) e st) (fun e st => atV Try.prog hint 13 0 Try.f13 121 (List.reverse [.blk, .fst, .snd, .snd, .snd, .snd, .blk, .snd, .lp, .blk, .snd, .fst, .snd, .snd, .snd, .snd]) e st) (fun e st => atV Try.prog hint 13 0 Try.f13 121 (List.reverse [.snd, .snd, .snd, .snd, .snd, .snd, .snd, .snd, .blk, .snd, .lp, .blk, .snd, .fst, .snd, .snd, .snd, .snd]) e st) s0 line6 i7 m8z m8)
theorem L13_15g (KL13_6 KL13_12 KL13_15 KJ13_22 : Env → St → Option Res) (s0 : ByteArray) (line6 : Bool) (i7 : Int) (c8 : Int) (n9 : Int) (m8z : Bool) (m8 : List T) : codeT Try.prog hint 13 0 121 [([.blk, .snd, .fst, .snd, .snd, .snd, .snd], KL13_6), ([.blk, .fst, .yes, .snd, .fst, .snd, .snd, .blk, .snd, .lp, .blk, .snd, .fst, .snd, .snd, .snd, .snd], KL13_12), ([.blk, .fst, .snd, .snd, .snd, .snd, .blk, .snd, .lp, .blk, .snd, .fst, .snd, .snd, .snd, .snd], KL13_15), ([.snd, .snd, .snd, .snd, .snd, .snd, .snd, .snd, .blk, .snd, .lp, .blk, .snd, .fst, .snd, .snd, .snd, .snd], KJ13_22)] [.lp, .blk, .fst, .snd, .snd, .snd, .snd, .blk, .snd, .lp, .blk, .snd, .fst, .snd, .snd, .snd, .snd] (ctxT Try.prog hint 13 0 121 [([.blk, .snd, .fst, .snd, .snd, .snd, .snd], KL13_6), ([.blk, .fst, .yes, .snd, .fst, .snd, .snd, .blk, .snd, .lp, .blk, .snd, .fst, .snd, .snd, .snd, .snd], KL13_12), ([.blk, .fst, .snd, .snd, .snd, .snd, .blk, .snd, .lp, .blk, .snd, .fst, .snd, .snd, .snd, .snd], KL13_15), ([.snd, .snd, .snd, .snd, .snd, .snd, .snd, .snd, .blk, .snd, .lp, .blk, .snd, .fst, .snd, .snd, .snd, .snd], KJ13_22)] [] (List.reverse [.lp, .blk, .fst, .snd, .snd, .snd, .snd, .blk, .snd, .lp, .blk, .snd, .fst, .snd, .snd, .snd, .snd]) (bodyOf Try.f13) (resKV Try.prog Try.f13 (hint.own 13 0))) [(0, (.t (.str s0))), (5, (.buf 8)), (6, (.t (.bool line6))), (7, (.t (.int .i64 i7))), (8, (.t (.int .u8 c8))), (9, (.t (.int .i64 n9)))] ⟨[(8, (.arr true 3 m8z m8))], []⟩ (nav (List.reverse [.lp, .blk, .fst, .snd, .snd, .snd, .snd, .blk, .snd, .lp, .blk, .snd, .fst, .snd, .snd, .snd, .snd]) (bodyOf Try.f13)) =
 callK (vr 32 0 [(.t (.int .u8 c8))] ⟨[], []⟩) fun v_1 b_2 =>
 asT v_1 fun x_3 =>
 asB x_3 fun b_4 =>
 endB b_2 <|
(bif b_4 then
(bif (decide ((IntKind.i64.wrap (i7 + n9)) < (s0.size : Int))) then
 needC (decide (0 ≤ (IntKind.i64.wrap (i7 + n9))) && decide ((IntKind.i64.wrap (i7 + n9)) < (s0.size : Int))) fun _ =>
 callK (vr 32 0 [(.t (.int .u8 (((s0 : ByteArray)[((IntKind.i64.wrap (i7 + n9))).toNat]!).toNat : Int)))] ⟨[], []⟩) fun v_5 b_6 =>
 asT v_5 fun x_7 =>
 asB x_7 fun b_8 =>
 endB b_6 <|
(bif b_8 then
 KL13_15 [(0, (.t (.str s0))), (5, (.buf 8)), (6, (.t (.bool line6))), (7, (.t (.int .i64 i7))), (8, (.t (.int .u8 c8))), (9, (.t (.int .i64 (IntKind.i64.wrap (n9 + 1)))))] ⟨[(8, (.arr true 3 m8z m8))], []⟩
else
 needC (decide (0 ≤ (IntKind.i64.wrap (i7 + n9))) && decide ((IntKind.i64.wrap (i7 + n9)) < (s0.size : Int))) fun _ =>
 callK (vr 33 0 [(.t (.int .u8 (((s0 : ByteArray)[((IntKind.i64.wrap (i7 + n9))).toNat]!).toNat : Int)))] ⟨[], []⟩) fun v_9 b_10 =>
 asT v_9 fun x_11 =>
 asB x_11 fun b_12 =>
 endB b_10 <|
(bif b_12 then
 KL13_15 [(0, (.t (.str s0))), (5, (.buf 8)), (6, (.t (.bool line6))), (7, (.t (.int .i64 i7))), (8, (.t (.int .u8 c8))), (9, (.t (.int .i64 (IntKind.i64.wrap (n9 + 1)))))] ⟨[(8, (.arr true 3 m8z m8))], []⟩
else
 subS s0 (some i7) (some (IntKind.i64.wrap (i7 + n9))) fun s_13 =>
 callK (vr 34 0 [(.t (.str s_13))] ⟨[], []⟩) fun v_14 b_15 =>
 asTup v_14 fun l_16 =>
 consV l_16 fun v_17 l_18 =>
 asT v_17 fun x_19 =>
 asA x_19 fun l_20 =>
 consT l_20 fun v_21 l_22 =>
 asI .i64 v_21 fun x_23 =>
 consT l_22 fun v_24 l_25 =>
 asS v_24 fun s_26 =>
 consT l_25 fun v_27 l_28 =>
 asI .i64 v_27 fun x_29 =>
 endT l_28 <|
 consV l_18 fun v_30 l_31 =>
 asT v_30 fun x_32 =>
 asB x_32 fun b_33 =>
 endV l_31 <|
 endB b_15 <|
(bif (!b_33) then
 some ((.tup [(.t (.list 3 false [])), (.t (.int .i64 i7)), (.t (.int .i64 6))]), ⟨[], []⟩)
else
(bif line6 then
(bif (decide (0 < (m8.length : Int))) then
 needC (decide ((m8.length + 1) * (32 + 1) ≤ 70368744177664) && decide (32 ≤ 1048576)) fun _ =>
 KJ13_22 [(0, (.t (.str s0))), (5, (.buf 8)), (7, (.t (.int .i64 i7))), (9, (.t (.int .i64 n9))), (10, (.ptr 9 0 0))] ⟨[(8, (.arr true 3 (m8z || true) (m8 ++ ([(.agg [(.int .i64 4), (.str ByteArray.empty), (.int .i64 0)])] : List T)))), (9, (.var [(.t (.int .i64 x_23)), (.t (.str s_26)), (.t (.int .i64 x_29))]))], []⟩
else
 KJ13_22 [(0, (.t (.str s0))), (5, (.buf 8)), (7, (.t (.int .i64 i7))), (9, (.t (.int .i64 n9))), (10, (.ptr 9 0 0))] ⟨[(8, (.arr true 3 m8z m8)), (9, (.var [(.t (.int .i64 x_23)), (.t (.str s_26)), (.t (.int .i64 x_29))]))], []⟩)
else
 KJ13_22 [(0, (.t (.str s0))), (5, (.buf 8)), (7, (.t (.int .i64 i7))), (9, (.t (.int .i64 n9))), (10, (.ptr 9 0 0))] ⟨[(8, (.arr true 3 m8z m8)), (9, (.var [(.t (.int .i64 x_23)), (.t (.str s_26)), (.t (.int .i64 x_29))]))], []⟩))))
else
 subS s0 (some i7) (some (IntKind.i64.wrap (i7 + n9))) fun s_34 =>
 callK (vr 34 0 [(.t (.str s_34))] ⟨[], []⟩) fun v_35 b_36 =>
 asTup v_35 fun l_37 =>
 consV l_37 fun v_38 l_39 =>
 asT v_38 fun x_40 =>
 asA x_40 fun l_41 =>
 consT l_41 fun v_42 l_43 =>
 asI .i64 v_42 fun x_44 =>
 consT l_43 fun v_45 l_46 =>
 asS v_45 fun s_47 =>
 consT l_46 fun v_48 l_49 =>
 asI .i64 v_48 fun x_50 =>
 endT l_49 <|
 consV l_39 fun v_51 l_52 =>
 asT v_51 fun x_53 =>
 asB x_53 fun b_54 =>
 endV l_52 <|
 endB b_36 <|
(bif (!b_54) then
 some ((.tup [(.t (.list 3 false [])), (.t (.int .i64 i7)), (.t (.int .i64 6))]), ⟨[], []⟩)
else
(bif line6 then
(bif (decide (0 < (m8.length : Int))) then
 needC (decide ((m8.length + 1) * (32 + 1) ≤ 70368744177664) && decide (32 ≤ 1048576)) fun _ =>
 KJ13_22 [(0, (.t (.str s0))), (5, (.buf 8)), (7, (.t (.int .i64 i7))), (9, (.t (.int .i64 n9))), (10, (.ptr 9 0 0))] ⟨[(8, (.arr true 3 (m8z || true) (m8 ++ ([(.agg [(.int .i64 4), (.str ByteArray.empty), (.int .i64 0)])] : List T)))), (9, (.var [(.t (.int .i64 x_44)), (.t (.str s_47)), (.t (.int .i64 x_50))]))], []⟩
else
 KJ13_22 [(0, (.t (.str s0))), (5, (.buf 8)), (7, (.t (.int .i64 i7))), (9, (.t (.int .i64 n9))), (10, (.ptr 9 0 0))] ⟨[(8, (.arr true 3 m8z m8)), (9, (.var [(.t (.int .i64 x_44)), (.t (.str s_47)), (.t (.int .i64 x_50))]))], []⟩)
else
 KJ13_22 [(0, (.t (.str s0))), (5, (.buf 8)), (7, (.t (.int .i64 i7))), (9, (.t (.int .i64 n9))), (10, (.ptr 9 0 0))] ⟨[(8, (.arr true 3 m8z m8)), (9, (.var [(.t (.int .i64 x_44)), (.t (.str s_47)), (.t (.int .i64 x_50))]))], []⟩)))
else
 callK (vr 33 0 [(.t (.int .u8 c8))] ⟨[], []⟩) fun v_55 b_56 =>
 asT v_55 fun x_57 =>
 asB x_57 fun b_58 =>
 endB b_56 <|
(bif b_58 then
(bif (decide ((IntKind.i64.wrap (i7 + n9)) < (s0.size : Int))) then
 needC (decide (0 ≤ (IntKind.i64.wrap (i7 + n9))) && decide ((IntKind.i64.wrap (i7 + n9)) < (s0.size : Int))) fun _ =>
 callK (vr 32 0 [(.t (.int .u8 (((s0 : ByteArray)[((IntKind.i64.wrap (i7 + n9))).toNat]!).toNat : Int)))] ⟨[], []⟩) fun v_59 b_60 =>
 asT v_59 fun x_61 =>
 asB x_61 fun b_62 =>
 endB b_60 <|
(bif b_62 then
 KL13_15 [(0, (.t (.str s0))), (5, (.buf 8)), (6, (.t (.bool line6))), (7, (.t (.int .i64 i7))), (8, (.t (.int .u8 c8))), (9, (.t (.int .i64 (IntKind.i64.wrap (n9 + 1)))))] ⟨[(8, (.arr true 3 m8z m8))], []⟩
else
 needC (decide (0 ≤ (IntKind.i64.wrap (i7 + n9))) && decide ((IntKind.i64.wrap (i7 + n9)) < (s0.size : Int))) fun _ =>
 callK (vr 33 0 [(.t (.int .u8 (((s0 : ByteArray)[((IntKind.i64.wrap (i7 + n9))).toNat]!).toNat : Int)))] ⟨[], []⟩) fun v_63 b_64 =>
 asT v_63 fun x_65 =>
 asB x_65 fun b_66 =>
 endB b_64 <|
(bif b_66 then
 KL13_15 [(0, (.t (.str s0))), (5, (.buf 8)), (6, (.t (.bool line6))), (7, (.t (.int .i64 i7))), (8, (.t (.int .u8 c8))), (9, (.t (.int .i64 (IntKind.i64.wrap (n9 + 1)))))] ⟨[(8, (.arr true 3 m8z m8))], []⟩
else
 subS s0 (some i7) (some (IntKind.i64.wrap (i7 + n9))) fun s_67 =>
 callK (vr 34 0 [(.t (.str s_67))] ⟨[], []⟩) fun v_68 b_69 =>
 asTup v_68 fun l_70 =>
 consV l_70 fun v_71 l_72 =>
 asT v_71 fun x_73 =>
 asA x_73 fun l_74 =>
 consT l_74 fun v_75 l_76 =>
 asI .i64 v_75 fun x_77 =>
 consT l_76 fun v_78 l_79 =>
 asS v_78 fun s_80 =>
 consT l_79 fun v_81 l_82 =>
 asI .i64 v_81 fun x_83 =>
 endT l_82 <|
 consV l_72 fun v_84 l_85 =>
 asT v_84 fun x_86 =>
 asB x_86 fun b_87 =>
 endV l_85 <|
 endB b_69 <|
(bif (!b_87) then
 some ((.tup [(.t (.list 3 false [])), (.t (.int .i64 i7)), (.t (.int .i64 6))]), ⟨[], []⟩)
else
(bif line6 then
(bif (decide (0 < (m8.length : Int))) then
 needC (decide ((m8.length + 1) * (32 + 1) ≤ 70368744177664) && decide (32 ≤ 1048576)) fun _ =>
 KJ13_22 [(0, (.t (.str s0))), (5, (.buf 8)), (7, (.t (.int .i64 i7))), (9, (.t (.int .i64 n9))), (10, (.ptr 9 0 0))] ⟨[(8, (.arr true 3 (m8z || true) (m8 ++ ([(.agg [(.int .i64 4), (.str ByteArray.empty), (.int .i64 0)])] : List T)))), (9, (.var [(.t (.int .i64 x_77)), (.t (.str s_80)), (.t (.int .i64 x_83))]))], []⟩
else
 KJ13_22 [(0, (.t (.str s0))), (5, (.buf 8)), (7, (.t (.int .i64 i7))), (9, (.t (.int .i64 n9))), (10, (.ptr 9 0 0))] ⟨[(8, (.arr true 3 m8z m8)), (9, (.var [(.t (.int .i64 x_77)), (.t (.str s_80)), (.t (.int .i64 x_83))]))], []⟩)
else
 KJ13_22 [(0, (.t (.str s0))), (5, (.buf 8)), (7, (.t (.int .i64 i7))), (9, (.t (.int .i64 n9))), (10, (.ptr 9 0 0))] ⟨[(8, (.arr true 3 m8z m8)), (9, (.var [(.t (.int .i64 x_77)), (.t (.str s_80)), (.t (.int .i64 x_83))]))], []⟩))))
else
 subS s0 (some i7) (some (IntKind.i64.wrap (i7 + n9))) fun s_88 =>
 callK (vr 34 0 [(.t (.str s_88))] ⟨[], []⟩) fun v_89 b_90 =>
 asTup v_89 fun l_91 =>
 consV l_91 fun v_92 l_93 =>
 asT v_92 fun x_94 =>
 asA x_94 fun l_95 =>
 consT l_95 fun v_96 l_97 =>
 asI .i64 v_96 fun x_98 =>
 consT l_97 fun v_99 l_100 =>
 asS v_99 fun s_101 =>
 consT l_100 fun v_102 l_103 =>
 asI .i64 v_102 fun x_104 =>
 endT l_103 <|
 consV l_93 fun v_105 l_106 =>
 asT v_105 fun x_107 =>
 asB x_107 fun b_108 =>
 endV l_106 <|
 endB b_90 <|
(bif (!b_108) then
 some ((.tup [(.t (.list 3 false [])), (.t (.int .i64 i7)), (.t (.int .i64 6))]), ⟨[], []⟩)
else
(bif line6 then
(bif (decide (0 < (m8.length : Int))) then
 needC (decide ((m8.length + 1) * (32 + 1) ≤ 70368744177664) && decide (32 ≤ 1048576)) fun _ =>
 KJ13_22 [(0, (.t (.str s0))), (5, (.buf 8)), (7, (.t (.int .i64 i7))), (9, (.t (.int .i64 n9))), (10, (.ptr 9 0 0))] ⟨[(8, (.arr true 3 (m8z || true) (m8 ++ ([(.agg [(.int .i64 4), (.str ByteArray.empty), (.int .i64 0)])] : List T)))), (9, (.var [(.t (.int .i64 x_98)), (.t (.str s_101)), (.t (.int .i64 x_104))]))], []⟩
else
 KJ13_22 [(0, (.t (.str s0))), (5, (.buf 8)), (7, (.t (.int .i64 i7))), (9, (.t (.int .i64 n9))), (10, (.ptr 9 0 0))] ⟨[(8, (.arr true 3 m8z m8)), (9, (.var [(.t (.int .i64 x_98)), (.t (.str s_101)), (.t (.int .i64 x_104))]))], []⟩)
else
 KJ13_22 [(0, (.t (.str s0))), (5, (.buf 8)), (7, (.t (.int .i64 i7))), (9, (.t (.int .i64 n9))), (10, (.ptr 9 0 0))] ⟨[(8, (.arr true 3 m8z m8)), (9, (.var [(.t (.int .i64 x_98)), (.t (.str s_101)), (.t (.int .i64 x_104))]))], []⟩)))
else
 subS s0 (some i7) (some (IntKind.i64.wrap (i7 + n9))) fun s_109 =>
 callK (vr 34 0 [(.t (.str s_109))] ⟨[], []⟩) fun v_110 b_111 =>
 asTup v_110 fun l_112 =>
 consV l_112 fun v_113 l_114 =>
 asT v_113 fun x_115 =>
 asA x_115 fun l_116 =>
 consT l_116 fun v_117 l_118 =>
 asI .i64 v_117 fun x_119 =>
 consT l_118 fun v_120 l_121 =>
 asS v_120 fun s_122 =>
 consT l_121 fun v_123 l_124 =>
 asI .i64 v_123 fun x_125 =>
 endT l_124 <|
 consV l_114 fun v_126 l_127 =>
 asT v_126 fun x_128 =>
 asB x_128 fun b_129 =>
 endV l_127 <|
 endB b_111 <|
(bif (!b_129) then
 some ((.tup [(.t (.list 3 false [])), (.t (.int .i64 i7)), (.t (.int .i64 6))]), ⟨[], []⟩)
else
(bif line6 then
(bif (decide (0 < (m8.length : Int))) then
 needC (decide ((m8.length + 1) * (32 + 1) ≤ 70368744177664) && decide (32 ≤ 1048576)) fun _ =>
 KJ13_22 [(0, (.t (.str s0))), (5, (.buf 8)), (7, (.t (.int .i64 i7))), (9, (.t (.int .i64 n9))), (10, (.ptr 9 0 0))] ⟨[(8, (.arr true 3 (m8z || true) (m8 ++ ([(.agg [(.int .i64 4), (.str ByteArray.empty), (.int .i64 0)])] : List T)))), (9, (.var [(.t (.int .i64 x_119)), (.t (.str s_122)), (.t (.int .i64 x_125))]))], []⟩
else
 KJ13_22 [(0, (.t (.str s0))), (5, (.buf 8)), (7, (.t (.int .i64 i7))), (9, (.t (.int .i64 n9))), (10, (.ptr 9 0 0))] ⟨[(8, (.arr true 3 m8z m8)), (9, (.var [(.t (.int .i64 x_119)), (.t (.str s_122)), (.t (.int .i64 x_125))]))], []⟩)
else
 KJ13_22 [(0, (.t (.str s0))), (5, (.buf 8)), (7, (.t (.int .i64 i7))), (9, (.t (.int .i64 n9))), (10, (.ptr 9 0 0))] ⟨[(8, (.arr true 3 m8z m8)), (9, (.var [(.t (.int .i64 x_119)), (.t (.str s_122)), (.t (.int .i64 x_125))]))], []⟩)))) := by kernel_rfl
theorem L13_15_eq (s0 : ByteArray) (line6 : Bool) (i7 : Int) (c8 : Int) (n9 : Int) (m8z : Bool) (m8 : List T) : L13_15 s0 line6 i7 c8 n9 m8z m8 =
 callK (vr 32 0 [(.t (.int .u8 c8))] ⟨[], []⟩) fun v_1 b_2 =>
 asT v_1 fun x_3 =>
 asB x_3 fun b_4 =>
 endB b_2 <|
(bif b_4 then
(bif (decide ((IntKind.i64.wrap (i7 + n9)) < (s0.size : Int))) then
 needC (decide (0 ≤ (IntKind.i64.wrap (i7 + n9))) && decide ((IntKind.i64.wrap (i7 + n9)) < (s0.size : Int))) fun _ =>
 callK (vr 32 0 [(.t (.int .u8 (((s0 : ByteArray)[((IntKind.i64.wrap (i7 + n9))).toNat]!).toNat : Int)))] ⟨[], []⟩) fun v_5 b_6 =>
 asT v_5 fun x_7 =>
 asB x_7 fun b_8 =>
 endB b_6 <|
(bif b_8 then
 L13_15 (s0) (line6) (i7) (c8) ((IntKind.i64.wrap (n9 + 1))) (m8z) (m8)
else
 needC (decide (0 ≤ (IntKind.i64.wrap (i7 + n9))) && decide ((IntKind.i64.wrap (i7 + n9)) < (s0.size : Int))) fun _ =>
 callK (vr 33 0 [(.t (.int .u8 (((s0 : ByteArray)[((IntKind.i64.wrap (i7 + n9))).toNat]!).toNat : Int)))] ⟨[], []⟩) fun v_9 b_10 =>
 asT v_9 fun x_11 =>
 asB x_11 fun b_12 =>
 endB b_10 <|
(bif b_12 then
 L13_15 (s0) (line6) (i7) (c8) ((IntKind.i64.wrap (n9 + 1))) (m8z) (m8)
else
 subS s0 (some i7) (some (IntKind.i64.wrap (i7 + n9))) fun s_13 =>
 callK (vr 34 0 [(.t (.str s_13))] ⟨[], []⟩) fun v_14 b_15 =>
 asTup v_14 fun l_16 =>
 consV l_16 fun v_17 l_18 =>
 asT v_17 fun x_19 =>
 asA x_19 fun l_20 =>
 consT l_20 fun v_21 l_22 =>
 asI .i64 v_21 fun x_23 =>
 consT l_22 fun v_24 l_25 =>
 asS v_24 fun s_26 =>
 consT l_25 fun v_27 l_28 =>
 asI .i64 v_27 fun x_29 =>
 endT l_28 <|
 consV l_18 fun v_30 l_31 =>
 asT v_30 fun x_32 =>
 asB x_32 fun b_33 =>
 endV l_31 <|
 endB b_15 <|
(bif (!b_33) then
 some ((.tup [(.t (.list 3 false [])), (.t (.int .i64 i7)), (.t (.int .i64 6))]), ⟨[], []⟩)
else
(bif line6 then
(bif (decide (0 < (m8.length : Int))) then
 needC (decide ((m8.length + 1) * (32 + 1) ≤ 70368744177664) && decide (32 ≤ 1048576)) fun _ =>
 J13_22 (s0) (i7) (n9) ((m8z || true)) ((m8 ++ ([(.agg [(.int .i64 4), (.str ByteArray.empty), (.int .i64 0)])] : List T))) (x_23) (s_26) (x_29)
else
 J13_22 (s0) (i7) (n9) (m8z) (m8) (x_23) (s_26) (x_29))
else
 J13_22 (s0) (i7) (n9) (m8z) (m8) (x_23) (s_26) (x_29)))))
else
 subS s0 (some i7) (some (IntKind.i64.wrap (i7 + n9))) fun s_34 =>
 callK (vr 34 0 [(.t (.str s_34))] ⟨[], []⟩) fun v_35 b_36 =>
 asTup v_35 fun l_37 =>
 consV l_37 fun v_38 l_39 =>
 asT v_38 fun x_40 =>
 asA x_40 fun l_41 =>
 consT l_41 fun v_42 l_43 =>
 asI .i64 v_42 fun x_44 =>
 consT l_43 fun v_45 l_46 =>
 asS v_45 fun s_47 =>
 consT l_46 fun v_48 l_49 =>
 asI .i64 v_48 fun x_50 =>
 endT l_49 <|
 consV l_39 fun v_51 l_52 =>
 asT v_51 fun x_53 =>
 asB x_53 fun b_54 =>
 endV l_52 <|
 endB b_36 <|
(bif (!b_54) then
 some ((.tup [(.t (.list 3 false [])), (.t (.int .i64 i7)), (.t (.int .i64 6))]), ⟨[], []⟩)
else
(bif line6 then
(bif (decide (0 < (m8.length : Int))) then
 needC (decide ((m8.length + 1) * (32 + 1) ≤ 70368744177664) && decide (32 ≤ 1048576)) fun _ =>
 J13_22 (s0) (i7) (n9) ((m8z || true)) ((m8 ++ ([(.agg [(.int .i64 4), (.str ByteArray.empty), (.int .i64 0)])] : List T))) (x_44) (s_47) (x_50)
else
 J13_22 (s0) (i7) (n9) (m8z) (m8) (x_44) (s_47) (x_50))
else
 J13_22 (s0) (i7) (n9) (m8z) (m8) (x_44) (s_47) (x_50))))
else
 callK (vr 33 0 [(.t (.int .u8 c8))] ⟨[], []⟩) fun v_55 b_56 =>
 asT v_55 fun x_57 =>
 asB x_57 fun b_58 =>
 endB b_56 <|
(bif b_58 then
(bif (decide ((IntKind.i64.wrap (i7 + n9)) < (s0.size : Int))) then
 needC (decide (0 ≤ (IntKind.i64.wrap (i7 + n9))) && decide ((IntKind.i64.wrap (i7 + n9)) < (s0.size : Int))) fun _ =>
 callK (vr 32 0 [(.t (.int .u8 (((s0 : ByteArray)[((IntKind.i64.wrap (i7 + n9))).toNat]!).toNat : Int)))] ⟨[], []⟩) fun v_59 b_60 =>
 asT v_59 fun x_61 =>
 asB x_61 fun b_62 =>
 endB b_60 <|
(bif b_62 then
 L13_15 (s0) (line6) (i7) (c8) ((IntKind.i64.wrap (n9 + 1))) (m8z) (m8)
else
 needC (decide (0 ≤ (IntKind.i64.wrap (i7 + n9))) && decide ((IntKind.i64.wrap (i7 + n9)) < (s0.size : Int))) fun _ =>
 callK (vr 33 0 [(.t (.int .u8 (((s0 : ByteArray)[((IntKind.i64.wrap (i7 + n9))).toNat]!).toNat : Int)))] ⟨[], []⟩) fun v_63 b_64 =>
 asT v_63 fun x_65 =>
 asB x_65 fun b_66 =>
 endB b_64 <|
(bif b_66 then
 L13_15 (s0) (line6) (i7) (c8) ((IntKind.i64.wrap (n9 + 1))) (m8z) (m8)
else
 subS s0 (some i7) (some (IntKind.i64.wrap (i7 + n9))) fun s_67 =>
 callK (vr 34 0 [(.t (.str s_67))] ⟨[], []⟩) fun v_68 b_69 =>
 asTup v_68 fun l_70 =>
 consV l_70 fun v_71 l_72 =>
 asT v_71 fun x_73 =>
 asA x_73 fun l_74 =>
 consT l_74 fun v_75 l_76 =>
 asI .i64 v_75 fun x_77 =>
 consT l_76 fun v_78 l_79 =>
 asS v_78 fun s_80 =>
 consT l_79 fun v_81 l_82 =>
 asI .i64 v_81 fun x_83 =>
 endT l_82 <|
 consV l_72 fun v_84 l_85 =>
 asT v_84 fun x_86 =>
 asB x_86 fun b_87 =>
 endV l_85 <|
 endB b_69 <|
(bif (!b_87) then
 some ((.tup [(.t (.list 3 false [])), (.t (.int .i64 i7)), (.t (.int .i64 6))]), ⟨[], []⟩)
else
(bif line6 then
(bif (decide (0 < (m8.length : Int))) then
 needC (decide ((m8.length + 1) * (32 + 1) ≤ 70368744177664) && decide (32 ≤ 1048576)) fun _ =>
 J13_22 (s0) (i7) (n9) ((m8z || true)) ((m8 ++ ([(.agg [(.int .i64 4), (.str ByteArray.empty), (.int .i64 0)])] : List T))) (x_77) (s_80) (x_83)
else
 J13_22 (s0) (i7) (n9) (m8z) (m8) (x_77) (s_80) (x_83))
else
 J13_22 (s0) (i7) (n9) (m8z) (m8) (x_77) (s_80) (x_83)))))
else
 subS s0 (some i7) (some (IntKind.i64.wrap (i7 + n9))) fun s_88 =>
 callK (vr 34 0 [(.t (.str s_88))] ⟨[], []⟩) fun v_89 b_90 =>
 asTup v_89 fun l_91 =>
 consV l_91 fun v_92 l_93 =>
 asT v_92 fun x_94 =>
 asA x_94 fun l_95 =>
 consT l_95 fun v_96 l_97 =>
 asI .i64 v_96 fun x_98 =>
 consT l_97 fun v_99 l_100 =>
 asS v_99 fun s_101 =>
 consT l_100 fun v_102 l_103 =>
 asI .i64 v_102 fun x_104 =>
 endT l_103 <|
 consV l_93 fun v_105 l_106 =>
 asT v_105 fun x_107 =>
 asB x_107 fun b_108 =>
 endV l_106 <|
 endB b_90 <|
(bif (!b_108) then
 some ((.tup [(.t (.list 3 false [])), (.t (.int .i64 i7)), (.t (.int .i64 6))]), ⟨[], []⟩)
else
(bif line6 then
(bif (decide (0 < (m8.length : Int))) then
 needC (decide ((m8.length + 1) * (32 + 1) ≤ 70368744177664) && decide (32 ≤ 1048576)) fun _ =>
 J13_22 (s0) (i7) (n9) ((m8z || true)) ((m8 ++ ([(.agg [(.int .i64 4), (.str ByteArray.empty), (.int .i64 0)])] : List T))) (x_98) (s_101) (x_104)
else
 J13_22 (s0) (i7) (n9) (m8z) (m8) (x_98) (s_101) (x_104))
else
 J13_22 (s0) (i7) (n9) (m8z) (m8) (x_98) (s_101) (x_104))))
else
 subS s0 (some i7) (some (IntKind.i64.wrap (i7 + n9))) fun s_109 =>
 callK (vr 34 0 [(.t (.str s_109))] ⟨[], []⟩) fun v_110 b_111 =>
 asTup v_110 fun l_112 =>
 consV l_112 fun v_113 l_114 =>
 asT v_113 fun x_115 =>
 asA x_115 fun l_116 =>
 consT l_116 fun v_117 l_118 =>
 asI .i64 v_117 fun x_119 =>
 consT l_118 fun v_120 l_121 =>
 asS v_120 fun s_122 =>
 consT l_121 fun v_123 l_124 =>
 asI .i64 v_123 fun x_125 =>
 endT l_124 <|
 consV l_114 fun v_126 l_127 =>
 asT v_126 fun x_128 =>
 asB x_128 fun b_129 =>
 endV l_127 <|
 endB b_111 <|
(bif (!b_129) then
 some ((.tup [(.t (.list 3 false [])), (.t (.int .i64 i7)), (.t (.int .i64 6))]), ⟨[], []⟩)
else
(bif line6 then
(bif (decide (0 < (m8.length : Int))) then
 needC (decide ((m8.length + 1) * (32 + 1) ≤ 70368744177664) && decide (32 ≤ 1048576)) fun _ =>
 J13_22 (s0) (i7) (n9) ((m8z || true)) ((m8 ++ ([(.agg [(.int .i64 4), (.str ByteArray.empty), (.int .i64 0)])] : List T))) (x_119) (s_122) (x_125)
else
 J13_22 (s0) (i7) (n9) (m8z) (m8) (x_119) (s_122) (x_125))
else
 J13_22 (s0) (i7) (n9) (m8z) (m8) (x_119) (s_122) (x_125))))) :=
  (round_eq Try.prog hint (b := (nav (List.reverse [.lp, .blk, .fst, .snd, .snd, .snd, .snd, .blk, .snd, .lp, .blk, .snd, .fst, .snd, .snd, .snd, .snd]) (bodyOf Try.f13))) (fn := Try.f13) (nt := 121) (T := [([.blk, .snd, .fst, .snd, .snd, .snd, .snd], fun e st => atV Try.prog hint 13 0 Try.f13 121 (List.reverse [.blk, .snd, .fst, .snd, .snd, .snd, .snd]) e st), ([.blk, .fst, .yes, .snd, .fst, .snd, .snd, .blk, .snd, .lp, .blk, .snd, .fst, .snd, .snd, .snd, .snd], fun e st => atV Try.prog hint 13 0 Try.f13 121 (List.reverse [.blk, .fst, .yes, .snd, .fst, .snd, .snd, .blk, .snd, .lp, .blk, .snd, .fst, .snd, .snd, .snd, .snd]) e st), ([.blk, .fst, .snd, .snd, .snd, .snd, .blk, .snd, .lp, .blk, .snd, .fst, .snd, .snd, .snd, .snd], fun e st => atV Try.prog hint 13 0 Try.f13 121 (List.reverse [.blk, .fst, .snd, .snd, .snd, .snd, .blk, .snd, .lp, .blk, .snd, .fst, .snd, .snd, .snd, .snd]) e st), ([.snd, .snd, .snd, .snd, .snd, .snd, .snd, .snd, .blk, .snd, .lp, .blk, .snd, .fst, .snd, .snd, .snd, .snd], fun e st => atV Try.prog hint 13 0 Try.f13 121 (List.reverse [.snd, .snd, .snd, .snd, .snd, .snd, .snd, .snd, .blk, .snd, .lp, .blk, .snd, .fst, .snd, .snd, .snd, .snd]) e st)]) [[.blk, .snd, .fst, .snd, .snd, .snd, .snd], [.blk, .fst, .yes, .snd, .fst, .snd, .snd, .blk, .snd, .lp, .blk, .snd, .fst, .snd, .snd, .snd, .snd], [.blk, .fst, .snd, .snd, .snd, .snd, .blk, .snd, .lp, .blk, .snd, .fst, .snd, .snd, .snd, .snd], [.snd, .snd, .snd, .snd, .snd, .snd, .snd, .snd, .blk, .snd, .lp, .blk, .snd, .fst, .snd, .snd, .snd, .snd]] rfl [.blk, .fst, .snd, .snd, .snd, .snd, .blk, .snd, .lp, .blk, .snd, .fst, .snd, .snd, .snd, .snd] [(0, (.t (.str s0))), (5, (.buf 8)), (6, (.t (.bool line6))), (7, (.t (.int .i64 i7))), (8, (.t (.int .u8 c8))), (9, (.t (.int .i64 n9)))] ⟨[(8, (.arr true 3 m8z m8))], []⟩ rfl rfl rfl).trans (L13_15g (fun e st => atV Try.prog hint 13 0 Try.f13 121 (List.reverse [.blk, .snd, .fst, .snd, .snd, .snd, .snd]) e st) (fun e st => atV Try.prog hint 13 0 Try.f13 121 (List.reverse [.blk, .fst, .yes, .snd, .fst, .snd, .snd, .blk, .snd, .lp, .blk, .snd, .fst, .snd, .snd, .snd, .snd]) e st) (fun e st => atV Try.prog hint 13 0 Try.f13 121 (List.reverse [.blk, .fst, .snd, .snd, .snd, .snd, .blk, .snd, .lp, .blk, .snd, .fst, .snd, .snd, .snd, .snd]) e st) (fun e st => atV Try.prog hint 13 0 Try.f13 121 (List.reverse [.snd, .snd, .snd, .snd, .snd, .snd, .snd, .snd, .blk, .snd, .lp, .blk, .snd, .fst, .snd, .snd, .snd, .snd]) e st) s0 line6 i7 c8 n9 m8z m8)
theorem J13_22g (KL13_6 KL13_12 KL13_15 KJ13_22 : Env → St → Option Res) (s0 : ByteArray) (i7 : Int) (n9 : Int) (m8z : Bool) (m8 : List T) (m9_0 : Int) (m9_1 : ByteArray) (m9_2 : Int) : codeT Try.prog hint 13 0 121 [([.blk, .snd, .fst, .snd, .snd, .snd, .snd], KL13_6), ([.blk, .fst, .yes, .snd, .fst, .snd, .snd, .blk, .snd, .lp, .blk, .snd, .fst, .snd, .snd, .snd, .snd], KL13_12), ([.blk, .fst, .snd, .snd, .snd, .snd, .blk, .snd, .lp, .blk, .snd, .fst, .snd, .snd, .snd, .snd], KL13_15), ([.snd, .snd, .snd, .snd, .snd, .snd, .snd, .snd, .blk, .snd, .lp, .blk, .snd, .fst, .snd, .snd, .snd, .snd], KJ13_22)] [.snd, .snd, .snd, .snd, .snd, .snd, .snd, .snd, .blk, .snd, .lp, .blk, .snd, .fst, .snd, .snd, .snd, .snd] (ctxT Try.prog hint 13 0 121 [([.blk, .snd, .fst, .snd, .snd, .snd, .snd], KL13_6), ([.blk, .fst, .yes, .snd, .fst, .snd, .snd, .blk, .snd, .lp, .blk, .snd, .fst, .snd, .snd, .snd, .snd], KL13_12), ([.blk, .fst, .snd, .snd, .snd, .snd, .blk, .snd, .lp, .blk, .snd, .fst, .snd, .snd, .snd, .snd], KL13_15), ([.snd, .snd, .snd, .snd, .snd, .snd, .snd, .snd, .blk, .snd, .lp, .blk, .snd, .fst, .snd, .snd, .snd, .snd], KJ13_22)] [] (List.reverse [.snd, .snd, .snd, .snd, .snd, .snd, .snd, .snd, .blk, .snd, .lp, .blk, .snd, .fst, .snd, .snd, .snd, .snd]) (bodyOf Try.f13) (resKV Try.prog Try.f13 (hint.own 13 0))) [(0, (.t (.str s0))), (5, (.buf 8)), (7, (.t (.int .i64 i7))), (9, (.t (.int .i64 n9))), (10, (.ptr 9 0 0))] ⟨[(8, (.arr true 3 m8z m8)), (9, (.var [(.t (.int .i64 m9_0)), (.t (.str m9_1)), (.t (.int .i64 m9_2))]))], []⟩ (nav (List.reverse [.snd, .snd, .snd, .snd, .snd, .snd, .snd, .snd, .blk, .snd, .lp, .blk, .snd, .fst, .snd, .snd, .snd, .snd]) (bodyOf Try.f13)) =
 needC (decide ((m8.length + 1) * (32 + 1) ≤ 70368744177664) && decide (32 ≤ 1048576)) fun _ =>
 KL13_6 [(0, (.t (.str s0))), (5, (.buf 8)), (6, (.t (.bool false))), (7, (.t (.int .i64 (IntKind.i64.wrap (i7 + n9)))))] ⟨[(8, (.arr true 3 (m8z || true) (m8 ++ ([(.agg [(.int .i64 m9_0), (.str m9_1), (.int .i64 m9_2)])] : List T))))], []⟩ := by kernel_rfl
theorem J13_22_eq (s0 : ByteArray) (i7 : Int) (n9 : Int) (m8z : Bool) (m8 : List T) (m9_0 : Int) (m9_1 : ByteArray) (m9_2 : Int) : J13_22 s0 i7 n9 m8z m8 m9_0 m9_1 m9_2 =
 needC (decide ((m8.length + 1) * (32 + 1) ≤ 70368744177664) && decide (32 ≤ 1048576)) fun _ =>
 L13_6 (s0) (false) ((IntKind.i64.wrap (i7 + n9))) ((m8z || true)) ((m8 ++ ([(.agg [(.int .i64 m9_0), (.str m9_1), (.int .i64 m9_2)])] : List T))) :=
  (join_eq Try.prog hint (fn := Try.f13) (nt := 121) (T := [([.blk, .snd, .fst, .snd, .snd, .snd, .snd], fun e st => atV Try.prog hint 13 0 Try.f13 121 (List.reverse [.blk, .snd, .fst, .snd, .snd, .snd, .snd]) e st), ([.blk, .fst, .yes, .snd, .fst, .snd, .snd, .blk, .snd, .lp, .blk, .snd, .fst, .snd, .snd, .snd, .snd], fun e st => atV Try.prog hint 13 0 Try.f13 121 (List.reverse [.blk, .fst, .yes, .snd, .fst, .snd, .snd, .blk, .snd, .lp, .blk, .snd, .fst, .snd, .snd, .snd, .snd]) e st), ([.blk, .fst, .snd, .snd, .snd, .snd, .blk, .snd, .lp, .blk, .snd, .fst, .snd, .snd, .snd, .snd], fun e st => atV Try.prog hint 13 0 Try.f13 121 (List.reverse [.blk, .fst, .snd, .snd, .snd, .snd, .blk, .snd, .lp, .blk, .snd, .fst, .snd, .snd, .snd, .snd]) e st), ([.snd, .snd, .snd, .snd, .snd, .snd, .snd, .snd, .blk, .snd, .lp, .blk, .snd, .fst, .snd, .snd, .snd, .snd], fun e st => atV Try.prog hint 13 0 Try.f13 121 (List.reverse [.snd, .snd, .snd, .snd, .snd, .snd, .snd, .snd, .blk, .snd, .lp, .blk, .snd, .fst, .snd, .snd, .snd, .snd]) e st)]) [[.blk, .snd, .fst, .snd, .snd, .snd, .snd], [.blk, .fst, .yes, .snd, .fst, .snd, .snd, .blk, .snd, .lp, .blk, .snd, .fst, .snd, .snd, .snd, .snd], [.blk, .fst, .snd, .snd, .snd, .snd, .blk, .snd, .lp, .blk, .snd, .fst, .snd, .snd, .snd, .snd], [.snd, .snd, .snd, .snd, .snd, .snd, .snd, .snd, .blk, .snd, .lp, .blk, .snd, .fst, .snd, .snd, .snd, .snd]] rfl [.snd, .snd, .snd, .snd, .snd, .snd, .snd, .snd, .blk, .snd, .lp, .blk, .snd, .fst, .snd, .snd, .snd, .snd] [(0, (.t (.str s0))), (5, (.buf 8)), (7, (.t (.int .i64 i7))), (9, (.t (.int .i64 n9))), (10, (.ptr 9 0 0))] ⟨[(8, (.arr true 3 m8z m8)), (9, (.var [(.t (.int .i64 m9_0)), (.t (.str m9_1)), (.t (.int .i64 m9_2))]))], []⟩ rfl).trans (J13_22g (fun e st => atV Try.prog hint 13 0 Try.f13 121 (List.reverse [.blk, .snd, .fst, .snd, .snd, .snd, .snd]) e st) (fun e st => atV Try.prog hint 13 0 Try.f13 121 (List.reverse [.blk, .fst, .yes, .snd, .fst, .snd, .snd, .blk, .snd, .lp, .blk, .snd, .fst, .snd, .snd, .snd, .snd]) e st) (fun e st => atV Try.prog hint 13 0 Try.f13 121 (List.reverse [.blk, .fst, .snd, .snd, .snd, .snd, .blk, .snd, .lp, .blk, .snd, .fst, .snd, .snd, .snd, .snd]) e st) (fun e st => atV Try.prog hint 13 0 Try.f13 121 (List.reverse [.snd, .snd, .snd, .snd, .snd, .snd, .snd, .snd, .blk, .snd, .lp, .blk, .snd, .fst, .snd, .snd, .snd, .snd]) e st) s0 i7 n9 m8z m8 m9_0 m9_1 m9_2)
theorem eq14g (KL14_4 : Env → St → Option Res) (a0z : Bool) (a0 : List T) (a1z : Bool) (a1 : List T) : codeT Try.prog hint 14 0 26 [([.blk, .snd, .fst, .snd, .snd], KL14_4)] [] (resKV Try.prog Try.f14 (hint.own 14 0)) (nrm hint 14 0 (bodyOf Try.f14) (envV [(.t (.list 3 a0z a0)), (.t (.list 3 a1z a1))] 0) ⟨[], []⟩).1 (nrm hint 14 0 (bodyOf Try.f14) (envV [(.t (.list 3 a0z a0)), (.t (.list 3 a1z a1))] 0) ⟨[], []⟩).2 (bodyOf Try.f14) =
(bif (!decide ((a0.length : Int) = (a1.length : Int))) then
 some ((.t (.bool false)), ⟨[], []⟩)
else
 KL14_4 [(0, (.t (.list 3 a0z a0))), (1, (.t (.list 3 a1z a1))), (12, (.t (.int .i64 (a0.length : Int)))), (13, (.t (.int .i64 0)))] ⟨[], []⟩) := by kernel_rfl
/-- purfle/purfleref08.Same -/
theorem eq14 (a0z : Bool) (a0 : List T) (a1z : Bool) (a1 : List T) : vr 14 0 [(.t (.list 3 a0z a0)), (.t (.list 3 a1z a1))] ⟨[], []⟩ =
(bif (!decide ((a0.length : Int) = (a1.length : Int))) then
 some ((.t (.bool false)), ⟨[], []⟩)
else
 L14_4 (a0z) (a0) (a1z) (a1) ((a0.length : Int)) (0)) :=
  (call_eq Try.prog hint (fn := Try.f14) (nt := 26) (T := [([.blk, .snd, .fst, .snd, .snd], fun e st => atV Try.prog hint 14 0 Try.f14 26 (List.reverse [.blk, .snd, .fst, .snd, .snd]) e st)]) [[.blk, .snd, .fst, .snd, .snd]] rfl [(.t (.list 3 a0z a0)), (.t (.list 3 a1z a1))] ⟨[], []⟩ rfl rfl rfl rfl rfl).trans (eq14g (fun e st => atV Try.prog hint 14 0 Try.f14 26 (List.reverse [.blk, .snd, .fst, .snd, .snd]) e st) a0z a0 a1z a1)
theorem L14_4g (KL14_4 : Env → St → Option Res) (a0z : Bool) (a0 : List T) (b1z : Bool) (b1 : List T) (t12 : Int) (t13 : Int) : codeT Try.prog hint 14 0 26 [([.blk, .snd, .fst, .snd, .snd], KL14_4)] [.lp, .blk, .snd, .fst, .snd, .snd] (ctxT Try.prog hint 14 0 26 [([.blk, .snd, .fst, .snd, .snd], KL14_4)] [] (List.reverse [.lp, .blk, .snd, .fst, .snd, .snd]) (bodyOf Try.f14) (resKV Try.prog Try.f14 (hint.own 14 0))) [(0, (.t (.list 3 a0z a0))), (1, (.t (.list 3 b1z b1))), (12, (.t (.int .i64 t12))), (13, (.t (.int .i64 t13)))] ⟨[], []⟩ (nav (List.reverse [.lp, .blk, .snd, .fst, .snd, .snd]) (bodyOf Try.f14)) =
(bif (decide (t13 < t12)) then
 needC (decide (0 ≤ t13)) fun _ =>
 getT a0 (t13).toNat fun e_1 =>
 asA e_1 fun l_2 =>
 consT l_2 fun v_3 l_4 =>
 asI .i64 v_3 fun x_5 =>
 consT l_4 fun v_6 l_7 =>
 asS v_6 fun s_8 =>
 consT l_7 fun v_9 l_10 =>
 asI .i64 v_9 fun x_11 =>
 endT l_10 <|
 needC (decide (0 ≤ t13)) fun _ =>
 getT b1 (t13).toNat fun e_12 =>
 asA e_12 fun l_13 =>
 consT l_13 fun v_14 l_15 =>
 asI .i64 v_14 fun x_16 =>
 consT l_15 fun v_17 l_18 =>
 asS v_17 fun s_19 =>
 consT l_18 fun v_20 l_21 =>
 asI .i64 v_20 fun x_22 =>
 endT l_21 <|
(bif (!(decide (x_5 = x_16) && (decide ((s_8 : ByteArray) = s_19) && (decide (x_11 = x_22) && true)))) then
 some ((.t (.bool false)), ⟨[], []⟩)
else
 KL14_4 [(0, (.t (.list 3 a0z a0))), (1, (.t (.list 3 b1z b1))), (12, (.t (.int .i64 t12))), (13, (.t (.int .i64 (IntKind.i64.wrap (t13 + 1)))))] ⟨[], []⟩)
else
 some ((.t (.bool true)), ⟨[], []⟩)) := by kernel_rfl
theorem L14_4_eq (a0z : Bool) (a0 : List T) (b1z : Bool) (b1 : List T) (t12 : Int) (t13 : Int) : L14_4 a0z a0 b1z b1 t12 t13 =
(bif (decide (t13 < t12)) then
 needC (decide (0 ≤ t13)) fun _ =>
 getT a0 (t13).toNat fun e_1 =>
 asA e_1 fun l_2 =>
 consT l_2 fun v_3 l_4 =>
 asI .i64 v_3 fun x_5 =>
 consT l_4 fun v_6 l_7 =>
 asS v_6 fun s_8 =>
 consT l_7 fun v_9 l_10 =>
 asI .i64 v_9 fun x_11 =>
 endT l_10 <|
 needC (decide (0 ≤ t13)) fun _ =>
 getT b1 (t13).toNat fun e_12 =>
 asA e_12 fun l_13 =>
 consT l_13 fun v_14 l_15 =>
 asI .i64 v_14 fun x_16 =>
 consT l_15 fun v_17 l_18 =>
 asS v_17 fun s_19 =>
 consT l_18 fun v_20 l_21 =>
 asI .i64 v_20 fun x_22 =>
 endT l_21 <|
(bif (!(decide (x_5 = x_16) && (decide ((s_8 : ByteArray) = s_19) && (decide (x_11 = x_22) && true)))) then
 some ((.t (.bool false)), ⟨[], []⟩)
else
 L14_4 (a0z) (a0) (b1z) (b1) (t12) ((IntKind.i64.wrap (t13 + 1))))
else
 some ((.t (.bool true)), ⟨[], []⟩)) :=
  (round_eq Try.prog hint (b := (nav (List.reverse [.lp, .blk, .snd, .fst, .snd, .snd]) (bodyOf Try.f14))) (fn := Try.f14) (nt := 26) (T := [([.blk, .snd, .fst, .snd, .snd], fun e st => atV Try.prog hint 14 0 Try.f14 26 (List.reverse [.blk, .snd, .fst, .snd, .snd]) e st)]) [[.blk, .snd, .fst, .snd, .snd]] rfl [.blk, .snd, .fst, .snd, .snd] [(0, (.t (.list 3 a0z a0))), (1, (.t (.list 3 b1z b1))), (12, (.t (.int .i64 t12))), (13, (.t (.int .i64 t13)))] ⟨[], []⟩ rfl rfl rfl).trans (L14_4g (fun e st => atV Try.prog hint 14 0 Try.f14 26 (List.reverse [.blk, .snd, .fst, .snd, .snd]) e st) a0z a0 b1z b1 t12 t13)
theorem eq3g  (a0 : ByteArray) : codeT Try.prog hint 3 0 43 [] [] (resKV Try.prog Try.f3 (hint.own 3 0)) (nrm hint 3 0 (bodyOf Try.f3) (envV [(.t (.str a0))] 0) ⟨[], []⟩).1 (nrm hint 3 0 (bodyOf Try.f3) (envV [(.t (.str a0))] 0) ⟨[], []⟩).2 (bodyOf Try.f3) =
 callK (vr 11 0 [] ⟨[], []⟩) fun v_1 b_2 =>
 asT v_1 fun x_3 =>
 asB x_3 fun b_4 =>
 endB b_2 <|
(bif (decide (70000 < (a0.size : Int))) then
 some ((.t (.bool b_4)), ⟨[], []⟩)
else
 callK (vr 12 0 [(.t (.str a0))] ⟨[], []⟩) fun v_5 b_6 =>
 asTup v_5 fun l_7 =>
 consV l_7 fun v_8 l_9 =>
 asT v_8 fun x_10 =>
 asL 3 x_10 fun nn_11 l_12 =>
 consV l_9 fun v_13 l_14 =>
 asT v_13 fun x_15 =>
 asI .i64 x_15 fun x_16 =>
 consV l_14 fun v_17 l_18 =>
 asT v_17 fun x_19 =>
 asI .i64 x_19 fun x_20 =>
 endV l_18 <|
 endB b_6 <|
 callK (vr 13 0 [(.t (.str a0))] ⟨[], []⟩) fun v_21 b_22 =>
 asTup v_21 fun l_23 =>
 consV l_23 fun v_24 l_25 =>
 asT v_24 fun x_26 =>
 asL 3 x_26 fun nn_27 l_28 =>
 consV l_25 fun v_29 l_30 =>
 asT v_29 fun x_31 =>
 asI .i64 x_31 fun x_32 =>
 consV l_30 fun v_33 l_34 =>
 asT v_33 fun x_35 =>
 asI .i64 x_35 fun x_36 =>
 endV l_34 <|
 endB b_22 <|
(bif b_4 then
 callK (vr 14 0 [(.t (.list 3 nn_11 l_12)), (.t (.list 3 nn_27 l_28))] ⟨[], []⟩) fun v_37 b_38 =>
 asT v_37 fun x_39 =>
 asB x_39 fun b_40 =>
 endB b_38 <|
(bif b_40 then
(bif (decide (x_16 = x_32)) then
 some ((.t (.bool (decide (x_20 = x_36)))), ⟨[], []⟩)
else
 some ((.t (.bool false)), ⟨[], []⟩))
else
 some ((.t (.bool false)), ⟨[], []⟩))
else
 some ((.t (.bool false)), ⟨[], []⟩))) := by kernel_rfl
/-- purfle/purflelaw08.LexerCuts -/
theorem eq3 (a0 : ByteArray) : vr 3 0 [(.t (.str a0))] ⟨[], []⟩ =
 callK (vr 11 0 [] ⟨[], []⟩) fun v_1 b_2 =>
 asT v_1 fun x_3 =>
 asB x_3 fun b_4 =>
 endB b_2 <|
(bif (decide (70000 < (a0.size : Int))) then
 some ((.t (.bool b_4)), ⟨[], []⟩)
else
 callK (vr 12 0 [(.t (.str a0))] ⟨[], []⟩) fun v_5 b_6 =>
 asTup v_5 fun l_7 =>
 consV l_7 fun v_8 l_9 =>
 asT v_8 fun x_10 =>
 asL 3 x_10 fun nn_11 l_12 =>
 consV l_9 fun v_13 l_14 =>
 asT v_13 fun x_15 =>
 asI .i64 x_15 fun x_16 =>
 consV l_14 fun v_17 l_18 =>
 asT v_17 fun x_19 =>
 asI .i64 x_19 fun x_20 =>
 endV l_18 <|
 endB b_6 <|
 callK (vr 13 0 [(.t (.str a0))] ⟨[], []⟩) fun v_21 b_22 =>
 asTup v_21 fun l_23 =>
 consV l_23 fun v_24 l_25 =>
 asT v_24 fun x_26 =>
 asL 3 x_26 fun nn_27 l_28 =>
 consV l_25 fun v_29 l_30 =>
 asT v_29 fun x_31 =>
 asI .i64 x_31 fun x_32 =>
 consV l_30 fun v_33 l_34 =>
 asT v_33 fun x_35 =>
 asI .i64 x_35 fun x_36 =>
 endV l_34 <|
 endB b_22 <|
(bif b_4 then
 callK (vr 14 0 [(.t (.list 3 nn_11 l_12)), (.t (.list 3 nn_27 l_28))] ⟨[], []⟩) fun v_37 b_38 =>
 asT v_37 fun x_39 =>
 asB x_39 fun b_40 =>
 endB b_38 <|
(bif b_40 then
(bif (decide (x_16 = x_32)) then
 some ((.t (.bool (decide (x_20 = x_36)))), ⟨[], []⟩)
else
 some ((.t (.bool false)), ⟨[], []⟩))
else
 some ((.t (.bool false)), ⟨[], []⟩))
else
 some ((.t (.bool false)), ⟨[], []⟩))) :=
  (call_eq Try.prog hint (fn := Try.f3) (nt := 43) (T := []) [] rfl [(.t (.str a0))] ⟨[], []⟩ rfl rfl rfl rfl rfl).trans (eq3g  a0)
theorem eq4g (KJ4_17 : Env → St → Option Res) (a0 : ByteArray) (a1 : ByteArray) (a2 : Int) : codeT Try.prog hint 4 0 128 [([.snd, .snd, .snd, .snd, .snd, .snd, .snd, .snd, .snd, .snd, .snd, .snd, .snd], KJ4_17)] [] (resKV Try.prog Try.f4 (hint.own 4 0)) (nrm hint 4 0 (bodyOf Try.f4) (envV [(.t (.str a0)), (.t (.str a1)), (.t (.int .i64 a2))] 0) ⟨[], []⟩).1 (nrm hint 4 0 (bodyOf Try.f4) (envV [(.t (.str a0)), (.t (.str a1)), (.t (.int .i64 a2))] 0) ⟨[], []⟩).2 (bodyOf Try.f4) =
 callK (vr 11 0 [] ⟨[], []⟩) fun v_1 b_2 =>
 asT v_1 fun x_3 =>
 asB x_3 fun b_4 =>
 endB b_2 <|
(bif (decide (20000 < (IntKind.i64.wrap ((a0.size : Int) + (a1.size : Int))))) then
 some ((.t (.bool b_4)), ⟨[], []⟩)
else
 callK (vr 12 0 [(.t (.str a0))] ⟨[], []⟩) fun v_5 b_6 =>
 asTup v_5 fun l_7 =>
 consV l_7 fun v_8 l_9 =>
 asT v_8 fun x_10 =>
 asL 3 x_10 fun nn_11 l_12 =>
 consV l_9 fun v_13 l_14 =>
 asT v_13 fun x_15 =>
 asI .i64 x_15 fun x_16 =>
 consV l_14 fun v_17 l_18 =>
 asT v_17 fun x_19 =>
 asI .i64 x_19 fun x_20 =>
 endV l_18 <|
 endB b_6 <|
 callK (vr 12 0 [(.t (.str a1))] ⟨[], []⟩) fun v_21 b_22 =>
 asTup v_21 fun l_23 =>
 consV l_23 fun v_24 l_25 =>
 asT v_24 fun x_26 =>
 asL 3 x_26 fun nn_27 l_28 =>
 consV l_25 fun v_29 l_30 =>
 asT v_29 fun x_31 =>
 asI .i64 x_31 fun x_32 =>
 consV l_30 fun v_33 l_34 =>
 asT v_33 fun x_35 =>
 asI .i64 x_35 fun x_36 =>
 endV l_34 <|
 endB b_22 <|
(bif (!decide (x_20 = 0)) then
 some ((.t (.bool b_4)), ⟨[], []⟩)
else
(bif (!decide (x_36 = 0)) then
 some ((.t (.bool b_4)), ⟨[], []⟩)
else
(bif (decide (4000 < (IntKind.i64.wrap ((l_12.length : Int) + (l_28.length : Int))))) then
 some ((.t (.bool b_4)), ⟨[], []⟩)
else
 needC (!decide ((5 : Int) = 0)) fun _ =>
 needC (!decide ((5 : Int) = 0)) fun _ =>
 needC (decide (0 ≤ (Int.tmod (IntKind.i64.wrap ((Int.tmod a2 (5 : Int)) + (5 : Int))) (5 : Int))) && decide ((Int.tmod (IntKind.i64.wrap ((Int.tmod a2 (5 : Int)) + (5 : Int))) (5 : Int)) < (5 : Int))) fun _ =>
 getT ([(.str ⟨#[32]⟩), (.str ⟨#[9]⟩), (.str ⟨#[10]⟩), (.str ⟨#[32, 35, 32, 110, 111, 44, 32, 91, 10]⟩), (.str ⟨#[10, 32, 10, 9, 10]⟩)]) (((Int.tmod (IntKind.i64.wrap ((Int.tmod a2 (5 : Int)) + (5 : Int))) (5 : Int))).toNat) fun e_37 =>
 asS e_37 fun s_38 =>
 catC s_38 a0 fun s_39 =>
 catC s_39 (⟨#[10]⟩) fun s_40 =>
 catC s_40 s_38 fun s_41 =>
 callK (vr 12 0 [(.t (.str s_41))] ⟨[], []⟩) fun v_42 b_43 =>
 asTup v_42 fun l_44 =>
 consV l_44 fun v_45 l_46 =>
 asT v_45 fun x_47 =>
 asL 3 x_47 fun nn_48 l_49 =>
 consV l_46 fun v_50 l_51 =>
 asT v_50 fun x_52 =>
 asI .i64 x_52 fun x_53 =>
 consV l_51 fun v_54 l_55 =>
 asT v_54 fun x_56 =>
 asI .i64 x_56 fun x_57 =>
 endV l_55 <|
 endB b_43 <|
 catC a0 (⟨#[10]⟩) fun s_58 =>
 catC s_58 s_38 fun s_59 =>
 catC s_59 a1 fun s_60 =>
 callK (vr 12 0 [(.t (.str s_60))] ⟨[], []⟩) fun v_61 b_62 =>
 asTup v_61 fun l_63 =>
 consV l_63 fun v_64 l_65 =>
 asT v_64 fun x_66 =>
 asL 3 x_66 fun nn_67 l_68 =>
 consV l_65 fun v_69 l_70 =>
 asT v_69 fun x_71 =>
 asI .i64 x_71 fun x_72 =>
 consV l_70 fun v_73 l_74 =>
 asT v_73 fun x_75 =>
 asI .i64 x_75 fun x_76 =>
 endV l_74 <|
 endB b_62 <|
(bif (!decide (x_57 = 0)) then
 some ((.t (.bool false)), ⟨[], []⟩)
else
(bif (!decide (x_76 = 0)) then
 some ((.t (.bool false)), ⟨[], []⟩)
else
 callK (vr 14 0 [(.t (.list 3 nn_11 l_12)), (.t (.list 3 nn_48 l_49))] ⟨[], []⟩) fun v_77 b_78 =>
 asT v_77 fun x_79 =>
 asB x_79 fun b_80 =>
 endB b_78 <|
(bif (!b_80) then
 some ((.t (.bool false)), ⟨[], []⟩)
else
 needC (decide (l_12.length * (32 + 1) ≤ 70368744177664) && decide (32 ≤ 1048576)) fun _ =>
(bif (decide (0 < (l_12.length : Int))) then
(bif (decide (0 < (l_28.length : Int))) then
 needC (decide ((l_12.length + 1) * (32 + 1) ≤ 70368744177664) && decide (32 ≤ 1048576)) fun _ =>
 KJ4_17 [(7, (.t (.bool b_4))), (11, (.t (.list 3 nn_27 l_28))), (19, (.t (.list 3 nn_67 l_68))), (22, (.buf 8))] ⟨[(8, (.arr true 3 ((!l_12.isEmpty) || true) (l_12 ++ ([(.agg [(.int .i64 4), (.str ByteArray.empty), (.int .i64 0)])] : List T))))], []⟩
else
 KJ4_17 [(7, (.t (.bool b_4))), (11, (.t (.list 3 nn_27 l_28))), (19, (.t (.list 3 nn_67 l_68))), (22, (.buf 8))] ⟨[(8, (.arr true 3 (!l_12.isEmpty) l_12))], []⟩)
else
 KJ4_17 [(7, (.t (.bool b_4))), (11, (.t (.list 3 nn_27 l_28))), (19, (.t (.list 3 nn_67 l_68))), (22, (.buf 8))] ⟨[(8, (.arr true 3 (!l_12.isEmpty) l_12))], []⟩)))))))) := by kernel_rfl
/-- purfle/purflelaw08.LexerBlanks -/
theorem eq4 (a0 : ByteArray) (a1 : ByteArray) (a2 : Int) : vr 4 0 [(.t (.str a0)), (.t (.str a1)), (.t (.int .i64 a2))] ⟨[], []⟩ =
 callK (vr 11 0 [] ⟨[], []⟩) fun v_1 b_2 =>
 asT v_1 fun x_3 =>
 asB x_3 fun b_4 =>
 endB b_2 <|
(bif (decide (20000 < (IntKind.i64.wrap ((a0.size : Int) + (a1.size : Int))))) then
 some ((.t (.bool b_4)), ⟨[], []⟩)
else
 callK (vr 12 0 [(.t (.str a0))] ⟨[], []⟩) fun v_5 b_6 =>
 asTup v_5 fun l_7 =>
 consV l_7 fun v_8 l_9 =>
 asT v_8 fun x_10 =>
 asL 3 x_10 fun nn_11 l_12 =>
 consV l_9 fun v_13 l_14 =>
 asT v_13 fun x_15 =>
 asI .i64 x_15 fun x_16 =>
 consV l_14 fun v_17 l_18 =>
 asT v_17 fun x_19 =>
 asI .i64 x_19 fun x_20 =>
 endV l_18 <|
 endB b_6 <|
 callK (vr 12 0 [(.t (.str a1))] ⟨[], []⟩) fun v_21 b_22 =>
 asTup v_21 fun l_23 =>
 consV l_23 fun v_24 l_25 =>
 asT v_24 fun x_26 =>
 asL 3 x_26 fun nn_27 l_28 =>
 consV l_25 fun v_29 l_30 =>
 asT v_29 fun x_31 =>
 asI .i64 x_31 fun x_32 =>
 consV l_30 fun v_33 l_34 =>
 asT v_33 fun x_35 =>
 asI .i64 x_35 fun x_36 =>
 endV l_34 <|
 endB b_22 <|
(bif (!decide (x_20 = 0)) then
 some ((.t (.bool b_4)), ⟨[], []⟩)
else
(bif (!decide (x_36 = 0)) then
 some ((.t (.bool b_4)), ⟨[], []⟩)
else
(bif (decide (4000 < (IntKind.i64.wrap ((l_12.length : Int) + (l_28.length : Int))))) then
 some ((.t (.bool b_4)), ⟨[], []⟩)
else
 needC (!decide ((5 : Int) = 0)) fun _ =>
 needC (!decide ((5 : Int) = 0)) fun _ =>
 needC (decide (0 ≤ (Int.tmod (IntKind.i64.wrap ((Int.tmod a2 (5 : Int)) + (5 : Int))) (5 : Int))) && decide ((Int.tmod (IntKind.i64.wrap ((Int.tmod a2 (5 : Int)) + (5 : Int))) (5 : Int)) < (5 : Int))) fun _ =>
 getT ([(.str ⟨#[32]⟩), (.str ⟨#[9]⟩), (.str ⟨#[10]⟩), (.str ⟨#[32, 35, 32, 110, 111, 44, 32, 91, 10]⟩), (.str ⟨#[10, 32, 10, 9, 10]⟩)]) (((Int.tmod (IntKind.i64.wrap ((Int.tmod a2 (5 : Int)) + (5 : Int))) (5 : Int))).toNat) fun e_37 =>
 asS e_37 fun s_38 =>
 catC s_38 a0 fun s_39 =>
 catC s_39 (⟨#[10]⟩) fun s_40 =>
 catC s_40 s_38 fun s_41 =>
 callK (vr 12 0 [(.t (.str s_41))] ⟨[], []⟩) fun v_42 b_43 =>
 asTup v_42 fun l_44 =>
 consV l_44 fun v_45 l_46 =>
 asT v_45 fun x_47 =>
 asL 3 x_47 fun nn_48 l_49 =>
 consV l_46 fun v_50 l_51 =>
 asT v_50 fun x_52 =>
 asI .i64 x_52 fun x_53 =>
 consV l_51 fun v_54 l_55 =>
 asT v_54 fun x_56 =>
 asI .i64 x_56 fun x_57 =>
 endV l_55 <|
 endB b_43 <|
 catC a0 (⟨#[10]⟩) fun s_58 =>
 catC s_58 s_38 fun s_59 =>
 catC s_59 a1 fun s_60 =>
 callK (vr 12 0 [(.t (.str s_60))] ⟨[], []⟩) fun v_61 b_62 =>
 asTup v_61 fun l_63 =>
 consV l_63 fun v_64 l_65 =>
 asT v_64 fun x_66 =>
 asL 3 x_66 fun nn_67 l_68 =>
 consV l_65 fun v_69 l_70 =>
 asT v_69 fun x_71 =>
 asI .i64 x_71 fun x_72 =>
 consV l_70 fun v_73 l_74 =>
 asT v_73 fun x_75 =>
 asI .i64 x_75 fun x_76 =>
 endV l_74 <|
 endB b_62 <|
(bif (!decide (x_57 = 0)) then
 some ((.t (.bool false)), ⟨[], []⟩)
else
(bif (!decide (x_76 = 0)) then
 some ((.t (.bool false)), ⟨[], []⟩)
else
 callK (vr 14 0 [(.t (.list 3 nn_11 l_12)), (.t (.list 3 nn_48 l_49))] ⟨[], []⟩) fun v_77 b_78 =>
 asT v_77 fun x_79 =>
 asB x_79 fun b_80 =>
 endB b_78 <|
(bif (!b_80) then
 some ((.t (.bool false)), ⟨[], []⟩)
else
 needC (decide (l_12.length * (32 + 1) ≤ 70368744177664) && decide (32 ≤ 1048576)) fun _ =>
(bif (decide (0 < (l_12.length : Int))) then
(bif (decide (0 < (l_28.length : Int))) then
 needC (decide ((l_12.length + 1) * (32 + 1) ≤ 70368744177664) && decide (32 ≤ 1048576)) fun _ =>
 J4_17 (b_4) (nn_27) (l_28) (nn_67) (l_68) (((!l_12.isEmpty) || true)) ((l_12 ++ ([(.agg [(.int .i64 4), (.str ByteArray.empty), (.int .i64 0)])] : List T)))
else
 J4_17 (b_4) (nn_27) (l_28) (nn_67) (l_68) ((!l_12.isEmpty)) (l_12))
else
 J4_17 (b_4) (nn_27) (l_28) (nn_67) (l_68) ((!l_12.isEmpty)) (l_12))))))))) :=
  (call_eq Try.prog hint (fn := Try.f4) (nt := 128) (T := [([.snd, .snd, .snd, .snd, .snd, .snd, .snd, .snd, .snd, .snd, .snd, .snd, .snd], fun e st => atV Try.prog hint 4 0 Try.f4 128 (List.reverse [.snd, .snd, .snd, .snd, .snd, .snd, .snd, .snd, .snd, .snd, .snd, .snd, .snd]) e st)]) [[.snd, .snd, .snd, .snd, .snd, .snd, .snd, .snd, .snd, .snd, .snd, .snd, .snd]] rfl [(.t (.str a0)), (.t (.str a1)), (.t (.int .i64 a2))] ⟨[], []⟩ rfl rfl rfl rfl rfl).trans (eq4g (fun e st => atV Try.prog hint 4 0 Try.f4 128 (List.reverse [.snd, .snd, .snd, .snd, .snd, .snd, .snd, .snd, .snd, .snd, .snd, .snd, .snd]) e st) a0 a1 a2)
theorem J4_17g (KJ4_17 : Env → St → Option Res) (up7 : Bool) (b11z : Bool) (b11 : List T) (d19z : Bool) (d19 : List T) (m8z : Bool) (m8 : List T) : codeT Try.prog hint 4 0 128 [([.snd, .snd, .snd, .snd, .snd, .snd, .snd, .snd, .snd, .snd, .snd, .snd, .snd], KJ4_17)] [.snd, .snd, .snd, .snd, .snd, .snd, .snd, .snd, .snd, .snd, .snd, .snd, .snd] (ctxT Try.prog hint 4 0 128 [([.snd, .snd, .snd, .snd, .snd, .snd, .snd, .snd, .snd, .snd, .snd, .snd, .snd], KJ4_17)] [] (List.reverse [.snd, .snd, .snd, .snd, .snd, .snd, .snd, .snd, .snd, .snd, .snd, .snd, .snd]) (bodyOf Try.f4) (resKV Try.prog Try.f4 (hint.own 4 0))) [(7, (.t (.bool up7))), (11, (.t (.list 3 b11z b11))), (19, (.t (.list 3 d19z d19))), (22, (.buf 8))] ⟨[(8, (.arr true 3 m8z m8))], []⟩ (nav (List.reverse [.snd, .snd, .snd, .snd, .snd, .snd, .snd, .snd, .snd, .snd, .snd, .snd, .snd]) (bodyOf Try.f4)) =
(bif up7 then
 needC (decide ((m8.length + b11.length) * (32 + 1) ≤ 70368744177664) && decide (32 ≤ 1048576)) fun _ =>
 callK (vr 14 0 [(.t (.list 3 d19z d19)), (.t (.list 3 (m8z || (!b11.isEmpty)) (m8 ++ b11)))] ⟨[], []⟩) fun v_1 b_2 =>
 asT v_1 fun x_3 =>
 asB x_3 fun b_4 =>
 endB b_2 <|
 some ((.t (.bool b_4)), ⟨[], []⟩)
else
 some ((.t (.bool false)), ⟨[], []⟩)) := by kernel_rfl
theorem J4_17_eq (up7 : Bool) (b11z : Bool) (b11 : List T) (d19z : Bool) (d19 : List T) (m8z : Bool) (m8 : List T) : J4_17 up7 b11z b11 d19z d19 m8z m8 =
(bif up7 then
 needC (decide ((m8.length + b11.length) * (32 + 1) ≤ 70368744177664) && decide (32 ≤ 1048576)) fun _ =>
 callK (vr 14 0 [(.t (.list 3 d19z d19)), (.t (.list 3 (m8z || (!b11.isEmpty)) (m8 ++ b11)))] ⟨[], []⟩) fun v_1 b_2 =>
 asT v_1 fun x_3 =>
 asB x_3 fun b_4 =>
 endB b_2 <|
 some ((.t (.bool b_4)), ⟨[], []⟩)
else
 some ((.t (.bool false)), ⟨[], []⟩)) :=
  (join_eq Try.prog hint (fn := Try.f4) (nt := 128) (T := [([.snd, .snd, .snd, .snd, .snd, .snd, .snd, .snd, .snd, .snd, .snd, .snd, .snd], fun e st => atV Try.prog hint 4 0 Try.f4 128 (List.reverse [.snd, .snd, .snd, .snd, .snd, .snd, .snd, .snd, .snd, .snd, .snd, .snd, .snd]) e st)]) [[.snd, .snd, .snd, .snd, .snd, .snd, .snd, .snd, .snd, .snd, .snd, .snd, .snd]] rfl [.snd, .snd, .snd, .snd, .snd, .snd, .snd, .snd, .snd, .snd, .snd, .snd, .snd] [(7, (.t (.bool up7))), (11, (.t (.list 3 b11z b11))), (19, (.t (.list 3 d19z d19))), (22, (.buf 8))] ⟨[(8, (.arr true 3 m8z m8))], []⟩ rfl).trans (J4_17g (fun e st => atV Try.prog hint 4 0 Try.f4 128 (List.reverse [.snd, .snd, .snd, .snd, .snd, .snd, .snd, .snd, .snd, .snd, .snd, .snd, .snd]) e st) up7 b11z b11 d19z d19 m8z m8)
theorem eq5g  (a0 : ByteArray) (a1 : ByteArray) : codeT Try.prog hint 5 0 75 [] [] (resKV Try.prog Try.f5 (hint.own 5 0)) (nrm hint 5 0 (bodyOf Try.f5) (envV [(.t (.str a0)), (.t (.str a1))] 0) ⟨[], []⟩).1 (nrm hint 5 0 (bodyOf Try.f5) (envV [(.t (.str a0)), (.t (.str a1))] 0) ⟨[], []⟩).2 (bodyOf Try.f5) =
 callK (vr 11 0 [] ⟨[], []⟩) fun v_1 b_2 =>
 asT v_1 fun x_3 =>
 asB x_3 fun b_4 =>
 endB b_2 <|
(bif (decide (20000 < (IntKind.i64.wrap ((a0.size : Int) + (a1.size : Int))))) then
 some ((.t (.bool b_4)), ⟨[], []⟩)
else
 callK (vr 12 0 [(.t (.str a0))] ⟨[], []⟩) fun v_5 b_6 =>
 asTup v_5 fun l_7 =>
 consV l_7 fun v_8 l_9 =>
 asT v_8 fun x_10 =>
 asL 3 x_10 fun nn_11 l_12 =>
 consV l_9 fun v_13 l_14 =>
 asT v_13 fun x_15 =>
 asI .i64 x_15 fun x_16 =>
 consV l_14 fun v_17 l_18 =>
 asT v_17 fun x_19 =>
 asI .i64 x_19 fun x_20 =>
 endV l_18 <|
 endB b_6 <|
(bif (!decide (x_20 = 6)) then
 some ((.t (.bool b_4)), ⟨[], []⟩)
else
(bif (decide (x_16 < 0)) then
 some ((.t (.bool false)), ⟨[], []⟩)
else
(bif (decide ((a0.size : Int) ≤ x_16)) then
 some ((.t (.bool false)), ⟨[], []⟩)
else
 subS a0 none (some x_16) fun s_21 =>
 callK (vr 12 0 [(.t (.str s_21))] ⟨[], []⟩) fun v_22 b_23 =>
 asTup v_22 fun l_24 =>
 consV l_24 fun v_25 l_26 =>
 asT v_25 fun x_27 =>
 asL 3 x_27 fun nn_28 l_29 =>
 consV l_26 fun v_30 l_31 =>
 asT v_30 fun x_32 =>
 asI .i64 x_32 fun x_33 =>
 consV l_31 fun v_34 l_35 =>
 asT v_34 fun x_36 =>
 asI .i64 x_36 fun x_37 =>
 endV l_35 <|
 endB b_23 <|
 catC a0 (⟨#[10]⟩) fun s_38 =>
 catC s_38 a1 fun s_39 =>
 callK (vr 12 0 [(.t (.str s_39))] ⟨[], []⟩) fun v_40 b_41 =>
 asTup v_40 fun l_42 =>
 consV l_42 fun v_43 l_44 =>
 asT v_43 fun x_45 =>
 asL 3 x_45 fun nn_46 l_47 =>
 consV l_44 fun v_48 l_49 =>
 asT v_48 fun x_50 =>
 asI .i64 x_50 fun x_51 =>
 consV l_49 fun v_52 l_53 =>
 asT v_52 fun x_54 =>
 asI .i64 x_54 fun x_55 =>
 endV l_53 <|
 endB b_41 <|
(bif b_4 then
(bif (decide (x_37 = 0)) then
(bif (decide (x_55 = 6)) then
 some ((.t (.bool (decide (x_51 = x_16)))), ⟨[], []⟩)
else
 some ((.t (.bool false)), ⟨[], []⟩))
else
(bif (decide (x_37 = 2)) then
(bif (decide (x_55 = 6)) then
 some ((.t (.bool (decide (x_51 = x_16)))), ⟨[], []⟩)
else
 some ((.t (.bool false)), ⟨[], []⟩))
else
 some ((.t (.bool false)), ⟨[], []⟩)))
else
 some ((.t (.bool false)), ⟨[], []⟩)))))) := by kernel_rfl
/-- purfle/purflelaw08.LexerFirst -/
theorem eq5 (a0 : ByteArray) (a1 : ByteArray) : vr 5 0 [(.t (.str a0)), (.t (.str a1))] ⟨[], []⟩ =
 callK (vr 11 0 [] ⟨[], []⟩) fun v_1 b_2 =>
 asT v_1 fun x_3 =>
 asB x_3 fun b_4 =>
 endB b_2 <|
(bif (decide (20000 < (IntKind.i64.wrap ((a0.size : Int) + (a1.size : Int))))) then
 some ((.t (.bool b_4)), ⟨[], []⟩)
else
 callK (vr 12 0 [(.t (.str a0))] ⟨[], []⟩) fun v_5 b_6 =>
 asTup v_5 fun l_7 =>
 consV l_7 fun v_8 l_9 =>
 asT v_8 fun x_10 =>
 asL 3 x_10 fun nn_11 l_12 =>
 consV l_9 fun v_13 l_14 =>
 asT v_13 fun x_15 =>
 asI .i64 x_15 fun x_16 =>
 consV l_14 fun v_17 l_18 =>
 asT v_17 fun x_19 =>
 asI .i64 x_19 fun x_20 =>
 endV l_18 <|
 endB b_6 <|
(bif (!decide (x_20 = 6)) then
 some ((.t (.bool b_4)), ⟨[], []⟩)
else
(bif (decide (x_16 < 0)) then
 some ((.t (.bool false)), ⟨[], []⟩)
else
(bif (decide ((a0.size : Int) ≤ x_16)) then
 some ((.t (.bool false)), ⟨[], []⟩)
else
 subS a0 none (some x_16) fun s_21 =>
 callK (vr 12 0 [(.t (.str s_21))] ⟨[], []⟩) fun v_22 b_23 =>
 asTup v_22 fun l_24 =>
 consV l_24 fun v_25 l_26 =>
 asT v_25 fun x_27 =>
 asL 3 x_27 fun nn_28 l_29 =>
 consV l_26 fun v_30 l_31 =>
 asT v_30 fun x_32 =>
 asI .i64 x_32 fun x_33 =>
 consV l_31 fun v_34 l_35 =>
 asT v_34 fun x_36 =>
 asI .i64 x_36 fun x_37 =>
 endV l_35 <|
 endB b_23 <|
 catC a0 (⟨#[10]⟩) fun s_38 =>
 catC s_38 a1 fun s_39 =>
 callK (vr 12 0 [(.t (.str s_39))] ⟨[], []⟩) fun v_40 b_41 =>
 asTup v_40 fun l_42 =>
 consV l_42 fun v_43 l_44 =>
 asT v_43 fun x_45 =>
 asL 3 x_45 fun nn_46 l_47 =>
 consV l_44 fun v_48 l_49 =>
 asT v_48 fun x_50 =>
 asI .i64 x_50 fun x_51 =>
 consV l_49 fun v_52 l_53 =>
 asT v_52 fun x_54 =>
 asI .i64 x_54 fun x_55 =>
 endV l_53 <|
 endB b_41 <|
(bif b_4 then
(bif (decide (x_37 = 0)) then
(bif (decide (x_55 = 6)) then
 some ((.t (.bool (decide (x_51 = x_16)))), ⟨[], []⟩)
else
 some ((.t (.bool false)), ⟨[], []⟩))
else
(bif (decide (x_37 = 2)) then
(bif (decide (x_55 = 6)) then
 some ((.t (.bool (decide (x_51 = x_16)))), ⟨[], []⟩)
else
 some ((.t (.bool false)), ⟨[], []⟩))
else
 some ((.t (.bool false)), ⟨[], []⟩)))
else
 some ((.t (.bool false)), ⟨[], []⟩)))))) :=
  (call_eq Try.prog hint (fn := Try.f5) (nt := 75) (T := []) [] rfl [(.t (.str a0)), (.t (.str a1))] ⟨[], []⟩ rfl rfl rfl rfl rfl).trans (eq5g  a0 a1)
theorem eq35g (KL35_1 : Env → St → Option Res) (m0z : Bool) (m0 : List T) : codeT Try.prog hint 35 0 28 [([.blk, .snd], KL35_1)] [] (resKV Try.prog Try.f35 (hint.own 35 0)) (nrm hint 35 0 (bodyOf Try.f35) (envV [(.buf 0)] 0) ⟨[(0, (.arr true 1 m0z m0))], []⟩).1 (nrm hint 35 0 (bodyOf Try.f35) (envV [(.buf 0)] 0) ⟨[(0, (.arr true 1 m0z m0))], []⟩).2 (bodyOf Try.f35) =
 KL35_1 [(0, (.buf 0)), (2, (.t (.int .i64 0))), (3, (.t (.int .i64 (IntKind.i64.wrap ((m0.length : Int) - 1)))))] ⟨[(0, (.arr true 1 m0z m0))], []⟩ := by kernel_rfl
/-- slices.Reverse[[]byte,byte] -/
theorem eq35 (m0z : Bool) (m0 : List T) : vr 35 0 [(.buf 0)] ⟨[(0, (.arr true 1 m0z m0))], []⟩ =
 L35_1 (0) ((IntKind.i64.wrap ((m0.length : Int) - 1))) (m0z) (m0) :=
  (call_eq Try.prog hint (fn := Try.f35) (nt := 28) (T := [([.blk, .snd], fun e st => atV Try.prog hint 35 0 Try.f35 28 (List.reverse [.blk, .snd]) e st)]) [[.blk, .snd]] rfl [(.buf 0)] ⟨[(0, (.arr true 1 m0z m0))], []⟩ rfl rfl rfl rfl rfl).trans (eq35g (fun e st => atV Try.prog hint 35 0 Try.f35 28 (List.reverse [.blk, .snd]) e st) m0z m0)
theorem L35_1g (KL35_1 : Env → St → Option Res) (i2 : Int) (j3 : Int) (m0z : Bool) (m0 : List T) : codeT Try.prog hint 35 0 28 [([.blk, .snd], KL35_1)] [.lp, .blk, .snd] (ctxT Try.prog hint 35 0 28 [([.blk, .snd], KL35_1)] [] (List.reverse [.lp, .blk, .snd]) (bodyOf Try.f35) (resKV Try.prog Try.f35 (hint.own 35 0))) [(0, (.buf 0)), (2, (.t (.int .i64 i2))), (3, (.t (.int .i64 j3)))] ⟨[(0, (.arr true 1 m0z m0))], []⟩ (nav (List.reverse [.lp, .blk, .snd]) (bodyOf Try.f35)) =
(bif (decide (i2 < j3)) then
 needC (decide (0 ≤ j3) && decide (j3 < (m0.length : Int))) fun _ =>
 getT m0 ((j3).toNat) fun e_1 =>
 asI .u8 e_1 fun x_2 =>
 needC (decide (0 ≤ i2) && decide (i2 < (m0.length : Int))) fun _ =>
 getT m0 ((i2).toNat) fun e_3 =>
 asI .u8 e_3 fun x_4 =>
 needC (decide (0 ≤ i2) && decide (i2 < (m0.length : Int))) fun _ =>
 needC (m0z && true) fun _ =>
 setT m0 ((i2).toNat) (.int .u8 x_2) fun l_5 =>
 needC (decide (0 ≤ j3) && decide (j3 < (l_5.length : Int))) fun _ =>
 needC (m0z && true) fun _ =>
 setT l_5 ((j3).toNat) (.int .u8 x_4) fun l_6 =>
 KL35_1 [(0, (.buf 0)), (2, (.t (.int .i64 (IntKind.i64.wrap (i2 + 1))))), (3, (.t (.int .i64 (IntKind.i64.wrap (j3 - 1)))))] ⟨[(0, (.arr true 1 m0z l_6))], []⟩
else
 some ((.tup []), ⟨[(0, (.arr true 1 m0z m0))], [500]⟩)) := by kernel_rfl
theorem L35_1_eq (i2 : Int) (j3 : Int) (m0z : Bool) (m0 : List T) : L35_1 i2 j3 m0z m0 =
(bif (decide (i2 < j3)) then
 needC (decide (0 ≤ j3) && decide (j3 < (m0.length : Int))) fun _ =>
 getT m0 ((j3).toNat) fun e_1 =>
 asI .u8 e_1 fun x_2 =>
 needC (decide (0 ≤ i2) && decide (i2 < (m0.length : Int))) fun _ =>
 getT m0 ((i2).toNat) fun e_3 =>
 asI .u8 e_3 fun x_4 =>
 needC (decide (0 ≤ i2) && decide (i2 < (m0.length : Int))) fun _ =>
 needC (m0z && true) fun _ =>
 setT m0 ((i2).toNat) (.int .u8 x_2) fun l_5 =>
 needC (decide (0 ≤ j3) && decide (j3 < (l_5.length : Int))) fun _ =>
 needC (m0z && true) fun _ =>
 setT l_5 ((j3).toNat) (.int .u8 x_4) fun l_6 =>
 L35_1 ((IntKind.i64.wrap (i2 + 1))) ((IntKind.i64.wrap (j3 - 1))) (m0z) (l_6)
else
 some ((.tup []), ⟨[(0, (.arr true 1 m0z m0))], [500]⟩)) :=
  (round_eq Try.prog hint (b := (nav (List.reverse [.lp, .blk, .snd]) (bodyOf Try.f35))) (fn := Try.f35) (nt := 28) (T := [([.blk, .snd], fun e st => atV Try.prog hint 35 0 Try.f35 28 (List.reverse [.blk, .snd]) e st)]) [[.blk, .snd]] rfl [.blk, .snd] [(0, (.buf 0)), (2, (.t (.int .i64 i2))), (3, (.t (.int .i64 j3)))] ⟨[(0, (.arr true 1 m0z m0))], []⟩ rfl rfl rfl).trans (L35_1g (fun e st => atV Try.prog hint 35 0 Try.f35 28 (List.reverse [.blk, .snd]) e st) i2 j3 m0z m0)
theorem eq17g (KL17_5 : Env → St → Option Res) (a0 : Int) : codeT Try.prog hint 17 0 31 [([.blk, .fst, .snd, .snd, .snd, .snd], KL17_5)] [] (resKV Try.prog Try.f17 (hint.own 17 0)) (nrm hint 17 0 (bodyOf Try.f17) (envV [(.t (.int .i64 a0))] 0) ⟨[], []⟩).1 (nrm hint 17 0 (bodyOf Try.f17) (envV [(.t (.int .i64 a0))] 0) ⟨[], []⟩).2 (bodyOf Try.f17) =
(bif (decide (a0 < 0)) then
 KL17_5 [(0, (.t (.int .i64 a0))), (3, (.buf 8)), (4, (.t (.int .u64 (IntKind.u64.wrap (0 - (IntKind.u64.wrap a0))))))] ⟨[(8, (.arr true 1 false []))], []⟩
else
 KL17_5 [(0, (.t (.int .i64 a0))), (3, (.buf 8)), (4, (.t (.int .u64 (IntKind.u64.wrap a0))))] ⟨[(8, (.arr true 1 false []))], []⟩) := by kernel_rfl
/-- purfle/lexer.Digits -/
theorem eq17 (a0 : Int) : vr 17 0 [(.t (.int .i64 a0))] ⟨[], []⟩ =
(bif (decide (a0 < 0)) then
 L17_5 (a0) ((IntKind.u64.wrap (0 - (IntKind.u64.wrap a0)))) (false) ([])
else
 L17_5 (a0) ((IntKind.u64.wrap a0)) (false) ([])) :=
  (call_eq Try.prog hint (fn := Try.f17) (nt := 31) (T := [([.blk, .fst, .snd, .snd, .snd, .snd], fun e st => atV Try.prog hint 17 0 Try.f17 31 (List.reverse [.blk, .fst, .snd, .snd, .snd, .snd]) e st)]) [[.blk, .fst, .snd, .snd, .snd, .snd]] rfl [(.t (.int .i64 a0))] ⟨[], []⟩ rfl rfl rfl rfl rfl).trans (eq17g (fun e st => atV Try.prog hint 17 0 Try.f17 31 (List.reverse [.blk, .fst, .snd, .snd, .snd, .snd]) e st) a0)
theorem L17_5g (KL17_5 : Env → St → Option Res) (n0 : Int) (u4 : Int) (m8z : Bool) (m8 : List T) : codeT Try.prog hint 17 0 31 [([.blk, .fst, .snd, .snd, .snd, .snd], KL17_5)] [.lp, .blk, .fst, .snd, .snd, .snd, .snd] (ctxT Try.prog hint 17 0 31 [([.blk, .fst, .snd, .snd, .snd, .snd], KL17_5)] [] (List.reverse [.lp, .blk, .fst, .snd, .snd, .snd, .snd]) (bodyOf Try.f17) (resKV Try.prog Try.f17 (hint.own 17 0))) [(0, (.t (.int .i64 n0))), (3, (.buf 8)), (4, (.t (.int .u64 u4)))] ⟨[(8, (.arr true 1 m8z m8))], []⟩ (nav (List.reverse [.lp, .blk, .fst, .snd, .snd, .snd, .snd]) (bodyOf Try.f17)) =
 needC (decide ((m8.length + 1) * (1 + 1) ≤ 70368744177664) && decide (1 ≤ 1048576)) fun _ =>
(bif (decide ((IntKind.u64.wrap (Int.tdiv u4 10)) = 0)) then
(bif (decide (n0 < 0)) then
 needC (decide ((((m8 ++ ([(.int .u8 (IntKind.u8.wrap (IntKind.u64.wrap ((48 : Int) + (Int.tmod u4 10)))))] : List T))).length + 1) * (1 + 1) ≤ 70368744177664) && decide (1 ≤ 1048576)) fun _ =>
 callK (vr 35 0 [(.buf 0)] ⟨[(0, (.arr true 1 ((m8z || true) || true) ((m8 ++ ([(.int .u8 (IntKind.u8.wrap (IntKind.u64.wrap ((48 : Int) + (Int.tmod u4 10)))))] : List T)) ++ ([(.int .u8 45)] : List T))))], []⟩) fun v_1 b_2 =>
 asTup v_1 fun l_3 =>
 endV l_3 <|
 consB 0 b_2 fun k_4 b_5 =>
 asArr 1 k_4 fun nn_6 l_7 =>
 endB b_5 <|
 needC ((1 == 1) && l_7.all isByte) fun _ =>
 some ((.t (.str ⟨(l_7.map byteT).toArray⟩)), ⟨[], []⟩)
else
 callK (vr 35 0 [(.buf 0)] ⟨[(0, (.arr true 1 (m8z || true) (m8 ++ ([(.int .u8 (IntKind.u8.wrap (IntKind.u64.wrap ((48 : Int) + (Int.tmod u4 10)))))] : List T))))], []⟩) fun v_8 b_9 =>
 asTup v_8 fun l_10 =>
 endV l_10 <|
 consB 0 b_9 fun k_11 b_12 =>
 asArr 1 k_11 fun nn_13 l_14 =>
 endB b_12 <|
 needC ((1 == 1) && l_14.all isByte) fun _ =>
 some ((.t (.str ⟨(l_14.map byteT).toArray⟩)), ⟨[], []⟩))
else
 KL17_5 [(0, (.t (.int .i64 n0))), (3, (.buf 8)), (4, (.t (.int .u64 (IntKind.u64.wrap (Int.tdiv u4 10)))))] ⟨[(8, (.arr true 1 (m8z || true) (m8 ++ ([(.int .u8 (IntKind.u8.wrap (IntKind.u64.wrap ((48 : Int) + (Int.tmod u4 10)))))] : List T))))], []⟩) := by kernel_rfl
theorem L17_5_eq (n0 : Int) (u4 : Int) (m8z : Bool) (m8 : List T) : L17_5 n0 u4 m8z m8 =
 needC (decide ((m8.length + 1) * (1 + 1) ≤ 70368744177664) && decide (1 ≤ 1048576)) fun _ =>
(bif (decide ((IntKind.u64.wrap (Int.tdiv u4 10)) = 0)) then
(bif (decide (n0 < 0)) then
 needC (decide ((((m8 ++ ([(.int .u8 (IntKind.u8.wrap (IntKind.u64.wrap ((48 : Int) + (Int.tmod u4 10)))))] : List T))).length + 1) * (1 + 1) ≤ 70368744177664) && decide (1 ≤ 1048576)) fun _ =>
 callK (vr 35 0 [(.buf 0)] ⟨[(0, (.arr true 1 ((m8z || true) || true) ((m8 ++ ([(.int .u8 (IntKind.u8.wrap (IntKind.u64.wrap ((48 : Int) + (Int.tmod u4 10)))))] : List T)) ++ ([(.int .u8 45)] : List T))))], []⟩) fun v_1 b_2 =>
 asTup v_1 fun l_3 =>
 endV l_3 <|
 consB 0 b_2 fun k_4 b_5 =>
 asArr 1 k_4 fun nn_6 l_7 =>
 endB b_5 <|
 needC ((1 == 1) && l_7.all isByte) fun _ =>
 some ((.t (.str ⟨(l_7.map byteT).toArray⟩)), ⟨[], []⟩)
else
 callK (vr 35 0 [(.buf 0)] ⟨[(0, (.arr true 1 (m8z || true) (m8 ++ ([(.int .u8 (IntKind.u8.wrap (IntKind.u64.wrap ((48 : Int) + (Int.tmod u4 10)))))] : List T))))], []⟩) fun v_8 b_9 =>
 asTup v_8 fun l_10 =>
 endV l_10 <|
 consB 0 b_9 fun k_11 b_12 =>
 asArr 1 k_11 fun nn_13 l_14 =>
 endB b_12 <|
 needC ((1 == 1) && l_14.all isByte) fun _ =>
 some ((.t (.str ⟨(l_14.map byteT).toArray⟩)), ⟨[], []⟩))
else
 L17_5 (n0) ((IntKind.u64.wrap (Int.tdiv u4 10))) ((m8z || true)) ((m8 ++ ([(.int .u8 (IntKind.u8.wrap (IntKind.u64.wrap ((48 : Int) + (Int.tmod u4 10)))))] : List T)))) :=
  (round_eq Try.prog hint (b := (nav (List.reverse [.lp, .blk, .fst, .snd, .snd, .snd, .snd]) (bodyOf Try.f17))) (fn := Try.f17) (nt := 31) (T := [([.blk, .fst, .snd, .snd, .snd, .snd], fun e st => atV Try.prog hint 17 0 Try.f17 31 (List.reverse [.blk, .fst, .snd, .snd, .snd, .snd]) e st)]) [[.blk, .fst, .snd, .snd, .snd, .snd]] rfl [.blk, .fst, .snd, .snd, .snd, .snd] [(0, (.t (.int .i64 n0))), (3, (.buf 8)), (4, (.t (.int .u64 u4)))] ⟨[(8, (.arr true 1 m8z m8))], []⟩ rfl rfl rfl).trans (L17_5g (fun e st => atV Try.prog hint 17 0 Try.f17 31 (List.reverse [.blk, .fst, .snd, .snd, .snd, .snd]) e st) n0 u4 m8z m8)
theorem eq36g (KJ36_4 : Env → St → Option Res) (a0 : Int) : codeT Try.prog hint 36 0 24 [([.snd, .snd, .snd], KJ36_4)] [] (resKV Try.prog Try.f36 (hint.own 36 0)) (nrm hint 36 0 (bodyOf Try.f36) (envV [(.t (.int .i64 a0))] 0) ⟨[], []⟩).1 (nrm hint 36 0 (bodyOf Try.f36) (envV [(.t (.int .i64 a0))] 0) ⟨[], []⟩).2 (bodyOf Try.f36) =
(bif (decide ((Int.tmod a0 10) < 0)) then
 KJ36_4 [(0, (.t (.int .i64 a0))), (3, (.t (.int .i64 (IntKind.i64.wrap (0 - (Int.tmod a0 10))))))] ⟨[], []⟩
else
 KJ36_4 [(0, (.t (.int .i64 a0))), (3, (.t (.int .i64 (Int.tmod a0 10))))] ⟨[], []⟩) := by kernel_rfl
/-- purfle/purfleref08.last -/
theorem eq36 (a0 : Int) : vr 36 0 [(.t (.int .i64 a0))] ⟨[], []⟩ =
(bif (decide ((Int.tmod a0 10) < 0)) then
 J36_4 (a0) ((IntKind.i64.wrap (0 - (Int.tmod a0 10))))
else
 J36_4 (a0) ((Int.tmod a0 10))) :=
  (call_eq Try.prog hint (fn := Try.f36) (nt := 24) (T := [([.snd, .snd, .snd], fun e st => atV Try.prog hint 36 0 Try.f36 24 (List.reverse [.snd, .snd, .snd]) e st)]) [[.snd, .snd, .snd]] rfl [(.t (.int .i64 a0))] ⟨[], []⟩ rfl rfl rfl rfl rfl).trans (eq36g (fun e st => atV Try.prog hint 36 0 Try.f36 24 (List.reverse [.snd, .snd, .snd]) e st) a0)
theorem J36_4g (KJ36_4 : Env → St → Option Res) (n0 : Int) (d3 : Int) : codeT Try.prog hint 36 0 24 [([.snd, .snd, .snd], KJ36_4)] [.snd, .snd, .snd] (ctxT Try.prog hint 36 0 24 [([.snd, .snd, .snd], KJ36_4)] [] (List.reverse [.snd, .snd, .snd]) (bodyOf Try.f36) (resKV Try.prog Try.f36 (hint.own 36 0))) [(0, (.t (.int .i64 n0))), (3, (.t (.int .i64 d3)))] ⟨[], []⟩ (nav (List.reverse [.snd, .snd, .snd]) (bodyOf Try.f36)) =
 needC (decide (0 ≤ (IntKind.i32.wrap (IntKind.i64.wrap ((48 : Int) + d3)))) && decide ((IntKind.i32.wrap (IntKind.i64.wrap ((48 : Int) + d3))) < 128)) fun _ =>
(bif (decide ((IntKind.i64.wrap (Int.tdiv n0 10)) = 0)) then
 some ((.t (.str ⟨#[((IntKind.i32.wrap (IntKind.i64.wrap ((48 : Int) + d3)))).toNat.toUInt8]⟩)), ⟨[], []⟩)
else
 callK (vr 36 0 [(.t (.int .i64 (IntKind.i64.wrap (Int.tdiv n0 10))))] ⟨[], []⟩) fun v_1 b_2 =>
 asT v_1 fun x_3 =>
 asS x_3 fun s_4 =>
 endB b_2 <|
 catC s_4 (⟨#[((IntKind.i32.wrap (IntKind.i64.wrap ((48 : Int) + d3)))).toNat.toUInt8]⟩) fun s_5 =>
 some ((.t (.str s_5)), ⟨[], []⟩)) := by kernel_rfl
theorem J36_4_eq (n0 : Int) (d3 : Int) : J36_4 n0 d3 =
 needC (decide (0 ≤ (IntKind.i32.wrap (IntKind.i64.wrap ((48 : Int) + d3)))) && decide ((IntKind.i32.wrap (IntKind.i64.wrap ((48 : Int) + d3))) < 128)) fun _ =>
(bif (decide ((IntKind.i64.wrap (Int.tdiv n0 10)) = 0)) then
 some ((.t (.str ⟨#[((IntKind.i32.wrap (IntKind.i64.wrap ((48 : Int) + d3)))).toNat.toUInt8]⟩)), ⟨[], []⟩)
else
 callK (vr 36 0 [(.t (.int .i64 (IntKind.i64.wrap (Int.tdiv n0 10))))] ⟨[], []⟩) fun v_1 b_2 =>
 asT v_1 fun x_3 =>
 asS x_3 fun s_4 =>
 endB b_2 <|
 catC s_4 (⟨#[((IntKind.i32.wrap (IntKind.i64.wrap ((48 : Int) + d3)))).toNat.toUInt8]⟩) fun s_5 =>
 some ((.t (.str s_5)), ⟨[], []⟩)) :=
  (join_eq Try.prog hint (fn := Try.f36) (nt := 24) (T := [([.snd, .snd, .snd], fun e st => atV Try.prog hint 36 0 Try.f36 24 (List.reverse [.snd, .snd, .snd]) e st)]) [[.snd, .snd, .snd]] rfl [.snd, .snd, .snd] [(0, (.t (.int .i64 n0))), (3, (.t (.int .i64 d3)))] ⟨[], []⟩ rfl).trans (J36_4g (fun e st => atV Try.prog hint 36 0 Try.f36 24 (List.reverse [.snd, .snd, .snd]) e st) n0 d3)
theorem eq20g  (a0 : Int) : codeT Try.prog hint 20 0 10 [] [] (resKV Try.prog Try.f20 (hint.own 20 0)) (nrm hint 20 0 (bodyOf Try.f20) (envV [(.t (.int .i64 a0))] 0) ⟨[], []⟩).1 (nrm hint 20 0 (bodyOf Try.f20) (envV [(.t (.int .i64 a0))] 0) ⟨[], []⟩).2 (bodyOf Try.f20) =
(bif (decide (a0 < 0)) then
 callK (vr 36 0 [(.t (.int .i64 a0))] ⟨[], []⟩) fun v_1 b_2 =>
 asT v_1 fun x_3 =>
 asS x_3 fun s_4 =>
 endB b_2 <|
 catC (⟨#[45]⟩) s_4 fun s_5 =>
 some ((.t (.str s_5)), ⟨[], []⟩)
else
 callK (vr 36 0 [(.t (.int .i64 a0))] ⟨[], []⟩) fun v_6 b_7 =>
 asT v_6 fun x_8 =>
 asS x_8 fun s_9 =>
 endB b_7 <|
 some ((.t (.str s_9)), ⟨[], []⟩)) := by kernel_rfl
/-- purfle/purfleref08.Digits -/
theorem eq20 (a0 : Int) : vr 20 0 [(.t (.int .i64 a0))] ⟨[], []⟩ =
(bif (decide (a0 < 0)) then
 callK (vr 36 0 [(.t (.int .i64 a0))] ⟨[], []⟩) fun v_1 b_2 =>
 asT v_1 fun x_3 =>
 asS x_3 fun s_4 =>
 endB b_2 <|
 catC (⟨#[45]⟩) s_4 fun s_5 =>
 some ((.t (.str s_5)), ⟨[], []⟩)
else
 callK (vr 36 0 [(.t (.int .i64 a0))] ⟨[], []⟩) fun v_6 b_7 =>
 asT v_6 fun x_8 =>
 asS x_8 fun s_9 =>
 endB b_7 <|
 some ((.t (.str s_9)), ⟨[], []⟩)) :=
  (call_eq Try.prog hint (fn := Try.f20) (nt := 10) (T := []) [] rfl [(.t (.int .i64 a0))] ⟨[], []⟩ rfl rfl rfl rfl rfl).trans (eq20g  a0)
theorem eq6g  (a0 : ByteArray) (a1 : Int) : codeT Try.prog hint 6 0 78 [] [] (resKV Try.prog Try.f6 (hint.own 6 0)) (nrm hint 6 0 (bodyOf Try.f6) (envV [(.t (.str a0)), (.t (.int .i64 a1))] 0) ⟨[], []⟩).1 (nrm hint 6 0 (bodyOf Try.f6) (envV [(.t (.str a0)), (.t (.int .i64 a1))] 0) ⟨[], []⟩).2 (bodyOf Try.f6) =
 callK (vr 11 0 [] ⟨[], []⟩) fun v_1 b_2 =>
 asT v_1 fun x_3 =>
 asB x_3 fun b_4 =>
 endB b_2 <|
(bif (decide (1000 < (a0.size : Int))) then
 some ((.t (.bool b_4)), ⟨[], []⟩)
else
 callK (vr 15 0 [(.t (.str a0))] ⟨[], []⟩) fun v_5 b_6 =>
 asTup v_5 fun l_7 =>
 consV l_7 fun v_8 l_9 =>
 asT v_8 fun x_10 =>
 asI .i64 x_10 fun x_11 =>
 consV l_9 fun v_12 l_13 =>
 asT v_12 fun x_14 =>
 asB x_14 fun b_15 =>
 endV l_13 <|
 endB b_6 <|
 callK (vr 16 0 [(.t (.str a0))] ⟨[], []⟩) fun v_16 b_17 =>
 asTup v_16 fun l_18 =>
 consV l_18 fun v_19 l_20 =>
 asT v_19 fun x_21 =>
 asI .i64 x_21 fun x_22 =>
 consV l_20 fun v_23 l_24 =>
 asT v_23 fun x_25 =>
 asB x_25 fun b_26 =>
 endV l_24 <|
 endB b_17 <|
 callK (vr 17 0 [(.t (.int .i64 a1))] ⟨[], []⟩) fun v_27 b_28 =>
 asT v_27 fun x_29 =>
 asS x_29 fun s_30 =>
 endB b_28 <|
 callK (vr 15 0 [(.t (.str s_30))] ⟨[], []⟩) fun v_31 b_32 =>
 asTup v_31 fun l_33 =>
 consV l_33 fun v_34 l_35 =>
 asT v_34 fun x_36 =>
 asI .i64 x_36 fun x_37 =>
 consV l_35 fun v_38 l_39 =>
 asT v_38 fun x_40 =>
 asB x_40 fun b_41 =>
 endV l_39 <|
 endB b_32 <|
(bif b_4 then
 callK (vr 18 0 [(.t (.str a0))] ⟨[], []⟩) fun v_42 b_43 =>
 asT v_42 fun x_44 =>
 asB x_44 fun b_45 =>
 endB b_43 <|
 callK (vr 19 0 [(.t (.str a0))] ⟨[], []⟩) fun v_46 b_47 =>
 asT v_46 fun x_48 =>
 asB x_48 fun b_49 =>
 endB b_47 <|
(bif (b_45 == b_49) then
(bif (decide (x_11 = x_22)) then
(bif (b_15 == b_26) then
 callK (vr 20 0 [(.t (.int .i64 a1))] ⟨[], []⟩) fun v_50 b_51 =>
 asT v_50 fun x_52 =>
 asS x_52 fun s_53 =>
 endB b_51 <|
(bif (decide ((s_30 : ByteArray) = s_53)) then
(bif (decide (0 ≤ a1)) then
(bif (b_41 == (decide (a1 < 1000000000000000000))) then
(bif (!b_41) then
 some ((.t (.bool true)), ⟨[], []⟩)
else
 some ((.t (.bool (decide (x_37 = a1)))), ⟨[], []⟩))
else
 some ((.t (.bool false)), ⟨[], []⟩))
else
(bif (b_41 == false) then
(bif (!b_41) then
 some ((.t (.bool true)), ⟨[], []⟩)
else
 some ((.t (.bool (decide (x_37 = a1)))), ⟨[], []⟩))
else
 some ((.t (.bool false)), ⟨[], []⟩)))
else
 some ((.t (.bool false)), ⟨[], []⟩))
else
 some ((.t (.bool false)), ⟨[], []⟩))
else
 some ((.t (.bool false)), ⟨[], []⟩))
else
 some ((.t (.bool false)), ⟨[], []⟩))
else
 some ((.t (.bool false)), ⟨[], []⟩))) := by kernel_rfl
/-- purfle/purflelaw08.LexerWords -/
theorem eq6 (a0 : ByteArray) (a1 : Int) : vr 6 0 [(.t (.str a0)), (.t (.int .i64 a1))] ⟨[], []⟩ =
 callK (vr 11 0 [] ⟨[], []⟩) fun v_1 b_2 =>
 asT v_1 fun x_3 =>
 asB x_3 fun b_4 =>
 endB b_2 <|
(bif (decide (1000 < (a0.size : Int))) then
 some ((.t (.bool b_4)), ⟨[], []⟩)
else
 callK (vr 15 0 [(.t (.str a0))] ⟨[], []⟩) fun v_5 b_6 =>
 asTup v_5 fun l_7 =>
 consV l_7 fun v_8 l_9 =>
 asT v_8 fun x_10 =>
 asI .i64 x_10 fun x_11 =>
 consV l_9 fun v_12 l_13 =>
 asT v_12 fun x_14 =>
 asB x_14 fun b_15 =>
 endV l_13 <|
 endB b_6 <|
 callK (vr 16 0 [(.t (.str a0))] ⟨[], []⟩) fun v_16 b_17 =>
 asTup v_16 fun l_18 =>
 consV l_18 fun v_19 l_20 =>
 asT v_19 fun x_21 =>
 asI .i64 x_21 fun x_22 =>
 consV l_20 fun v_23 l_24 =>
 asT v_23 fun x_25 =>
 asB x_25 fun b_26 =>
 endV l_24 <|
 endB b_17 <|
 callK (vr 17 0 [(.t (.int .i64 a1))] ⟨[], []⟩) fun v_27 b_28 =>
 asT v_27 fun x_29 =>
 asS x_29 fun s_30 =>
 endB b_28 <|
 callK (vr 15 0 [(.t (.str s_30))] ⟨[], []⟩) fun v_31 b_32 =>
 asTup v_31 fun l_33 =>
 consV l_33 fun v_34 l_35 =>
 asT v_34 fun x_36 =>
 asI .i64 x_36 fun x_37 =>
 consV l_35 fun v_38 l_39 =>
 asT v_38 fun x_40 =>
 asB x_40 fun b_41 =>
 endV l_39 <|
 endB b_32 <|
(bif b_4 then
 callK (vr 18 0 [(.t (.str a0))] ⟨[], []⟩) fun v_42 b_43 =>
 asT v_42 fun x_44 =>
 asB x_44 fun b_45 =>
 endB b_43 <|
 callK (vr 19 0 [(.t (.str a0))] ⟨[], []⟩) fun v_46 b_47 =>
 asT v_46 fun x_48 =>
 asB x_48 fun b_49 =>
 endB b_47 <|
(bif (b_45 == b_49) then
(bif (decide (x_11 = x_22)) then
(bif (b_15 == b_26) then
 callK (vr 20 0 [(.t (.int .i64 a1))] ⟨[], []⟩) fun v_50 b_51 =>
 asT v_50 fun x_52 =>
 asS x_52 fun s_53 =>
 endB b_51 <|
(bif (decide ((s_30 : ByteArray) = s_53)) then
(bif (decide (0 ≤ a1)) then
(bif (b_41 == (decide (a1 < 1000000000000000000))) then
(bif (!b_41) then
 some ((.t (.bool true)), ⟨[], []⟩)
else
 some ((.t (.bool (decide (x_37 = a1)))), ⟨[], []⟩))
else
 some ((.t (.bool false)), ⟨[], []⟩))
else
(bif (b_41 == false) then
(bif (!b_41) then
 some ((.t (.bool true)), ⟨[], []⟩)
else
 some ((.t (.bool (decide (x_37 = a1)))), ⟨[], []⟩))
else
 some ((.t (.bool false)), ⟨[], []⟩)))
else
 some ((.t (.bool false)), ⟨[], []⟩))
else
 some ((.t (.bool false)), ⟨[], []⟩))
else
 some ((.t (.bool false)), ⟨[], []⟩))
else
 some ((.t (.bool false)), ⟨[], []⟩))
else
 some ((.t (.bool false)), ⟨[], []⟩))) :=
  (call_eq Try.prog hint (fn := Try.f6) (nt := 78) (T := []) [] rfl [(.t (.str a0)), (.t (.int .i64 a1))] ⟨[], []⟩ rfl rfl rfl rfl rfl).trans (eq6g  a0 a1)
theorem eq7g  (a0 : Int) (a1 : Int) : codeT Try.prog hint 7 0 126 [] [] (resKV Try.prog Try.f7 (hint.own 7 0)) (nrm hint 7 0 (bodyOf Try.f7) (envV [(.t (.int .i64 a0)), (.t (.int .i64 a1))] 0) ⟨[], []⟩).1 (nrm hint 7 0 (bodyOf Try.f7) (envV [(.t (.int .i64 a0)), (.t (.int .i64 a1))] 0) ⟨[], []⟩).2 (bodyOf Try.f7) =
 callK (vr 11 0 [] ⟨[], []⟩) fun v_1 b_2 =>
 asT v_1 fun x_3 =>
 asB x_3 fun b_4 =>
 endB b_2 <|
 callK (vr 17 0 [(.t (.int .i64 a0))] ⟨[], []⟩) fun v_5 b_6 =>
 asT v_5 fun x_7 =>
 asS x_7 fun s_8 =>
 endB b_6 <|
 callK (vr 17 0 [(.t (.int .i64 a1))] ⟨[], []⟩) fun v_9 b_10 =>
 asT v_9 fun x_11 =>
 asS x_11 fun s_12 =>
 endB b_10 <|
 callK (vr 12 0 [(.t (.str s_8))] ⟨[], []⟩) fun v_13 b_14 =>
 asTup v_13 fun l_15 =>
 consV l_15 fun v_16 l_17 =>
 asT v_16 fun x_18 =>
 asL 3 x_18 fun nn_19 l_20 =>
 consV l_17 fun v_21 l_22 =>
 asT v_21 fun x_23 =>
 asI .i64 x_23 fun x_24 =>
 consV l_22 fun v_25 l_26 =>
 asT v_25 fun x_27 =>
 asI .i64 x_27 fun x_28 =>
 endV l_26 <|
 endB b_14 <|
(bif (decide (a0 < 0)) then
(bif (decide ((-1000000000000000000) < a0)) then
(bif b_4 then
(bif (decide (x_28 = 0)) then
(bif (decide ((l_20.length : Int) = 2)) then
 needC (decide (0 ≤ 0)) fun _ =>
 getT l_20 ((0 : Int)).toNat fun e_29 =>
 asA e_29 fun l_30 =>
 consT l_30 fun v_31 l_32 =>
 asI .i64 v_31 fun x_33 =>
 consT l_32 fun v_34 l_35 =>
 asS v_34 fun s_36 =>
 consT l_35 fun v_37 l_38 =>
 asI .i64 v_37 fun x_39 =>
 endT l_38 <|
(bif (decide ((s_36 : ByteArray) = ⟨#[45]⟩)) then
 needC (decide (0 ≤ 1)) fun _ =>
 getT l_20 ((1 : Int)).toNat fun e_40 =>
 asA e_40 fun l_41 =>
 consT l_41 fun v_42 l_43 =>
 asI .i64 v_42 fun x_44 =>
 consT l_43 fun v_45 l_46 =>
 asS v_45 fun s_47 =>
 consT l_46 fun v_48 l_49 =>
 asI .i64 v_48 fun x_50 =>
 endT l_49 <|
 some ((.t (.bool (decide (x_50 = (IntKind.i64.wrap (0 - a0)))))), ⟨[], []⟩)
else
 some ((.t (.bool false)), ⟨[], []⟩))
else
 some ((.t (.bool false)), ⟨[], []⟩))
else
 some ((.t (.bool false)), ⟨[], []⟩))
else
 some ((.t (.bool false)), ⟨[], []⟩))
else
(bif b_4 then
 some ((.t (.bool (decide (x_28 = 6)))), ⟨[], []⟩)
else
 some ((.t (.bool false)), ⟨[], []⟩)))
else
(bif (decide (1000000000000000000 ≤ a0)) then
(bif b_4 then
 some ((.t (.bool (decide (x_28 = 6)))), ⟨[], []⟩)
else
 some ((.t (.bool false)), ⟨[], []⟩))
else
(bif (!decide (x_28 = 0)) then
 some ((.t (.bool false)), ⟨[], []⟩)
else
(bif (!decide ((l_20.length : Int) = 1)) then
 some ((.t (.bool false)), ⟨[], []⟩)
else
 needC (decide (0 ≤ 0)) fun _ =>
 getT l_20 ((0 : Int)).toNat fun e_51 =>
 asA e_51 fun l_52 =>
 consT l_52 fun v_53 l_54 =>
 asI .i64 v_53 fun x_55 =>
 consT l_54 fun v_56 l_57 =>
 asS v_56 fun s_58 =>
 consT l_57 fun v_59 l_60 =>
 asI .i64 v_59 fun x_61 =>
 endT l_60 <|
(bif (!(decide (x_55 = 2) && (decide ((s_58 : ByteArray) = s_8) && (decide (x_61 = a0) && true)))) then
 some ((.t (.bool false)), ⟨[], []⟩)
else
(bif (decide (a1 < 0)) then
 some ((.t (.bool b_4)), ⟨[], []⟩)
else
(bif (decide (a0 = 0)) then
 some ((.t (.bool b_4)), ⟨[], []⟩)
else
(bif (decide (18 < (IntKind.i64.wrap ((s_8.size : Int) + (s_12.size : Int))))) then
 some ((.t (.bool b_4)), ⟨[], []⟩)
else
 catC s_8 s_12 fun s_62 =>
 callK (vr 12 0 [(.t (.str s_62))] ⟨[], []⟩) fun v_63 b_64 =>
 asTup v_63 fun l_65 =>
 consV l_65 fun v_66 l_67 =>
 asT v_66 fun x_68 =>
 asL 3 x_68 fun nn_69 l_70 =>
 consV l_67 fun v_71 l_72 =>
 asT v_71 fun x_73 =>
 asI .i64 x_73 fun x_74 =>
 consV l_72 fun v_75 l_76 =>
 asT v_75 fun x_77 =>
 asI .i64 x_77 fun x_78 =>
 endV l_76 <|
 endB b_64 <|
(bif b_4 then
(bif (decide (x_78 = 0)) then
(bif (decide ((l_70.length : Int) = 1)) then
 needC (decide (0 ≤ 0)) fun _ =>
 getT l_70 ((0 : Int)).toNat fun e_79 =>
 asA e_79 fun l_80 =>
 consT l_80 fun v_81 l_82 =>
 asI .i64 v_81 fun x_83 =>
 consT l_82 fun v_84 l_85 =>
 asS v_84 fun s_86 =>
 consT l_85 fun v_87 l_88 =>
 asI .i64 v_87 fun x_89 =>
 endT l_88 <|
 catC s_8 s_12 fun s_90 =>
 some ((.t (.bool (decide ((s_86 : ByteArray) = s_90)))), ⟨[], []⟩)
else
 some ((.t (.bool false)), ⟨[], []⟩))
else
 some ((.t (.bool false)), ⟨[], []⟩))
else
 some ((.t (.bool false)), ⟨[], []⟩)))))))))) := by kernel_rfl
/-- purfle/purflelaw08.LexerNumbers -/
theorem eq7 (a0 : Int) (a1 : Int) : vr 7 0 [(.t (.int .i64 a0)), (.t (.int .i64 a1))] ⟨[], []⟩ =
 callK (vr 11 0 [] ⟨[], []⟩) fun v_1 b_2 =>
 asT v_1 fun x_3 =>
 asB x_3 fun b_4 =>
 endB b_2 <|
 callK (vr 17 0 [(.t (.int .i64 a0))] ⟨[], []⟩) fun v_5 b_6 =>
 asT v_5 fun x_7 =>
 asS x_7 fun s_8 =>
 endB b_6 <|
 callK (vr 17 0 [(.t (.int .i64 a1))] ⟨[], []⟩) fun v_9 b_10 =>
 asT v_9 fun x_11 =>
 asS x_11 fun s_12 =>
 endB b_10 <|
 callK (vr 12 0 [(.t (.str s_8))] ⟨[], []⟩) fun v_13 b_14 =>
 asTup v_13 fun l_15 =>
 consV l_15 fun v_16 l_17 =>
 asT v_16 fun x_18 =>
 asL 3 x_18 fun nn_19 l_20 =>
 consV l_17 fun v_21 l_22 =>
 asT v_21 fun x_23 =>
 asI .i64 x_23 fun x_24 =>
 consV l_22 fun v_25 l_26 =>
 asT v_25 fun x_27 =>
 asI .i64 x_27 fun x_28 =>
 endV l_26 <|
 endB b_14 <|
(bif (decide (a0 < 0)) then
(bif (decide ((-1000000000000000000) < a0)) then
(bif b_4 then
(bif (decide (x_28 = 0)) then
(bif (decide ((l_20.length : Int) = 2)) then
 needC (decide (0 ≤ 0)) fun _ =>
 getT l_20 ((0 : Int)).toNat fun e_29 =>
 asA e_29 fun l_30 =>
 consT l_30 fun v_31 l_32 =>
 asI .i64 v_31 fun x_33 =>
 consT l_32 fun v_34 l_35 =>
 asS v_34 fun s_36 =>
 consT l_35 fun v_37 l_38 =>
 asI .i64 v_37 fun x_39 =>
 endT l_38 <|
(bif (decide ((s_36 : ByteArray) = ⟨#[45]⟩)) then
 needC (decide (0 ≤ 1)) fun _ =>
 getT l_20 ((1 : Int)).toNat fun e_40 =>
 asA e_40 fun l_41 =>
 consT l_41 fun v_42 l_43 =>
 asI .i64 v_42 fun x_44 =>
 consT l_43 fun v_45 l_46 =>
 asS v_45 fun s_47 =>
 consT l_46 fun v_48 l_49 =>
 asI .i64 v_48 fun x_50 =>
 endT l_49 <|
 some ((.t (.bool (decide (x_50 = (IntKind.i64.wrap (0 - a0)))))), ⟨[], []⟩)
else
 some ((.t (.bool false)), ⟨[], []⟩))
else
 some ((.t (.bool false)), ⟨[], []⟩))
else
 some ((.t (.bool false)), ⟨[], []⟩))
else
 some ((.t (.bool false)), ⟨[], []⟩))
else
(bif b_4 then
 some ((.t (.bool (decide (x_28 = 6)))), ⟨[], []⟩)
else
 some ((.t (.bool false)), ⟨[], []⟩)))
else
(bif (decide (1000000000000000000 ≤ a0)) then
(bif b_4 then
 some ((.t (.bool (decide (x_28 = 6)))), ⟨[], []⟩)
else
 some ((.t (.bool false)), ⟨[], []⟩))
else
(bif (!decide (x_28 = 0)) then
 some ((.t (.bool false)), ⟨[], []⟩)
else
(bif (!decide ((l_20.length : Int) = 1)) then
 some ((.t (.bool false)), ⟨[], []⟩)
else
 needC (decide (0 ≤ 0)) fun _ =>
 getT l_20 ((0 : Int)).toNat fun e_51 =>
 asA e_51 fun l_52 =>
 consT l_52 fun v_53 l_54 =>
 asI .i64 v_53 fun x_55 =>
 consT l_54 fun v_56 l_57 =>
 asS v_56 fun s_58 =>
 consT l_57 fun v_59 l_60 =>
 asI .i64 v_59 fun x_61 =>
 endT l_60 <|
(bif (!(decide (x_55 = 2) && (decide ((s_58 : ByteArray) = s_8) && (decide (x_61 = a0) && true)))) then
 some ((.t (.bool false)), ⟨[], []⟩)
else
(bif (decide (a1 < 0)) then
 some ((.t (.bool b_4)), ⟨[], []⟩)
else
(bif (decide (a0 = 0)) then
 some ((.t (.bool b_4)), ⟨[], []⟩)
else
(bif (decide (18 < (IntKind.i64.wrap ((s_8.size : Int) + (s_12.size : Int))))) then
 some ((.t (.bool b_4)), ⟨[], []⟩)
else
 catC s_8 s_12 fun s_62 =>
 callK (vr 12 0 [(.t (.str s_62))] ⟨[], []⟩) fun v_63 b_64 =>
 asTup v_63 fun l_65 =>
 consV l_65 fun v_66 l_67 =>
 asT v_66 fun x_68 =>
 asL 3 x_68 fun nn_69 l_70 =>
 consV l_67 fun v_71 l_72 =>
 asT v_71 fun x_73 =>
 asI .i64 x_73 fun x_74 =>
 consV l_72 fun v_75 l_76 =>
 asT v_75 fun x_77 =>
 asI .i64 x_77 fun x_78 =>
 endV l_76 <|
 endB b_64 <|
(bif b_4 then
(bif (decide (x_78 = 0)) then
(bif (decide ((l_70.length : Int) = 1)) then
 needC (decide (0 ≤ 0)) fun _ =>
 getT l_70 ((0 : Int)).toNat fun e_79 =>
 asA e_79 fun l_80 =>
 consT l_80 fun v_81 l_82 =>
 asI .i64 v_81 fun x_83 =>
 consT l_82 fun v_84 l_85 =>
 asS v_84 fun s_86 =>
 consT l_85 fun v_87 l_88 =>
 asI .i64 v_87 fun x_89 =>
 endT l_88 <|
 catC s_8 s_12 fun s_90 =>
 some ((.t (.bool (decide ((s_86 : ByteArray) = s_90)))), ⟨[], []⟩)
else
 some ((.t (.bool false)), ⟨[], []⟩))
else
 some ((.t (.bool false)), ⟨[], []⟩))
else
 some ((.t (.bool false)), ⟨[], []⟩)))))))))) :=
  (call_eq Try.prog hint (fn := Try.f7) (nt := 126) (T := []) [] rfl [(.t (.int .i64 a0)), (.t (.int .i64 a1))] ⟨[], []⟩ rfl rfl rfl rfl rfl).trans (eq7g  a0 a1)
theorem eq21g (KL21_2 : Env → St → Option Res) (a0z : Bool) (a0 : List T) : codeT Try.prog hint 21 0 19 [([.blk, .snd, .fst, .snd], KL21_2)] [] (resKV Try.prog Try.f21 (hint.own 21 0)) (nrm hint 21 0 (bodyOf Try.f21) (envV [(.t (.list 3 a0z a0))] 0) ⟨[], []⟩).1 (nrm hint 21 0 (bodyOf Try.f21) (envV [(.t (.list 3 a0z a0))] 0) ⟨[], []⟩).2 (bodyOf Try.f21) =
 KL21_2 [(0, (.t (.list 3 a0z a0))), (5, (.t (.list 3 a0z a0))), (6, (.t (.int .i64 (a0.length : Int)))), (7, (.t (.int .i64 0)))] ⟨[], []⟩ := by kernel_rfl
/-- purfle/purflelaw08.few -/
theorem eq21 (a0z : Bool) (a0 : List T) : vr 21 0 [(.t (.list 3 a0z a0))] ⟨[], []⟩ =
 L21_2 (a0z) (a0) (a0z) (a0) ((a0.length : Int)) (0) :=
  (call_eq Try.prog hint (fn := Try.f21) (nt := 19) (T := [([.blk, .snd, .fst, .snd], fun e st => atV Try.prog hint 21 0 Try.f21 19 (List.reverse [.blk, .snd, .fst, .snd]) e st)]) [[.blk, .snd, .fst, .snd]] rfl [(.t (.list 3 a0z a0))] ⟨[], []⟩ rfl rfl rfl rfl rfl).trans (eq21g (fun e st => atV Try.prog hint 21 0 Try.f21 19 (List.reverse [.blk, .snd, .fst, .snd]) e st) a0z a0)
theorem L21_2g (KL21_2 : Env → St → Option Res) (l0z : Bool) (l0 : List T) (t5z : Bool) (t5 : List T) (t6 : Int) (t7 : Int) : codeT Try.prog hint 21 0 19 [([.blk, .snd, .fst, .snd], KL21_2)] [.lp, .blk, .snd, .fst, .snd] (ctxT Try.prog hint 21 0 19 [([.blk, .snd, .fst, .snd], KL21_2)] [] (List.reverse [.lp, .blk, .snd, .fst, .snd]) (bodyOf Try.f21) (resKV Try.prog Try.f21 (hint.own 21 0))) [(0, (.t (.list 3 l0z l0))), (5, (.t (.list 3 t5z t5))), (6, (.t (.int .i64 t6))), (7, (.t (.int .i64 t7)))] ⟨[], []⟩ (nav (List.reverse [.lp, .blk, .snd, .fst, .snd]) (bodyOf Try.f21)) =
(bif (decide (t7 < t6)) then
 needC (decide (0 ≤ t7)) fun _ =>
 getT t5 (t7).toNat fun e_1 =>
 asA e_1 fun l_2 =>
 consT l_2 fun v_3 l_4 =>
 asI .i64 v_3 fun x_5 =>
 consT l_4 fun v_6 l_7 =>
 asS v_6 fun s_8 =>
 consT l_7 fun v_9 l_10 =>
 asI .i64 v_9 fun x_11 =>
 endT l_10 <|
(bif (decide (1000 < (s_8.size : Int))) then
 some ((.t (.bool false)), ⟨[], []⟩)
else
 KL21_2 [(0, (.t (.list 3 l0z l0))), (5, (.t (.list 3 t5z t5))), (6, (.t (.int .i64 t6))), (7, (.t (.int .i64 (IntKind.i64.wrap (t7 + 1)))))] ⟨[], []⟩)
else
 some ((.t (.bool (decide ((l0.length : Int) ≤ 5000)))), ⟨[], []⟩)) := by kernel_rfl
theorem L21_2_eq (l0z : Bool) (l0 : List T) (t5z : Bool) (t5 : List T) (t6 : Int) (t7 : Int) : L21_2 l0z l0 t5z t5 t6 t7 =
(bif (decide (t7 < t6)) then
 needC (decide (0 ≤ t7)) fun _ =>
 getT t5 (t7).toNat fun e_1 =>
 asA e_1 fun l_2 =>
 consT l_2 fun v_3 l_4 =>
 asI .i64 v_3 fun x_5 =>
 consT l_4 fun v_6 l_7 =>
 asS v_6 fun s_8 =>
 consT l_7 fun v_9 l_10 =>
 asI .i64 v_9 fun x_11 =>
 endT l_10 <|
(bif (decide (1000 < (s_8.size : Int))) then
 some ((.t (.bool false)), ⟨[], []⟩)
else
 L21_2 (l0z) (l0) (t5z) (t5) (t6) ((IntKind.i64.wrap (t7 + 1))))
else
 some ((.t (.bool (decide ((l0.length : Int) ≤ 5000)))), ⟨[], []⟩)) :=
  (round_eq Try.prog hint (b := (nav (List.reverse [.lp, .blk, .snd, .fst, .snd]) (bodyOf Try.f21))) (fn := Try.f21) (nt := 19) (T := [([.blk, .snd, .fst, .snd], fun e st => atV Try.prog hint 21 0 Try.f21 19 (List.reverse [.blk, .snd, .fst, .snd]) e st)]) [[.blk, .snd, .fst, .snd]] rfl [.blk, .snd, .fst, .snd] [(0, (.t (.list 3 l0z l0))), (5, (.t (.list 3 t5z t5))), (6, (.t (.int .i64 t6))), (7, (.t (.int .i64 t7)))] ⟨[], []⟩ rfl rfl rfl).trans (L21_2g (fun e st => atV Try.prog hint 21 0 Try.f21 19 (List.reverse [.blk, .snd, .fst, .snd]) e st) l0z l0 t5z t5 t6 t7)
theorem eq38g  (a0_0 : Int) (a0_1 : ByteArray) (a0_2 : Int) : codeT Try.prog hint 38 0 6 [] [] (resKV Try.prog Try.f38 (hint.own 38 0)) (nrm hint 38 0 (bodyOf Try.f38) (envV [(.t (.agg [(.int .i64 a0_0), (.str a0_1), (.int .i64 a0_2)]))] 0) ⟨[], []⟩).1 (nrm hint 38 0 (bodyOf Try.f38) (envV [(.t (.agg [(.int .i64 a0_0), (.str a0_1), (.int .i64 a0_2)]))] 0) ⟨[], []⟩).2 (bodyOf Try.f38) =
 some ((.t (.bool (decide (a0_0 = 4)))), ⟨[], []⟩) := by kernel_rfl
/-- purfle/lexer.Lines$1 -/
theorem eq38 (a0_0 : Int) (a0_1 : ByteArray) (a0_2 : Int) : vr 38 0 [(.t (.agg [(.int .i64 a0_0), (.str a0_1), (.int .i64 a0_2)]))] ⟨[], []⟩ =
 some ((.t (.bool (decide (a0_0 = 4)))), ⟨[], []⟩) :=
  (call_eq Try.prog hint (fn := Try.f38) (nt := 6) (T := []) [] rfl [(.t (.agg [(.int .i64 a0_0), (.str a0_1), (.int .i64 a0_2)]))] ⟨[], []⟩ rfl rfl rfl rfl rfl).trans (eq38g  a0_0 a0_1 a0_2)
theorem eq37g (KL37_2 : Env → St → Option Res) (a0z : Bool) (a0 : List T) : codeT Try.prog hint 37 0 19 [([.blk, .snd, .fst, .snd], KL37_2)] [] (resKV Try.prog Try.f37 (hint.own 37 0)) (nrm hint 37 0 (bodyOf Try.f37) (envV [(.t (.list 3 a0z a0)), (.fn 38 [] [])] 0) ⟨[], []⟩).1 (nrm hint 37 0 (bodyOf Try.f37) (envV [(.t (.list 3 a0z a0)), (.fn 38 [] [])] 0) ⟨[], []⟩).2 (bodyOf Try.f37) =
 KL37_2 [(0, (.t (.list 3 a0z a0))), (1, (.fn 38 [] [])), (7, (.t (.int .i64 (a0.length : Int)))), (8, (.t (.int .i64 0)))] ⟨[], []⟩ := by kernel_rfl
/-- slices.IndexFunc[[]purfle/api.Token,purfle/api.Token] -/
theorem eq37 (a0z : Bool) (a0 : List T) : vr 37 0 [(.t (.list 3 a0z a0)), (.fn 38 [] [])] ⟨[], []⟩ =
 L37_2 (a0z) (a0) ((a0.length : Int)) (0) :=
  (call_eq Try.prog hint (fn := Try.f37) (nt := 19) (T := [([.blk, .snd, .fst, .snd], fun e st => atV Try.prog hint 37 0 Try.f37 19 (List.reverse [.blk, .snd, .fst, .snd]) e st)]) [[.blk, .snd, .fst, .snd]] rfl [(.t (.list 3 a0z a0)), (.fn 38 [] [])] ⟨[], []⟩ rfl rfl rfl rfl rfl).trans (eq37g (fun e st => atV Try.prog hint 37 0 Try.f37 19 (List.reverse [.blk, .snd, .fst, .snd]) e st) a0z a0)
theorem L37_2g (KL37_2 : Env → St → Option Res) (s0z : Bool) (s0 : List T) (t7 : Int) (t8 : Int) : codeT Try.prog hint 37 0 19 [([.blk, .snd, .fst, .snd], KL37_2)] [.lp, .blk, .snd, .fst, .snd] (ctxT Try.prog hint 37 0 19 [([.blk, .snd, .fst, .snd], KL37_2)] [] (List.reverse [.lp, .blk, .snd, .fst, .snd]) (bodyOf Try.f37) (resKV Try.prog Try.f37 (hint.own 37 0))) [(0, (.t (.list 3 s0z s0))), (1, (.fn 38 [] [])), (7, (.t (.int .i64 t7))), (8, (.t (.int .i64 t8)))] ⟨[], []⟩ (nav (List.reverse [.lp, .blk, .snd, .fst, .snd]) (bodyOf Try.f37)) =
(bif (decide (t8 < t7)) then
 needC (decide (0 ≤ t8)) fun _ =>
 getT s0 (t8).toNat fun e_1 =>
 asA e_1 fun l_2 =>
 consT l_2 fun v_3 l_4 =>
 asI .i64 v_3 fun x_5 =>
 consT l_4 fun v_6 l_7 =>
 asS v_6 fun s_8 =>
 consT l_7 fun v_9 l_10 =>
 asI .i64 v_9 fun x_11 =>
 endT l_10 <|
 callK (vr 38 0 [(.t (.agg [(.int .i64 x_5), (.str s_8), (.int .i64 x_11)]))] ⟨[], []⟩) fun v_12 b_13 =>
 asT v_12 fun x_14 =>
 asB x_14 fun b_15 =>
 endB b_13 <|
(bif b_15 then
 some ((.t (.int .i64 t8)), ⟨[], []⟩)
else
 KL37_2 [(0, (.t (.list 3 s0z s0))), (1, (.fn 38 [] [])), (7, (.t (.int .i64 t7))), (8, (.t (.int .i64 (IntKind.i64.wrap (t8 + 1)))))] ⟨[], []⟩)
else
 some ((.t (.int .i64 (-1))), ⟨[], []⟩)) := by kernel_rfl
theorem L37_2_eq (s0z : Bool) (s0 : List T) (t7 : Int) (t8 : Int) : L37_2 s0z s0 t7 t8 =
(bif (decide (t8 < t7)) then
 needC (decide (0 ≤ t8)) fun _ =>
 getT s0 (t8).toNat fun e_1 =>
 asA e_1 fun l_2 =>
 consT l_2 fun v_3 l_4 =>
 asI .i64 v_3 fun x_5 =>
 consT l_4 fun v_6 l_7 =>
 asS v_6 fun s_8 =>
 consT l_7 fun v_9 l_10 =>
 asI .i64 v_9 fun x_11 =>
 endT l_10 <|
 callK (vr 38 0 [(.t (.agg [(.int .i64 x_5), (.str s_8), (.int .i64 x_11)]))] ⟨[], []⟩) fun v_12 b_13 =>
 asT v_12 fun x_14 =>
 asB x_14 fun b_15 =>
 endB b_13 <|
(bif b_15 then
 some ((.t (.int .i64 t8)), ⟨[], []⟩)
else
 L37_2 (s0z) (s0) (t7) ((IntKind.i64.wrap (t8 + 1))))
else
 some ((.t (.int .i64 (-1))), ⟨[], []⟩)) :=
  (round_eq Try.prog hint (b := (nav (List.reverse [.lp, .blk, .snd, .fst, .snd]) (bodyOf Try.f37))) (fn := Try.f37) (nt := 19) (T := [([.blk, .snd, .fst, .snd], fun e st => atV Try.prog hint 37 0 Try.f37 19 (List.reverse [.blk, .snd, .fst, .snd]) e st)]) [[.blk, .snd, .fst, .snd]] rfl [.blk, .snd, .fst, .snd] [(0, (.t (.list 3 s0z s0))), (1, (.fn 38 [] [])), (7, (.t (.int .i64 t7))), (8, (.t (.int .i64 t8)))] ⟨[], []⟩ rfl rfl rfl).trans (L37_2g (fun e st => atV Try.prog hint 37 0 Try.f37 19 (List.reverse [.blk, .snd, .fst, .snd]) e st) s0z s0 t7 t8)
theorem eq39g  (a0z : Bool) (a0 : List T) : codeT Try.prog hint 39 0 8 [] [] (resKV Try.prog Try.f39 (hint.own 39 0)) (nrm hint 39 0 (bodyOf Try.f39) (envV [(.t (.list 3 a0z a0))] 0) ⟨[], []⟩).1 (nrm hint 39 0 (bodyOf Try.f39) (envV [(.t (.list 3 a0z a0))] 0) ⟨[], []⟩).2 (bodyOf Try.f39) =
(bif (!a0z) then
 some ((.t (.list 3 false [])), ⟨[], []⟩)
else
 needC (decide ((0 + a0.length) * (32 + 1) ≤ 70368744177664) && decide (32 ≤ 1048576)) fun _ =>
 some ((.t (.list 3 true (([] : List T) ++ a0))), ⟨[], []⟩)) := by kernel_rfl
/-- slices.Clone[[]purfle/api.Token,purfle/api.Token] -/
theorem eq39 (a0z : Bool) (a0 : List T) : vr 39 0 [(.t (.list 3 a0z a0))] ⟨[], []⟩ =
(bif (!a0z) then
 some ((.t (.list 3 false [])), ⟨[], []⟩)
else
 needC (decide ((0 + a0.length) * (32 + 1) ≤ 70368744177664) && decide (32 ≤ 1048576)) fun _ =>
 some ((.t (.list 3 true (([] : List T) ++ a0))), ⟨[], []⟩)) :=
  (call_eq Try.prog hint (fn := Try.f39) (nt := 8) (T := []) [] rfl [(.t (.list 3 a0z a0))] ⟨[], []⟩ rfl rfl rfl rfl rfl).trans (eq39g  a0z a0)
theorem eq22g (KL22_2 : Env → St → Option Res) (a0z : Bool) (a0 : List T) : codeT Try.prog hint 22 0 35 [([.blk, .fst, .snd, .snd], KL22_2)] [] (resKV Try.prog Try.f22 (hint.own 22 0)) (nrm hint 22 0 (bodyOf Try.f22) (envV [(.t (.list 3 a0z a0))] 0) ⟨[], []⟩).1 (nrm hint 22 0 (bodyOf Try.f22) (envV [(.t (.list 3 a0z a0))] 0) ⟨[], []⟩).2 (bodyOf Try.f22) =
 KL22_2 [(0, (.t (.list 3 a0z a0))), (3, (.buf 8))] ⟨[(8, (.arr true 1 false []))], []⟩ := by kernel_rfl
/-- purfle/lexer.Lines -/
theorem eq22 (a0z : Bool) (a0 : List T) : vr 22 0 [(.t (.list 3 a0z a0))] ⟨[], []⟩ =
 L22_2 (a0z) (a0) (false) ([]) :=
  (call_eq Try.prog hint (fn := Try.f22) (nt := 35) (T := [([.blk, .fst, .snd, .snd], fun e st => atV Try.prog hint 22 0 Try.f22 35 (List.reverse [.blk, .fst, .snd, .snd]) e st)]) [[.blk, .fst, .snd, .snd]] rfl [(.t (.list 3 a0z a0))] ⟨[], []⟩ rfl rfl rfl rfl rfl).trans (eq22g (fun e st => atV Try.prog hint 22 0 Try.f22 35 (List.reverse [.blk, .fst, .snd, .snd]) e st) a0z a0)
theorem L22_2g (KL22_2 : Env → St → Option Res) (l0z : Bool) (l0 : List T) (m8z : Bool) (m8 : List T) : codeT Try.prog hint 22 0 35 [([.blk, .fst, .snd, .snd], KL22_2)] [.lp, .blk, .fst, .snd, .snd] (ctxT Try.prog hint 22 0 35 [([.blk, .fst, .snd, .snd], KL22_2)] [] (List.reverse [.lp, .blk, .fst, .snd, .snd]) (bodyOf Try.f22) (resKV Try.prog Try.f22 (hint.own 22 0))) [(0, (.t (.list 3 l0z l0))), (3, (.buf 8))] ⟨[(8, (.arr true 1 m8z m8))], []⟩ (nav (List.reverse [.lp, .blk, .fst, .snd, .snd]) (bodyOf Try.f22)) =
(bif (decide (0 < (l0.length : Int))) then
 callK (vr 37 0 [(.t (.list 3 l0z l0)), (.fn 38 [] [])] ⟨[], []⟩) fun v_1 b_2 =>
 asT v_1 fun x_3 =>
 asI .i64 x_3 fun x_4 =>
 endB b_2 <|
(bif (decide (x_4 < 0)) then
 callK (vr 39 0 [(.t (.list 3 l0z l0))] ⟨[], []⟩) fun v_5 b_6 =>
 asT v_5 fun x_7 =>
 asL 3 x_7 fun nn_8 l_9 =>
 endB b_6 <|
 needC (decide ((m8.length + 1) * (24 + 1) ≤ 70368744177664) && decide (24 ≤ 1048576)) fun _ =>
 some ((.t (.list 1 (m8z || true) (m8 ++ ([(.list 3 nn_8 l_9)] : List T)))), ⟨[], []⟩)
else
 cutL l0 none (some x_4) fun l_10 =>
 callK (vr 39 0 [(.t (.list 3 l0z l_10))] ⟨[], []⟩) fun v_11 b_12 =>
 asT v_11 fun x_13 =>
 asL 3 x_13 fun nn_14 l_15 =>
 endB b_12 <|
 needC (decide ((m8.length + 1) * (24 + 1) ≤ 70368744177664) && decide (24 ≤ 1048576)) fun _ =>
 cutL l0 (some (IntKind.i64.wrap (x_4 + 1))) none fun l_16 =>
(bif (decide ((l_16.length : Int) = 0)) then
 needC (decide ((((m8 ++ ([(.list 3 nn_14 l_15)] : List T))).length + 1) * (24 + 1) ≤ 70368744177664) && decide (24 ≤ 1048576)) fun _ =>
 KL22_2 [(0, (.t (.list 3 l0z l_16))), (3, (.buf 8))] ⟨[(8, (.arr true 1 ((m8z || true) || true) ((m8 ++ ([(.list 3 nn_14 l_15)] : List T)) ++ ([(.list 3 false [])] : List T))))], []⟩
else
 KL22_2 [(0, (.t (.list 3 l0z l_16))), (3, (.buf 8))] ⟨[(8, (.arr true 1 (m8z || true) (m8 ++ ([(.list 3 nn_14 l_15)] : List T))))], []⟩))
else
 some ((.t (.list 1 m8z m8)), ⟨[], []⟩)) := by kernel_rfl
theorem L22_2_eq (l0z : Bool) (l0 : List T) (m8z : Bool) (m8 : List T) : L22_2 l0z l0 m8z m8 =
(bif (decide (0 < (l0.length : Int))) then
 callK (vr 37 0 [(.t (.list 3 l0z l0)), (.fn 38 [] [])] ⟨[], []⟩) fun v_1 b_2 =>
 asT v_1 fun x_3 =>
 asI .i64 x_3 fun x_4 =>
 endB b_2 <|
(bif (decide (x_4 < 0)) then
 callK (vr 39 0 [(.t (.list 3 l0z l0))] ⟨[], []⟩) fun v_5 b_6 =>
 asT v_5 fun x_7 =>
 asL 3 x_7 fun nn_8 l_9 =>
 endB b_6 <|
 needC (decide ((m8.length + 1) * (24 + 1) ≤ 70368744177664) && decide (24 ≤ 1048576)) fun _ =>
 some ((.t (.list 1 (m8z || true) (m8 ++ ([(.list 3 nn_8 l_9)] : List T)))), ⟨[], []⟩)
else
 cutL l0 none (some x_4) fun l_10 =>
 callK (vr 39 0 [(.t (.list 3 l0z l_10))] ⟨[], []⟩) fun v_11 b_12 =>
 asT v_11 fun x_13 =>
 asL 3 x_13 fun nn_14 l_15 =>
 endB b_12 <|
 needC (decide ((m8.length + 1) * (24 + 1) ≤ 70368744177664) && decide (24 ≤ 1048576)) fun _ =>
 cutL l0 (some (IntKind.i64.wrap (x_4 + 1))) none fun l_16 =>
(bif (decide ((l_16.length : Int) = 0)) then
 needC (decide ((((m8 ++ ([(.list 3 nn_14 l_15)] : List T))).length + 1) * (24 + 1) ≤ 70368744177664) && decide (24 ≤ 1048576)) fun _ =>
 L22_2 (l0z) (l_16) (((m8z || true) || true)) (((m8 ++ ([(.list 3 nn_14 l_15)] : List T)) ++ ([(.list 3 false [])] : List T)))
else
 L22_2 (l0z) (l_16) ((m8z || true)) ((m8 ++ ([(.list 3 nn_14 l_15)] : List T)))))
else
 some ((.t (.list 1 m8z m8)), ⟨[], []⟩)) :=
  (round_eq Try.prog hint (b := (nav (List.reverse [.lp, .blk, .fst, .snd, .snd]) (bodyOf Try.f22))) (fn := Try.f22) (nt := 35) (T := [([.blk, .fst, .snd, .snd], fun e st => atV Try.prog hint 22 0 Try.f22 35 (List.reverse [.blk, .fst, .snd, .snd]) e st)]) [[.blk, .fst, .snd, .snd]] rfl [.blk, .fst, .snd, .snd] [(0, (.t (.list 3 l0z l0))), (3, (.buf 8))] ⟨[(8, (.arr true 1 m8z m8))], []⟩ rfl rfl rfl).trans (L22_2g (fun e st => atV Try.prog hint 22 0 Try.f22 35 (List.reverse [.blk, .fst, .snd, .snd]) e st) l0z l0 m8z m8)
theorem eq8g (KL8_12 KL8_17 : Env → St → Option Res) (a0z : Bool) (a0 : List T) (a1z : Bool) (a1 : List T) : codeT Try.prog hint 8 0 86 [([.blk, .snd, .fst, .snd, .snd, .snd, .snd, .snd, .snd, .snd, .snd, .snd], KL8_12), ([.blk, .snd, .snd, .snd, .blk, .fst, .snd, .snd, .lp, .blk, .snd, .fst, .snd, .snd, .snd, .snd, .snd, .snd, .snd, .snd, .snd], KL8_17)] [] (resKV Try.prog Try.f8 (hint.own 8 0)) (nrm hint 8 0 (bodyOf Try.f8) (envV [(.t (.list 3 a0z a0)), (.t (.list 3 a1z a1))] 0) ⟨[], []⟩).1 (nrm hint 8 0 (bodyOf Try.f8) (envV [(.t (.list 3 a0z a0)), (.t (.list 3 a1z a1))] 0) ⟨[], []⟩).2 (bodyOf Try.f8) =
 callK (vr 11 0 [] ⟨[], []⟩) fun v_1 b_2 =>
 asT v_1 fun x_3 =>
 asB x_3 fun b_4 =>
 endB b_2 <|
 callK (vr 21 0 [(.t (.list 3 a0z a0))] ⟨[], []⟩) fun v_5 b_6 =>
 asT v_5 fun x_7 =>
 asB x_7 fun b_8 =>
 endB b_6 <|
(bif (!b_8) then
 some ((.t (.bool b_4)), ⟨[], []⟩)
else
 callK (vr 21 0 [(.t (.list 3 a1z a1))] ⟨[], []⟩) fun v_9 b_10 =>
 asT v_9 fun x_11 =>
 asB x_11 fun b_12 =>
 endB b_10 <|
(bif (!b_12) then
 some ((.t (.bool b_4)), ⟨[], []⟩)
else
(bif (decide ((a0.length : Int) = 0)) then
 some ((.t (.bool b_4)), ⟨[], []⟩)
else
(bif (decide ((a1.length : Int) = 0)) then
 some ((.t (.bool b_4)), ⟨[], []⟩)
else
 needC (decide (a0.length * (32 + 1) ≤ 70368744177664) && decide (32 ≤ 1048576)) fun _ =>
 needC (decide ((a0.length + 1) * (32 + 1) ≤ 70368744177664) && decide (32 ≤ 1048576)) fun _ =>
 needC (decide ((((a0 ++ ([(.agg [(.int .i64 4), (.str ByteArray.empty), (.int .i64 0)])] : List T))).length + a1.length) * (32 + 1) ≤ 70368744177664) && decide (32 ≤ 1048576)) fun _ =>
 callK (vr 22 0 [(.t (.list 3 a0z a0))] ⟨[], []⟩) fun v_13 b_14 =>
 asT v_13 fun x_15 =>
 asL 1 x_15 fun nn_16 l_17 =>
 endB b_14 <|
 callK (vr 22 0 [(.t (.list 3 a1z a1))] ⟨[], []⟩) fun v_18 b_19 =>
 asT v_18 fun x_20 =>
 asL 1 x_20 fun nn_21 l_22 =>
 endB b_19 <|
 callK (vr 22 0 [(.t (.list 3 (((!a0.isEmpty) || true) || (!a1.isEmpty)) ((a0 ++ ([(.agg [(.int .i64 4), (.str ByteArray.empty), (.int .i64 0)])] : List T)) ++ a1)))] ⟨[], []⟩) fun v_23 b_24 =>
 asT v_23 fun x_25 =>
 asL 1 x_25 fun nn_26 l_27 =>
 endB b_24 <|
 needC (decide (l_17.length * (24 + 1) ≤ 70368744177664) && decide (24 ≤ 1048576)) fun _ =>
 needC (decide ((l_17.length + l_22.length) * (24 + 1) ≤ 70368744177664) && decide (24 ≤ 1048576)) fun _ =>
(bif (!decide ((l_27.length : Int) = (((l_17 ++ l_22)).length : Int))) then
 some ((.t (.bool false)), ⟨[], []⟩)
else
 KL8_12 [(5, (.t (.bool b_4))), (9, (.t (.list 1 nn_26 l_27))), (10, (.buf 8)), (57, (.t (.int .i64 (l_27.length : Int)))), (58, (.t (.int .i64 0)))] ⟨[(8, (.arr true 1 ((!l_17.isEmpty) || (!l_22.isEmpty)) (l_17 ++ l_22)))], []⟩))))) := by kernel_rfl
/-- purfle/purflelaw08.LexerRows -/
theorem eq8 (a0z : Bool) (a0 : List T) (a1z : Bool) (a1 : List T) : vr 8 0 [(.t (.list 3 a0z a0)), (.t (.list 3 a1z a1))] ⟨[], []⟩ =
 callK (vr 11 0 [] ⟨[], []⟩) fun v_1 b_2 =>
 asT v_1 fun x_3 =>
 asB x_3 fun b_4 =>
 endB b_2 <|
 callK (vr 21 0 [(.t (.list 3 a0z a0))] ⟨[], []⟩) fun v_5 b_6 =>
 asT v_5 fun x_7 =>
 asB x_7 fun b_8 =>
 endB b_6 <|
(bif (!b_8) then
 some ((.t (.bool b_4)), ⟨[], []⟩)
else
 callK (vr 21 0 [(.t (.list 3 a1z a1))] ⟨[], []⟩) fun v_9 b_10 =>
 asT v_9 fun x_11 =>
 asB x_11 fun b_12 =>
 endB b_10 <|
(bif (!b_12) then
 some ((.t (.bool b_4)), ⟨[], []⟩)
else
(bif (decide ((a0.length : Int) = 0)) then
 some ((.t (.bool b_4)), ⟨[], []⟩)
else
(bif (decide ((a1.length : Int) = 0)) then
 some ((.t (.bool b_4)), ⟨[], []⟩)
else
 needC (decide (a0.length * (32 + 1) ≤ 70368744177664) && decide (32 ≤ 1048576)) fun _ =>
 needC (decide ((a0.length + 1) * (32 + 1) ≤ 70368744177664) && decide (32 ≤ 1048576)) fun _ =>
 needC (decide ((((a0 ++ ([(.agg [(.int .i64 4), (.str ByteArray.empty), (.int .i64 0)])] : List T))).length + a1.length) * (32 + 1) ≤ 70368744177664) && decide (32 ≤ 1048576)) fun _ =>
 callK (vr 22 0 [(.t (.list 3 a0z a0))] ⟨[], []⟩) fun v_13 b_14 =>
 asT v_13 fun x_15 =>
 asL 1 x_15 fun nn_16 l_17 =>
 endB b_14 <|
 callK (vr 22 0 [(.t (.list 3 a1z a1))] ⟨[], []⟩) fun v_18 b_19 =>
 asT v_18 fun x_20 =>
 asL 1 x_20 fun nn_21 l_22 =>
 endB b_19 <|
 callK (vr 22 0 [(.t (.list 3 (((!a0.isEmpty) || true) || (!a1.isEmpty)) ((a0 ++ ([(.agg [(.int .i64 4), (.str ByteArray.empty), (.int .i64 0)])] : List T)) ++ a1)))] ⟨[], []⟩) fun v_23 b_24 =>
 asT v_23 fun x_25 =>
 asL 1 x_25 fun nn_26 l_27 =>
 endB b_24 <|
 needC (decide (l_17.length * (24 + 1) ≤ 70368744177664) && decide (24 ≤ 1048576)) fun _ =>
 needC (decide ((l_17.length + l_22.length) * (24 + 1) ≤ 70368744177664) && decide (24 ≤ 1048576)) fun _ =>
(bif (!decide ((l_27.length : Int) = (((l_17 ++ l_22)).length : Int))) then
 some ((.t (.bool false)), ⟨[], []⟩)
else
 L8_12 (b_4) (nn_26) (l_27) ((l_27.length : Int)) (0) (((!l_17.isEmpty) || (!l_22.isEmpty))) ((l_17 ++ l_22))))))) :=
  (call_eq Try.prog hint (fn := Try.f8) (nt := 86) (T := [([.blk, .snd, .fst, .snd, .snd, .snd, .snd, .snd, .snd, .snd, .snd, .snd], fun e st => atV Try.prog hint 8 0 Try.f8 86 (List.reverse [.blk, .snd, .fst, .snd, .snd, .snd, .snd, .snd, .snd, .snd, .snd, .snd]) e st), ([.blk, .snd, .snd, .snd, .blk, .fst, .snd, .snd, .lp, .blk, .snd, .fst, .snd, .snd, .snd, .snd, .snd, .snd, .snd, .snd, .snd], fun e st => atV Try.prog hint 8 0 Try.f8 86 (List.reverse [.blk, .snd, .snd, .snd, .blk, .fst, .snd, .snd, .lp, .blk, .snd, .fst, .snd, .snd, .snd, .snd, .snd, .snd, .snd, .snd, .snd]) e st)]) [[.blk, .snd, .fst, .snd, .snd, .snd, .snd, .snd, .snd, .snd, .snd, .snd], [.blk, .snd, .snd, .snd, .blk, .fst, .snd, .snd, .lp, .blk, .snd, .fst, .snd, .snd, .snd, .snd, .snd, .snd, .snd, .snd, .snd]] rfl [(.t (.list 3 a0z a0)), (.t (.list 3 a1z a1))] ⟨[], []⟩ rfl rfl rfl rfl rfl).trans (eq8g (fun e st => atV Try.prog hint 8 0 Try.f8 86 (List.reverse [.blk, .snd, .fst, .snd, .snd, .snd, .snd, .snd, .snd, .snd, .snd, .snd]) e st) (fun e st => atV Try.prog hint 8 0 Try.f8 86 (List.reverse [.blk, .snd, .snd, .snd, .blk, .fst, .snd, .snd, .lp, .blk, .snd, .fst, .snd, .snd, .snd, .snd, .snd, .snd, .snd, .snd, .snd]) e st) a0z a0 a1z a1)
theorem L8_12g (KL8_12 KL8_17 : Env → St → Option Res) (up5 : Bool) (z9z : Bool) (z9 : List T) (t57 : Int) (t58 : Int) (m8z : Bool) (m8 : List T) : codeT Try.prog hint 8 0 86 [([.blk, .snd, .fst, .snd, .snd, .snd, .snd, .snd, .snd, .snd, .snd, .snd], KL8_12), ([.blk, .snd, .snd, .snd, .blk, .fst, .snd, .snd, .lp, .blk, .snd, .fst, .snd, .snd, .snd, .snd, .snd, .snd, .snd, .snd, .snd], KL8_17)] [.lp, .blk, .snd, .fst, .snd, .snd, .snd, .snd, .snd, .snd, .snd, .snd, .snd] (ctxT Try.prog hint 8 0 86 [([.blk, .snd, .fst, .snd, .snd, .snd, .snd, .snd, .snd, .snd, .snd, .snd], KL8_12), ([.blk, .snd, .snd, .snd, .blk, .fst, .snd, .snd, .lp, .blk, .snd, .fst, .snd, .snd, .snd, .snd, .snd, .snd, .snd, .snd, .snd], KL8_17)] [] (List.reverse [.lp, .blk, .snd, .fst, .snd, .snd, .snd, .snd, .snd, .snd, .snd, .snd, .snd]) (bodyOf Try.f8) (resKV Try.prog Try.f8 (hint.own 8 0))) [(5, (.t (.bool up5))), (9, (.t (.list 1 z9z z9))), (10, (.buf 8)), (57, (.t (.int .i64 t57))), (58, (.t (.int .i64 t58)))] ⟨[(8, (.arr true 1 m8z m8))], []⟩ (nav (List.reverse [.lp, .blk, .snd, .fst, .snd, .snd, .snd, .snd, .snd, .snd, .snd, .snd, .snd]) (bodyOf Try.f8)) =
(bif (decide (t58 < t57)) then
 needC (decide (0 ≤ t58)) fun _ =>
 getT z9 (t58).toNat fun e_1 =>
 asL 3 e_1 fun nn_2 l_3 =>
 needC (decide (0 ≤ t58) && decide (t58 < (m8.length : Int))) fun _ =>
 getT m8 ((t58).toNat) fun e_4 =>
 asL 3 e_4 fun nn_5 l_6 =>
 callK (vr 14 0 [(.t (.list 3 nn_2 l_3)), (.t (.list 3 nn_5 l_6))] ⟨[], []⟩) fun v_7 b_8 =>
 asT v_7 fun x_9 =>
 asB x_9 fun b_10 =>
 endB b_8 <|
(bif (!b_10) then
 some ((.t (.bool false)), ⟨[], []⟩)
else
 needC (decide (0 ≤ t58)) fun _ =>
 getT z9 (t58).toNat fun e_11 =>
 asL 3 e_11 fun nn_12 l_13 =>
 KL8_17 [(5, (.t (.bool up5))), (9, (.t (.list 1 z9z z9))), (10, (.buf 8)), (57, (.t (.int .i64 t57))), (58, (.t (.int .i64 t58))), (74, (.t (.list 3 nn_12 l_13))), (75, (.t (.int .i64 (l_13.length : Int)))), (76, (.t (.int .i64 0)))] ⟨[(8, (.arr true 1 m8z m8))], []⟩)
else
 some ((.t (.bool up5)), ⟨[], []⟩)) := by kernel_rfl
theorem L8_12_eq (up5 : Bool) (z9z : Bool) (z9 : List T) (t57 : Int) (t58 : Int) (m8z : Bool) (m8 : List T) : L8_12 up5 z9z z9 t57 t58 m8z m8 =
(bif (decide (t58 < t57)) then
 needC (decide (0 ≤ t58)) fun _ =>
 getT z9 (t58).toNat fun e_1 =>
 asL 3 e_1 fun nn_2 l_3 =>
 needC (decide (0 ≤ t58) && decide (t58 < (m8.length : Int))) fun _ =>
 getT m8 ((t58).toNat) fun e_4 =>
 asL 3 e_4 fun nn_5 l_6 =>
 callK (vr 14 0 [(.t (.list 3 nn_2 l_3)), (.t (.list 3 nn_5 l_6))] ⟨[], []⟩) fun v_7 b_8 =>
 asT v_7 fun x_9 =>
 asB x_9 fun b_10 =>
 endB b_8 <|
(bif (!b_10) then
 some ((.t (.bool false)), ⟨[], []⟩)
else
 needC (decide (0 ≤ t58)) fun _ =>
 getT z9 (t58).toNat fun e_11 =>
 asL 3 e_11 fun nn_12 l_13 =>
 L8_17 (up5) (z9z) (z9) (t57) (t58) (nn_12) (l_13) ((l_13.length : Int)) (0) (m8z) (m8))
else
 some ((.t (.bool up5)), ⟨[], []⟩)) :=
  (round_eq Try.prog hint (b := (nav (List.reverse [.lp, .blk, .snd, .fst, .snd, .snd, .snd, .snd, .snd, .snd, .snd, .snd, .snd]) (bodyOf Try.f8))) (fn := Try.f8) (nt := 86) (T := [([.blk, .snd, .fst, .snd, .snd, .snd, .snd, .snd, .snd, .snd, .snd, .snd], fun e st => atV Try.prog hint 8 0 Try.f8 86 (List.reverse [.blk, .snd, .fst, .snd, .snd, .snd, .snd, .snd, .snd, .snd, .snd, .snd]) e st), ([.blk, .snd, .snd, .snd, .blk, .fst, .snd, .snd, .lp, .blk, .snd, .fst, .snd, .snd, .snd, .snd, .snd, .snd, .snd, .snd, .snd], fun e st => atV Try.prog hint 8 0 Try.f8 86 (List.reverse [.blk, .snd, .snd, .snd, .blk, .fst, .snd, .snd, .lp, .blk, .snd, .fst, .snd, .snd, .snd, .snd, .snd, .snd, .snd, .snd, .snd]) e st)]) [[.blk, .snd, .fst, .snd, .snd, .snd, .snd, .snd, .snd, .snd, .snd, .snd], [.blk, .snd, .snd, .snd, .blk, .fst, .snd, .snd, .lp, .blk, .snd, .fst, .snd, .snd, .snd, .snd, .snd, .snd, .snd, .snd, .snd]] rfl [.blk, .snd, .fst, .snd, .snd, .snd, .snd, .snd, .snd, .snd, .snd, .snd] [(5, (.t (.bool up5))), (9, (.t (.list 1 z9z z9))), (10, (.buf 8)), (57, (.t (.int .i64 t57))), (58, (.t (.int .i64 t58)))] ⟨[(8, (.arr true 1 m8z m8))], []⟩ rfl rfl rfl).trans (L8_12g (fun e st => atV Try.prog hint 8 0 Try.f8 86 (List.reverse [.blk, .snd, .fst, .snd, .snd, .snd, .snd, .snd, .snd, .snd, .snd, .snd]) e st) (fun e st => atV Try.prog hint 8 0 Try.f8 86 (List.reverse [.blk, .snd, .snd, .snd, .blk, .fst, .snd, .snd, .lp, .blk, .snd, .fst, .snd, .snd, .snd, .snd, .snd, .snd, .snd, .snd, .snd]) e st) up5 z9z z9 t57 t58 m8z m8)
theorem L8_17g (KL8_12 KL8_17 : Env → St → Option Res) (up5 : Bool) (z9z : Bool) (z9 : List T) (t57 : Int) (t58 : Int) (t74z : Bool) (t74 : List T) (t75 : Int) (t76 : Int) (m8z : Bool) (m8 : List T) : codeT Try.prog hint 8 0 86 [([.blk, .snd, .fst, .snd, .snd, .snd, .snd, .snd, .snd, .snd, .snd, .snd], KL8_12), ([.blk, .snd, .snd, .snd, .blk, .fst, .snd, .snd, .lp, .blk, .snd, .fst, .snd, .snd, .snd, .snd, .snd, .snd, .snd, .snd, .snd], KL8_17)] [.lp, .blk, .snd, .snd, .snd, .blk, .fst, .snd, .snd, .lp, .blk, .snd, .fst, .snd, .snd, .snd, .snd, .snd, .snd, .snd, .snd, .snd] (ctxT Try.prog hint 8 0 86 [([.blk, .snd, .fst, .snd, .snd, .snd, .snd, .snd, .snd, .snd, .snd, .snd], KL8_12), ([.blk, .snd, .snd, .snd, .blk, .fst, .snd, .snd, .lp, .blk, .snd, .fst, .snd, .snd, .snd, .snd, .snd, .snd, .snd, .snd, .snd], KL8_17)] [] (List.reverse [.lp, .blk, .snd, .snd, .snd, .blk, .fst, .snd, .snd, .lp, .blk, .snd, .fst, .snd, .snd, .snd, .snd, .snd, .snd, .snd, .snd, .snd]) (bodyOf Try.f8) (resKV Try.prog Try.f8 (hint.own 8 0))) [(5, (.t (.bool up5))), (9, (.t (.list 1 z9z z9))), (10, (.buf 8)), (57, (.t (.int .i64 t57))), (58, (.t (.int .i64 t58))), (74, (.t (.list 3 t74z t74))), (75, (.t (.int .i64 t75))), (76, (.t (.int .i64 t76)))] ⟨[(8, (.arr true 1 m8z m8))], []⟩ (nav (List.reverse [.lp, .blk, .snd, .snd, .snd, .blk, .fst, .snd, .snd, .lp, .blk, .snd, .fst, .snd, .snd, .snd, .snd, .snd, .snd, .snd, .snd, .snd]) (bodyOf Try.f8)) =
(bif (decide (t76 < t75)) then
 needC (decide (0 ≤ t76)) fun _ =>
 getT t74 (t76).toNat fun e_1 =>
 asA e_1 fun l_2 =>
 consT l_2 fun v_3 l_4 =>
 asI .i64 v_3 fun x_5 =>
 consT l_4 fun v_6 l_7 =>
 asS v_6 fun s_8 =>
 consT l_7 fun v_9 l_10 =>
 asI .i64 v_9 fun x_11 =>
 endT l_10 <|
(bif (decide (x_5 = 4)) then
 some ((.t (.bool false)), ⟨[], []⟩)
else
 KL8_17 [(5, (.t (.bool up5))), (9, (.t (.list 1 z9z z9))), (10, (.buf 8)), (57, (.t (.int .i64 t57))), (58, (.t (.int .i64 t58))), (74, (.t (.list 3 t74z t74))), (75, (.t (.int .i64 t75))), (76, (.t (.int .i64 (IntKind.i64.wrap (t76 + 1)))))] ⟨[(8, (.arr true 1 m8z m8))], []⟩)
else
 KL8_12 [(5, (.t (.bool up5))), (9, (.t (.list 1 z9z z9))), (10, (.buf 8)), (57, (.t (.int .i64 t57))), (58, (.t (.int .i64 (IntKind.i64.wrap (t58 + 1)))))] ⟨[(8, (.arr true 1 m8z m8))], []⟩) := by kernel_rfl
theorem L8_17_eq (up5 : Bool) (z9z : Bool) (z9 : List T) (t57 : Int) (t58 : Int) (t74z : Bool) (t74 : List T) (t75 : Int) (t76 : Int) (m8z : Bool) (m8 : List T) : L8_17 up5 z9z z9 t57 t58 t74z t74 t75 t76 m8z m8 =
(bif (decide (t76 < t75)) then
 needC (decide (0 ≤ t76)) fun _ =>
 getT t74 (t76).toNat fun e_1 =>
 asA e_1 fun l_2 =>
 consT l_2 fun v_3 l_4 =>
 asI .i64 v_3 fun x_5 =>
 consT l_4 fun v_6 l_7 =>
 asS v_6 fun s_8 =>
 consT l_7 fun v_9 l_10 =>
 asI .i64 v_9 fun x_11 =>
 endT l_10 <|
(bif (decide (x_5 = 4)) then
 some ((.t (.bool false)), ⟨[], []⟩)
else
 L8_17 (up5) (z9z) (z9) (t57) (t58) (t74z) (t74) (t75) ((IntKind.i64.wrap (t76 + 1))) (m8z) (m8))
else
 L8_12 (up5) (z9z) (z9) (t57) ((IntKind.i64.wrap (t58 + 1))) (m8z) (m8)) :=
  (round_eq Try.prog hint (b := (nav (List.reverse [.lp, .blk, .snd, .snd, .snd, .blk, .fst, .snd, .snd, .lp, .blk, .snd, .fst, .snd, .snd, .snd, .snd, .snd, .snd, .snd, .snd, .snd]) (bodyOf Try.f8))) (fn := Try.f8) (nt := 86) (T := [([.blk, .snd, .fst, .snd, .snd, .snd, .snd, .snd, .snd, .snd, .snd, .snd], fun e st => atV Try.prog hint 8 0 Try.f8 86 (List.reverse [.blk, .snd, .fst, .snd, .snd, .snd, .snd, .snd, .snd, .snd, .snd, .snd]) e st), ([.blk, .snd, .snd, .snd, .blk, .fst, .snd, .snd, .lp, .blk, .snd, .fst, .snd, .snd, .snd, .snd, .snd, .snd, .snd, .snd, .snd], fun e st => atV Try.prog hint 8 0 Try.f8 86 (List.reverse [.blk, .snd, .snd, .snd, .blk, .fst, .snd, .snd, .lp, .blk, .snd, .fst, .snd, .snd, .snd, .snd, .snd, .snd, .snd, .snd, .snd]) e st)]) [[.blk, .snd, .fst, .snd, .snd, .snd, .snd, .snd, .snd, .snd, .snd, .snd], [.blk, .snd, .snd, .snd, .blk, .fst, .snd, .snd, .lp, .blk, .snd, .fst, .snd, .snd, .snd, .snd, .snd, .snd, .snd, .snd, .snd]] rfl [.blk, .snd, .snd, .snd, .blk, .fst, .snd, .snd, .lp, .blk, .snd, .fst, .snd, .snd, .snd, .snd, .snd, .snd, .snd, .snd, .snd] [(5, (.t (.bool up5))), (9, (.t (.list 1 z9z z9))), (10, (.buf 8)), (57, (.t (.int .i64 t57))), (58, (.t (.int .i64 t58))), (74, (.t (.list 3 t74z t74))), (75, (.t (.int .i64 t75))), (76, (.t (.int .i64 t76)))] ⟨[(8, (.arr true 1 m8z m8))], []⟩ rfl rfl rfl).trans (L8_17g (fun e st => atV Try.prog hint 8 0 Try.f8 86 (List.reverse [.blk, .snd, .fst, .snd, .snd, .snd, .snd, .snd, .snd, .snd, .snd, .snd]) e st) (fun e st => atV Try.prog hint 8 0 Try.f8 86 (List.reverse [.blk, .snd, .snd, .snd, .blk, .fst, .snd, .snd, .lp, .blk, .snd, .fst, .snd, .snd, .snd, .snd, .snd, .snd, .snd, .snd, .snd]) e st) up5 z9z z9 t57 t58 t74z t74 t75 t76 m8z m8)
theorem eq26g  (a0_0 : Int) (a0_1 : ByteArray) (a0_2 : Int) : codeT Try.prog hint 26 0 22 [] [] (resKV Try.prog Try.f26 (hint.own 26 0)) (nrm hint 26 0 (bodyOf Try.f26) (envV [(.t (.agg [(.int .i64 a0_0), (.str a0_1), (.int .i64 a0_2)]))] 0) ⟨[], []⟩).1 (nrm hint 26 0 (bodyOf Try.f26) (envV [(.t (.agg [(.int .i64 a0_0), (.str a0_1), (.int .i64 a0_2)]))] 0) ⟨[], []⟩).2 (bodyOf Try.f26) =
 callK (vr 31 0 [(.t (.str a0_1))] ⟨[], []⟩) fun v_1 b_2 =>
 asTup v_1 fun l_3 =>
 consV l_3 fun v_4 l_5 =>
 asT v_4 fun x_6 =>
 asA x_6 fun l_7 =>
 consT l_7 fun v_8 l_9 =>
 asI .i64 v_8 fun x_10 =>
 consT l_9 fun v_11 l_12 =>
 asS v_11 fun s_13 =>
 consT l_12 fun v_14 l_15 =>
 asI .i64 v_14 fun x_16 =>
 endT l_15 <|
 consV l_5 fun v_17 l_18 =>
 asT v_17 fun x_19 =>
 asB x_19 fun b_20 =>
 endV l_18 <|
 endB b_2 <|
(bif (decide (a0_0 = 4) && (decide ((a0_1 : ByteArray) = ByteArray.empty) && (decide (a0_2 = 0) && true))) then
 some ((.t (.int .i64 0)), ⟨[], []⟩)
else
(bif b_20 then
(bif (decide (a0_0 = x_10) && (decide ((a0_1 : ByteArray) = s_13) && (decide (a0_2 = x_16) && true))) then
 some ((.t (.int .i64 0)), ⟨[], []⟩)
else
 some ((.t (.int .i64 1)), ⟨[], []⟩))
else
 some ((.t (.int .i64 1)), ⟨[], []⟩))) := by kernel_rfl
/-- purfle/lexer.Check -/
theorem eq26 (a0_0 : Int) (a0_1 : ByteArray) (a0_2 : Int) : vr 26 0 [(.t (.agg [(.int .i64 a0_0), (.str a0_1), (.int .i64 a0_2)]))] ⟨[], []⟩ =
 callK (vr 31 0 [(.t (.str a0_1))] ⟨[], []⟩) fun v_1 b_2 =>
 asTup v_1 fun l_3 =>
 consV l_3 fun v_4 l_5 =>
 asT v_4 fun x_6 =>
 asA x_6 fun l_7 =>
 consT l_7 fun v_8 l_9 =>
 asI .i64 v_8 fun x_10 =>
 consT l_9 fun v_11 l_12 =>
 asS v_11 fun s_13 =>
 consT l_12 fun v_14 l_15 =>
 asI .i64 v_14 fun x_16 =>
 endT l_15 <|
 consV l_5 fun v_17 l_18 =>
 asT v_17 fun x_19 =>
 asB x_19 fun b_20 =>
 endV l_18 <|
 endB b_2 <|
(bif (decide (a0_0 = 4) && (decide ((a0_1 : ByteArray) = ByteArray.empty) && (decide (a0_2 = 0) && true))) then
 some ((.t (.int .i64 0)), ⟨[], []⟩)
else
(bif b_20 then
(bif (decide (a0_0 = x_10) && (decide ((a0_1 : ByteArray) = s_13) && (decide (a0_2 = x_16) && true))) then
 some ((.t (.int .i64 0)), ⟨[], []⟩)
else
 some ((.t (.int .i64 1)), ⟨[], []⟩))
else
 some ((.t (.int .i64 1)), ⟨[], []⟩))) :=
  (call_eq Try.prog hint (fn := Try.f26) (nt := 22) (T := []) [] rfl [(.t (.agg [(.int .i64 a0_0), (.str a0_1), (.int .i64 a0_2)]))] ⟨[], []⟩ rfl rfl rfl rfl rfl).trans (eq26g  a0_0 a0_1 a0_2)
theorem eq27g (KJ27_12 : Env → St → Option Res) (a0_0 : Int) (a0_1 : ByteArray) (a0_2 : Int) : codeT Try.prog hint 27 0 55 [([.snd, .snd, .snd, .snd], KJ27_12)] [] (resKV Try.prog Try.f27 (hint.own 27 0)) (nrm hint 27 0 (bodyOf Try.f27) (envV [(.t (.agg [(.int .i64 a0_0), (.str a0_1), (.int .i64 a0_2)]))] 0) ⟨[], []⟩).1 (nrm hint 27 0 (bodyOf Try.f27) (envV [(.t (.agg [(.int .i64 a0_0), (.str a0_1), (.int .i64 a0_2)]))] 0) ⟨[], []⟩).2 (bodyOf Try.f27) =
 callK (vr 16 0 [(.t (.str a0_1))] ⟨[], []⟩) fun v_1 b_2 =>
 asTup v_1 fun l_3 =>
 consV l_3 fun v_4 l_5 =>
 asT v_4 fun x_6 =>
 asI .i64 x_6 fun x_7 =>
 consV l_5 fun v_8 l_9 =>
 asT v_8 fun x_10 =>
 asB x_10 fun b_11 =>
 endV l_9 <|
 endB b_2 <|
(bif (decide (a0_0 = 1)) then
 callK (vr 19 0 [(.t (.str a0_1))] ⟨[], []⟩) fun v_12 b_13 =>
 asT v_12 fun x_14 =>
 asB x_14 fun b_15 =>
 endB b_13 <|
(bif b_15 then
 KJ27_12 [(5, (.t (.bool (decide (a0_2 = 0)))))] ⟨[], []⟩
else
 KJ27_12 [(5, (.t (.bool false)))] ⟨[], []⟩)
else
(bif (decide (a0_0 = 2)) then
(bif b_11 then
 KJ27_12 [(5, (.t (.bool (decide (a0_2 = x_7)))))] ⟨[], []⟩
else
 KJ27_12 [(5, (.t (.bool false)))] ⟨[], []⟩)
else
(bif (decide (a0_0 = 3)) then
 callK (vr 42 0 [(.t (.str a0_1))] ⟨[], []⟩) fun v_16 b_17 =>
 asT v_16 fun x_18 =>
 asB x_18 fun b_19 =>
 endB b_17 <|
(bif b_19 then
 KJ27_12 [(5, (.t (.bool (decide (a0_2 = 0)))))] ⟨[], []⟩
else
 KJ27_12 [(5, (.t (.bool false)))] ⟨[], []⟩)
else
(bif (decide (a0_0 = 4)) then
(bif (decide ((a0_1 : ByteArray) = ⟨#[]⟩)) then
 KJ27_12 [(5, (.t (.bool (decide (a0_2 = 0)))))] ⟨[], []⟩
else
 KJ27_12 [(5, (.t (.bool false)))] ⟨[], []⟩)
else
 KJ27_12 [(5, (.t (.bool false)))] ⟨[], []⟩)))) := by kernel_rfl
/-- purfle/purfleref08.Check -/
theorem eq27 (a0_0 : Int) (a0_1 : ByteArray) (a0_2 : Int) : vr 27 0 [(.t (.agg [(.int .i64 a0_0), (.str a0_1), (.int .i64 a0_2)]))] ⟨[], []⟩ =
 callK (vr 16 0 [(.t (.str a0_1))] ⟨[], []⟩) fun v_1 b_2 =>
 asTup v_1 fun l_3 =>
 consV l_3 fun v_4 l_5 =>
 asT v_4 fun x_6 =>
 asI .i64 x_6 fun x_7 =>
 consV l_5 fun v_8 l_9 =>
 asT v_8 fun x_10 =>
 asB x_10 fun b_11 =>
 endV l_9 <|
 endB b_2 <|
(bif (decide (a0_0 = 1)) then
 callK (vr 19 0 [(.t (.str a0_1))] ⟨[], []⟩) fun v_12 b_13 =>
 asT v_12 fun x_14 =>
 asB x_14 fun b_15 =>
 endB b_13 <|
(bif b_15 then
 J27_12 ((decide (a0_2 = 0)))
else
 J27_12 (false))
else
(bif (decide (a0_0 = 2)) then
(bif b_11 then
 J27_12 ((decide (a0_2 = x_7)))
else
 J27_12 (false))
else
(bif (decide (a0_0 = 3)) then
 callK (vr 42 0 [(.t (.str a0_1))] ⟨[], []⟩) fun v_16 b_17 =>
 asT v_16 fun x_18 =>
 asB x_18 fun b_19 =>
 endB b_17 <|
(bif b_19 then
 J27_12 ((decide (a0_2 = 0)))
else
 J27_12 (false))
else
(bif (decide (a0_0 = 4)) then
(bif (decide ((a0_1 : ByteArray) = ⟨#[]⟩)) then
 J27_12 ((decide (a0_2 = 0)))
else
 J27_12 (false))
else
 J27_12 (false))))) :=
  (call_eq Try.prog hint (fn := Try.f27) (nt := 55) (T := [([.snd, .snd, .snd, .snd], fun e st => atV Try.prog hint 27 0 Try.f27 55 (List.reverse [.snd, .snd, .snd, .snd]) e st)]) [[.snd, .snd, .snd, .snd]] rfl [(.t (.agg [(.int .i64 a0_0), (.str a0_1), (.int .i64 a0_2)]))] ⟨[], []⟩ rfl rfl rfl rfl rfl).trans (eq27g (fun e st => atV Try.prog hint 27 0 Try.f27 55 (List.reverse [.snd, .snd, .snd, .snd]) e st) a0_0 a0_1 a0_2)
theorem J27_12g (KJ27_12 : Env → St → Option Res) (ok5 : Bool) : codeT Try.prog hint 27 0 55 [([.snd, .snd, .snd, .snd], KJ27_12)] [.snd, .snd, .snd, .snd] (ctxT Try.prog hint 27 0 55 [([.snd, .snd, .snd, .snd], KJ27_12)] [] (List.reverse [.snd, .snd, .snd, .snd]) (bodyOf Try.f27) (resKV Try.prog Try.f27 (hint.own 27 0))) [(5, (.t (.bool ok5)))] ⟨[], []⟩ (nav (List.reverse [.snd, .snd, .snd, .snd]) (bodyOf Try.f27)) =
(bif (!ok5) then
 some ((.t (.int .i64 1)), ⟨[], []⟩)
else
 some ((.t (.int .i64 0)), ⟨[], []⟩)) := by kernel_rfl
theorem J27_12_eq (ok5 : Bool) : J27_12 ok5 =
(bif (!ok5) then
 some ((.t (.int .i64 1)), ⟨[], []⟩)
else
 some ((.t (.int .i64 0)), ⟨[], []⟩)) :=
  (join_eq Try.prog hint (fn := Try.f27) (nt := 55) (T := [([.snd, .snd, .snd, .snd], fun e st => atV Try.prog hint 27 0 Try.f27 55 (List.reverse [.snd, .snd, .snd, .snd]) e st)]) [[.snd, .snd, .snd, .snd]] rfl [.snd, .snd, .snd, .snd] [(5, (.t (.bool ok5)))] ⟨[], []⟩ rfl).trans (J27_12g (fun e st => atV Try.prog hint 27 0 Try.f27 55 (List.reverse [.snd, .snd, .snd, .snd]) e st) ok5)
theorem eq24g (KL24_2 KL24_11 : Env → St → Option Res) (a0z : Bool) (a0 : List T) : codeT Try.prog hint 24 0 79 [([.blk, .snd, .fst, .snd], KL24_2), ([.blk, .snd, .fst, .snd, .snd, .snd, .snd], KL24_11)] [] (resKV Try.prog Try.f24 (hint.own 24 0)) (nrm hint 24 0 (bodyOf Try.f24) (envV [(.t (.list 3 a0z a0))] 0) ⟨[], []⟩).1 (nrm hint 24 0 (bodyOf Try.f24) (envV [(.t (.list 3 a0z a0))] 0) ⟨[], []⟩).2 (bodyOf Try.f24) =
 KL24_2 [(0, (.t (.list 3 a0z a0))), (9, (.t (.list 3 a0z a0))), (10, (.t (.int .i64 (a0.length : Int)))), (11, (.t (.int .i64 0)))] ⟨[], []⟩ := by kernel_rfl
/-- purfle/purfleref08.Join -/
theorem eq24 (a0z : Bool) (a0 : List T) : vr 24 0 [(.t (.list 3 a0z a0))] ⟨[], []⟩ =
 L24_2 (a0z) (a0) (a0z) (a0) ((a0.length : Int)) (0) :=
  (call_eq Try.prog hint (fn := Try.f24) (nt := 79) (T := [([.blk, .snd, .fst, .snd], fun e st => atV Try.prog hint 24 0 Try.f24 79 (List.reverse [.blk, .snd, .fst, .snd]) e st), ([.blk, .snd, .fst, .snd, .snd, .snd, .snd], fun e st => atV Try.prog hint 24 0 Try.f24 79 (List.reverse [.blk, .snd, .fst, .snd, .snd, .snd, .snd]) e st)]) [[.blk, .snd, .fst, .snd], [.blk, .snd, .fst, .snd, .snd, .snd, .snd]] rfl [(.t (.list 3 a0z a0))] ⟨[], []⟩ rfl rfl rfl rfl rfl).trans (eq24g (fun e st => atV Try.prog hint 24 0 Try.f24 79 (List.reverse [.blk, .snd, .fst, .snd]) e st) (fun e st => atV Try.prog hint 24 0 Try.f24 79 (List.reverse [.blk, .snd, .fst, .snd, .snd, .snd, .snd]) e st) a0z a0)
theorem L24_2g (KL24_2 KL24_11 : Env → St → Option Res) (l0z : Bool) (l0 : List T) (t9z : Bool) (t9 : List T) (t10 : Int) (t11 : Int) : codeT Try.prog hint 24 0 79 [([.blk, .snd, .fst, .snd], KL24_2), ([.blk, .snd, .fst, .snd, .snd, .snd, .snd], KL24_11)] [.lp, .blk, .snd, .fst, .snd] (ctxT Try.prog hint 24 0 79 [([.blk, .snd, .fst, .snd], KL24_2), ([.blk, .snd, .fst, .snd, .snd, .snd, .snd], KL24_11)] [] (List.reverse [.lp, .blk, .snd, .fst, .snd]) (bodyOf Try.f24) (resKV Try.prog Try.f24 (hint.own 24 0))) [(0, (.t (.list 3 l0z l0))), (9, (.t (.list 3 t9z t9))), (10, (.t (.int .i64 t10))), (11, (.t (.int .i64 t11)))] ⟨[], []⟩ (nav (List.reverse [.lp, .blk, .snd, .fst, .snd]) (bodyOf Try.f24)) =
(bif (decide (t11 < t10)) then
 needC (decide (0 ≤ t11)) fun _ =>
 getT t9 (t11).toNat fun e_1 =>
 asA e_1 fun l_2 =>
 consT l_2 fun v_3 l_4 =>
 asI .i64 v_3 fun x_5 =>
 consT l_4 fun v_6 l_7 =>
 asS v_6 fun s_8 =>
 consT l_7 fun v_9 l_10 =>
 asI .i64 v_9 fun x_11 =>
 endT l_10 <|
 callK (vr 27 0 [(.t (.agg [(.int .i64 x_5), (.str s_8), (.int .i64 x_11)]))] ⟨[], []⟩) fun v_12 b_13 =>
 asT v_12 fun x_14 =>
 asI .i64 x_14 fun x_15 =>
 endB b_13 <|
(bif (!decide (x_15 = 0)) then
 some ((.tup [(.t (.str ⟨#[]⟩)), (.t (.int .i64 1))]), ⟨[], []⟩)
else
(bif (decide (x_5 = 4)) then
(bif (decide (t11 = 0)) then
 some ((.tup [(.t (.str ⟨#[]⟩)), (.t (.int .i64 1))]), ⟨[], []⟩)
else
(bif (decide (t11 = (IntKind.i64.wrap ((l0.length : Int) - 1)))) then
 some ((.tup [(.t (.str ⟨#[]⟩)), (.t (.int .i64 1))]), ⟨[], []⟩)
else
 needC (decide (0 ≤ (IntKind.i64.wrap (t11 - 1)))) fun _ =>
 getT l0 ((IntKind.i64.wrap (t11 - 1))).toNat fun e_16 =>
 asA e_16 fun l_17 =>
 consT l_17 fun v_18 l_19 =>
 asI .i64 v_18 fun x_20 =>
 consT l_19 fun v_21 l_22 =>
 asS v_21 fun s_23 =>
 consT l_22 fun v_24 l_25 =>
 asI .i64 v_24 fun x_26 =>
 endT l_25 <|
(bif (decide (x_20 = 4)) then
 some ((.tup [(.t (.str ⟨#[]⟩)), (.t (.int .i64 1))]), ⟨[], []⟩)
else
 KL24_2 [(0, (.t (.list 3 l0z l0))), (9, (.t (.list 3 t9z t9))), (10, (.t (.int .i64 t10))), (11, (.t (.int .i64 (IntKind.i64.wrap (t11 + 1)))))] ⟨[], []⟩)))
else
 KL24_2 [(0, (.t (.list 3 l0z l0))), (9, (.t (.list 3 t9z t9))), (10, (.t (.int .i64 t10))), (11, (.t (.int .i64 (IntKind.i64.wrap (t11 + 1)))))] ⟨[], []⟩))
else
(bif (decide (4096 < (l0.length : Int))) then
 some ((.tup [(.t (.str ⟨#[]⟩)), (.t (.int .i64 2))]), ⟨[], []⟩)
else
 KL24_11 [(0, (.t (.list 3 l0z l0))), (6, (.t (.str ⟨#[]⟩))), (48, (.t (.list 3 l0z l0))), (49, (.t (.int .i64 (l0.length : Int)))), (50, (.t (.int .i64 0)))] ⟨[], []⟩)) := by kernel_rfl
theorem L24_2_eq (l0z : Bool) (l0 : List T) (t9z : Bool) (t9 : List T) (t10 : Int) (t11 : Int) : L24_2 l0z l0 t9z t9 t10 t11 =
(bif (decide (t11 < t10)) then
 needC (decide (0 ≤ t11)) fun _ =>
 getT t9 (t11).toNat fun e_1 =>
 asA e_1 fun l_2 =>
 consT l_2 fun v_3 l_4 =>
 asI .i64 v_3 fun x_5 =>
 consT l_4 fun v_6 l_7 =>
 asS v_6 fun s_8 =>
 consT l_7 fun v_9 l_10 =>
 asI .i64 v_9 fun x_11 =>
 endT l_10 <|
 callK (vr 27 0 [(.t (.agg [(.int .i64 x_5), (.str s_8), (.int .i64 x_11)]))] ⟨[], []⟩) fun v_12 b_13 =>
 asT v_12 fun x_14 =>
 asI .i64 x_14 fun x_15 =>
 endB b_13 <|
(bif (!decide (x_15 = 0)) then
 some ((.tup [(.t (.str ⟨#[]⟩)), (.t (.int .i64 1))]), ⟨[], []⟩)
else
(bif (decide (x_5 = 4)) then
(bif (decide (t11 = 0)) then
 some ((.tup [(.t (.str ⟨#[]⟩)), (.t (.int .i64 1))]), ⟨[], []⟩)
else
(bif (decide (t11 = (IntKind.i64.wrap ((l0.length : Int) - 1)))) then
 some ((.tup [(.t (.str ⟨#[]⟩)), (.t (.int .i64 1))]), ⟨[], []⟩)
else
 needC (decide (0 ≤ (IntKind.i64.wrap (t11 - 1)))) fun _ =>
 getT l0 ((IntKind.i64.wrap (t11 - 1))).toNat fun e_16 =>
 asA e_16 fun l_17 =>
 consT l_17 fun v_18 l_19 =>
 asI .i64 v_18 fun x_20 =>
 consT l_19 fun v_21 l_22 =>
 asS v_21 fun s_23 =>
 consT l_22 fun v_24 l_25 =>
 asI .i64 v_24 fun x_26 =>
 endT l_25 <|
(bif (decide (x_20 = 4)) then
 some ((.tup [(.t (.str ⟨#[]⟩)), (.t (.int .i64 1))]), ⟨[], []⟩)
else
 L24_2 (l0z) (l0) (t9z) (t9) (t10) ((IntKind.i64.wrap (t11 + 1))))))
else
 L24_2 (l0z) (l0) (t9z) (t9) (t10) ((IntKind.i64.wrap (t11 + 1)))))
else
(bif (decide (4096 < (l0.length : Int))) then
 some ((.tup [(.t (.str ⟨#[]⟩)), (.t (.int .i64 2))]), ⟨[], []⟩)
else
 L24_11 (l0z) (l0) (⟨#[]⟩) (l0z) (l0) ((l0.length : Int)) (0))) :=
  (round_eq Try.prog hint (b := (nav (List.reverse [.lp, .blk, .snd, .fst, .snd]) (bodyOf Try.f24))) (fn := Try.f24) (nt := 79) (T := [([.blk, .snd, .fst, .snd], fun e st => atV Try.prog hint 24 0 Try.f24 79 (List.reverse [.blk, .snd, .fst, .snd]) e st), ([.blk, .snd, .fst, .snd, .snd, .snd, .snd], fun e st => atV Try.prog hint 24 0 Try.f24 79 (List.reverse [.blk, .snd, .fst, .snd, .snd, .snd, .snd]) e st)]) [[.blk, .snd, .fst, .snd], [.blk, .snd, .fst, .snd, .snd, .snd, .snd]] rfl [.blk, .snd, .fst, .snd] [(0, (.t (.list 3 l0z l0))), (9, (.t (.list 3 t9z t9))), (10, (.t (.int .i64 t10))), (11, (.t (.int .i64 t11)))] ⟨[], []⟩ rfl rfl rfl).trans (L24_2g (fun e st => atV Try.prog hint 24 0 Try.f24 79 (List.reverse [.blk, .snd, .fst, .snd]) e st) (fun e st => atV Try.prog hint 24 0 Try.f24 79 (List.reverse [.blk, .snd, .fst, .snd, .snd, .snd, .snd]) e st) l0z l0 t9z t9 t10 t11)
theorem L24_11g (KL24_2 KL24_11 : Env → St → Option Res) (l0z : Bool) (l0 : List T) (s6 : ByteArray) (t48z : Bool) (t48 : List T) (t49 : Int) (t50 : Int) : codeT Try.prog hint 24 0 79 [([.blk, .snd, .fst, .snd], KL24_2), ([.blk, .snd, .fst, .snd, .snd, .snd, .snd], KL24_11)] [.lp, .blk, .snd, .fst, .snd, .snd, .snd, .snd] (ctxT Try.prog hint 24 0 79 [([.blk, .snd, .fst, .snd], KL24_2), ([.blk, .snd, .fst, .snd, .snd, .snd, .snd], KL24_11)] [] (List.reverse [.lp, .blk, .snd, .fst, .snd, .snd, .snd, .snd]) (bodyOf Try.f24) (resKV Try.prog Try.f24 (hint.own 24 0))) [(0, (.t (.list 3 l0z l0))), (6, (.t (.str s6))), (48, (.t (.list 3 t48z t48))), (49, (.t (.int .i64 t49))), (50, (.t (.int .i64 t50)))] ⟨[], []⟩ (nav (List.reverse [.lp, .blk, .snd, .fst, .snd, .snd, .snd, .snd]) (bodyOf Try.f24)) =
(bif (decide (t50 < t49)) then
 needC (decide (0 ≤ t50)) fun _ =>
 getT t48 (t50).toNat fun e_1 =>
 asA e_1 fun l_2 =>
 consT l_2 fun v_3 l_4 =>
 asI .i64 v_3 fun x_5 =>
 consT l_4 fun v_6 l_7 =>
 asS v_6 fun s_8 =>
 consT l_7 fun v_9 l_10 =>
 asI .i64 v_9 fun x_11 =>
 endT l_10 <|
(bif (decide (x_5 = 4)) then
 catC s6 (⟨#[10]⟩) fun s_12 =>
 KL24_11 [(0, (.t (.list 3 l0z l0))), (6, (.t (.str s_12))), (48, (.t (.list 3 t48z t48))), (49, (.t (.int .i64 t49))), (50, (.t (.int .i64 (IntKind.i64.wrap (t50 + 1)))))] ⟨[], []⟩
else
(bif (decide (0 < t50)) then
 needC (decide (0 ≤ (IntKind.i64.wrap (t50 - 1)))) fun _ =>
 getT l0 ((IntKind.i64.wrap (t50 - 1))).toNat fun e_13 =>
 asA e_13 fun l_14 =>
 consT l_14 fun v_15 l_16 =>
 asI .i64 v_15 fun x_17 =>
 consT l_16 fun v_18 l_19 =>
 asS v_18 fun s_20 =>
 consT l_19 fun v_21 l_22 =>
 asI .i64 v_21 fun x_23 =>
 endT l_22 <|
(bif (!decide (x_17 = 4)) then
 catC s6 (⟨#[32]⟩) fun s_24 =>
 catC s_24 s_8 fun s_25 =>
 KL24_11 [(0, (.t (.list 3 l0z l0))), (6, (.t (.str s_25))), (48, (.t (.list 3 t48z t48))), (49, (.t (.int .i64 t49))), (50, (.t (.int .i64 (IntKind.i64.wrap (t50 + 1)))))] ⟨[], []⟩
else
 catC s6 s_8 fun s_26 =>
 KL24_11 [(0, (.t (.list 3 l0z l0))), (6, (.t (.str s_26))), (48, (.t (.list 3 t48z t48))), (49, (.t (.int .i64 t49))), (50, (.t (.int .i64 (IntKind.i64.wrap (t50 + 1)))))] ⟨[], []⟩)
else
 catC s6 s_8 fun s_27 =>
 KL24_11 [(0, (.t (.list 3 l0z l0))), (6, (.t (.str s_27))), (48, (.t (.list 3 t48z t48))), (49, (.t (.int .i64 t49))), (50, (.t (.int .i64 (IntKind.i64.wrap (t50 + 1)))))] ⟨[], []⟩))
else
 some ((.tup [(.t (.str s6)), (.t (.int .i64 0))]), ⟨[], []⟩)) := by kernel_rfl
theorem L24_11_eq (l0z : Bool) (l0 : List T) (s6 : ByteArray) (t48z : Bool) (t48 : List T) (t49 : Int) (t50 : Int) : L24_11 l0z l0 s6 t48z t48 t49 t50 =
(bif (decide (t50 < t49)) then
 needC (decide (0 ≤ t50)) fun _ =>
 getT t48 (t50).toNat fun e_1 =>
 asA e_1 fun l_2 =>
 consT l_2 fun v_3 l_4 =>
 asI .i64 v_3 fun x_5 =>
 consT l_4 fun v_6 l_7 =>
 asS v_6 fun s_8 =>
 consT l_7 fun v_9 l_10 =>
 asI .i64 v_9 fun x_11 =>
 endT l_10 <|
(bif (decide (x_5 = 4)) then
 catC s6 (⟨#[10]⟩) fun s_12 =>
 L24_11 (l0z) (l0) (s_12) (t48z) (t48) (t49) ((IntKind.i64.wrap (t50 + 1)))
else
(bif (decide (0 < t50)) then
 needC (decide (0 ≤ (IntKind.i64.wrap (t50 - 1)))) fun _ =>
 getT l0 ((IntKind.i64.wrap (t50 - 1))).toNat fun e_13 =>
 asA e_13 fun l_14 =>
 consT l_14 fun v_15 l_16 =>
 asI .i64 v_15 fun x_17 =>
 consT l_16 fun v_18 l_19 =>
 asS v_18 fun s_20 =>
 consT l_19 fun v_21 l_22 =>
 asI .i64 v_21 fun x_23 =>
 endT l_22 <|
(bif (!decide (x_17 = 4)) then
 catC s6 (⟨#[32]⟩) fun s_24 =>
 catC s_24 s_8 fun s_25 =>
 L24_11 (l0z) (l0) (s_25) (t48z) (t48) (t49) ((IntKind.i64.wrap (t50 + 1)))
else
 catC s6 s_8 fun s_26 =>
 L24_11 (l0z) (l0) (s_26) (t48z) (t48) (t49) ((IntKind.i64.wrap (t50 + 1))))
else
 catC s6 s_8 fun s_27 =>
 L24_11 (l0z) (l0) (s_27) (t48z) (t48) (t49) ((IntKind.i64.wrap (t50 + 1)))))
else
 some ((.tup [(.t (.str s6)), (.t (.int .i64 0))]), ⟨[], []⟩)) :=
  (round_eq Try.prog hint (b := (nav (List.reverse [.lp, .blk, .snd, .fst, .snd, .snd, .snd, .snd]) (bodyOf Try.f24))) (fn := Try.f24) (nt := 79) (T := [([.blk, .snd, .fst, .snd], fun e st => atV Try.prog hint 24 0 Try.f24 79 (List.reverse [.blk, .snd, .fst, .snd]) e st), ([.blk, .snd, .fst, .snd, .snd, .snd, .snd], fun e st => atV Try.prog hint 24 0 Try.f24 79 (List.reverse [.blk, .snd, .fst, .snd, .snd, .snd, .snd]) e st)]) [[.blk, .snd, .fst, .snd], [.blk, .snd, .fst, .snd, .snd, .snd, .snd]] rfl [.blk, .snd, .fst, .snd, .snd, .snd, .snd] [(0, (.t (.list 3 l0z l0))), (6, (.t (.str s6))), (48, (.t (.list 3 t48z t48))), (49, (.t (.int .i64 t49))), (50, (.t (.int .i64 t50)))] ⟨[], []⟩ rfl rfl rfl).trans (L24_11g (fun e st => atV Try.prog hint 24 0 Try.f24 79 (List.reverse [.blk, .snd, .fst, .snd]) e st) (fun e st => atV Try.prog hint 24 0 Try.f24 79 (List.reverse [.blk, .snd, .fst, .snd, .snd, .snd, .snd]) e st) l0z l0 s6 t48z t48 t49 t50)
end Go.Proofs.Ytemdhiejbncafaa.VM
