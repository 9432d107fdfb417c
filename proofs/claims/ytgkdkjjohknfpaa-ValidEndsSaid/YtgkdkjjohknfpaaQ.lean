/- The equations, the second part. Conditions: none. -/
import Derived.Test.YtgkdkjjohknfpaaQa
set_option linter.all false
namespace Go.Proofs.Ytgkdkjjohknfpaa.VM
open Go AM

noncomputable def R44  (a0_0 a0_1 a0_2 a0_3 a0_4 a1_0 a1_1 a1_2 : Int) (a1_3z : Bool) (a1_3 : List T) : Option Res :=
 callK (vr 38 0 [.t (.int .i64 a0_0)] ⟨[], []⟩) fun V1 B2 =>
 asTup V1 fun L3 =>
 consV L3 fun V4 L5 =>
 asT V4 fun X6 =>
 asA X6 fun L7 =>
 consT L7 fun V8 L9 =>
 asS V8 fun S10 =>
 consT L9 fun V11 L12 =>
 asI .i64 V11 fun X13 =>
 consT L12 fun V14 L15 =>
 asI .i64 V14 fun X16 =>
 consT L15 fun V17 L18 =>
 asI .i64 V17 fun X19 =>
 endT L18 <|
 consV L5 fun V20 L21 =>
 asT V20 fun X22 =>
 asB X22 fun B23 =>
 endV L21 <|
 endB B2 <|
 callK (vr 42 0 [.ptr 0 0 0] ⟨[(0, .var [.t (.int .i64 a0_0), .t (.int .i64 a0_1), .t (.int .i64 a0_2), .t (.int .i64 a0_3), .t (.int .i64 a0_4)])], []⟩) fun V24 B25 =>
 asG V24 fun L26 =>
 consV L26 fun V27 L28 =>
 isPtr 0 0 1 V27 <|
 consV L28 fun V29 L30 =>
 isPtr 0 0 2 V29 <|
 consV L30 fun V31 L32 =>
 isPtr 0 0 3 V31 <|
 endV L32 <|
 consB 0 B25 fun K33 B34 =>
 asVar K33 fun L35 =>
 consV L35 fun V36 L37 =>
 asT V36 fun X38 =>
 asI .i64 X38 fun X39 =>
 consV L37 fun V40 L41 =>
 asT V40 fun X42 =>
 asI .i64 X42 fun X43 =>
 consV L41 fun V44 L45 =>
 asT V44 fun X46 =>
 asI .i64 X46 fun X47 =>
 consV L45 fun V48 L49 =>
 asT V48 fun X50 =>
 asI .i64 X50 fun X51 =>
 consV L49 fun V52 L53 =>
 asT V52 fun X54 =>
 asI .i64 X54 fun X55 =>
 endV L53 <|
 endB B34 <|
(bif B23 then
(bif (decide (0 ≤ X43)) then
 needC (decide (0 ≤ X13) && decide (X13 < (6 : Int))) fun _ =>
 getT ([.int .i64 1, .int .i64 a1_0, .int .i64 a1_0, .int .i64 a1_1, .int .i64 (a1_3.length : Int), .int .i64 1]) ((0 + (X13).toNat * 1)) fun C56 =>
 asI .i64 C56 fun X57 =>
(bif (decide (X43 < X57)) then
(bif (decide (0 ≤ X47)) then
 needC (decide (0 ≤ X16) && decide (X16 < (6 : Int))) fun _ =>
 getT ([.int .i64 1, .int .i64 a1_0, .int .i64 a1_0, .int .i64 a1_1, .int .i64 (a1_3.length : Int), .int .i64 1]) ((0 + (X16).toNat * 1)) fun C58 =>
 asI .i64 C58 fun X59 =>
(bif (decide (X47 < X59)) then
(bif (decide (0 ≤ X51)) then
 needC (decide (0 ≤ X19) && decide (X19 < (6 : Int))) fun _ =>
 getT ([.int .i64 1, .int .i64 a1_0, .int .i64 a1_0, .int .i64 a1_1, .int .i64 (a1_3.length : Int), .int .i64 1]) ((0 + (X19).toNat * 1)) fun C60 =>
 asI .i64 C60 fun X61 =>
(bif (!decide (X16 = 5)) then
(bif (decide (X51 < X61)) then
 some ((.t (.bool (decide (X55 = 0)))), ⟨[], []⟩)
else
 some ((.t (.bool false)), ⟨[], []⟩))
else
(bif (decide (X51 < X61)) then
(bif (decide ((-1000000000000000000) < X55)) then
 some ((.t (.bool (decide (X55 < 1000000000000000000)))), ⟨[], []⟩)
else
 some ((.t (.bool false)), ⟨[], []⟩))
else
 some ((.t (.bool false)), ⟨[], []⟩)))
else
(bif (!decide (X16 = 5)) then
 some ((.t (.bool false)), ⟨[], []⟩)
else
 some ((.t (.bool false)), ⟨[], []⟩)))
else
(bif (!decide (X16 = 5)) then
 some ((.t (.bool false)), ⟨[], []⟩)
else
 some ((.t (.bool false)), ⟨[], []⟩)))
else
(bif (!decide (X16 = 5)) then
 some ((.t (.bool false)), ⟨[], []⟩)
else
 some ((.t (.bool false)), ⟨[], []⟩)))
else
(bif (!decide (X16 = 5)) then
 some ((.t (.bool false)), ⟨[], []⟩)
else
 some ((.t (.bool false)), ⟨[], []⟩)))
else
(bif (!decide (X16 = 5)) then
 some ((.t (.bool false)), ⟨[], []⟩)
else
 some ((.t (.bool false)), ⟨[], []⟩)))
else
(bif (!decide (X16 = 5)) then
 some ((.t (.bool false)), ⟨[], []⟩)
else
 some ((.t (.bool false)), ⟨[], []⟩)))
theorem eq44g  (a0_0 a0_1 a0_2 a0_3 a0_4 a1_0 a1_1 a1_2 : Int) (a1_3z : Bool) (a1_3 : List T) : gE 44 0 72 Try.f44 [] [.t (.agg [.int .i64 a0_0, .int .i64 a0_1, .int .i64 a0_2, .int .i64 a0_3, .int .i64 a0_4]), .t (.agg [.int .i64 a1_0, .int .i64 a1_1, .int .i64 a1_2, .list 5 a1_3z a1_3])] ⟨[], []⟩ = R44  a0_0 a0_1 a0_2 a0_3 a0_4 a1_0 a1_1 a1_2 a1_3z a1_3 := by kernel_rfl
theorem eq44 (a0_0 a0_1 a0_2 a0_3 a0_4 a1_0 a1_1 a1_2 : Int) (a1_3z : Bool) (a1_3 : List T) : vr 44 0 [.t (.agg [.int .i64 a0_0, .int .i64 a0_1, .int .i64 a0_2, .int .i64 a0_3, .int .i64 a0_4]), .t (.agg [.int .i64 a1_0, .int .i64 a1_1, .int .i64 a1_2, .list 5 a1_3z a1_3])] ⟨[], []⟩ = R44  a0_0 a0_1 a0_2 a0_3 a0_4 a1_0 a1_1 a1_2 a1_3z a1_3 :=
  Eq.trans (call_eq Try.prog hint (fn := Try.f44) (nt := 72) (T := []) [] rfl _ _ rfl rfl rfl rfl rfl) (eq44g  a0_0 a0_1 a0_2 a0_3 a0_4 a1_0 a1_1 a1_2 a1_3z a1_3)
noncomputable def R43  (a0_0 a0_1 a0_2 a0_3 a0_4 m0_0 m0_1 m0_2 : Int) (m0_3z : Bool) (m0_3 : List T) : Option Res :=
 callK (vr 44 0 [.t (.agg [.int .i64 a0_0, .int .i64 a0_1, .int .i64 a0_2, .int .i64 a0_3, .int .i64 a0_4]), .t (.agg [.int .i64 m0_0, .int .i64 m0_1, .int .i64 m0_2, .list 5 m0_3z m0_3])] ⟨[], []⟩) fun V1 B2 =>
 asT V1 fun X3 =>
 asB X3 fun B4 =>
 endB B2 <|
 some ((.t (.bool (!B4))), (Z3 m0_0 m0_1 m0_2 m0_3z m0_3))
theorem eq43g  (a0_0 a0_1 a0_2 a0_3 a0_4 m0_0 m0_1 m0_2 : Int) (m0_3z : Bool) (m0_3 : List T) : gE 43 0 8 Try.f43 [] [.t (.agg [.int .i64 a0_0, .int .i64 a0_1, .int .i64 a0_2, .int .i64 a0_3, .int .i64 a0_4]), .ptr 0 0 0] ⟨[(0, .var [.t (.int .i64 m0_0), .t (.int .i64 m0_1), .t (.int .i64 m0_2), .t (.list 5 m0_3z m0_3)])], []⟩ = R43  a0_0 a0_1 a0_2 a0_3 a0_4 m0_0 m0_1 m0_2 m0_3z m0_3 := by kernel_rfl
theorem eq43 (a0_0 a0_1 a0_2 a0_3 a0_4 m0_0 m0_1 m0_2 : Int) (m0_3z : Bool) (m0_3 : List T) : vr 43 0 [.t (.agg [.int .i64 a0_0, .int .i64 a0_1, .int .i64 a0_2, .int .i64 a0_3, .int .i64 a0_4]), .ptr 0 0 0] ⟨[(0, .var [.t (.int .i64 m0_0), .t (.int .i64 m0_1), .t (.int .i64 m0_2), .t (.list 5 m0_3z m0_3)])], []⟩ = R43  a0_0 a0_1 a0_2 a0_3 a0_4 m0_0 m0_1 m0_2 m0_3z m0_3 :=
  Eq.trans (call_eq Try.prog hint (fn := Try.f43) (nt := 8) (T := []) [] rfl _ _ rfl rfl rfl rfl rfl) (eq43g  a0_0 a0_1 a0_2 a0_3 a0_4 m0_0 m0_1 m0_2 m0_3z m0_3)
noncomputable def R59 (L59_2 : YL59_2) (a0z : Bool) (a0 : List T) (m0_0 m0_1 m0_2 : Int) (m0_3z : Bool) (m0_3 : List T) : Option Res :=
 L59_2 (a0z) (a0) ((a0.length : Int)) (0) (m0_0) (m0_1) (m0_2) (m0_3z) (m0_3)
theorem eq59g (KL59_2 : Env → St → Option Res) (a0z : Bool) (a0 : List T) (m0_0 m0_1 m0_2 : Int) (m0_3z : Bool) (m0_3 : List T) : gE 59 0 19 Try.f59 (Ta59 KL59_2) [.t (.list 5 a0z a0), .fn 43 [] [.ptr 0 0 0]] ⟨[(0, .var [.t (.int .i64 m0_0), .t (.int .i64 m0_1), .t (.int .i64 m0_2), .t (.list 5 m0_3z m0_3)])], []⟩ = R59 (WL59_2 KL59_2) a0z a0 m0_0 m0_1 m0_2 m0_3z m0_3 := by kernel_rfl
theorem eq59 (a0z : Bool) (a0 : List T) (m0_0 m0_1 m0_2 : Int) (m0_3z : Bool) (m0_3 : List T) : vr 59 0 [.t (.list 5 a0z a0), .fn 43 [] [.ptr 0 0 0]] ⟨[(0, .var [.t (.int .i64 m0_0), .t (.int .i64 m0_1), .t (.int .i64 m0_2), .t (.list 5 m0_3z m0_3)])], []⟩ = R59 L59_2 a0z a0 m0_0 m0_1 m0_2 m0_3z m0_3 :=
  Eq.trans (call_eq Try.prog hint (fn := Try.f59) (nt := 19) (T := (Ta59 VL59_2)) [PaL59_2] rfl _ _ rfl rfl rfl rfl rfl) (eq59g VL59_2 a0z a0 m0_0 m0_1 m0_2 m0_3z m0_3)
noncomputable def RL59_2 (L59_2 : YL59_2) (s0z : Bool) (s0 : List T) (t7 t8 m0_0 m0_1 m0_2 : Int) (m0_3z : Bool) (m0_3 : List T) : Option Res :=
(bif (decide (t8 < t7)) then
 needC (decide (0 ≤ t8)) fun _ =>
 getT s0 (t8).toNat fun E1 =>
 asA E1 fun L2 =>
 consT L2 fun V3 L4 =>
 asI .i64 V3 fun X5 =>
 consT L4 fun V6 L7 =>
 asI .i64 V6 fun X8 =>
 consT L7 fun V9 L10 =>
 asI .i64 V9 fun X11 =>
 consT L10 fun V12 L13 =>
 asI .i64 V12 fun X14 =>
 consT L13 fun V15 L16 =>
 asI .i64 V15 fun X17 =>
 endT L16 <|
 callK (vr 43 0 [.t (.agg [.int .i64 X5, .int .i64 X8, .int .i64 X11, .int .i64 X14, .int .i64 X17]), .ptr 0 0 0] (Z4 m0_0 m0_1 m0_2 m0_3z m0_3)) fun V18 B19 =>
 asT V18 fun X20 =>
 asB X20 fun B21 =>
 consB 0 B19 fun K22 B23 =>
 asVar K22 fun L24 =>
 consV L24 fun V25 L26 =>
 asT V25 fun X27 =>
 asI .i64 X27 fun X28 =>
 consV L26 fun V29 L30 =>
 asT V29 fun X31 =>
 asI .i64 X31 fun X32 =>
 consV L30 fun V33 L34 =>
 asT V33 fun X35 =>
 asI .i64 X35 fun X36 =>
 consV L34 fun V37 L38 =>
 asT V37 fun X39 =>
 asL 5 X39 fun N40 L41 =>
 endV L38 <|
 endB B23 <|
(bif B21 then
 some ((.t (.int .i64 t8)), (Z3 X28 X32 X36 N40 L41))
else
 L59_2 (s0z) (s0) (t7) ((IntKind.i64.wrap (t8 + 1))) (X28) (X32) (X36) (N40) (L41))
else
 some ((.t (.int .i64 (-1))), (Z3 m0_0 m0_1 m0_2 m0_3z m0_3)))
theorem L59_2g (KL59_2 : Env → St → Option Res) (s0z : Bool) (s0 : List T) (t7 t8 m0_0 m0_1 m0_2 : Int) (m0_3z : Bool) (m0_3 : List T) : WL59_2 (fun e st => gP 59 0 19 Try.f59 (Ta59 KL59_2) (.lp :: PaL59_2) e st) s0z s0 t7 t8 m0_0 m0_1 m0_2 m0_3z m0_3 = RL59_2 (WL59_2 KL59_2) s0z s0 t7 t8 m0_0 m0_1 m0_2 m0_3z m0_3 := by kernel_rfl
theorem L59_2_eq (s0z : Bool) (s0 : List T) (t7 t8 m0_0 m0_1 m0_2 : Int) (m0_3z : Bool) (m0_3 : List T) : L59_2 s0z s0 t7 t8 m0_0 m0_1 m0_2 m0_3z m0_3 = RL59_2 L59_2 s0z s0 t7 t8 m0_0 m0_1 m0_2 m0_3z m0_3 :=
  (congrArg (fun k => WL59_2 k s0z s0 t7 t8 m0_0 m0_1 m0_2 m0_3z m0_3) (funext fun e => funext fun st => round_eq Try.prog hint (b := (nav (List.reverse (.lp :: PaL59_2)) (bodyOf Try.f59))) (fn := Try.f59) (nt := 19) (T := (Ta59 VL59_2)) [PaL59_2] rfl PaL59_2 e st rfl rfl rfl)).trans (L59_2g VL59_2 s0z s0 t7 t8 m0_0 m0_1 m0_2 m0_3z m0_3)
noncomputable def R40  (a0z : Bool) (a0 : List T) (m0_0 m0_1 m0_2 : Int) (m0_3z : Bool) (m0_3 : List T) : Option Res :=
 callK (vr 59 0 [.t (.list 5 a0z a0), .fn 43 [] [.ptr 0 0 0]] (Z4 m0_0 m0_1 m0_2 m0_3z m0_3)) fun V1 B2 =>
 asT V1 fun X3 =>
 asI .i64 X3 fun X4 =>
 consB 0 B2 fun K5 B6 =>
 asVar K5 fun L7 =>
 consV L7 fun V8 L9 =>
 asT V8 fun X10 =>
 asI .i64 X10 fun X11 =>
 consV L9 fun V12 L13 =>
 asT V12 fun X14 =>
 asI .i64 X14 fun X15 =>
 consV L13 fun V16 L17 =>
 asT V16 fun X18 =>
 asI .i64 X18 fun X19 =>
 consV L17 fun V20 L21 =>
 asT V20 fun X22 =>
 asL 5 X22 fun N23 L24 =>
 endV L21 <|
 endB B6 <|
 some ((.t (.bool (decide (0 ≤ X4)))), (Z3 X11 X15 X19 N23 L24))
theorem eq40g  (a0z : Bool) (a0 : List T) (m0_0 m0_1 m0_2 : Int) (m0_3z : Bool) (m0_3 : List T) : gE 40 0 9 Try.f40 [] [.t (.list 5 a0z a0), .fn 43 [] [.ptr 0 0 0]] ⟨[(0, .var [.t (.int .i64 m0_0), .t (.int .i64 m0_1), .t (.int .i64 m0_2), .t (.list 5 m0_3z m0_3)])], []⟩ = R40  a0z a0 m0_0 m0_1 m0_2 m0_3z m0_3 := by kernel_rfl
theorem eq40 (a0z : Bool) (a0 : List T) (m0_0 m0_1 m0_2 : Int) (m0_3z : Bool) (m0_3 : List T) : vr 40 0 [.t (.list 5 a0z a0), .fn 43 [] [.ptr 0 0 0]] ⟨[(0, .var [.t (.int .i64 m0_0), .t (.int .i64 m0_1), .t (.int .i64 m0_2), .t (.list 5 m0_3z m0_3)])], []⟩ = R40  a0z a0 m0_0 m0_1 m0_2 m0_3z m0_3 :=
  Eq.trans (call_eq Try.prog hint (fn := Try.f40) (nt := 9) (T := []) [] rfl _ _ rfl rfl rfl rfl rfl) (eq40g  a0z a0 m0_0 m0_1 m0_2 m0_3z m0_3)
noncomputable def R18  (a0_0 a0_1 a0_2 : Int) (a0_3z : Bool) (a0_3 : List T) : Option Res :=
(bif (decide (0 ≤ a0_0)) then
(bif (decide (a0_0 ≤ 128)) then
(bif (decide (0 ≤ a0_1)) then
(bif (decide (a0_1 ≤ 128)) then
(bif (decide (0 ≤ a0_2)) then
(bif (!(decide (a0_2 ≤ a0_1))) then
 some ((.t (.int .i64 1)), ⟨[], []⟩)
else
(bif (decide ((a0_3.length : Int) = 0)) then
 some ((.t (.int .i64 1)), ⟨[], []⟩)
else
(bif (decide (4096 < (a0_3.length : Int))) then
 some ((.t (.int .i64 1)), ⟨[], []⟩)
else
 callK (vr 40 0 [.t (.list 5 a0_3z a0_3), .fn 43 [] [.ptr 0 0 0]] (Z4 a0_0 a0_1 a0_2 a0_3z a0_3)) fun V1 B2 =>
 asT V1 fun X3 =>
 asB X3 fun B4 =>
 consB 0 B2 fun K5 B6 =>
 asVar K5 fun L7 =>
 consV L7 fun V8 L9 =>
 asT V8 fun X10 =>
 asI .i64 X10 fun X11 =>
 consV L9 fun V12 L13 =>
 asT V12 fun X14 =>
 asI .i64 X14 fun X15 =>
 consV L13 fun V16 L17 =>
 asT V16 fun X18 =>
 asI .i64 X18 fun X19 =>
 consV L17 fun V20 L21 =>
 asT V20 fun X22 =>
 asL 5 X22 fun N23 L24 =>
 endV L21 <|
 endB B6 <|
(bif B4 then
 some ((.t (.int .i64 1)), ⟨[], []⟩)
else
 needC (decide (0 ≤ (IntKind.i64.wrap ((L24.length : Int) - 1)))) fun _ =>
 getT L24 ((IntKind.i64.wrap ((L24.length : Int) - 1))).toNat fun E25 =>
 asA E25 fun L26 =>
 consT L26 fun V27 L28 =>
 asI .i64 V27 fun X29 =>
 consT L28 fun V30 L31 =>
 asI .i64 V30 fun X32 =>
 consT L31 fun V33 L34 =>
 asI .i64 V33 fun X35 =>
 consT L34 fun V36 L37 =>
 asI .i64 V36 fun X38 =>
 consT L37 fun V39 L40 =>
 asI .i64 V39 fun X41 =>
 endT L40 <|
(bif (!decide (X29 = 0)) then
(bif (!decide (X29 = 10)) then
 some ((.t (.int .i64 1)), ⟨[], []⟩)
else
 some ((.t (.int .i64 0)), ⟨[], []⟩))
else
 some ((.t (.int .i64 0)), ⟨[], []⟩))))))
else
 some ((.t (.int .i64 1)), ⟨[], []⟩))
else
 some ((.t (.int .i64 1)), ⟨[], []⟩))
else
 some ((.t (.int .i64 1)), ⟨[], []⟩))
else
 some ((.t (.int .i64 1)), ⟨[], []⟩))
else
 some ((.t (.int .i64 1)), ⟨[], []⟩))
theorem eq18g  (a0_0 a0_1 a0_2 : Int) (a0_3z : Bool) (a0_3 : List T) : gE 18 0 70 Try.f18 [] [.t (.agg [.int .i64 a0_0, .int .i64 a0_1, .int .i64 a0_2, .list 5 a0_3z a0_3])] ⟨[], []⟩ = R18  a0_0 a0_1 a0_2 a0_3z a0_3 := by kernel_rfl
theorem eq18 (a0_0 a0_1 a0_2 : Int) (a0_3z : Bool) (a0_3 : List T) : vr 18 0 [.t (.agg [.int .i64 a0_0, .int .i64 a0_1, .int .i64 a0_2, .list 5 a0_3z a0_3])] ⟨[], []⟩ = R18  a0_0 a0_1 a0_2 a0_3z a0_3 :=
  Eq.trans (call_eq Try.prog hint (fn := Try.f18) (nt := 70) (T := []) [] rfl _ _ rfl rfl rfl rfl rfl) (eq18g  a0_0 a0_1 a0_2 a0_3z a0_3)
noncomputable def R32 (L32_8 : YL32_8) (J32_17 : YJ32_17) (a0 : ByteArray) : Option Res :=
 callK (vr 52 0 [.t (.str a0)] ⟨[], []⟩) fun V1 B2 =>
 asTup V1 fun L3 =>
 consV L3 fun V4 L5 =>
 asT V4 fun X6 =>
 asL 3 X6 fun N7 L8 =>
 consV L5 fun V9 L10 =>
 asT V9 fun X11 =>
 asI .i64 X11 fun X12 =>
 consV L10 fun V13 L14 =>
 asT V13 fun X15 =>
 asI .i64 X15 fun X16 =>
 endV L14 <|
 endB B2 <|
(bif (!decide (X16 = 0)) then
 some ((.tup [.t (.agg [.int .i64 0, .int .i64 0, .int .i64 0, .list 5 false []]), .t (.int .i64 X12), .t (.int .i64 X16)]), ⟨[], []⟩)
else
 callK (vr 53 0 [.t (.list 3 N7 L8)] ⟨[], []⟩) fun V17 B18 =>
 asT V17 fun X19 =>
 asL 1 X19 fun N20 L21 =>
 endB B18 <|
(bif (decide ((L21.length : Int) = 0)) then
 some ((.tup [.t (.agg [.int .i64 0, .int .i64 0, .int .i64 0, .list 5 false []]), .t (.int .i64 0), .t (.int .i64 6)]), ⟨[], []⟩)
else
 L32_8 (N20) (L21) (N20) (L21) ((L21.length : Int)) (0) (0) (0) (0) (false) ([])))
theorem eq32g (KL32_8 KJ32_17 : Env → St → Option Res) (a0 : ByteArray) : gE 32 0 92 Try.f32 (Ta32 KL32_8 KJ32_17) [.t (.str a0)] ⟨[], []⟩ = R32 (WL32_8 KL32_8) (WJ32_17 KJ32_17) a0 := by kernel_rfl
theorem eq32 (a0 : ByteArray) : vr 32 0 [.t (.str a0)] ⟨[], []⟩ = R32 L32_8 J32_17 a0 :=
  Eq.trans (call_eq Try.prog hint (fn := Try.f32) (nt := 92) (T := (Ta32 VL32_8 VJ32_17)) [PaL32_8, PaJ32_17] rfl _ _ rfl rfl rfl rfl rfl) (eq32g VL32_8 VJ32_17 a0)
noncomputable def RL32_8 (L32_8 : YL32_8) (J32_17 : YJ32_17) (lines8z : Bool) (lines8 : List T) (t30z : Bool) (t30 : List T) (t31 t32 m8_0 m8_1 m8_2 : Int) (m9z : Bool) (m9 : List T) : Option Res :=
(bif (decide (t32 < t31)) then
 needC (decide (0 ≤ t32)) fun _ =>
 getT t30 (t32).toNat fun E1 =>
 asL 3 E1 fun N2 L3 =>
(bif (decide (t32 = 0)) then
 callK (vr 54 0 [.ptr 0 0 0, .t (.int .i64 1)] ⟨[(0, .var [.t (.list 3 N2 L3), .t (.bool false)])], []⟩) fun V4 B5 =>
 asT V4 fun X6 =>
 asA X6 fun L7 =>
 consT L7 fun V8 L9 =>
 asI .i64 V8 fun X10 =>
 consT L9 fun V11 L12 =>
 asS V11 fun S13 =>
 consT L12 fun V14 L15 =>
 asI .i64 V14 fun X16 =>
 endT L15 <|
 consB 0 B5 fun K17 B18 =>
 asVar K17 fun L19 =>
 consV L19 fun V20 L21 =>
 asT V20 fun X22 =>
 asL 3 X22 fun N23 L24 =>
 consV L21 fun V25 L26 =>
 asT V25 fun X27 =>
 asB X27 fun B28 =>
 endV L26 <|
 endB B18 <|
 callK (vr 54 0 [.ptr 0 0 0, .t (.int .i64 2)] ⟨[(0, .var [.t (.list 3 N23 L24), .t (.bool (!decide ((S13 : ByteArray) = ⟨#[99, 111, 100, 101]⟩)))])], []⟩) fun V29 B30 =>
 asT V29 fun X31 =>
 asA X31 fun L32 =>
 consT L32 fun V33 L34 =>
 asI .i64 V33 fun X35 =>
 consT L34 fun V36 L37 =>
 asS V36 fun S38 =>
 consT L37 fun V39 L40 =>
 asI .i64 V39 fun X41 =>
 endT L40 <|
 consB 0 B30 fun K42 B43 =>
 asVar K42 fun L44 =>
 consV L44 fun V45 L46 =>
 asT V45 fun X47 =>
 asL 3 X47 fun N48 L49 =>
 consV L46 fun V50 L51 =>
 asT V50 fun X52 =>
 asB X52 fun B53 =>
 endV L51 <|
 endB B43 <|
 callK (vr 54 0 [.ptr 0 0 0, .t (.int .i64 2)] (Z2 N48 L49 B53)) fun V54 B55 =>
 asT V54 fun X56 =>
 asA X56 fun L57 =>
 consT L57 fun V58 L59 =>
 asI .i64 V58 fun X60 =>
 consT L59 fun V61 L62 =>
 asS V61 fun S63 =>
 consT L62 fun V64 L65 =>
 asI .i64 V64 fun X66 =>
 endT L65 <|
 consB 0 B55 fun K67 B68 =>
 asVar K67 fun L69 =>
 consV L69 fun V70 L71 =>
 asT V70 fun X72 =>
 asL 3 X72 fun N73 L74 =>
 consV L71 fun V75 L76 =>
 asT V75 fun X77 =>
 asB X77 fun B78 =>
 endV L76 <|
 endB B68 <|
 callK (vr 54 0 [.ptr 0 0 0, .t (.int .i64 2)] (Z2 N73 L74 B78)) fun V79 B80 =>
 asT V79 fun X81 =>
 asA X81 fun L82 =>
 consT L82 fun V83 L84 =>
 asI .i64 V83 fun X85 =>
 consT L84 fun V86 L87 =>
 asS V86 fun S88 =>
 consT L87 fun V89 L90 =>
 asI .i64 V89 fun X91 =>
 endT L90 <|
 consB 0 B80 fun K92 B93 =>
 asVar K92 fun L94 =>
 consV L94 fun V95 L96 =>
 asT V95 fun X97 =>
 asL 3 X97 fun N98 L99 =>
 consV L96 fun V100 L101 =>
 asT V100 fun X102 =>
 asB X102 fun B103 =>
 endV L101 <|
 endB B93 <|
 J32_17 (lines8z) (lines8) (t32) (t30z) (t30) (t31) (t32) (X41) (X66) (X91) (m9z) (m9) (N98) (L99) (B103)
else
 callK (vr 55 0 [.ptr 0 0 0] ⟨[(0, .var [.t (.list 3 N2 L3), .t (.bool false)])], []⟩) fun V104 B105 =>
 asT V104 fun X106 =>
 asA X106 fun L107 =>
 consT L107 fun V108 L109 =>
 asI .i64 V108 fun X110 =>
 consT L109 fun V111 L112 =>
 asI .i64 V111 fun X113 =>
 consT L112 fun V114 L115 =>
 asI .i64 V114 fun X116 =>
 consT L115 fun V117 L118 =>
 asI .i64 V117 fun X119 =>
 consT L118 fun V120 L121 =>
 asI .i64 V120 fun X122 =>
 endT L121 <|
 consB 0 B105 fun K123 B124 =>
 asVar K123 fun L125 =>
 consV L125 fun V126 L127 =>
 asT V126 fun X128 =>
 asL 3 X128 fun N129 L130 =>
 consV L127 fun V131 L132 =>
 asT V131 fun X133 =>
 asB X133 fun B134 =>
 endV L132 <|
 endB B124 <|
 needC (decide ((m9.length + 1) * (40 + 1) ≤ 70368744177664) && decide (40 ≤ 1048576)) fun _ =>
 J32_17 (lines8z) (lines8) (t32) (t30z) (t30) (t31) (t32) (m8_0) (m8_1) (m8_2) ((m9z || true)) ((m9 ++ ([.agg [.int .i64 X110, .int .i64 X113, .int .i64 X116, .int .i64 X119, .int .i64 X122]] : List T))) (N129) (L130) (B134))
else
 callK (vr 18 0 [.t (.agg [.int .i64 m8_0, .int .i64 m8_1, .int .i64 m8_2, .list 5 m9z m9])] ⟨[], []⟩) fun V135 B136 =>
 asT V135 fun X137 =>
 asI .i64 X137 fun X138 =>
 endB B136 <|
(bif (!decide (X138 = 0)) then
 some ((.tup [.t (.agg [.int .i64 0, .int .i64 0, .int .i64 0, .list 5 false []]), .t (.int .i64 0), .t (.int .i64 X138)]), ⟨[], []⟩)
else
 some ((.tup [.t (.agg [.int .i64 m8_0, .int .i64 m8_1, .int .i64 m8_2, .list 5 m9z m9]), .t (.int .i64 (lines8.length : Int)), .t (.int .i64 0)]), ⟨[], []⟩)))
theorem L32_8g (KL32_8 KJ32_17 : Env → St → Option Res) (lines8z : Bool) (lines8 : List T) (t30z : Bool) (t30 : List T) (t31 t32 m8_0 m8_1 m8_2 : Int) (m9z : Bool) (m9 : List T) : WL32_8 (fun e st => gP 32 0 92 Try.f32 (Ta32 KL32_8 KJ32_17) (.lp :: PaL32_8) e st) lines8z lines8 t30z t30 t31 t32 m8_0 m8_1 m8_2 m9z m9 = RL32_8 (WL32_8 KL32_8) (WJ32_17 KJ32_17) lines8z lines8 t30z t30 t31 t32 m8_0 m8_1 m8_2 m9z m9 := by kernel_rfl
theorem L32_8_eq (lines8z : Bool) (lines8 : List T) (t30z : Bool) (t30 : List T) (t31 t32 m8_0 m8_1 m8_2 : Int) (m9z : Bool) (m9 : List T) : L32_8 lines8z lines8 t30z t30 t31 t32 m8_0 m8_1 m8_2 m9z m9 = RL32_8 L32_8 J32_17 lines8z lines8 t30z t30 t31 t32 m8_0 m8_1 m8_2 m9z m9 :=
  (congrArg (fun k => WL32_8 k lines8z lines8 t30z t30 t31 t32 m8_0 m8_1 m8_2 m9z m9) (funext fun e => funext fun st => round_eq Try.prog hint (b := (nav (List.reverse (.lp :: PaL32_8)) (bodyOf Try.f32))) (fn := Try.f32) (nt := 92) (T := (Ta32 VL32_8 VJ32_17)) [PaL32_8, PaJ32_17] rfl PaL32_8 e st rfl rfl rfl)).trans (L32_8g VL32_8 VJ32_17 lines8z lines8 t30z t30 t31 t32 m8_0 m8_1 m8_2 m9z m9)
noncomputable def RJ32_17 (L32_8 : YL32_8) (J32_17 : YJ32_17) (lines8z : Bool) (lines8 : List T) (i9 : Int) (t30z : Bool) (t30 : List T) (t31 t32 m8_0 m8_1 m8_2 : Int) (m9z : Bool) (m9 : List T) (m10_0z : Bool) (m10_0 : List T) (m10_1 : Bool) : Option Res :=
(bif m10_1 then
 some ((.tup [.t (.agg [.int .i64 0, .int .i64 0, .int .i64 0, .list 5 false []]), .t (.int .i64 i9), .t (.int .i64 6)]), ⟨[], []⟩)
else
(bif (decide (0 < (m10_0.length : Int))) then
 some ((.tup [.t (.agg [.int .i64 0, .int .i64 0, .int .i64 0, .list 5 false []]), .t (.int .i64 i9), .t (.int .i64 6)]), ⟨[], []⟩)
else
 L32_8 (lines8z) (lines8) (t30z) (t30) (t31) ((IntKind.i64.wrap (t32 + 1))) (m8_0) (m8_1) (m8_2) (m9z) (m9)))
theorem J32_17g (KL32_8 KJ32_17 : Env → St → Option Res) (lines8z : Bool) (lines8 : List T) (i9 : Int) (t30z : Bool) (t30 : List T) (t31 t32 m8_0 m8_1 m8_2 : Int) (m9z : Bool) (m9 : List T) (m10_0z : Bool) (m10_0 : List T) (m10_1 : Bool) : WJ32_17 (fun e st => gP 32 0 92 Try.f32 (Ta32 KL32_8 KJ32_17) PaJ32_17 e st) lines8z lines8 i9 t30z t30 t31 t32 m8_0 m8_1 m8_2 m9z m9 m10_0z m10_0 m10_1 = RJ32_17 (WL32_8 KL32_8) (WJ32_17 KJ32_17) lines8z lines8 i9 t30z t30 t31 t32 m8_0 m8_1 m8_2 m9z m9 m10_0z m10_0 m10_1 := by kernel_rfl
theorem J32_17_eq (lines8z : Bool) (lines8 : List T) (i9 : Int) (t30z : Bool) (t30 : List T) (t31 t32 m8_0 m8_1 m8_2 : Int) (m9z : Bool) (m9 : List T) (m10_0z : Bool) (m10_0 : List T) (m10_1 : Bool) : J32_17 lines8z lines8 i9 t30z t30 t31 t32 m8_0 m8_1 m8_2 m9z m9 m10_0z m10_0 m10_1 = RJ32_17 L32_8 J32_17 lines8z lines8 i9 t30z t30 t31 t32 m8_0 m8_1 m8_2 m9z m9 m10_0z m10_0 m10_1 :=
  (congrArg (fun k => WJ32_17 k lines8z lines8 i9 t30z t30 t31 t32 m8_0 m8_1 m8_2 m9z m9 m10_0z m10_0 m10_1) (funext fun e => funext fun st => join_eq Try.prog hint (fn := Try.f32) (nt := 92) (T := (Ta32 VL32_8 VJ32_17)) [PaL32_8, PaJ32_17] rfl PaJ32_17 e st rfl)).trans (J32_17g VL32_8 VJ32_17 lines8z lines8 i9 t30z t30 t31 t32 m8_0 m8_1 m8_2 m9z m9 m10_0z m10_0 m10_1)
noncomputable def R16  (a0_0 a0_1 a0_2 a0_3 a0_4 : Int) : Option Res :=
 callK (vr 38 0 [.t (.int .i64 a0_0)] ⟨[], []⟩) fun V1 B2 =>
 asTup V1 fun L3 =>
 consV L3 fun V4 L5 =>
 asT V4 fun X6 =>
 asA X6 fun L7 =>
 consT L7 fun V8 L9 =>
 asS V8 fun S10 =>
 consT L9 fun V11 L12 =>
 asI .i64 V11 fun X13 =>
 consT L12 fun V14 L15 =>
 asI .i64 V14 fun X16 =>
 consT L15 fun V17 L18 =>
 asI .i64 V17 fun X19 =>
 endT L18 <|
 consV L5 fun V20 L21 =>
 asT V20 fun X22 =>
 asB X22 fun B23 =>
 endV L21 <|
 endB B2 <|
(bif (!decide (X13 = 1)) then
 some ((.tup [.t (.int .i64 0), .t (.bool false)]), ⟨[], []⟩)
else
 some ((.tup [.t (.int .i64 a0_1), .t (.bool true)]), ⟨[], []⟩))
theorem eq16g  (a0_0 a0_1 a0_2 a0_3 a0_4 : Int) : gE 16 0 18 Try.f16 [] [.t (.agg [.int .i64 a0_0, .int .i64 a0_1, .int .i64 a0_2, .int .i64 a0_3, .int .i64 a0_4])] ⟨[], []⟩ = R16  a0_0 a0_1 a0_2 a0_3 a0_4 := by kernel_rfl
theorem eq16 (a0_0 a0_1 a0_2 a0_3 a0_4 : Int) : vr 16 0 [.t (.agg [.int .i64 a0_0, .int .i64 a0_1, .int .i64 a0_2, .int .i64 a0_3, .int .i64 a0_4])] ⟨[], []⟩ = R16  a0_0 a0_1 a0_2 a0_3 a0_4 :=
  Eq.trans (call_eq Try.prog hint (fn := Try.f16) (nt := 18) (T := []) [] rfl _ _ rfl rfl rfl rfl rfl) (eq16g  a0_0 a0_1 a0_2 a0_3 a0_4)
noncomputable def R78  (a0_0 a0_1 a1 : Int) : Option Res :=
 needC (decide (0 ≤ (shrI .i64 a1 6)) && decide ((shrI .i64 a1 6) < (2 : Int))) fun _ =>
 getT ([.int .u64 a0_0, .int .u64 a0_1]) ((0 + ((shrI .i64 a1 6)).toNat * 1)) fun C1 =>
 asI .u64 C1 fun X2 =>
 needC (decide (0 ≤ (bitsI .and .i64 a1 63))) fun _ =>
 needC (decide (0 ≤ (shrI .i64 a1 6)) && decide ((shrI .i64 a1 6) < (2 : Int))) fun _ =>
 setT ([.int .u64 a0_0, .int .u64 a0_1]) ((0 + ((shrI .i64 a1 6)).toNat * 1)) (.int .u64 (bitsI .or .u64 X2 (shlI .u64 1 (bitsI .and .i64 a1 63)))) fun L3 =>
 consT (((L3.drop 0).take 2)) fun V4 L5 =>
 asI .u64 V4 fun X6 =>
 consT L5 fun V7 L8 =>
 asI .u64 V7 fun X9 =>
 endT L8 <|
 some ((.t (.agg [.int .u64 X6, .int .u64 X9])), ⟨[], []⟩)
theorem eq78g  (a0_0 a0_1 a1 : Int) : gE 78 0 15 Try.f78 [] [.t (.agg [.int .u64 a0_0, .int .u64 a0_1]), .t (.int .i64 a1)] ⟨[], []⟩ = R78  a0_0 a0_1 a1 := by kernel_rfl
theorem eq78 (a0_0 a0_1 a1 : Int) : vr 78 0 [.t (.agg [.int .u64 a0_0, .int .u64 a0_1]), .t (.int .i64 a1)] ⟨[], []⟩ = R78  a0_0 a0_1 a1 :=
  Eq.trans (call_eq Try.prog hint (fn := Try.f78) (nt := 15) (T := []) [] rfl _ _ rfl rfl rfl rfl rfl) (eq78g  a0_0 a0_1 a1)
noncomputable def R11  (a0_0 a0_1 a0_2 a0_3 a0_4 a1 : Int) : Option Res :=
 callK (vr 38 0 [.t (.int .i64 a0_0)] ⟨[], []⟩) fun V1 B2 =>
 asTup V1 fun L3 =>
 consV L3 fun V4 L5 =>
 asT V4 fun X6 =>
 asA X6 fun L7 =>
 consT L7 fun V8 L9 =>
 asS V8 fun S10 =>
 consT L9 fun V11 L12 =>
 asI .i64 V11 fun X13 =>
 consT L12 fun V14 L15 =>
 asI .i64 V14 fun X16 =>
 consT L15 fun V17 L18 =>
 asI .i64 V17 fun X19 =>
 endT L18 <|
 consV L5 fun V20 L21 =>
 asT V20 fun X22 =>
 asB X22 fun B23 =>
 endV L21 <|
 endB B2 <|
(bif (!B23) then
 some ((.t (.list 1 false [])), ⟨[], []⟩)
else
(bif (decide (a0_0 = 0)) then
 some ((.t (.list 1 false [])), ⟨[], []⟩)
else
(bif (decide (a0_0 = 10)) then
 some ((.t (.list 1 true [.int .i64 a0_1])), ⟨[], []⟩)
else
(bif (decide (a0_0 = 11)) then
 some ((.t (.list 1 true [.int .i64 (IntKind.i64.wrap (a1 + 1)), .int .i64 a0_3])), ⟨[], []⟩)
else
(bif (decide (a0_0 = 12)) then
 some ((.t (.list 1 true [.int .i64 (IntKind.i64.wrap (a1 + 1)), .int .i64 a0_3])), ⟨[], []⟩)
else
 some ((.t (.list 1 true [.int .i64 (IntKind.i64.wrap (a1 + 1))])), ⟨[], []⟩))))))
theorem eq11g  (a0_0 a0_1 a0_2 a0_3 a0_4 a1 : Int) : gE 11 0 45 Try.f11 [] [.t (.agg [.int .i64 a0_0, .int .i64 a0_1, .int .i64 a0_2, .int .i64 a0_3, .int .i64 a0_4]), .t (.int .i64 a1)] ⟨[], []⟩ = R11  a0_0 a0_1 a0_2 a0_3 a0_4 a1 := by kernel_rfl
theorem eq11 (a0_0 a0_1 a0_2 a0_3 a0_4 a1 : Int) : vr 11 0 [.t (.agg [.int .i64 a0_0, .int .i64 a0_1, .int .i64 a0_2, .int .i64 a0_3, .int .i64 a0_4]), .t (.int .i64 a1)] ⟨[], []⟩ = R11  a0_0 a0_1 a0_2 a0_3 a0_4 a1 :=
  Eq.trans (call_eq Try.prog hint (fn := Try.f11) (nt := 45) (T := []) [] rfl _ _ rfl rfl rfl rfl rfl) (eq11g  a0_0 a0_1 a0_2 a0_3 a0_4 a1)
noncomputable def R77  (a0_0 a0_1 a1_0 a1_1 : Int) : Option Res :=
 some ((.t (.agg [.int .u64 (bitsI .and .u64 a0_0 a1_0), .int .u64 (bitsI .and .u64 a0_1 a1_1)])), ⟨[], []⟩)
theorem eq77g  (a0_0 a0_1 a1_0 a1_1 : Int) : gE 77 0 16 Try.f77 [] [.t (.agg [.int .u64 a0_0, .int .u64 a0_1]), .t (.agg [.int .u64 a1_0, .int .u64 a1_1])] ⟨[], []⟩ = R77  a0_0 a0_1 a1_0 a1_1 := by kernel_rfl
theorem eq77 (a0_0 a0_1 a1_0 a1_1 : Int) : vr 77 0 [.t (.agg [.int .u64 a0_0, .int .u64 a0_1]), .t (.agg [.int .u64 a1_0, .int .u64 a1_1])] ⟨[], []⟩ = R77  a0_0 a0_1 a1_0 a1_1 :=
  Eq.trans (call_eq Try.prog hint (fn := Try.f77) (nt := 16) (T := []) [] rfl _ _ rfl rfl rfl rfl rfl) (eq77g  a0_0 a0_1 a1_0 a1_1)
noncomputable def R76 (J76_4 : YJ76_4) (a0 a1_0 a1_1 m1_0 m1_1 m1_2 : Int) (m1_3z : Bool) (m1_3 : List T) (m2z : Bool) (m2 : List T) (m3z : Bool) (m3 : List T) (m5z : Bool) (m5 : List T) : Option Res :=
 needC (decide (0 ≤ a0) && decide (a0 < (m3.length : Int))) fun _ =>
 getT m3 ((a0).toNat) fun E1 =>
 asB E1 fun B2 =>
(bif B2 then
 needC (decide (0 ≤ a0) && decide (a0 < (m2.length : Int))) fun _ =>
 getT m2 ((a0).toNat) fun E3 =>
 asA E3 fun L4 =>
 consT L4 fun V5 L6 =>
 asI .u64 V5 fun X7 =>
 consT L6 fun V8 L9 =>
 asI .u64 V8 fun X10 =>
 endT L9 <|
 callK (vr 77 0 [.t (.agg [.int .u64 a1_0, .int .u64 a1_1]), .t (.agg [.int .u64 X7, .int .u64 X10])] ⟨[], []⟩) fun V11 B12 =>
 asT V11 fun X13 =>
 asA X13 fun L14 =>
 consT L14 fun V15 L16 =>
 asI .u64 V15 fun X17 =>
 consT L16 fun V18 L19 =>
 asI .u64 V18 fun X20 =>
 endT L19 <|
 endB B12 <|
 needC (decide (0 ≤ a0) && decide (a0 < (m2.length : Int))) fun _ =>
 getT m2 ((a0).toNat) fun E21 =>
 asA E21 fun L22 =>
 consT L22 fun V23 L24 =>
 asI .u64 V23 fun X25 =>
 consT L24 fun V26 L27 =>
 asI .u64 V26 fun X28 =>
 endT L27 <|
(bif (decide (X17 = X25) && (decide (X20 = X28) && true)) then
 some ((.tup []), ⟨[(0, .var [.ptr 1 0 0]), (1, .var [.t (.int .i64 m1_0), .t (.int .i64 m1_1), .t (.int .i64 m1_2), .t (.list 5 m1_3z m1_3), .buf 2, .buf 3]), (2, .arr true 2 m2z m2), (3, .arr true 1 m3z m3), (4, .var [.buf 5]), (5, .arr true 1 m5z m5)], [500, 501, 502, 503, 504, 505]⟩)
else
 J76_4 (a0) (m1_0) (m1_1) (m1_2) (m1_3z) (m1_3) (m2z) (m2) (m3z) (m3) (m5z) (m5) ([.int .u64 X17, .int .u64 X20]))
else
 J76_4 (a0) (m1_0) (m1_1) (m1_2) (m1_3z) (m1_3) (m2z) (m2) (m3z) (m3) (m5z) (m5) ([.int .u64 a1_0, .int .u64 a1_1]))
theorem eq76g (KJ76_4 : Env → St → Option Res) (a0 a1_0 a1_1 m1_0 m1_1 m1_2 : Int) (m1_3z : Bool) (m1_3 : List T) (m2z : Bool) (m2 : List T) (m3z : Bool) (m3 : List T) (m5z : Bool) (m5 : List T) : gE 76 0 48 Try.f76 (Ta76 KJ76_4) [.t (.int .i64 a0), .t (.agg [.int .u64 a1_0, .int .u64 a1_1]), .ptr 0 0 0, .ptr 4 0 0] ⟨[(0, .var [.ptr 1 0 0]), (1, .var [.t (.int .i64 m1_0), .t (.int .i64 m1_1), .t (.int .i64 m1_2), .t (.list 5 m1_3z m1_3), .buf 2, .buf 3]), (2, .arr true 2 m2z m2), (3, .arr true 1 m3z m3), (4, .var [.buf 5]), (5, .arr true 1 m5z m5)], []⟩ = R76 (WJ76_4 KJ76_4) a0 a1_0 a1_1 m1_0 m1_1 m1_2 m1_3z m1_3 m2z m2 m3z m3 m5z m5 := by kernel_rfl
theorem eq76 (a0 a1_0 a1_1 m1_0 m1_1 m1_2 : Int) (m1_3z : Bool) (m1_3 : List T) (m2z : Bool) (m2 : List T) (m3z : Bool) (m3 : List T) (m5z : Bool) (m5 : List T) : vr 76 0 [.t (.int .i64 a0), .t (.agg [.int .u64 a1_0, .int .u64 a1_1]), .ptr 0 0 0, .ptr 4 0 0] ⟨[(0, .var [.ptr 1 0 0]), (1, .var [.t (.int .i64 m1_0), .t (.int .i64 m1_1), .t (.int .i64 m1_2), .t (.list 5 m1_3z m1_3), .buf 2, .buf 3]), (2, .arr true 2 m2z m2), (3, .arr true 1 m3z m3), (4, .var [.buf 5]), (5, .arr true 1 m5z m5)], []⟩ = R76 J76_4 a0 a1_0 a1_1 m1_0 m1_1 m1_2 m1_3z m1_3 m2z m2 m3z m3 m5z m5 :=
  Eq.trans (call_eq Try.prog hint (fn := Try.f76) (nt := 48) (T := (Ta76 VJ76_4)) [PaJ76_4] rfl _ _ rfl rfl rfl rfl rfl) (eq76g VJ76_4 a0 a1_0 a1_1 m1_0 m1_1 m1_2 m1_3z m1_3 m2z m2 m3z m3 m5z m5)
noncomputable def RJ76_4 (J76_4 : YJ76_4) (k0 m1_0 m1_1 m1_2 : Int) (m1_3z : Bool) (m1_3 : List T) (m2z : Bool) (m2 : List T) (m3z : Bool) (m3 : List T) (m5z : Bool) (m5 m8 : List T) : Option Res :=
 consT (((m8.drop 0).take 2)) fun V1 L2 =>
 asI .u64 V1 fun X3 =>
 consT L2 fun V4 L5 =>
 asI .u64 V4 fun X6 =>
 endT L5 <|
 needC (decide (0 ≤ k0) && decide (k0 < (m3.length : Int))) fun _ =>
 needC (m3z && true) fun _ =>
 setT m3 ((k0).toNat) (.bool true) fun L7 =>
 needC (decide (0 ≤ k0) && decide (k0 < (m2.length : Int))) fun _ =>
 needC (m2z && true) fun _ =>
 setT m2 ((k0).toNat) (.agg [.int .u64 X3, .int .u64 X6]) fun L8 =>
 needC (decide ((m5.length + 1) * (8 + 1) ≤ 70368744177664) && decide (8 ≤ 1048576)) fun _ =>
 some ((.tup []), ⟨[(0, .var [.ptr 1 0 0]), (1, .var [.t (.int .i64 m1_0), .t (.int .i64 m1_1), .t (.int .i64 m1_2), .t (.list 5 m1_3z m1_3), .buf 2, .buf 3]), (2, .arr true 2 m2z L8), (3, .arr true 1 m3z L7), (4, .var [.buf 500]), (500, .arr true 1 (m5z || true) (m5 ++ ([.int .i64 k0] : List T)))], [500, 501, 502, 503, 504, 505]⟩)
theorem J76_4g (KJ76_4 : Env → St → Option Res) (k0 m1_0 m1_1 m1_2 : Int) (m1_3z : Bool) (m1_3 : List T) (m2z : Bool) (m2 : List T) (m3z : Bool) (m3 : List T) (m5z : Bool) (m5 m8 : List T) : WJ76_4 (fun e st => gP 76 0 48 Try.f76 (Ta76 KJ76_4) PaJ76_4 e st) k0 m1_0 m1_1 m1_2 m1_3z m1_3 m2z m2 m3z m3 m5z m5 m8 = RJ76_4 (WJ76_4 KJ76_4) k0 m1_0 m1_1 m1_2 m1_3z m1_3 m2z m2 m3z m3 m5z m5 m8 := by kernel_rfl
theorem J76_4_eq (k0 m1_0 m1_1 m1_2 : Int) (m1_3z : Bool) (m1_3 : List T) (m2z : Bool) (m2 : List T) (m3z : Bool) (m3 : List T) (m5z : Bool) (m5 m8 : List T) : J76_4 k0 m1_0 m1_1 m1_2 m1_3z m1_3 m2z m2 m3z m3 m5z m5 m8 = RJ76_4 J76_4 k0 m1_0 m1_1 m1_2 m1_3z m1_3 m2z m2 m3z m3 m5z m5 m8 :=
  (congrArg (fun k => WJ76_4 k k0 m1_0 m1_1 m1_2 m1_3z m1_3 m2z m2 m3z m3 m5z m5 m8) (funext fun e => funext fun st => join_eq Try.prog hint (fn := Try.f76) (nt := 48) (T := (Ta76 VJ76_4)) [PaJ76_4] rfl PaJ76_4 e st rfl)).trans (J76_4g VJ76_4 k0 m1_0 m1_1 m1_2 m1_3z m1_3 m2z m2 m3z m3 m5z m5 m8)
noncomputable def R56 (L56_5 : YL56_5) (J56_12 : YJ56_12) (L56_13 : YL56_13) (a0_0 a0_1 a0_2 : Int) (a0_3z : Bool) (a0_3 : List T) : Option Res :=
 needC (decide (0 ≤ (a0_3.length : Int)) && decide ((a0_3.length : Int) ≤ (a0_3.length : Int)) && decide ((a0_3.length : Int) * (16 + 1) ≤ 70368744177664)) fun _ =>
 needC (decide (0 ≤ (a0_3.length : Int)) && decide ((a0_3.length : Int) ≤ (a0_3.length : Int)) && decide ((a0_3.length : Int) * (1 + 1) ≤ 70368744177664)) fun _ =>
 needC (decide (0 ≤ 0) && decide ((0 : Int) < (((List.replicate ((a0_3.length : Int)).toNat ((.bool false) : T))).length : Int))) fun _ =>
 setT ((List.replicate ((a0_3.length : Int)).toNat ((.bool false) : T))) (((0 : Int)).toNat) (.bool true) fun L1 =>
 L56_5 (a0_0) (a0_1) (a0_2) (a0_3z) (a0_3) (a0_0) (a0_1) (a0_2) (a0_3z) (a0_3) (true) ((List.replicate ((a0_3.length : Int)).toNat ((.agg [.int .u64 0, .int .u64 0]) : T))) (true) (L1) (true) ([.int .i64 0])
theorem eq56g (KL56_5 KJ56_12 KL56_13 : Env → St → Option Res) (a0_0 a0_1 a0_2 : Int) (a0_3z : Bool) (a0_3 : List T) : gE 56 0 82 Try.f56 (Ta56 KL56_5 KJ56_12 KL56_13) [.t (.agg [.int .i64 a0_0, .int .i64 a0_1, .int .i64 a0_2, .list 5 a0_3z a0_3])] ⟨[], []⟩ = R56 (WL56_5 KL56_5) (WJ56_12 KJ56_12) (WL56_13 KL56_13) a0_0 a0_1 a0_2 a0_3z a0_3 := by kernel_rfl
theorem eq56 (a0_0 a0_1 a0_2 : Int) (a0_3z : Bool) (a0_3 : List T) : vr 56 0 [.t (.agg [.int .i64 a0_0, .int .i64 a0_1, .int .i64 a0_2, .list 5 a0_3z a0_3])] ⟨[], []⟩ = R56 L56_5 J56_12 L56_13 a0_0 a0_1 a0_2 a0_3z a0_3 :=
  Eq.trans (call_eq Try.prog hint (fn := Try.f56) (nt := 82) (T := (Ta56 VL56_5 VJ56_12 VL56_13)) [PaL56_5, PaJ56_12, PaL56_13] rfl _ _ rfl rfl rfl rfl rfl) (eq56g VL56_5 VJ56_12 VL56_13 a0_0 a0_1 a0_2 a0_3z a0_3)
noncomputable def RL56_5 (L56_5 : YL56_5) (J56_12 : YJ56_12) (L56_13 : YL56_13) (m8_0 m8_1 m8_2 : Int) (m8_3z : Bool) (m8_3 : List T) (m10_0 m10_1 m10_2 : Int) (m10_3z : Bool) (m10_3 : List T) (m11z : Bool) (m11 : List T) (m12z : Bool) (m12 : List T) (m14z : Bool) (m14 : List T) : Option Res :=
(bif (decide (0 < (m14.length : Int))) then
 needC (decide (0 ≤ (IntKind.i64.wrap ((m14.length : Int) - 1))) && decide ((IntKind.i64.wrap ((m14.length : Int) - 1)) < (m14.length : Int))) fun _ =>
 getT m14 (((IntKind.i64.wrap ((m14.length : Int) - 1))).toNat) fun E1 =>
 asI .i64 E1 fun X2 =>
 cutN 1 m14z m14 none (some (IntKind.i64.wrap ((m14.length : Int) - 1))) fun L3 =>
 needC (decide (0 ≤ X2) && decide (X2 < (m11.length : Int))) fun _ =>
 getT m11 ((X2).toNat) fun E4 =>
 asA E4 fun L5 =>
 consT L5 fun V6 L7 =>
 asI .u64 V6 fun X8 =>
 consT L7 fun V9 L10 =>
 asI .u64 V9 fun X11 =>
 endT L10 <|
 needC (decide (0 ≤ X2)) fun _ =>
 getT m8_3 (X2).toNat fun E12 =>
 asA E12 fun L13 =>
 consT L13 fun V14 L15 =>
 asI .i64 V14 fun X16 =>
 consT L15 fun V17 L18 =>
 asI .i64 V17 fun X19 =>
 consT L18 fun V20 L21 =>
 asI .i64 V20 fun X22 =>
 consT L21 fun V23 L24 =>
 asI .i64 V23 fun X25 =>
 consT L24 fun V26 L27 =>
 asI .i64 V26 fun X28 =>
 endT L27 <|
 callK (vr 16 0 [.t (.agg [.int .i64 X16, .int .i64 X19, .int .i64 X22, .int .i64 X25, .int .i64 X28])] ⟨[], []⟩) fun V29 B30 =>
 asTup V29 fun L31 =>
 consV L31 fun V32 L33 =>
 asT V32 fun X34 =>
 asI .i64 X34 fun X35 =>
 consV L33 fun V36 L37 =>
 asT V36 fun X38 =>
 asB X38 fun B39 =>
 endV L37 <|
 endB B30 <|
(bif B39 then
 callK (vr 78 0 [.t (.agg [.int .u64 X8, .int .u64 X11]), .t (.int .i64 X35)] ⟨[], []⟩) fun V40 B41 =>
 asT V40 fun X42 =>
 asA X42 fun L43 =>
 consT L43 fun V44 L45 =>
 asI .u64 V44 fun X46 =>
 consT L45 fun V47 L48 =>
 asI .u64 V47 fun X49 =>
 endT L48 <|
 endB B41 <|
 J56_12 (X2) (m8_0) (m8_1) (m8_2) (m8_3z) (m8_3) (m10_0) (m10_1) (m10_2) (m10_3z) (m10_3) (m11z) (m11) (m12z) (m12) (true) (L3) ([.int .u64 X46, .int .u64 X49])
else
 J56_12 (X2) (m8_0) (m8_1) (m8_2) (m8_3z) (m8_3) (m10_0) (m10_1) (m10_2) (m10_3z) (m10_3) (m11z) (m11) (m12z) (m12) (true) (L3) ([.int .u64 X8, .int .u64 X11]))
else
 some ((.ptr 500 0 0), ⟨[(500, .var [.t (.int .i64 m10_0), .t (.int .i64 m10_1), .t (.int .i64 m10_2), .t (.list 5 m10_3z m10_3), .buf 501, .buf 502]), (501, .arr true 2 m11z m11), (502, .arr true 1 m12z m12)], [500, 501, 502]⟩))
theorem L56_5g (KL56_5 KJ56_12 KL56_13 : Env → St → Option Res) (m8_0 m8_1 m8_2 : Int) (m8_3z : Bool) (m8_3 : List T) (m10_0 m10_1 m10_2 : Int) (m10_3z : Bool) (m10_3 : List T) (m11z : Bool) (m11 : List T) (m12z : Bool) (m12 : List T) (m14z : Bool) (m14 : List T) : WL56_5 (fun e st => gP 56 0 82 Try.f56 (Ta56 KL56_5 KJ56_12 KL56_13) (.lp :: PaL56_5) e st) m8_0 m8_1 m8_2 m8_3z m8_3 m10_0 m10_1 m10_2 m10_3z m10_3 m11z m11 m12z m12 m14z m14 = RL56_5 (WL56_5 KL56_5) (WJ56_12 KJ56_12) (WL56_13 KL56_13) m8_0 m8_1 m8_2 m8_3z m8_3 m10_0 m10_1 m10_2 m10_3z m10_3 m11z m11 m12z m12 m14z m14 := by kernel_rfl
theorem L56_5_eq (m8_0 m8_1 m8_2 : Int) (m8_3z : Bool) (m8_3 : List T) (m10_0 m10_1 m10_2 : Int) (m10_3z : Bool) (m10_3 : List T) (m11z : Bool) (m11 : List T) (m12z : Bool) (m12 : List T) (m14z : Bool) (m14 : List T) : L56_5 m8_0 m8_1 m8_2 m8_3z m8_3 m10_0 m10_1 m10_2 m10_3z m10_3 m11z m11 m12z m12 m14z m14 = RL56_5 L56_5 J56_12 L56_13 m8_0 m8_1 m8_2 m8_3z m8_3 m10_0 m10_1 m10_2 m10_3z m10_3 m11z m11 m12z m12 m14z m14 :=
  (congrArg (fun k => WL56_5 k m8_0 m8_1 m8_2 m8_3z m8_3 m10_0 m10_1 m10_2 m10_3z m10_3 m11z m11 m12z m12 m14z m14) (funext fun e => funext fun st => round_eq Try.prog hint (b := (nav (List.reverse (.lp :: PaL56_5)) (bodyOf Try.f56))) (fn := Try.f56) (nt := 82) (T := (Ta56 VL56_5 VJ56_12 VL56_13)) [PaL56_5, PaJ56_12, PaL56_13] rfl PaL56_5 e st rfl rfl rfl)).trans (L56_5g VL56_5 VJ56_12 VL56_13 m8_0 m8_1 m8_2 m8_3z m8_3 m10_0 m10_1 m10_2 m10_3z m10_3 m11z m11 m12z m12 m14z m14)
noncomputable def RJ56_12 (L56_5 : YL56_5) (J56_12 : YJ56_12) (L56_13 : YL56_13) (i6 m8_0 m8_1 m8_2 : Int) (m8_3z : Bool) (m8_3 : List T) (m10_0 m10_1 m10_2 : Int) (m10_3z : Bool) (m10_3 : List T) (m11z : Bool) (m11 : List T) (m12z : Bool) (m12 : List T) (m14z : Bool) (m14 m15 : List T) : Option Res :=
 needC (decide (0 ≤ i6)) fun _ =>
 getT m8_3 (i6).toNat fun E1 =>
 asA E1 fun L2 =>
 consT L2 fun V3 L4 =>
 asI .i64 V3 fun X5 =>
 consT L4 fun V6 L7 =>
 asI .i64 V6 fun X8 =>
 consT L7 fun V9 L10 =>
 asI .i64 V9 fun X11 =>
 consT L10 fun V12 L13 =>
 asI .i64 V12 fun X14 =>
 consT L13 fun V15 L16 =>
 asI .i64 V15 fun X17 =>
 endT L16 <|
 callK (vr 11 0 [.t (.agg [.int .i64 X5, .int .i64 X8, .int .i64 X11, .int .i64 X14, .int .i64 X17]), .t (.int .i64 i6)] ⟨[], []⟩) fun V18 B19 =>
 asT V18 fun X20 =>
 asL 1 X20 fun N21 L22 =>
 endB B19 <|
 L56_13 (N21) (L22) ((L22.length : Int)) (0) (m8_0) (m8_1) (m8_2) (m8_3z) (m8_3) (m10_0) (m10_1) (m10_2) (m10_3z) (m10_3) (m11z) (m11) (m12z) (m12) (m14z) (m14) (m15)
theorem J56_12g (KL56_5 KJ56_12 KL56_13 : Env → St → Option Res) (i6 m8_0 m8_1 m8_2 : Int) (m8_3z : Bool) (m8_3 : List T) (m10_0 m10_1 m10_2 : Int) (m10_3z : Bool) (m10_3 : List T) (m11z : Bool) (m11 : List T) (m12z : Bool) (m12 : List T) (m14z : Bool) (m14 m15 : List T) : WJ56_12 (fun e st => gP 56 0 82 Try.f56 (Ta56 KL56_5 KJ56_12 KL56_13) PaJ56_12 e st) i6 m8_0 m8_1 m8_2 m8_3z m8_3 m10_0 m10_1 m10_2 m10_3z m10_3 m11z m11 m12z m12 m14z m14 m15 = RJ56_12 (WL56_5 KL56_5) (WJ56_12 KJ56_12) (WL56_13 KL56_13) i6 m8_0 m8_1 m8_2 m8_3z m8_3 m10_0 m10_1 m10_2 m10_3z m10_3 m11z m11 m12z m12 m14z m14 m15 := by kernel_rfl
theorem J56_12_eq (i6 m8_0 m8_1 m8_2 : Int) (m8_3z : Bool) (m8_3 : List T) (m10_0 m10_1 m10_2 : Int) (m10_3z : Bool) (m10_3 : List T) (m11z : Bool) (m11 : List T) (m12z : Bool) (m12 : List T) (m14z : Bool) (m14 m15 : List T) : J56_12 i6 m8_0 m8_1 m8_2 m8_3z m8_3 m10_0 m10_1 m10_2 m10_3z m10_3 m11z m11 m12z m12 m14z m14 m15 = RJ56_12 L56_5 J56_12 L56_13 i6 m8_0 m8_1 m8_2 m8_3z m8_3 m10_0 m10_1 m10_2 m10_3z m10_3 m11z m11 m12z m12 m14z m14 m15 :=
  (congrArg (fun k => WJ56_12 k i6 m8_0 m8_1 m8_2 m8_3z m8_3 m10_0 m10_1 m10_2 m10_3z m10_3 m11z m11 m12z m12 m14z m14 m15) (funext fun e => funext fun st => join_eq Try.prog hint (fn := Try.f56) (nt := 82) (T := (Ta56 VL56_5 VJ56_12 VL56_13)) [PaL56_5, PaJ56_12, PaL56_13] rfl PaJ56_12 e st rfl)).trans (J56_12g VL56_5 VJ56_12 VL56_13 i6 m8_0 m8_1 m8_2 m8_3z m8_3 m10_0 m10_1 m10_2 m10_3z m10_3 m11z m11 m12z m12 m14z m14 m15)
noncomputable def RL56_13 (L56_5 : YL56_5) (J56_12 : YJ56_12) (L56_13 : YL56_13) (t70z : Bool) (t70 : List T) (t71 t72 m8_0 m8_1 m8_2 : Int) (m8_3z : Bool) (m8_3 : List T) (m10_0 m10_1 m10_2 : Int) (m10_3z : Bool) (m10_3 : List T) (m11z : Bool) (m11 : List T) (m12z : Bool) (m12 : List T) (m14z : Bool) (m14 m15 : List T) : Option Res :=
(bif (decide (t72 < t71)) then
 needC (decide (0 ≤ t72)) fun _ =>
 getT t70 (t72).toNat fun E1 =>
 asI .i64 E1 fun X2 =>
 consT (((m15.drop 0).take 2)) fun V3 L4 =>
 asI .u64 V3 fun X5 =>
 consT L4 fun V6 L7 =>
 asI .u64 V6 fun X8 =>
 endT L7 <|
 callK (vr 76 0 [.t (.int .i64 X2), .t (.agg [.int .u64 X5, .int .u64 X8]), .ptr 0 0 0, .ptr 4 0 0] ⟨[(0, .var [.ptr 1 0 0]), (1, .var [.t (.int .i64 m10_0), .t (.int .i64 m10_1), .t (.int .i64 m10_2), .t (.list 5 m10_3z m10_3), .buf 2, .buf 3]), (2, .arr true 2 m11z m11), (3, .arr true 1 m12z m12), (4, .var [.buf 5]), (5, .arr true 1 m14z m14)], []⟩) fun V9 B10 =>
(bif fitsH (.tup []) [(0, .var [.ptr 1 0 0]), (1, .var [.t (.int .i64), .t (.int .i64), .t (.int .i64), .t (.list 5), .buf 2, .buf 3]), (2, .arr 2), (3, .arr 1), (4, .var [.buf 5]), (5, .arr 1)] V9 B10 then
 asTup V9 fun L58 =>
 endV L58 <|
 consB 0 B10 fun K59 B60 =>
 asVar K59 fun L61 =>
 consV L61 fun V62 L63 =>
 isPtr 1 0 0 V62 <|
 endV L63 <|
 consB 1 B60 fun K64 B65 =>
 asVar K64 fun L66 =>
 consV L66 fun V67 L68 =>
 asT V67 fun X69 =>
 asI .i64 X69 fun X70 =>
 consV L68 fun V71 L72 =>
 asT V71 fun X73 =>
 asI .i64 X73 fun X74 =>
 consV L72 fun V75 L76 =>
 asT V75 fun X77 =>
 asI .i64 X77 fun X78 =>
 consV L76 fun V79 L80 =>
 asT V79 fun X81 =>
 asL 5 X81 fun N82 L83 =>
 consV L80 fun V84 L85 =>
 isBuf 2 V84 <|
 consV L85 fun V86 L87 =>
 isBuf 3 V86 <|
 endV L87 <|
 consB 2 B65 fun K88 B89 =>
 asArr 2 K88 fun N90 L91 =>
 consB 3 B89 fun K92 B93 =>
 asArr 1 K92 fun N94 L95 =>
 consB 4 B93 fun K96 B97 =>
 asVar K96 fun L98 =>
 consV L98 fun V99 L100 =>
 isBuf 5 V99 <|
 endV L100 <|
 consB 5 B97 fun K101 B102 =>
 asArr 1 K101 fun N103 L104 =>
 endB B102 <|
 L56_13 (t70z) (t70) (t71) ((IntKind.i64.wrap (t72 + 1))) (m8_0) (m8_1) (m8_2) (m8_3z) (m8_3) (X70) (X74) (X78) (N82) (L83) (N90) (L91) (N94) (L95) (N103) (L104) (m15)
else
 asTup V9 fun L11 =>
 endV L11 <|
 consB 0 B10 fun K12 B13 =>
 asVar K12 fun L14 =>
 consV L14 fun V15 L16 =>
 isPtr 1 0 0 V15 <|
 endV L16 <|
 consB 1 B13 fun K17 B18 =>
 asVar K17 fun L19 =>
 consV L19 fun V20 L21 =>
 asT V20 fun X22 =>
 asI .i64 X22 fun X23 =>
 consV L21 fun V24 L25 =>
 asT V24 fun X26 =>
 asI .i64 X26 fun X27 =>
 consV L25 fun V28 L29 =>
 asT V28 fun X30 =>
 asI .i64 X30 fun X31 =>
 consV L29 fun V32 L33 =>
 asT V32 fun X34 =>
 asL 5 X34 fun N35 L36 =>
 consV L33 fun V37 L38 =>
 isBuf 2 V37 <|
 consV L38 fun V39 L40 =>
 isBuf 3 V39 <|
 endV L40 <|
 consB 2 B18 fun K41 B42 =>
 asArr 2 K41 fun N43 L44 =>
 consB 3 B42 fun K45 B46 =>
 asArr 1 K45 fun N47 L48 =>
 consB 4 B46 fun K49 B50 =>
 asVar K49 fun L51 =>
 consV L51 fun V52 L53 =>
 isBuf 500 V52 <|
 endV L53 <|
 consB 500 B50 fun K54 B55 =>
 asArr 1 K54 fun N56 L57 =>
 endB B55 <|
 L56_13 (t70z) (t70) (t71) ((IntKind.i64.wrap (t72 + 1))) (m8_0) (m8_1) (m8_2) (m8_3z) (m8_3) (X23) (X27) (X31) (N35) (L36) (N43) (L44) (N47) (L48) (N56) (L57) (m15))
else
 L56_5 (m8_0) (m8_1) (m8_2) (m8_3z) (m8_3) (m10_0) (m10_1) (m10_2) (m10_3z) (m10_3) (m11z) (m11) (m12z) (m12) (m14z) (m14))
theorem L56_13g (KL56_5 KJ56_12 KL56_13 : Env → St → Option Res) (t70z : Bool) (t70 : List T) (t71 t72 m8_0 m8_1 m8_2 : Int) (m8_3z : Bool) (m8_3 : List T) (m10_0 m10_1 m10_2 : Int) (m10_3z : Bool) (m10_3 : List T) (m11z : Bool) (m11 : List T) (m12z : Bool) (m12 : List T) (m14z : Bool) (m14 m15 : List T) : WL56_13 (fun e st => gP 56 0 82 Try.f56 (Ta56 KL56_5 KJ56_12 KL56_13) (.lp :: PaL56_13) e st) t70z t70 t71 t72 m8_0 m8_1 m8_2 m8_3z m8_3 m10_0 m10_1 m10_2 m10_3z m10_3 m11z m11 m12z m12 m14z m14 m15 = RL56_13 (WL56_5 KL56_5) (WJ56_12 KJ56_12) (WL56_13 KL56_13) t70z t70 t71 t72 m8_0 m8_1 m8_2 m8_3z m8_3 m10_0 m10_1 m10_2 m10_3z m10_3 m11z m11 m12z m12 m14z m14 m15 := by kernel_rfl
theorem L56_13_eq (t70z : Bool) (t70 : List T) (t71 t72 m8_0 m8_1 m8_2 : Int) (m8_3z : Bool) (m8_3 : List T) (m10_0 m10_1 m10_2 : Int) (m10_3z : Bool) (m10_3 : List T) (m11z : Bool) (m11 : List T) (m12z : Bool) (m12 : List T) (m14z : Bool) (m14 m15 : List T) : L56_13 t70z t70 t71 t72 m8_0 m8_1 m8_2 m8_3z m8_3 m10_0 m10_1 m10_2 m10_3z m10_3 m11z m11 m12z m12 m14z m14 m15 = RL56_13 L56_5 J56_12 L56_13 t70z t70 t71 t72 m8_0 m8_1 m8_2 m8_3z m8_3 m10_0 m10_1 m10_2 m10_3z m10_3 m11z m11 m12z m12 m14z m14 m15 :=
  (congrArg (fun k => WL56_13 k t70z t70 t71 t72 m8_0 m8_1 m8_2 m8_3z m8_3 m10_0 m10_1 m10_2 m10_3z m10_3 m11z m11 m12z m12 m14z m14 m15) (funext fun e => funext fun st => round_eq Try.prog hint (b := (nav (List.reverse (.lp :: PaL56_13)) (bodyOf Try.f56))) (fn := Try.f56) (nt := 82) (T := (Ta56 VL56_5 VJ56_12 VL56_13)) [PaL56_5, PaJ56_12, PaL56_13] rfl PaL56_13 e st rfl rfl rfl)).trans (L56_13g VL56_5 VJ56_12 VL56_13 t70z t70 t71 t72 m8_0 m8_1 m8_2 m8_3z m8_3 m10_0 m10_1 m10_2 m10_3z m10_3 m11z m11 m12z m12 m14z m14 m15)
noncomputable def R33  (a0_0 a0_1 a0_2 : Int) (a0_3z : Bool) (a0_3 : List T) : Option Res :=
 callK (vr 18 0 [.t (.agg [.int .i64 a0_0, .int .i64 a0_1, .int .i64 a0_2, .list 5 a0_3z a0_3])] ⟨[], []⟩) fun V1 B2 =>
 asT V1 fun X3 =>
 asI .i64 X3 fun X4 =>
 endB B2 <|
(bif (!decide (X4 = 0)) then
 some ((.tup [.con (.pointer none), .t (.int .i64 X4)]), ⟨[], []⟩)
else
 callK (vr 56 0 [.t (.agg [.int .i64 a0_0, .int .i64 a0_1, .int .i64 a0_2, .list 5 a0_3z a0_3])] ⟨[], []⟩) fun V5 B6 =>
 isPtr 500 0 0 V5 <|
 consB 500 B6 fun K7 B8 =>
 asVar K7 fun L9 =>
 consV L9 fun V10 L11 =>
 asT V10 fun X12 =>
 asI .i64 X12 fun X13 =>
 consV L11 fun V14 L15 =>
 asT V14 fun X16 =>
 asI .i64 X16 fun X17 =>
 consV L15 fun V18 L19 =>
 asT V18 fun X20 =>
 asI .i64 X20 fun X21 =>
 consV L19 fun V22 L23 =>
 asT V22 fun X24 =>
 asL 5 X24 fun N25 L26 =>
 consV L23 fun V27 L28 =>
 isBuf 501 V27 <|
 consV L28 fun V29 L30 =>
 isBuf 502 V29 <|
 endV L30 <|
 consB 501 B8 fun K31 B32 =>
 asArr 2 K31 fun N33 L34 =>
 consB 502 B32 fun K35 B36 =>
 asArr 1 K35 fun N37 L38 =>
 endB B36 <|
 some ((.tup [.ptr 500 0 0, .t (.int .i64 0)]), ⟨[(500, .var [.t (.int .i64 X13), .t (.int .i64 X17), .t (.int .i64 X21), .t (.list 5 N25 L26), .buf 501, .buf 502]), (501, .arr true 2 N33 L34), (502, .arr true 1 N37 L38)], [500, 501, 502]⟩))
theorem eq33g  (a0_0 a0_1 a0_2 : Int) (a0_3z : Bool) (a0_3 : List T) : gE 33 0 12 Try.f33 [] [.t (.agg [.int .i64 a0_0, .int .i64 a0_1, .int .i64 a0_2, .list 5 a0_3z a0_3])] ⟨[], []⟩ = R33  a0_0 a0_1 a0_2 a0_3z a0_3 := by kernel_rfl
theorem eq33 (a0_0 a0_1 a0_2 : Int) (a0_3z : Bool) (a0_3 : List T) : vr 33 0 [.t (.agg [.int .i64 a0_0, .int .i64 a0_1, .int .i64 a0_2, .list 5 a0_3z a0_3])] ⟨[], []⟩ = R33  a0_0 a0_1 a0_2 a0_3z a0_3 :=
  Eq.trans (call_eq Try.prog hint (fn := Try.f33) (nt := 12) (T := []) [] rfl _ _ rfl rfl rfl rfl rfl) (eq33g  a0_0 a0_1 a0_2 a0_3z a0_3)
noncomputable def R15  (a0_0 a0_1 a0_2 a0_3 a0_4 : Int) : Option Res :=
 callK (vr 38 0 [.t (.int .i64 a0_0)] ⟨[], []⟩) fun V1 B2 =>
 asTup V1 fun L3 =>
 consV L3 fun V4 L5 =>
 asT V4 fun X6 =>
 asA X6 fun L7 =>
 consT L7 fun V8 L9 =>
 asS V8 fun S10 =>
 consT L9 fun V11 L12 =>
 asI .i64 V11 fun X13 =>
 consT L12 fun V14 L15 =>
 asI .i64 V14 fun X16 =>
 consT L15 fun V17 L18 =>
 asI .i64 V17 fun X19 =>
 endT L18 <|
 consV L5 fun V20 L21 =>
 asT V20 fun X22 =>
 asB X22 fun B23 =>
 endV L21 <|
 endB B2 <|
 callK (vr 42 0 [.ptr 0 0 0] ⟨[(0, .var [.t (.int .i64 a0_0), .t (.int .i64 a0_1), .t (.int .i64 a0_2), .t (.int .i64 a0_3), .t (.int .i64 a0_4)])], []⟩) fun V24 B25 =>
 asG V24 fun L26 =>
 consV L26 fun V27 L28 =>
 isPtr 0 0 1 V27 <|
 consV L28 fun V29 L30 =>
 isPtr 0 0 2 V29 <|
 consV L30 fun V31 L32 =>
 isPtr 0 0 3 V31 <|
 endV L32 <|
 consB 0 B25 fun K33 B34 =>
 asVar K33 fun L35 =>
 consV L35 fun V36 L37 =>
 asT V36 fun X38 =>
 asI .i64 X38 fun X39 =>
 consV L37 fun V40 L41 =>
 asT V40 fun X42 =>
 asI .i64 X42 fun X43 =>
 consV L41 fun V44 L45 =>
 asT V44 fun X46 =>
 asI .i64 X46 fun X47 =>
 consV L45 fun V48 L49 =>
 asT V48 fun X50 =>
 asI .i64 X50 fun X51 =>
 consV L49 fun V52 L53 =>
 asT V52 fun X54 =>
 asI .i64 X54 fun X55 =>
 endV L53 <|
 endB B34 <|
(bif (decide (X13 = 2)) then
(bif (decide (X16 = 2)) then
(bif (decide (X19 = 2)) then
 some ((.t (.list 1 true [.int .i64 X43, .int .i64 X47, .int .i64 X51])), ⟨[], []⟩)
else
 some ((.t (.list 1 true [.int .i64 X43, .int .i64 X47])), ⟨[], []⟩))
else
(bif (decide (X19 = 2)) then
 some ((.t (.list 1 true [.int .i64 X43, .int .i64 X51])), ⟨[], []⟩)
else
 some ((.t (.list 1 true [.int .i64 X43])), ⟨[], []⟩)))
else
(bif (decide (X16 = 2)) then
(bif (decide (X19 = 2)) then
 some ((.t (.list 1 true [.int .i64 X47, .int .i64 X51])), ⟨[], []⟩)
else
 some ((.t (.list 1 true [.int .i64 X47])), ⟨[], []⟩))
else
(bif (decide (X19 = 2)) then
 some ((.t (.list 1 true [.int .i64 X51])), ⟨[], []⟩)
else
 some ((.t (.list 1 false [])), ⟨[], []⟩))))
theorem eq15g  (a0_0 a0_1 a0_2 a0_3 a0_4 : Int) : gE 15 0 31 Try.f15 [] [.t (.agg [.int .i64 a0_0, .int .i64 a0_1, .int .i64 a0_2, .int .i64 a0_3, .int .i64 a0_4])] ⟨[], []⟩ = R15  a0_0 a0_1 a0_2 a0_3 a0_4 := by kernel_rfl
theorem eq15 (a0_0 a0_1 a0_2 a0_3 a0_4 : Int) : vr 15 0 [.t (.agg [.int .i64 a0_0, .int .i64 a0_1, .int .i64 a0_2, .int .i64 a0_3, .int .i64 a0_4])] ⟨[], []⟩ = R15  a0_0 a0_1 a0_2 a0_3 a0_4 :=
  Eq.trans (call_eq Try.prog hint (fn := Try.f15) (nt := 31) (T := []) [] rfl _ _ rfl rfl rfl rfl rfl) (eq15g  a0_0 a0_1 a0_2 a0_3 a0_4)
noncomputable def R39  (a0_0 a0_1 a1 : Int) : Option Res :=
 needC (decide (0 ≤ (shrI .i64 a1 6)) && decide ((shrI .i64 a1 6) < (2 : Int))) fun _ =>
 getT ([.int .u64 a0_0, .int .u64 a0_1]) ((0 + ((shrI .i64 a1 6)).toNat * 1)) fun C1 =>
 asI .u64 C1 fun X2 =>
 needC (decide (0 ≤ (bitsI .and .i64 a1 63))) fun _ =>
 some ((.t (.bool (decide ((bitsI .and .u64 (shrI .u64 X2 (bitsI .and .i64 a1 63)) 1) = 1)))), ⟨[], []⟩)
theorem eq39g  (a0_0 a0_1 a1 : Int) : gE 39 0 14 Try.f39 [] [.t (.agg [.int .u64 a0_0, .int .u64 a0_1]), .t (.int .i64 a1)] ⟨[], []⟩ = R39  a0_0 a0_1 a1 := by kernel_rfl
theorem eq39 (a0_0 a0_1 a1 : Int) : vr 39 0 [.t (.agg [.int .u64 a0_0, .int .u64 a0_1]), .t (.int .i64 a1)] ⟨[], []⟩ = R39  a0_0 a0_1 a1 :=
  Eq.trans (call_eq Try.prog hint (fn := Try.f39) (nt := 14) (T := []) [] rfl _ _ rfl rfl rfl rfl rfl) (eq39g  a0_0 a0_1 a1)
noncomputable def R62  (a0 m1_0 m1_1 m1_2 : Int) (m1_3z : Bool) (m1_3 : List T) (m2z : Bool) (m2 : List T) (m3z : Bool) (m3 : List T) (m4_0 : Int) : Option Res :=
 needC (decide (0 ≤ m4_0) && decide (m4_0 < (m2.length : Int))) fun _ =>
 getT m2 ((m4_0).toNat) fun E1 =>
 asA E1 fun L2 =>
 consT L2 fun V3 L4 =>
 asI .u64 V3 fun X5 =>
 consT L4 fun V6 L7 =>
 asI .u64 V6 fun X8 =>
 endT L7 <|
 callK (vr 39 0 [.t (.agg [.int .u64 X5, .int .u64 X8]), .t (.int .i64 a0)] ⟨[], []⟩) fun V9 B10 =>
 asT V9 fun X11 =>
 asB X11 fun B12 =>
 endB B10 <|
 some ((.t (.bool (!B12))), (Z5 m1_0 m1_1 m1_2 m1_3z m1_3 m2z m2 m3z m3 m4_0))
theorem eq62g  (a0 m1_0 m1_1 m1_2 : Int) (m1_3z : Bool) (m1_3 : List T) (m2z : Bool) (m2 : List T) (m3z : Bool) (m3 : List T) (m4_0 : Int) : gE 62 0 15 Try.f62 [] [.t (.int .i64 a0), .ptr 0 0 0, .ptr 4 0 0] ⟨[(0, .var [.ptr 1 0 0]), (1, .var [.t (.int .i64 m1_0), .t (.int .i64 m1_1), .t (.int .i64 m1_2), .t (.list 5 m1_3z m1_3), .buf 2, .buf 3]), (2, .arr true 2 m2z m2), (3, .arr true 1 m3z m3), (4, .var [.t (.int .i64 m4_0)])], []⟩ = R62  a0 m1_0 m1_1 m1_2 m1_3z m1_3 m2z m2 m3z m3 m4_0 := by kernel_rfl
theorem eq62 (a0 m1_0 m1_1 m1_2 : Int) (m1_3z : Bool) (m1_3 : List T) (m2z : Bool) (m2 : List T) (m3z : Bool) (m3 : List T) (m4_0 : Int) : vr 62 0 [.t (.int .i64 a0), .ptr 0 0 0, .ptr 4 0 0] ⟨[(0, .var [.ptr 1 0 0]), (1, .var [.t (.int .i64 m1_0), .t (.int .i64 m1_1), .t (.int .i64 m1_2), .t (.list 5 m1_3z m1_3), .buf 2, .buf 3]), (2, .arr true 2 m2z m2), (3, .arr true 1 m3z m3), (4, .var [.t (.int .i64 m4_0)])], []⟩ = R62  a0 m1_0 m1_1 m1_2 m1_3z m1_3 m2z m2 m3z m3 m4_0 :=
  Eq.trans (call_eq Try.prog hint (fn := Try.f62) (nt := 15) (T := []) [] rfl _ _ rfl rfl rfl rfl rfl) (eq62g  a0 m1_0 m1_1 m1_2 m1_3z m1_3 m2z m2 m3z m3 m4_0)
noncomputable def R57 (L57_2 : YL57_2) (a0z : Bool) (a0 : List T) (m1_0 m1_1 m1_2 : Int) (m1_3z : Bool) (m1_3 : List T) (m2z : Bool) (m2 : List T) (m3z : Bool) (m3 : List T) (m4_0 : Int) : Option Res :=
 L57_2 (a0z) (a0) ((a0.length : Int)) (0) (m1_0) (m1_1) (m1_2) (m1_3z) (m1_3) (m2z) (m2) (m3z) (m3) (m4_0)
theorem eq57g (KL57_2 : Env → St → Option Res) (a0z : Bool) (a0 : List T) (m1_0 m1_1 m1_2 : Int) (m1_3z : Bool) (m1_3 : List T) (m2z : Bool) (m2 : List T) (m3z : Bool) (m3 : List T) (m4_0 : Int) : gE 57 0 19 Try.f57 (Ta57 KL57_2) [.t (.list 1 a0z a0), .fn 62 [] [.ptr 0 0 0, .ptr 4 0 0]] ⟨[(0, .var [.ptr 1 0 0]), (1, .var [.t (.int .i64 m1_0), .t (.int .i64 m1_1), .t (.int .i64 m1_2), .t (.list 5 m1_3z m1_3), .buf 2, .buf 3]), (2, .arr true 2 m2z m2), (3, .arr true 1 m3z m3), (4, .var [.t (.int .i64 m4_0)])], []⟩ = R57 (WL57_2 KL57_2) a0z a0 m1_0 m1_1 m1_2 m1_3z m1_3 m2z m2 m3z m3 m4_0 := by kernel_rfl
theorem eq57 (a0z : Bool) (a0 : List T) (m1_0 m1_1 m1_2 : Int) (m1_3z : Bool) (m1_3 : List T) (m2z : Bool) (m2 : List T) (m3z : Bool) (m3 : List T) (m4_0 : Int) : vr 57 0 [.t (.list 1 a0z a0), .fn 62 [] [.ptr 0 0 0, .ptr 4 0 0]] ⟨[(0, .var [.ptr 1 0 0]), (1, .var [.t (.int .i64 m1_0), .t (.int .i64 m1_1), .t (.int .i64 m1_2), .t (.list 5 m1_3z m1_3), .buf 2, .buf 3]), (2, .arr true 2 m2z m2), (3, .arr true 1 m3z m3), (4, .var [.t (.int .i64 m4_0)])], []⟩ = R57 L57_2 a0z a0 m1_0 m1_1 m1_2 m1_3z m1_3 m2z m2 m3z m3 m4_0 :=
  Eq.trans (call_eq Try.prog hint (fn := Try.f57) (nt := 19) (T := (Ta57 VL57_2)) [PaL57_2] rfl _ _ rfl rfl rfl rfl rfl) (eq57g VL57_2 a0z a0 m1_0 m1_1 m1_2 m1_3z m1_3 m2z m2 m3z m3 m4_0)
noncomputable def RL57_2 (L57_2 : YL57_2) (s0z : Bool) (s0 : List T) (t7 t8 m1_0 m1_1 m1_2 : Int) (m1_3z : Bool) (m1_3 : List T) (m2z : Bool) (m2 : List T) (m3z : Bool) (m3 : List T) (m4_0 : Int) : Option Res :=
(bif (decide (t8 < t7)) then
 needC (decide (0 ≤ t8)) fun _ =>
 getT s0 (t8).toNat fun E1 =>
 asI .i64 E1 fun X2 =>
 callK (vr 62 0 [.t (.int .i64 X2), .ptr 0 0 0, .ptr 4 0 0] (Z6 m1_0 m1_1 m1_2 m1_3z m1_3 m2z m2 m3z m3 m4_0)) fun V3 B4 =>
 asT V3 fun X5 =>
 asB X5 fun B6 =>
 consB 0 B4 fun K7 B8 =>
 asVar K7 fun L9 =>
 consV L9 fun V10 L11 =>
 isPtr 1 0 0 V10 <|
 endV L11 <|
 consB 1 B8 fun K12 B13 =>
 asVar K12 fun L14 =>
 consV L14 fun V15 L16 =>
 asT V15 fun X17 =>
 asI .i64 X17 fun X18 =>
 consV L16 fun V19 L20 =>
 asT V19 fun X21 =>
 asI .i64 X21 fun X22 =>
 consV L20 fun V23 L24 =>
 asT V23 fun X25 =>
 asI .i64 X25 fun X26 =>
 consV L24 fun V27 L28 =>
 asT V27 fun X29 =>
 asL 5 X29 fun N30 L31 =>
 consV L28 fun V32 L33 =>
 isBuf 2 V32 <|
 consV L33 fun V34 L35 =>
 isBuf 3 V34 <|
 endV L35 <|
 consB 2 B13 fun K36 B37 =>
 asArr 2 K36 fun N38 L39 =>
 consB 3 B37 fun K40 B41 =>
 asArr 1 K40 fun N42 L43 =>
 consB 4 B41 fun K44 B45 =>
 asVar K44 fun L46 =>
 consV L46 fun V47 L48 =>
 asT V47 fun X49 =>
 asI .i64 X49 fun X50 =>
 endV L48 <|
 endB B45 <|
(bif B6 then
 some ((.t (.int .i64 t8)), (Z5 X18 X22 X26 N30 L31 N38 L39 N42 L43 X50))
else
 L57_2 (s0z) (s0) (t7) ((IntKind.i64.wrap (t8 + 1))) (X18) (X22) (X26) (N30) (L31) (N38) (L39) (N42) (L43) (X50))
else
 some ((.t (.int .i64 (-1))), (Z5 m1_0 m1_1 m1_2 m1_3z m1_3 m2z m2 m3z m3 m4_0)))
theorem L57_2g (KL57_2 : Env → St → Option Res) (s0z : Bool) (s0 : List T) (t7 t8 m1_0 m1_1 m1_2 : Int) (m1_3z : Bool) (m1_3 : List T) (m2z : Bool) (m2 : List T) (m3z : Bool) (m3 : List T) (m4_0 : Int) : WL57_2 (fun e st => gP 57 0 19 Try.f57 (Ta57 KL57_2) (.lp :: PaL57_2) e st) s0z s0 t7 t8 m1_0 m1_1 m1_2 m1_3z m1_3 m2z m2 m3z m3 m4_0 = RL57_2 (WL57_2 KL57_2) s0z s0 t7 t8 m1_0 m1_1 m1_2 m1_3z m1_3 m2z m2 m3z m3 m4_0 := by kernel_rfl
theorem L57_2_eq (s0z : Bool) (s0 : List T) (t7 t8 m1_0 m1_1 m1_2 : Int) (m1_3z : Bool) (m1_3 : List T) (m2z : Bool) (m2 : List T) (m3z : Bool) (m3 : List T) (m4_0 : Int) : L57_2 s0z s0 t7 t8 m1_0 m1_1 m1_2 m1_3z m1_3 m2z m2 m3z m3 m4_0 = RL57_2 L57_2 s0z s0 t7 t8 m1_0 m1_1 m1_2 m1_3z m1_3 m2z m2 m3z m3 m4_0 :=
  (congrArg (fun k => WL57_2 k s0z s0 t7 t8 m1_0 m1_1 m1_2 m1_3z m1_3 m2z m2 m3z m3 m4_0) (funext fun e => funext fun st => round_eq Try.prog hint (b := (nav (List.reverse (.lp :: PaL57_2)) (bodyOf Try.f57))) (fn := Try.f57) (nt := 19) (T := (Ta57 VL57_2)) [PaL57_2] rfl PaL57_2 e st rfl rfl rfl)).trans (L57_2g VL57_2 s0z s0 t7 t8 m1_0 m1_1 m1_2 m1_3z m1_3 m2z m2 m3z m3 m4_0)
noncomputable def R36  (a0z : Bool) (a0 : List T) (m1_0 m1_1 m1_2 : Int) (m1_3z : Bool) (m1_3 : List T) (m2z : Bool) (m2 : List T) (m3z : Bool) (m3 : List T) (m4_0 : Int) : Option Res :=
 callK (vr 57 0 [.t (.list 1 a0z a0), .fn 62 [] [.ptr 0 0 0, .ptr 4 0 0]] (Z6 m1_0 m1_1 m1_2 m1_3z m1_3 m2z m2 m3z m3 m4_0)) fun V1 B2 =>
 asT V1 fun X3 =>
 asI .i64 X3 fun X4 =>
 consB 0 B2 fun K5 B6 =>
 asVar K5 fun L7 =>
 consV L7 fun V8 L9 =>
 isPtr 1 0 0 V8 <|
 endV L9 <|
 consB 1 B6 fun K10 B11 =>
 asVar K10 fun L12 =>
 consV L12 fun V13 L14 =>
 asT V13 fun X15 =>
 asI .i64 X15 fun X16 =>
 consV L14 fun V17 L18 =>
 asT V17 fun X19 =>
 asI .i64 X19 fun X20 =>
 consV L18 fun V21 L22 =>
 asT V21 fun X23 =>
 asI .i64 X23 fun X24 =>
 consV L22 fun V25 L26 =>
 asT V25 fun X27 =>
 asL 5 X27 fun N28 L29 =>
 consV L26 fun V30 L31 =>
 isBuf 2 V30 <|
 consV L31 fun V32 L33 =>
 isBuf 3 V32 <|
 endV L33 <|
 consB 2 B11 fun K34 B35 =>
 asArr 2 K34 fun N36 L37 =>
 consB 3 B35 fun K38 B39 =>
 asArr 1 K38 fun N40 L41 =>
 consB 4 B39 fun K42 B43 =>
 asVar K42 fun L44 =>
 consV L44 fun V45 L46 =>
 asT V45 fun X47 =>
 asI .i64 X47 fun X48 =>
 endV L46 <|
 endB B43 <|
 some ((.t (.bool (decide (0 ≤ X4)))), (Z5 X16 X20 X24 N28 L29 N36 L37 N40 L41 X48))
theorem eq36g  (a0z : Bool) (a0 : List T) (m1_0 m1_1 m1_2 : Int) (m1_3z : Bool) (m1_3 : List T) (m2z : Bool) (m2 : List T) (m3z : Bool) (m3 : List T) (m4_0 : Int) : gE 36 0 9 Try.f36 [] [.t (.list 1 a0z a0), .fn 62 [] [.ptr 0 0 0, .ptr 4 0 0]] ⟨[(0, .var [.ptr 1 0 0]), (1, .var [.t (.int .i64 m1_0), .t (.int .i64 m1_1), .t (.int .i64 m1_2), .t (.list 5 m1_3z m1_3), .buf 2, .buf 3]), (2, .arr true 2 m2z m2), (3, .arr true 1 m3z m3), (4, .var [.t (.int .i64 m4_0)])], []⟩ = R36  a0z a0 m1_0 m1_1 m1_2 m1_3z m1_3 m2z m2 m3z m3 m4_0 := by kernel_rfl
theorem eq36 (a0z : Bool) (a0 : List T) (m1_0 m1_1 m1_2 : Int) (m1_3z : Bool) (m1_3 : List T) (m2z : Bool) (m2 : List T) (m3z : Bool) (m3 : List T) (m4_0 : Int) : vr 36 0 [.t (.list 1 a0z a0), .fn 62 [] [.ptr 0 0 0, .ptr 4 0 0]] ⟨[(0, .var [.ptr 1 0 0]), (1, .var [.t (.int .i64 m1_0), .t (.int .i64 m1_1), .t (.int .i64 m1_2), .t (.list 5 m1_3z m1_3), .buf 2, .buf 3]), (2, .arr true 2 m2z m2), (3, .arr true 1 m3z m3), (4, .var [.t (.int .i64 m4_0)])], []⟩ = R36  a0z a0 m1_0 m1_1 m1_2 m1_3z m1_3 m2z m2 m3z m3 m4_0 :=
  Eq.trans (call_eq Try.prog hint (fn := Try.f36) (nt := 9) (T := []) [] rfl _ _ rfl rfl rfl rfl rfl) (eq36g  a0z a0 m1_0 m1_1 m1_2 m1_3z m1_3 m2z m2 m3z m3 m4_0)
noncomputable def R48  (a1 a2_0 a2_1 a2_2 a2_3 a2_4 m0_0 m0_1 m0_2 : Int) (m0_3z : Bool) (m0_3 : List T) (m1z : Bool) (m1 : List T) (m2z : Bool) (m2 : List T) : Option Res :=
 callK (vr 15 0 [.t (.agg [.int .i64 a2_0, .int .i64 a2_1, .int .i64 a2_2, .int .i64 a2_3, .int .i64 a2_4])] ⟨[], []⟩) fun V1 B2 =>
 asT V1 fun X3 =>
 asL 1 X3 fun N4 L5 =>
 endB B2 <|
 callK (vr 36 0 [.t (.list 1 N4 L5), .fn 62 [] [.ptr 0 0 0, .ptr 4 0 0]] (Z6 m0_0 m0_1 m0_2 m0_3z m0_3 m1z m1 m2z m2 a1)) fun V6 B7 =>
 asT V6 fun X8 =>
 asB X8 fun B9 =>
 consB 0 B7 fun K10 B11 =>
 asVar K10 fun L12 =>
 consV L12 fun V13 L14 =>
 isPtr 1 0 0 V13 <|
 endV L14 <|
 consB 1 B11 fun K15 B16 =>
 asVar K15 fun L17 =>
 consV L17 fun V18 L19 =>
 asT V18 fun X20 =>
 asI .i64 X20 fun X21 =>
 consV L19 fun V22 L23 =>
 asT V22 fun X24 =>
 asI .i64 X24 fun X25 =>
 consV L23 fun V26 L27 =>
 asT V26 fun X28 =>
 asI .i64 X28 fun X29 =>
 consV L27 fun V30 L31 =>
 asT V30 fun X32 =>
 asL 5 X32 fun N33 L34 =>
 consV L31 fun V35 L36 =>
 isBuf 2 V35 <|
 consV L36 fun V37 L38 =>
 isBuf 3 V37 <|
 endV L38 <|
 consB 2 B16 fun K39 B40 =>
 asArr 2 K39 fun N41 L42 =>
 consB 3 B40 fun K43 B44 =>
 asArr 1 K43 fun N45 L46 =>
 consB 4 B44 fun K47 B48 =>
 asVar K47 fun L49 =>
 consV L49 fun V50 L51 =>
 asT V50 fun X52 =>
 asI .i64 X52 fun X53 =>
 endV L51 <|
 endB B48 <|
 some ((.t (.bool B9)), (Z7 X21 X25 X29 N33 L34 N41 L42 N45 L46))
theorem eq48g  (a1 a2_0 a2_1 a2_2 a2_3 a2_4 m0_0 m0_1 m0_2 : Int) (m0_3z : Bool) (m0_3 : List T) (m1z : Bool) (m1 : List T) (m2z : Bool) (m2 : List T) : gE 48 0 11 Try.f48 [] [.ptr 0 0 0, .t (.int .i64 a1), .t (.agg [.int .i64 a2_0, .int .i64 a2_1, .int .i64 a2_2, .int .i64 a2_3, .int .i64 a2_4])] ⟨[(0, .var [.t (.int .i64 m0_0), .t (.int .i64 m0_1), .t (.int .i64 m0_2), .t (.list 5 m0_3z m0_3), .buf 1, .buf 2]), (1, .arr true 2 m1z m1), (2, .arr true 1 m2z m2)], []⟩ = R48  a1 a2_0 a2_1 a2_2 a2_3 a2_4 m0_0 m0_1 m0_2 m0_3z m0_3 m1z m1 m2z m2 := by kernel_rfl
theorem eq48 (a1 a2_0 a2_1 a2_2 a2_3 a2_4 m0_0 m0_1 m0_2 : Int) (m0_3z : Bool) (m0_3 : List T) (m1z : Bool) (m1 : List T) (m2z : Bool) (m2 : List T) : vr 48 0 [.ptr 0 0 0, .t (.int .i64 a1), .t (.agg [.int .i64 a2_0, .int .i64 a2_1, .int .i64 a2_2, .int .i64 a2_3, .int .i64 a2_4])] ⟨[(0, .var [.t (.int .i64 m0_0), .t (.int .i64 m0_1), .t (.int .i64 m0_2), .t (.list 5 m0_3z m0_3), .buf 1, .buf 2]), (1, .arr true 2 m1z m1), (2, .arr true 1 m2z m2)], []⟩ = R48  a1 a2_0 a2_1 a2_2 a2_3 a2_4 m0_0 m0_1 m0_2 m0_3z m0_3 m1z m1 m2z m2 :=
  Eq.trans (call_eq Try.prog hint (fn := Try.f48) (nt := 11) (T := []) [] rfl _ _ rfl rfl rfl rfl rfl) (eq48g  a1 a2_0 a2_1 a2_2 a2_3 a2_4 m0_0 m0_1 m0_2 m0_3z m0_3 m1z m1 m2z m2)
noncomputable def R34 (L34_2 : YL34_2) (m0_0 m0_1 m0_2 : Int) (m0_3z : Bool) (m0_3 : List T) (m1z : Bool) (m1 : List T) (m2z : Bool) (m2 : List T) : Option Res :=
 L34_2 (m0_3z) (m0_3) ((m0_3.length : Int)) (0) (m0_0) (m0_1) (m0_2) (m0_3z) (m0_3) (m1z) (m1) (m2z) (m2) (false) ([])
theorem eq34g (KL34_2 : Env → St → Option Res) (m0_0 m0_1 m0_2 : Int) (m0_3z : Bool) (m0_3 : List T) (m1z : Bool) (m1 : List T) (m2z : Bool) (m2 : List T) : gE 34 0 37 Try.f34 (Ta34 KL34_2) [.ptr 0 0 0, .fn 48 [.ptr 0 0 0] []] ⟨[(0, .var [.t (.int .i64 m0_0), .t (.int .i64 m0_1), .t (.int .i64 m0_2), .t (.list 5 m0_3z m0_3), .buf 1, .buf 2]), (1, .arr true 2 m1z m1), (2, .arr true 1 m2z m2)], []⟩ = R34 (WL34_2 KL34_2) m0_0 m0_1 m0_2 m0_3z m0_3 m1z m1 m2z m2 := by kernel_rfl
theorem eq34 (m0_0 m0_1 m0_2 : Int) (m0_3z : Bool) (m0_3 : List T) (m1z : Bool) (m1 : List T) (m2z : Bool) (m2 : List T) : vr 34 0 [.ptr 0 0 0, .fn 48 [.ptr 0 0 0] []] ⟨[(0, .var [.t (.int .i64 m0_0), .t (.int .i64 m0_1), .t (.int .i64 m0_2), .t (.list 5 m0_3z m0_3), .buf 1, .buf 2]), (1, .arr true 2 m1z m1), (2, .arr true 1 m2z m2)], []⟩ = R34 L34_2 m0_0 m0_1 m0_2 m0_3z m0_3 m1z m1 m2z m2 :=
  Eq.trans (call_eq Try.prog hint (fn := Try.f34) (nt := 37) (T := (Ta34 VL34_2)) [PaL34_2] rfl _ _ rfl rfl rfl rfl rfl) (eq34g VL34_2 m0_0 m0_1 m0_2 m0_3z m0_3 m1z m1 m2z m2)
noncomputable def RL34_2 (L34_2 : YL34_2) (t11z : Bool) (t11 : List T) (t12 t13 m0_0 m0_1 m0_2 : Int) (m0_3z : Bool) (m0_3 : List T) (m1z : Bool) (m1 : List T) (m2z : Bool) (m2 : List T) (m8z : Bool) (m8 : List T) : Option Res :=
(bif (decide (t13 < t12)) then
 needC (decide (0 ≤ t13)) fun _ =>
 getT t11 (t13).toNat fun E1 =>
 asA E1 fun L2 =>
 consT L2 fun V3 L4 =>
 asI .i64 V3 fun X5 =>
 consT L4 fun V6 L7 =>
 asI .i64 V6 fun X8 =>
 consT L7 fun V9 L10 =>
 asI .i64 V9 fun X11 =>
 consT L10 fun V12 L13 =>
 asI .i64 V12 fun X14 =>
 consT L13 fun V15 L16 =>
 asI .i64 V15 fun X17 =>
 endT L16 <|
 needC (decide (0 ≤ t13) && decide (t13 < (m2.length : Int))) fun _ =>
 getT m2 ((t13).toNat) fun E18 =>
 asB E18 fun B19 =>
(bif B19 then
 callK (vr 48 0 [.ptr 0 0 0, .t (.int .i64 t13), .t (.agg [.int .i64 X5, .int .i64 X8, .int .i64 X11, .int .i64 X14, .int .i64 X17])] ⟨[(0, .var [.t (.int .i64 m0_0), .t (.int .i64 m0_1), .t (.int .i64 m0_2), .t (.list 5 m0_3z m0_3), .buf 1, .buf 2]), (1, .arr true 2 m1z m1), (2, .arr true 1 m2z m2)], []⟩) fun V20 B21 =>
 asT V20 fun X22 =>
 asB X22 fun B23 =>
 consB 0 B21 fun K24 B25 =>
 asVar K24 fun L26 =>
 consV L26 fun V27 L28 =>
 asT V27 fun X29 =>
 asI .i64 X29 fun X30 =>
 consV L28 fun V31 L32 =>
 asT V31 fun X33 =>
 asI .i64 X33 fun X34 =>
 consV L32 fun V35 L36 =>
 asT V35 fun X37 =>
 asI .i64 X37 fun X38 =>
 consV L36 fun V39 L40 =>
 asT V39 fun X41 =>
 asL 5 X41 fun N42 L43 =>
 consV L40 fun V44 L45 =>
 isBuf 1 V44 <|
 consV L45 fun V46 L47 =>
 isBuf 2 V46 <|
 endV L47 <|
 consB 1 B25 fun K48 B49 =>
 asArr 2 K48 fun N50 L51 =>
 consB 2 B49 fun K52 B53 =>
 asArr 1 K52 fun N54 L55 =>
 endB B53 <|
(bif B23 then
 needC (decide ((m8.length + 1) * (8 + 1) ≤ 70368744177664) && decide (8 ≤ 1048576)) fun _ =>
 L34_2 (t11z) (t11) (t12) ((IntKind.i64.wrap (t13 + 1))) (X30) (X34) (X38) (N42) (L43) (N50) (L51) (N54) (L55) ((m8z || true)) ((m8 ++ ([.int .i64 t13] : List T)))
else
 L34_2 (t11z) (t11) (t12) ((IntKind.i64.wrap (t13 + 1))) (X30) (X34) (X38) (N42) (L43) (N50) (L51) (N54) (L55) (m8z) (m8))
else
 L34_2 (t11z) (t11) (t12) ((IntKind.i64.wrap (t13 + 1))) (m0_0) (m0_1) (m0_2) (m0_3z) (m0_3) (m1z) (m1) (m2z) (m2) (m8z) (m8))
else
 some ((.t (.list 1 m8z m8)), (Z7 m0_0 m0_1 m0_2 m0_3z m0_3 m1z m1 m2z m2)))
theorem L34_2g (KL34_2 : Env → St → Option Res) (t11z : Bool) (t11 : List T) (t12 t13 m0_0 m0_1 m0_2 : Int) (m0_3z : Bool) (m0_3 : List T) (m1z : Bool) (m1 : List T) (m2z : Bool) (m2 : List T) (m8z : Bool) (m8 : List T) : WL34_2 (fun e st => gP 34 0 37 Try.f34 (Ta34 KL34_2) (.lp :: PaL34_2) e st) t11z t11 t12 t13 m0_0 m0_1 m0_2 m0_3z m0_3 m1z m1 m2z m2 m8z m8 = RL34_2 (WL34_2 KL34_2) t11z t11 t12 t13 m0_0 m0_1 m0_2 m0_3z m0_3 m1z m1 m2z m2 m8z m8 := by kernel_rfl
theorem L34_2_eq (t11z : Bool) (t11 : List T) (t12 t13 m0_0 m0_1 m0_2 : Int) (m0_3z : Bool) (m0_3 : List T) (m1z : Bool) (m1 : List T) (m2z : Bool) (m2 : List T) (m8z : Bool) (m8 : List T) : L34_2 t11z t11 t12 t13 m0_0 m0_1 m0_2 m0_3z m0_3 m1z m1 m2z m2 m8z m8 = RL34_2 L34_2 t11z t11 t12 t13 m0_0 m0_1 m0_2 m0_3z m0_3 m1z m1 m2z m2 m8z m8 :=
  (congrArg (fun k => WL34_2 k t11z t11 t12 t13 m0_0 m0_1 m0_2 m0_3z m0_3 m1z m1 m2z m2 m8z m8) (funext fun e => funext fun st => round_eq Try.prog hint (b := (nav (List.reverse (.lp :: PaL34_2)) (bodyOf Try.f34))) (fn := Try.f34) (nt := 37) (T := (Ta34 VL34_2)) [PaL34_2] rfl PaL34_2 e st rfl rfl rfl)).trans (L34_2g VL34_2 t11z t11 t12 t13 m0_0 m0_1 m0_2 m0_3z m0_3 m1z m1 m2z m2 m8z m8)
noncomputable def R25  (a0_0 a0_1 a0_2 : Int) (a0_3z : Bool) (a0_3 : List T) : Option Res :=
 callK (vr 33 0 [.t (.agg [.int .i64 a0_0, .int .i64 a0_1, .int .i64 a0_2, .list 5 a0_3z a0_3])] ⟨[], []⟩) fun V1 B2 =>
(bif fitsH (.tup [.nilp, .t (.one (.int .i64))]) [] V1 B2 then
 asTup V1 fun L79 =>
 consV L79 fun V80 L81 =>
 isNil V80 <|
 consV L81 fun V82 L83 =>
 asT V82 fun X84 =>
 asI .i64 X84 fun X85 =>
 endV L83 <|
 endB B2 <|
(bif (!decide (X85 = 0)) then
 some ((.tup [.t (.list 1 false []), .t (.int .i64 X85)]), ⟨[], []⟩)
else
 callK (vr 34 0 [.con (.pointer none), .fn 48 [.con (.pointer none)] []] ⟨[], []⟩) fun V86 B87 =>
 asT V86 fun X88 =>
 asL 1 X88 fun N89 L90 =>
 consB 0 B87 fun K91 B92 =>
 asVar K91 fun L93 =>
 consV L93 fun V94 L95 =>
 asT V94 fun X96 =>
 asI .i64 X96 fun X97 =>
 consV L95 fun V98 L99 =>
 asT V98 fun X100 =>
 asI .i64 X100 fun X101 =>
 consV L99 fun V102 L103 =>
 asT V102 fun X104 =>
 asI .i64 X104 fun X105 =>
 consV L103 fun V106 L107 =>
 asT V106 fun X108 =>
 asL 5 X108 fun N109 L110 =>
 consV L107 fun V111 L112 =>
 isBuf 1 V111 <|
 consV L112 fun V113 L114 =>
 isBuf 2 V113 <|
 endV L114 <|
 consB 1 B92 fun K115 B116 =>
 asArr 2 K115 fun N117 L118 =>
 consB 2 B116 fun K119 B120 =>
 asArr 1 K119 fun N121 L122 =>
 endB B120 <|
 some ((.tup [.t (.list 1 N89 L90), .t (.int .i64 0)]), ⟨[], []⟩))
else
 asTup V1 fun L3 =>
 consV L3 fun V4 L5 =>
 isPtr 500 0 0 V4 <|
 consV L5 fun V6 L7 =>
 asT V6 fun X8 =>
 asI .i64 X8 fun X9 =>
 endV L7 <|
 consB 500 B2 fun K10 B11 =>
 asVar K10 fun L12 =>
 consV L12 fun V13 L14 =>
 asT V13 fun X15 =>
 asI .i64 X15 fun X16 =>
 consV L14 fun V17 L18 =>
 asT V17 fun X19 =>
 asI .i64 X19 fun X20 =>
 consV L18 fun V21 L22 =>
 asT V21 fun X23 =>
 asI .i64 X23 fun X24 =>
 consV L22 fun V25 L26 =>
 asT V25 fun X27 =>
 asL 5 X27 fun N28 L29 =>
 consV L26 fun V30 L31 =>
 isBuf 501 V30 <|
 consV L31 fun V32 L33 =>
 isBuf 502 V32 <|
 endV L33 <|
 consB 501 B11 fun K34 B35 =>
 asArr 2 K34 fun N36 L37 =>
 consB 502 B35 fun K38 B39 =>
 asArr 1 K38 fun N40 L41 =>
 endB B39 <|
(bif (!decide (X9 = 0)) then
 some ((.tup [.t (.list 1 false []), .t (.int .i64 X9)]), ⟨[], []⟩)
else
 callK (vr 34 0 [.ptr 0 0 0, .fn 48 [.ptr 0 0 0] []] ⟨[(0, .var [.t (.int .i64 X16), .t (.int .i64 X20), .t (.int .i64 X24), .t (.list 5 N28 L29), .buf 1, .buf 2]), (1, .arr true 2 N36 L37), (2, .arr true 1 N40 L41)], []⟩) fun V42 B43 =>
 asT V42 fun X44 =>
 asL 1 X44 fun N45 L46 =>
 consB 0 B43 fun K47 B48 =>
 asVar K47 fun L49 =>
 consV L49 fun V50 L51 =>
 asT V50 fun X52 =>
 asI .i64 X52 fun X53 =>
 consV L51 fun V54 L55 =>
 asT V54 fun X56 =>
 asI .i64 X56 fun X57 =>
 consV L55 fun V58 L59 =>
 asT V58 fun X60 =>
 asI .i64 X60 fun X61 =>
 consV L59 fun V62 L63 =>
 asT V62 fun X64 =>
 asL 5 X64 fun N65 L66 =>
 consV L63 fun V67 L68 =>
 isBuf 1 V67 <|
 consV L68 fun V69 L70 =>
 isBuf 2 V69 <|
 endV L70 <|
 consB 1 B48 fun K71 B72 =>
 asArr 2 K71 fun N73 L74 =>
 consB 2 B72 fun K75 B76 =>
 asArr 1 K75 fun N77 L78 =>
 endB B76 <|
 some ((.tup [.t (.list 1 N45 L46), .t (.int .i64 0)]), ⟨[], []⟩)))
theorem eq25g  (a0_0 a0_1 a0_2 : Int) (a0_3z : Bool) (a0_3 : List T) : gE 25 0 18 Try.f25 [] [.t (.agg [.int .i64 a0_0, .int .i64 a0_1, .int .i64 a0_2, .list 5 a0_3z a0_3])] ⟨[], []⟩ = R25  a0_0 a0_1 a0_2 a0_3z a0_3 := by kernel_rfl
theorem eq25 (a0_0 a0_1 a0_2 : Int) (a0_3z : Bool) (a0_3 : List T) : vr 25 0 [.t (.agg [.int .i64 a0_0, .int .i64 a0_1, .int .i64 a0_2, .list 5 a0_3z a0_3])] ⟨[], []⟩ = R25  a0_0 a0_1 a0_2 a0_3z a0_3 :=
  Eq.trans (call_eq Try.prog hint (fn := Try.f25) (nt := 18) (T := []) [] rfl _ _ rfl rfl rfl rfl rfl) (eq25g  a0_0 a0_1 a0_2 a0_3z a0_3)
noncomputable def R20 (L20_4 : YL20_4) (a0z : Bool) (a0 : List T) (a1z : Bool) (a1 : List T) : Option Res :=
(bif (!decide ((a0.length : Int) = (a1.length : Int))) then
 some ((.t (.bool false)), ⟨[], []⟩)
else
 L20_4 (a0z) (a0) (a1z) (a1) ((a0.length : Int)) (0))
theorem eq20g (KL20_4 : Env → St → Option Res) (a0z : Bool) (a0 : List T) (a1z : Bool) (a1 : List T) : gE 20 0 26 Try.f20 (Ta20 KL20_4) [.t (.list 1 a0z a0), .t (.list 1 a1z a1)] ⟨[], []⟩ = R20 (WL20_4 KL20_4) a0z a0 a1z a1 := by kernel_rfl
theorem eq20 (a0z : Bool) (a0 : List T) (a1z : Bool) (a1 : List T) : vr 20 0 [.t (.list 1 a0z a0), .t (.list 1 a1z a1)] ⟨[], []⟩ = R20 L20_4 a0z a0 a1z a1 :=
  Eq.trans (call_eq Try.prog hint (fn := Try.f20) (nt := 26) (T := (Ta20 VL20_4)) [PaL20_4] rfl _ _ rfl rfl rfl rfl rfl) (eq20g VL20_4 a0z a0 a1z a1)
noncomputable def RL20_4 (L20_4 : YL20_4) (a0z : Bool) (a0 : List T) (b1z : Bool) (b1 : List T) (t12 t13 : Int) : Option Res :=
(bif (decide (t13 < t12)) then
 needC (decide (0 ≤ t13)) fun _ =>
 getT a0 (t13).toNat fun E1 =>
 asI .i64 E1 fun X2 =>
 needC (decide (0 ≤ t13)) fun _ =>
 getT b1 (t13).toNat fun E3 =>
 asI .i64 E3 fun X4 =>
(bif (!decide (X2 = X4)) then
 some ((.t (.bool false)), ⟨[], []⟩)
else
 L20_4 (a0z) (a0) (b1z) (b1) (t12) ((IntKind.i64.wrap (t13 + 1))))
else
 some ((.t (.bool true)), ⟨[], []⟩))
theorem L20_4g (KL20_4 : Env → St → Option Res) (a0z : Bool) (a0 : List T) (b1z : Bool) (b1 : List T) (t12 t13 : Int) : WL20_4 (fun e st => gP 20 0 26 Try.f20 (Ta20 KL20_4) (.lp :: PaL20_4) e st) a0z a0 b1z b1 t12 t13 = RL20_4 (WL20_4 KL20_4) a0z a0 b1z b1 t12 t13 := by kernel_rfl
theorem L20_4_eq (a0z : Bool) (a0 : List T) (b1z : Bool) (b1 : List T) (t12 t13 : Int) : L20_4 a0z a0 b1z b1 t12 t13 = RL20_4 L20_4 a0z a0 b1z b1 t12 t13 :=
  (congrArg (fun k => WL20_4 k a0z a0 b1z b1 t12 t13) (funext fun e => funext fun st => round_eq Try.prog hint (b := (nav (List.reverse (.lp :: PaL20_4)) (bodyOf Try.f20))) (fn := Try.f20) (nt := 26) (T := (Ta20 VL20_4)) [PaL20_4] rfl PaL20_4 e st rfl rfl rfl)).trans (L20_4g VL20_4 a0z a0 b1z b1 t12 t13)
noncomputable def R41  (a0_0 a0_1 a0_2 a0_3 a0_4 m0_0 m0_1 m0_2 : Int) (m0_3z : Bool) (m0_3 : List T) : Option Res :=
(bif (decide (a0_0 = 7)) then
 some ((.t (.bool (decide (a0_1 < m0_2)))), (Z3 m0_0 m0_1 m0_2 m0_3z m0_3))
else
(bif (decide (a0_0 = 9)) then
 some ((.t (.bool (decide (a0_1 < m0_2)))), (Z3 m0_0 m0_1 m0_2 m0_3z m0_3))
else
 some ((.t (.bool false)), (Z3 m0_0 m0_1 m0_2 m0_3z m0_3))))
theorem eq41g  (a0_0 a0_1 a0_2 a0_3 a0_4 m0_0 m0_1 m0_2 : Int) (m0_3z : Bool) (m0_3 : List T) : gE 41 0 19 Try.f41 [] [.t (.agg [.int .i64 a0_0, .int .i64 a0_1, .int .i64 a0_2, .int .i64 a0_3, .int .i64 a0_4]), .ptr 0 0 0] ⟨[(0, .var [.t (.int .i64 m0_0), .t (.int .i64 m0_1), .t (.int .i64 m0_2), .t (.list 5 m0_3z m0_3)])], []⟩ = R41  a0_0 a0_1 a0_2 a0_3 a0_4 m0_0 m0_1 m0_2 m0_3z m0_3 := by kernel_rfl
theorem eq41 (a0_0 a0_1 a0_2 a0_3 a0_4 m0_0 m0_1 m0_2 : Int) (m0_3z : Bool) (m0_3 : List T) : vr 41 0 [.t (.agg [.int .i64 a0_0, .int .i64 a0_1, .int .i64 a0_2, .int .i64 a0_3, .int .i64 a0_4]), .ptr 0 0 0] ⟨[(0, .var [.t (.int .i64 m0_0), .t (.int .i64 m0_1), .t (.int .i64 m0_2), .t (.list 5 m0_3z m0_3)])], []⟩ = R41  a0_0 a0_1 a0_2 a0_3 a0_4 m0_0 m0_1 m0_2 m0_3z m0_3 :=
  Eq.trans (call_eq Try.prog hint (fn := Try.f41) (nt := 19) (T := []) [] rfl _ _ rfl rfl rfl rfl rfl) (eq41g  a0_0 a0_1 a0_2 a0_3 a0_4 m0_0 m0_1 m0_2 m0_3z m0_3)
noncomputable def R59v1 (L59v1_2 : YL59v1_2) (a0z : Bool) (a0 : List T) (m0_0 m0_1 m0_2 : Int) (m0_3z : Bool) (m0_3 : List T) : Option Res :=
 L59v1_2 (a0z) (a0) ((a0.length : Int)) (0) (m0_0) (m0_1) (m0_2) (m0_3z) (m0_3)
theorem eq59v1g (KL59v1_2 : Env → St → Option Res) (a0z : Bool) (a0 : List T) (m0_0 m0_1 m0_2 : Int) (m0_3z : Bool) (m0_3 : List T) : gE 59 1 19 Try.f59 (Ta59v1 KL59v1_2) [.t (.list 5 a0z a0), .fn 41 [] [.ptr 0 0 0]] ⟨[(0, .var [.t (.int .i64 m0_0), .t (.int .i64 m0_1), .t (.int .i64 m0_2), .t (.list 5 m0_3z m0_3)])], []⟩ = R59v1 (WL59v1_2 KL59v1_2) a0z a0 m0_0 m0_1 m0_2 m0_3z m0_3 := by kernel_rfl
theorem eq59v1 (a0z : Bool) (a0 : List T) (m0_0 m0_1 m0_2 : Int) (m0_3z : Bool) (m0_3 : List T) : vr 59 1 [.t (.list 5 a0z a0), .fn 41 [] [.ptr 0 0 0]] ⟨[(0, .var [.t (.int .i64 m0_0), .t (.int .i64 m0_1), .t (.int .i64 m0_2), .t (.list 5 m0_3z m0_3)])], []⟩ = R59v1 L59v1_2 a0z a0 m0_0 m0_1 m0_2 m0_3z m0_3 :=
  Eq.trans (call_eq Try.prog hint (fn := Try.f59) (nt := 19) (T := (Ta59v1 VL59v1_2)) [PaL59v1_2] rfl _ _ rfl rfl rfl rfl rfl) (eq59v1g VL59v1_2 a0z a0 m0_0 m0_1 m0_2 m0_3z m0_3)
noncomputable def RL59v1_2 (L59v1_2 : YL59v1_2) (s0z : Bool) (s0 : List T) (t7 t8 m0_0 m0_1 m0_2 : Int) (m0_3z : Bool) (m0_3 : List T) : Option Res :=
(bif (decide (t8 < t7)) then
 needC (decide (0 ≤ t8)) fun _ =>
 getT s0 (t8).toNat fun E1 =>
 asA E1 fun L2 =>
 consT L2 fun V3 L4 =>
 asI .i64 V3 fun X5 =>
 consT L4 fun V6 L7 =>
 asI .i64 V6 fun X8 =>
 consT L7 fun V9 L10 =>
 asI .i64 V9 fun X11 =>
 consT L10 fun V12 L13 =>
 asI .i64 V12 fun X14 =>
 consT L13 fun V15 L16 =>
 asI .i64 V15 fun X17 =>
 endT L16 <|
 callK (vr 41 0 [.t (.agg [.int .i64 X5, .int .i64 X8, .int .i64 X11, .int .i64 X14, .int .i64 X17]), .ptr 0 0 0] (Z4 m0_0 m0_1 m0_2 m0_3z m0_3)) fun V18 B19 =>
 asT V18 fun X20 =>
 asB X20 fun B21 =>
 consB 0 B19 fun K22 B23 =>
 asVar K22 fun L24 =>
 consV L24 fun V25 L26 =>
 asT V25 fun X27 =>
 asI .i64 X27 fun X28 =>
 consV L26 fun V29 L30 =>
 asT V29 fun X31 =>
 asI .i64 X31 fun X32 =>
 consV L30 fun V33 L34 =>
 asT V33 fun X35 =>
 asI .i64 X35 fun X36 =>
 consV L34 fun V37 L38 =>
 asT V37 fun X39 =>
 asL 5 X39 fun N40 L41 =>
 endV L38 <|
 endB B23 <|
(bif B21 then
 some ((.t (.int .i64 t8)), (Z3 X28 X32 X36 N40 L41))
else
 L59v1_2 (s0z) (s0) (t7) ((IntKind.i64.wrap (t8 + 1))) (X28) (X32) (X36) (N40) (L41))
else
 some ((.t (.int .i64 (-1))), (Z3 m0_0 m0_1 m0_2 m0_3z m0_3)))
theorem L59v1_2g (KL59v1_2 : Env → St → Option Res) (s0z : Bool) (s0 : List T) (t7 t8 m0_0 m0_1 m0_2 : Int) (m0_3z : Bool) (m0_3 : List T) : WL59v1_2 (fun e st => gP 59 1 19 Try.f59 (Ta59v1 KL59v1_2) (.lp :: PaL59v1_2) e st) s0z s0 t7 t8 m0_0 m0_1 m0_2 m0_3z m0_3 = RL59v1_2 (WL59v1_2 KL59v1_2) s0z s0 t7 t8 m0_0 m0_1 m0_2 m0_3z m0_3 := by kernel_rfl
theorem L59v1_2_eq (s0z : Bool) (s0 : List T) (t7 t8 m0_0 m0_1 m0_2 : Int) (m0_3z : Bool) (m0_3 : List T) : L59v1_2 s0z s0 t7 t8 m0_0 m0_1 m0_2 m0_3z m0_3 = RL59v1_2 L59v1_2 s0z s0 t7 t8 m0_0 m0_1 m0_2 m0_3z m0_3 :=
  (congrArg (fun k => WL59v1_2 k s0z s0 t7 t8 m0_0 m0_1 m0_2 m0_3z m0_3) (funext fun e => funext fun st => round_eq Try.prog hint (b := (nav (List.reverse (.lp :: PaL59v1_2)) (bodyOf Try.f59))) (fn := Try.f59) (nt := 19) (T := (Ta59v1 VL59v1_2)) [PaL59v1_2] rfl PaL59v1_2 e st rfl rfl rfl)).trans (L59v1_2g VL59v1_2 s0z s0 t7 t8 m0_0 m0_1 m0_2 m0_3z m0_3)
noncomputable def R40v1  (a0z : Bool) (a0 : List T) (m0_0 m0_1 m0_2 : Int) (m0_3z : Bool) (m0_3 : List T) : Option Res :=
 callK (vr 59 1 [.t (.list 5 a0z a0), .fn 41 [] [.ptr 0 0 0]] (Z4 m0_0 m0_1 m0_2 m0_3z m0_3)) fun V1 B2 =>
 asT V1 fun X3 =>
 asI .i64 X3 fun X4 =>
 consB 0 B2 fun K5 B6 =>
 asVar K5 fun L7 =>
 consV L7 fun V8 L9 =>
 asT V8 fun X10 =>
 asI .i64 X10 fun X11 =>
 consV L9 fun V12 L13 =>
 asT V12 fun X14 =>
 asI .i64 X14 fun X15 =>
 consV L13 fun V16 L17 =>
 asT V16 fun X18 =>
 asI .i64 X18 fun X19 =>
 consV L17 fun V20 L21 =>
 asT V20 fun X22 =>
 asL 5 X22 fun N23 L24 =>
 endV L21 <|
 endB B6 <|
 some ((.t (.bool (decide (0 ≤ X4)))), (Z3 X11 X15 X19 N23 L24))
theorem eq40v1g  (a0z : Bool) (a0 : List T) (m0_0 m0_1 m0_2 : Int) (m0_3z : Bool) (m0_3 : List T) : gE 40 1 9 Try.f40 [] [.t (.list 5 a0z a0), .fn 41 [] [.ptr 0 0 0]] ⟨[(0, .var [.t (.int .i64 m0_0), .t (.int .i64 m0_1), .t (.int .i64 m0_2), .t (.list 5 m0_3z m0_3)])], []⟩ = R40v1  a0z a0 m0_0 m0_1 m0_2 m0_3z m0_3 := by kernel_rfl
theorem eq40v1 (a0z : Bool) (a0 : List T) (m0_0 m0_1 m0_2 : Int) (m0_3z : Bool) (m0_3 : List T) : vr 40 1 [.t (.list 5 a0z a0), .fn 41 [] [.ptr 0 0 0]] ⟨[(0, .var [.t (.int .i64 m0_0), .t (.int .i64 m0_1), .t (.int .i64 m0_2), .t (.list 5 m0_3z m0_3)])], []⟩ = R40v1  a0z a0 m0_0 m0_1 m0_2 m0_3z m0_3 :=
  Eq.trans (call_eq Try.prog hint (fn := Try.f40) (nt := 9) (T := []) [] rfl _ _ rfl rfl rfl rfl rfl) (eq40v1g  a0z a0 m0_0 m0_1 m0_2 m0_3z m0_3)
noncomputable def R14  (a0_0 a0_1 a0_2 : Int) (a0_3z : Bool) (a0_3 : List T) : Option Res :=
 callK (vr 25 0 [.t (.agg [.int .i64 a0_0, .int .i64 a0_1, .int .i64 a0_2, .list 5 a0_3z a0_3])] ⟨[], []⟩) fun V1 B2 =>
 asTup V1 fun L3 =>
 consV L3 fun V4 L5 =>
 asT V4 fun X6 =>
 asL 1 X6 fun N7 L8 =>
 consV L5 fun V9 L10 =>
 asT V9 fun X11 =>
 asI .i64 X11 fun X12 =>
 endV L10 <|
 endB B2 <|
(bif (!decide (X12 = 0)) then
 some ((.t (.int .i64 X12)), ⟨[], []⟩)
else
(bif (decide (0 < (L8.length : Int))) then
 some ((.t (.int .i64 7)), ⟨[], []⟩)
else
 callK (vr 40 1 [.t (.list 5 a0_3z a0_3), .fn 41 [] [.ptr 0 0 0]] (Z4 a0_0 a0_1 a0_2 a0_3z a0_3)) fun V13 B14 =>
 asT V13 fun X15 =>
 asB X15 fun B16 =>
 consB 0 B14 fun K17 B18 =>
 asVar K17 fun L19 =>
 consV L19 fun V20 L21 =>
 asT V20 fun X22 =>
 asI .i64 X22 fun X23 =>
 consV L21 fun V24 L25 =>
 asT V24 fun X26 =>
 asI .i64 X26 fun X27 =>
 consV L25 fun V28 L29 =>
 asT V28 fun X30 =>
 asI .i64 X30 fun X31 =>
 consV L29 fun V32 L33 =>
 asT V32 fun X34 =>
 asL 5 X34 fun N35 L36 =>
 endV L33 <|
 endB B18 <|
(bif B16 then
 some ((.t (.int .i64 3)), ⟨[], []⟩)
else
 some ((.t (.int .i64 0)), ⟨[], []⟩))))
theorem eq14g  (a0_0 a0_1 a0_2 : Int) (a0_3z : Bool) (a0_3 : List T) : gE 14 0 23 Try.f14 [] [.t (.agg [.int .i64 a0_0, .int .i64 a0_1, .int .i64 a0_2, .list 5 a0_3z a0_3])] ⟨[], []⟩ = R14  a0_0 a0_1 a0_2 a0_3z a0_3 := by kernel_rfl
theorem eq14 (a0_0 a0_1 a0_2 : Int) (a0_3z : Bool) (a0_3 : List T) : vr 14 0 [.t (.agg [.int .i64 a0_0, .int .i64 a0_1, .int .i64 a0_2, .list 5 a0_3z a0_3])] ⟨[], []⟩ = R14  a0_0 a0_1 a0_2 a0_3z a0_3 :=
  Eq.trans (call_eq Try.prog hint (fn := Try.f14) (nt := 23) (T := []) [] rfl _ _ rfl rfl rfl rfl rfl) (eq14g  a0_0 a0_1 a0_2 a0_3z a0_3)
noncomputable def R8   : Option Res :=
 callK (vr 32 0 [.t (.str ⟨#[99, 111, 100, 101, 32, 50, 32, 48, 32, 48, 10, 115, 101, 116, 32, 114, 48, 32, 49, 10, 97, 100, 100, 32, 114, 48, 32, 114, 48, 32, 114, 49, 10, 104, 97, 108, 116]⟩)] ⟨[], []⟩) fun V1 B2 =>
 asTup V1 fun L3 =>
 consV L3 fun V4 L5 =>
 asT V4 fun X6 =>
 asA X6 fun L7 =>
 consT L7 fun V8 L9 =>
 asI .i64 V8 fun X10 =>
 consT L9 fun V11 L12 =>
 asI .i64 V11 fun X13 =>
 consT L12 fun V14 L15 =>
 asI .i64 V14 fun X16 =>
 consT L15 fun V17 L18 =>
 asL 5 V17 fun N19 L20 =>
 endT L18 <|
 consV L5 fun V21 L22 =>
 asT V21 fun X23 =>
 asI .i64 X23 fun X24 =>
 consV L22 fun V25 L26 =>
 asT V25 fun X27 =>
 asI .i64 X27 fun X28 =>
 endV L26 <|
 endB B2 <|
 callK (vr 25 0 [.t (.agg [.int .i64 X10, .int .i64 X13, .int .i64 X16, .list 5 N19 L20])] ⟨[], []⟩) fun V29 B30 =>
 asTup V29 fun L31 =>
 consV L31 fun V32 L33 =>
 asT V32 fun X34 =>
 asL 1 X34 fun N35 L36 =>
 consV L33 fun V37 L38 =>
 asT V37 fun X39 =>
 asI .i64 X39 fun X40 =>
 endV L38 <|
 endB B30 <|
(bif (decide (X28 = 0)) then
(bif (decide (X40 = 0)) then
 callK (vr 20 0 [.t (.list 1 N35 L36), .t (.list 1 true [.int .i64 1])] ⟨[], []⟩) fun V41 B42 =>
 asT V41 fun X43 =>
 asB X43 fun B44 =>
 endB B42 <|
(bif B44 then
 callK (vr 14 0 [.t (.agg [.int .i64 X10, .int .i64 X13, .int .i64 X16, .list 5 N19 L20])] ⟨[], []⟩) fun V45 B46 =>
 asT V45 fun X47 =>
 asI .i64 X47 fun X48 =>
 endB B46 <|
 some ((.t (.bool (decide (X48 = 7)))), ⟨[], []⟩)
else
 some ((.t (.bool false)), ⟨[], []⟩))
else
 some ((.t (.bool false)), ⟨[], []⟩))
else
 some ((.t (.bool false)), ⟨[], []⟩))
theorem eq8g   : gE 8 0 32 Try.f8 [] [] ⟨[], []⟩ = R8   := by kernel_rfl
theorem eq8  : vr 8 0 [] ⟨[], []⟩ = R8   :=
  Eq.trans (call_eq Try.prog hint (fn := Try.f8) (nt := 32) (T := []) [] rfl _ _ rfl rfl rfl rfl rfl) (eq8g  )
noncomputable def R9  (a0_0 a0_1 a0_2 : Int) (a0_3z : Bool) (a0_3 : List T) : Option Res :=
 some ((.t (.bool (decide ((a0_3.length : Int) ≤ 300)))), ⟨[], []⟩)
theorem eq9g  (a0_0 a0_1 a0_2 : Int) (a0_3z : Bool) (a0_3 : List T) : gE 9 0 7 Try.f9 [] [.t (.agg [.int .i64 a0_0, .int .i64 a0_1, .int .i64 a0_2, .list 5 a0_3z a0_3])] ⟨[], []⟩ = R9  a0_0 a0_1 a0_2 a0_3z a0_3 := by kernel_rfl
theorem eq9 (a0_0 a0_1 a0_2 : Int) (a0_3z : Bool) (a0_3 : List T) : vr 9 0 [.t (.agg [.int .i64 a0_0, .int .i64 a0_1, .int .i64 a0_2, .list 5 a0_3z a0_3])] ⟨[], []⟩ = R9  a0_0 a0_1 a0_2 a0_3z a0_3 :=
  Eq.trans (call_eq Try.prog hint (fn := Try.f9) (nt := 7) (T := []) [] rfl _ _ rfl rfl rfl rfl rfl) (eq9g  a0_0 a0_1 a0_2 a0_3z a0_3)
noncomputable def R37  (a0 m0_0 : Int) : Option Res :=
 some ((.t (.bool (decide (a0 ≤ m0_0)))), ⟨[(0, .var [.t (.int .i64 m0_0)])], [500]⟩)
theorem eq37g  (a0 m0_0 : Int) : gE 37 0 7 Try.f37 [] [.t (.int .i64 a0), .ptr 0 0 0] ⟨[(0, .var [.t (.int .i64 m0_0)])], []⟩ = R37  a0 m0_0 := by kernel_rfl
theorem eq37 (a0 m0_0 : Int) : vr 37 0 [.t (.int .i64 a0), .ptr 0 0 0] ⟨[(0, .var [.t (.int .i64 m0_0)])], []⟩ = R37  a0 m0_0 :=
  Eq.trans (call_eq Try.prog hint (fn := Try.f37) (nt := 7) (T := []) [] rfl _ _ rfl rfl rfl rfl rfl) (eq37g  a0 m0_0)
noncomputable def R57v1 (L57v1_2 : YL57v1_2) (a0z : Bool) (a0 : List T) (m0_0 : Int) : Option Res :=
 L57v1_2 (a0z) (a0) ((a0.length : Int)) (0) (m0_0)
theorem eq57v1g (KL57v1_2 : Env → St → Option Res) (a0z : Bool) (a0 : List T) (m0_0 : Int) : gE 57 1 19 Try.f57 (Ta57v1 KL57v1_2) [.t (.list 1 a0z a0), .fn 37 [] [.ptr 0 0 0]] ⟨[(0, .var [.t (.int .i64 m0_0)])], []⟩ = R57v1 (WL57v1_2 KL57v1_2) a0z a0 m0_0 := by kernel_rfl
theorem eq57v1 (a0z : Bool) (a0 : List T) (m0_0 : Int) : vr 57 1 [.t (.list 1 a0z a0), .fn 37 [] [.ptr 0 0 0]] ⟨[(0, .var [.t (.int .i64 m0_0)])], []⟩ = R57v1 L57v1_2 a0z a0 m0_0 :=
  Eq.trans (call_eq Try.prog hint (fn := Try.f57) (nt := 19) (T := (Ta57v1 VL57v1_2)) [PaL57v1_2] rfl _ _ rfl rfl rfl rfl rfl) (eq57v1g VL57v1_2 a0z a0 m0_0)
noncomputable def RL57v1_2 (L57v1_2 : YL57v1_2) (s0z : Bool) (s0 : List T) (t7 t8 m0_0 : Int) : Option Res :=
(bif (decide (t8 < t7)) then
 needC (decide (0 ≤ t8)) fun _ =>
 getT s0 (t8).toNat fun E1 =>
 asI .i64 E1 fun X2 =>
 callK (vr 37 0 [.t (.int .i64 X2), .ptr 0 0 0] ⟨[(0, .var [.t (.int .i64 m0_0)])], []⟩) fun V3 B4 =>
 asT V3 fun X5 =>
 asB X5 fun B6 =>
 consB 0 B4 fun K7 B8 =>
 asVar K7 fun L9 =>
 consV L9 fun V10 L11 =>
 asT V10 fun X12 =>
 asI .i64 X12 fun X13 =>
 endV L11 <|
 endB B8 <|
(bif B6 then
 some ((.t (.int .i64 t8)), ⟨[(0, .var [.t (.int .i64 X13)])], [500]⟩)
else
 L57v1_2 (s0z) (s0) (t7) ((IntKind.i64.wrap (t8 + 1))) (X13))
else
 some ((.t (.int .i64 (-1))), ⟨[(0, .var [.t (.int .i64 m0_0)])], [500]⟩))
theorem L57v1_2g (KL57v1_2 : Env → St → Option Res) (s0z : Bool) (s0 : List T) (t7 t8 m0_0 : Int) : WL57v1_2 (fun e st => gP 57 1 19 Try.f57 (Ta57v1 KL57v1_2) (.lp :: PaL57v1_2) e st) s0z s0 t7 t8 m0_0 = RL57v1_2 (WL57v1_2 KL57v1_2) s0z s0 t7 t8 m0_0 := by kernel_rfl
theorem L57v1_2_eq (s0z : Bool) (s0 : List T) (t7 t8 m0_0 : Int) : L57v1_2 s0z s0 t7 t8 m0_0 = RL57v1_2 L57v1_2 s0z s0 t7 t8 m0_0 :=
  (congrArg (fun k => WL57v1_2 k s0z s0 t7 t8 m0_0) (funext fun e => funext fun st => round_eq Try.prog hint (b := (nav (List.reverse (.lp :: PaL57v1_2)) (bodyOf Try.f57))) (fn := Try.f57) (nt := 19) (T := (Ta57v1 VL57v1_2)) [PaL57v1_2] rfl PaL57v1_2 e st rfl rfl rfl)).trans (L57v1_2g VL57v1_2 s0z s0 t7 t8 m0_0)
noncomputable def R36v1  (a0z : Bool) (a0 : List T) (m0_0 : Int) : Option Res :=
 callK (vr 57 1 [.t (.list 1 a0z a0), .fn 37 [] [.ptr 0 0 0]] ⟨[(0, .var [.t (.int .i64 m0_0)])], []⟩) fun V1 B2 =>
 asT V1 fun X3 =>
 asI .i64 X3 fun X4 =>
 consB 0 B2 fun K5 B6 =>
 asVar K5 fun L7 =>
 consV L7 fun V8 L9 =>
 asT V8 fun X10 =>
 asI .i64 X10 fun X11 =>
 endV L9 <|
 endB B6 <|
 some ((.t (.bool (decide (0 ≤ X4)))), ⟨[(0, .var [.t (.int .i64 X11)])], [500]⟩)
theorem eq36v1g  (a0z : Bool) (a0 : List T) (m0_0 : Int) : gE 36 1 9 Try.f36 [] [.t (.list 1 a0z a0), .fn 37 [] [.ptr 0 0 0]] ⟨[(0, .var [.t (.int .i64 m0_0)])], []⟩ = R36v1  a0z a0 m0_0 := by kernel_rfl
theorem eq36v1 (a0z : Bool) (a0 : List T) (m0_0 : Int) : vr 36 1 [.t (.list 1 a0z a0), .fn 37 [] [.ptr 0 0 0]] ⟨[(0, .var [.t (.int .i64 m0_0)])], []⟩ = R36v1  a0z a0 m0_0 :=
  Eq.trans (call_eq Try.prog hint (fn := Try.f36) (nt := 9) (T := []) [] rfl _ _ rfl rfl rfl rfl rfl) (eq36v1g  a0z a0 m0_0)
noncomputable def R35  (a0 a1_0 a1_1 a1_2 a1_3 a1_4 : Int) : Option Res :=
 callK (vr 11 0 [.t (.agg [.int .i64 a1_0, .int .i64 a1_1, .int .i64 a1_2, .int .i64 a1_3, .int .i64 a1_4]), .t (.int .i64 a0)] ⟨[], []⟩) fun V1 B2 =>
 asT V1 fun X3 =>
 asL 1 X3 fun N4 L5 =>
 endB B2 <|
 callK (vr 36 1 [.t (.list 1 N4 L5), .fn 37 [] [.ptr 0 0 0]] ⟨[(0, .var [.t (.int .i64 a0)])], []⟩) fun V6 B7 =>
 asT V6 fun X8 =>
 asB X8 fun B9 =>
 consB 0 B7 fun K10 B11 =>
 asVar K10 fun L12 =>
 consV L12 fun V13 L14 =>
 asT V13 fun X15 =>
 asI .i64 X15 fun X16 =>
 endV L14 <|
 endB B11 <|
 some ((.t (.bool B9)), ⟨[], []⟩)
theorem eq35g  (a0 a1_0 a1_1 a1_2 a1_3 a1_4 : Int) : gE 35 0 10 Try.f35 [] [.t (.int .i64 a0), .t (.agg [.int .i64 a1_0, .int .i64 a1_1, .int .i64 a1_2, .int .i64 a1_3, .int .i64 a1_4])] ⟨[], []⟩ = R35  a0 a1_0 a1_1 a1_2 a1_3 a1_4 := by kernel_rfl
theorem eq35 (a0 a1_0 a1_1 a1_2 a1_3 a1_4 : Int) : vr 35 0 [.t (.int .i64 a0), .t (.agg [.int .i64 a1_0, .int .i64 a1_1, .int .i64 a1_2, .int .i64 a1_3, .int .i64 a1_4])] ⟨[], []⟩ = R35  a0 a1_0 a1_1 a1_2 a1_3 a1_4 :=
  Eq.trans (call_eq Try.prog hint (fn := Try.f35) (nt := 10) (T := []) [] rfl _ _ rfl rfl rfl rfl rfl) (eq35g  a0 a1_0 a1_1 a1_2 a1_3 a1_4)
noncomputable def R34v1 (L34v1_2 : YL34v1_2) (m0_0 m0_1 m0_2 : Int) (m0_3z : Bool) (m0_3 : List T) (m1z : Bool) (m1 : List T) (m2z : Bool) (m2 : List T) : Option Res :=
 L34v1_2 (m0_3z) (m0_3) ((m0_3.length : Int)) (0) (m0_0) (m0_1) (m0_2) (m0_3z) (m0_3) (m1z) (m1) (m2z) (m2) (false) ([])
theorem eq34v1g (KL34v1_2 : Env → St → Option Res) (m0_0 m0_1 m0_2 : Int) (m0_3z : Bool) (m0_3 : List T) (m1z : Bool) (m1 : List T) (m2z : Bool) (m2 : List T) : gE 34 1 37 Try.f34 (Ta34v1 KL34v1_2) [.ptr 0 0 0, .fn 35 [] []] ⟨[(0, .var [.t (.int .i64 m0_0), .t (.int .i64 m0_1), .t (.int .i64 m0_2), .t (.list 5 m0_3z m0_3), .buf 1, .buf 2]), (1, .arr true 2 m1z m1), (2, .arr true 1 m2z m2)], []⟩ = R34v1 (WL34v1_2 KL34v1_2) m0_0 m0_1 m0_2 m0_3z m0_3 m1z m1 m2z m2 := by kernel_rfl
theorem eq34v1 (m0_0 m0_1 m0_2 : Int) (m0_3z : Bool) (m0_3 : List T) (m1z : Bool) (m1 : List T) (m2z : Bool) (m2 : List T) : vr 34 1 [.ptr 0 0 0, .fn 35 [] []] ⟨[(0, .var [.t (.int .i64 m0_0), .t (.int .i64 m0_1), .t (.int .i64 m0_2), .t (.list 5 m0_3z m0_3), .buf 1, .buf 2]), (1, .arr true 2 m1z m1), (2, .arr true 1 m2z m2)], []⟩ = R34v1 L34v1_2 m0_0 m0_1 m0_2 m0_3z m0_3 m1z m1 m2z m2 :=
  Eq.trans (call_eq Try.prog hint (fn := Try.f34) (nt := 37) (T := (Ta34v1 VL34v1_2)) [PaL34v1_2] rfl _ _ rfl rfl rfl rfl rfl) (eq34v1g VL34v1_2 m0_0 m0_1 m0_2 m0_3z m0_3 m1z m1 m2z m2)
noncomputable def RL34v1_2 (L34v1_2 : YL34v1_2) (t11z : Bool) (t11 : List T) (t12 t13 m0_0 m0_1 m0_2 : Int) (m0_3z : Bool) (m0_3 : List T) (m1z : Bool) (m1 : List T) (m2z : Bool) (m2 : List T) (m8z : Bool) (m8 : List T) : Option Res :=
(bif (decide (t13 < t12)) then
 needC (decide (0 ≤ t13)) fun _ =>
 getT t11 (t13).toNat fun E1 =>
 asA E1 fun L2 =>
 consT L2 fun V3 L4 =>
 asI .i64 V3 fun X5 =>
 consT L4 fun V6 L7 =>
 asI .i64 V6 fun X8 =>
 consT L7 fun V9 L10 =>
 asI .i64 V9 fun X11 =>
 consT L10 fun V12 L13 =>
 asI .i64 V12 fun X14 =>
 consT L13 fun V15 L16 =>
 asI .i64 V15 fun X17 =>
 endT L16 <|
 needC (decide (0 ≤ t13) && decide (t13 < (m2.length : Int))) fun _ =>
 getT m2 ((t13).toNat) fun E18 =>
 asB E18 fun B19 =>
(bif B19 then
 callK (vr 35 0 [.t (.int .i64 t13), .t (.agg [.int .i64 X5, .int .i64 X8, .int .i64 X11, .int .i64 X14, .int .i64 X17])] ⟨[], []⟩) fun V20 B21 =>
 asT V20 fun X22 =>
 asB X22 fun B23 =>
 endB B21 <|
(bif B23 then
 needC (decide ((m8.length + 1) * (8 + 1) ≤ 70368744177664) && decide (8 ≤ 1048576)) fun _ =>
 L34v1_2 (t11z) (t11) (t12) ((IntKind.i64.wrap (t13 + 1))) (m0_0) (m0_1) (m0_2) (m0_3z) (m0_3) (m1z) (m1) (m2z) (m2) ((m8z || true)) ((m8 ++ ([.int .i64 t13] : List T)))
else
 L34v1_2 (t11z) (t11) (t12) ((IntKind.i64.wrap (t13 + 1))) (m0_0) (m0_1) (m0_2) (m0_3z) (m0_3) (m1z) (m1) (m2z) (m2) (m8z) (m8))
else
 L34v1_2 (t11z) (t11) (t12) ((IntKind.i64.wrap (t13 + 1))) (m0_0) (m0_1) (m0_2) (m0_3z) (m0_3) (m1z) (m1) (m2z) (m2) (m8z) (m8))
else
 some ((.t (.list 1 m8z m8)), (Z7 m0_0 m0_1 m0_2 m0_3z m0_3 m1z m1 m2z m2)))
theorem L34v1_2g (KL34v1_2 : Env → St → Option Res) (t11z : Bool) (t11 : List T) (t12 t13 m0_0 m0_1 m0_2 : Int) (m0_3z : Bool) (m0_3 : List T) (m1z : Bool) (m1 : List T) (m2z : Bool) (m2 : List T) (m8z : Bool) (m8 : List T) : WL34v1_2 (fun e st => gP 34 1 37 Try.f34 (Ta34v1 KL34v1_2) (.lp :: PaL34v1_2) e st) t11z t11 t12 t13 m0_0 m0_1 m0_2 m0_3z m0_3 m1z m1 m2z m2 m8z m8 = RL34v1_2 (WL34v1_2 KL34v1_2) t11z t11 t12 t13 m0_0 m0_1 m0_2 m0_3z m0_3 m1z m1 m2z m2 m8z m8 := by kernel_rfl
theorem L34v1_2_eq (t11z : Bool) (t11 : List T) (t12 t13 m0_0 m0_1 m0_2 : Int) (m0_3z : Bool) (m0_3 : List T) (m1z : Bool) (m1 : List T) (m2z : Bool) (m2 : List T) (m8z : Bool) (m8 : List T) : L34v1_2 t11z t11 t12 t13 m0_0 m0_1 m0_2 m0_3z m0_3 m1z m1 m2z m2 m8z m8 = RL34v1_2 L34v1_2 t11z t11 t12 t13 m0_0 m0_1 m0_2 m0_3z m0_3 m1z m1 m2z m2 m8z m8 :=
  (congrArg (fun k => WL34v1_2 k t11z t11 t12 t13 m0_0 m0_1 m0_2 m0_3z m0_3 m1z m1 m2z m2 m8z m8) (funext fun e => funext fun st => round_eq Try.prog hint (b := (nav (List.reverse (.lp :: PaL34v1_2)) (bodyOf Try.f34))) (fn := Try.f34) (nt := 37) (T := (Ta34v1 VL34v1_2)) [PaL34v1_2] rfl PaL34v1_2 e st rfl rfl rfl)).trans (L34v1_2g VL34v1_2 t11z t11 t12 t13 m0_0 m0_1 m0_2 m0_3z m0_3 m1z m1 m2z m2 m8z m8)
noncomputable def R10  (a0_0 a0_1 a0_2 : Int) (a0_3z : Bool) (a0_3 : List T) : Option Res :=
 callK (vr 33 0 [.t (.agg [.int .i64 a0_0, .int .i64 a0_1, .int .i64 a0_2, .list 5 a0_3z a0_3])] ⟨[], []⟩) fun V1 B2 =>
(bif fitsH (.tup [.nilp, .t (.one (.int .i64))]) [] V1 B2 then
 asTup V1 fun L79 =>
 consV L79 fun V80 L81 =>
 isNil V80 <|
 consV L81 fun V82 L83 =>
 asT V82 fun X84 =>
 asI .i64 X84 fun X85 =>
 endV L83 <|
 endB B2 <|
(bif (!decide (X85 = 0)) then
 some ((.tup [.t (.list 1 false []), .t (.int .i64 X85)]), ⟨[], []⟩)
else
 callK (vr 34 1 [.con (.pointer none), .fn 35 [] []] ⟨[], []⟩) fun V86 B87 =>
 asT V86 fun X88 =>
 asL 1 X88 fun N89 L90 =>
 consB 0 B87 fun K91 B92 =>
 asVar K91 fun L93 =>
 consV L93 fun V94 L95 =>
 asT V94 fun X96 =>
 asI .i64 X96 fun X97 =>
 consV L95 fun V98 L99 =>
 asT V98 fun X100 =>
 asI .i64 X100 fun X101 =>
 consV L99 fun V102 L103 =>
 asT V102 fun X104 =>
 asI .i64 X104 fun X105 =>
 consV L103 fun V106 L107 =>
 asT V106 fun X108 =>
 asL 5 X108 fun N109 L110 =>
 consV L107 fun V111 L112 =>
 isBuf 1 V111 <|
 consV L112 fun V113 L114 =>
 isBuf 2 V113 <|
 endV L114 <|
 consB 1 B92 fun K115 B116 =>
 asArr 2 K115 fun N117 L118 =>
 consB 2 B116 fun K119 B120 =>
 asArr 1 K119 fun N121 L122 =>
 endB B120 <|
 some ((.tup [.t (.list 1 N89 L90), .t (.int .i64 0)]), ⟨[], []⟩))
else
 asTup V1 fun L3 =>
 consV L3 fun V4 L5 =>
 isPtr 500 0 0 V4 <|
 consV L5 fun V6 L7 =>
 asT V6 fun X8 =>
 asI .i64 X8 fun X9 =>
 endV L7 <|
 consB 500 B2 fun K10 B11 =>
 asVar K10 fun L12 =>
 consV L12 fun V13 L14 =>
 asT V13 fun X15 =>
 asI .i64 X15 fun X16 =>
 consV L14 fun V17 L18 =>
 asT V17 fun X19 =>
 asI .i64 X19 fun X20 =>
 consV L18 fun V21 L22 =>
 asT V21 fun X23 =>
 asI .i64 X23 fun X24 =>
 consV L22 fun V25 L26 =>
 asT V25 fun X27 =>
 asL 5 X27 fun N28 L29 =>
 consV L26 fun V30 L31 =>
 isBuf 501 V30 <|
 consV L31 fun V32 L33 =>
 isBuf 502 V32 <|
 endV L33 <|
 consB 501 B11 fun K34 B35 =>
 asArr 2 K34 fun N36 L37 =>
 consB 502 B35 fun K38 B39 =>
 asArr 1 K38 fun N40 L41 =>
 endB B39 <|
(bif (!decide (X9 = 0)) then
 some ((.tup [.t (.list 1 false []), .t (.int .i64 X9)]), ⟨[], []⟩)
else
 callK (vr 34 1 [.ptr 0 0 0, .fn 35 [] []] ⟨[(0, .var [.t (.int .i64 X16), .t (.int .i64 X20), .t (.int .i64 X24), .t (.list 5 N28 L29), .buf 1, .buf 2]), (1, .arr true 2 N36 L37), (2, .arr true 1 N40 L41)], []⟩) fun V42 B43 =>
 asT V42 fun X44 =>
 asL 1 X44 fun N45 L46 =>
 consB 0 B43 fun K47 B48 =>
 asVar K47 fun L49 =>
 consV L49 fun V50 L51 =>
 asT V50 fun X52 =>
 asI .i64 X52 fun X53 =>
 consV L51 fun V54 L55 =>
 asT V54 fun X56 =>
 asI .i64 X56 fun X57 =>
 consV L55 fun V58 L59 =>
 asT V58 fun X60 =>
 asI .i64 X60 fun X61 =>
 consV L59 fun V62 L63 =>
 asT V62 fun X64 =>
 asL 5 X64 fun N65 L66 =>
 consV L63 fun V67 L68 =>
 isBuf 1 V67 <|
 consV L68 fun V69 L70 =>
 isBuf 2 V69 <|
 endV L70 <|
 consB 1 B48 fun K71 B72 =>
 asArr 2 K71 fun N73 L74 =>
 consB 2 B72 fun K75 B76 =>
 asArr 1 K75 fun N77 L78 =>
 endB B76 <|
 some ((.tup [.t (.list 1 N45 L46), .t (.int .i64 0)]), ⟨[], []⟩)))
theorem eq10g  (a0_0 a0_1 a0_2 : Int) (a0_3z : Bool) (a0_3 : List T) : gE 10 0 16 Try.f10 [] [.t (.agg [.int .i64 a0_0, .int .i64 a0_1, .int .i64 a0_2, .list 5 a0_3z a0_3])] ⟨[], []⟩ = R10  a0_0 a0_1 a0_2 a0_3z a0_3 := by kernel_rfl
theorem eq10 (a0_0 a0_1 a0_2 : Int) (a0_3z : Bool) (a0_3 : List T) : vr 10 0 [.t (.agg [.int .i64 a0_0, .int .i64 a0_1, .int .i64 a0_2, .list 5 a0_3z a0_3])] ⟨[], []⟩ = R10  a0_0 a0_1 a0_2 a0_3z a0_3 :=
  Eq.trans (call_eq Try.prog hint (fn := Try.f10) (nt := 16) (T := []) [] rfl _ _ rfl rfl rfl rfl rfl) (eq10g  a0_0 a0_1 a0_2 a0_3z a0_3)
noncomputable def R3 (L3_9 : YL3_9) (a0_0 a0_1 a0_2 : Int) (a0_3z : Bool) (a0_3 : List T) (a1z : Bool) (a1 : List T) : Option Res :=
 callK (vr 8 0 [] ⟨[], []⟩) fun V1 B2 =>
 asT V1 fun X3 =>
 asB X3 fun B4 =>
 endB B2 <|
 callK (vr 9 0 [.t (.agg [.int .i64 a0_0, .int .i64 a0_1, .int .i64 a0_2, .list 5 a0_3z a0_3])] ⟨[], []⟩) fun V5 B6 =>
 asT V5 fun X7 =>
 asB X7 fun B8 =>
 endB B6 <|
(bif (!B8) then
 some ((.t (.bool B4)), ⟨[], []⟩)
else
 callK (vr 10 0 [.t (.agg [.int .i64 a0_0, .int .i64 a0_1, .int .i64 a0_2, .list 5 a0_3z a0_3])] ⟨[], []⟩) fun V9 B10 =>
 asTup V9 fun L11 =>
 consV L11 fun V12 L13 =>
 asT V12 fun X14 =>
 asL 1 X14 fun N15 L16 =>
 consV L13 fun V17 L18 =>
 asT V17 fun X19 =>
 asI .i64 X19 fun X20 =>
 endV L18 <|
 endB B10 <|
(bif (!decide (X20 = 0)) then
 some ((.t (.bool B4)), ⟨[], []⟩)
else
(bif (decide (0 < (L16.length : Int))) then
 some ((.t (.bool B4)), ⟨[], []⟩)
else
 L3_9 (a1z) (a1) (B4) (0) ((a0_3.length : Int)) (0) (a0_0) (a0_1) (a0_2) (a0_3z) (a0_3))))
theorem eq3g (KL3_9 : Env → St → Option Res) (a0_0 a0_1 a0_2 : Int) (a0_3z : Bool) (a0_3 : List T) (a1z : Bool) (a1 : List T) : gE 3 0 77 Try.f3 (Ta3 KL3_9) [.t (.agg [.int .i64 a0_0, .int .i64 a0_1, .int .i64 a0_2, .list 5 a0_3z a0_3]), .t (.list 1 a1z a1)] ⟨[], []⟩ = R3 (WL3_9 KL3_9) a0_0 a0_1 a0_2 a0_3z a0_3 a1z a1 := by kernel_rfl
theorem eq3 (a0_0 a0_1 a0_2 : Int) (a0_3z : Bool) (a0_3 : List T) (a1z : Bool) (a1 : List T) : vr 3 0 [.t (.agg [.int .i64 a0_0, .int .i64 a0_1, .int .i64 a0_2, .list 5 a0_3z a0_3]), .t (.list 1 a1z a1)] ⟨[], []⟩ = R3 L3_9 a0_0 a0_1 a0_2 a0_3z a0_3 a1z a1 :=
  Eq.trans (call_eq Try.prog hint (fn := Try.f3) (nt := 77) (T := (Ta3 VL3_9)) [PaL3_9] rfl _ _ rfl rfl rfl rfl rfl) (eq3g VL3_9 a0_0 a0_1 a0_2 a0_3z a0_3 a1z a1)
noncomputable def RL3_9 (L3_9 : YL3_9) (picks1z : Bool) (picks1 : List T) (up5 : Bool) (at8 t31 t32 m8_0 m8_1 m8_2 : Int) (m8_3z : Bool) (m8_3 : List T) : Option Res :=
(bif (decide (t32 < t31)) then
(bif (decide (at8 < 0)) then
 some ((.t (.bool false)), ⟨[], []⟩)
else
(bif (decide ((m8_3.length : Int) ≤ at8)) then
 some ((.t (.bool false)), ⟨[], []⟩)
else
 needC (decide (0 ≤ at8)) fun _ =>
 getT m8_3 (at8).toNat fun E1 =>
 asA E1 fun L2 =>
 consT L2 fun V3 L4 =>
 asI .i64 V3 fun X5 =>
 consT L4 fun V6 L7 =>
 asI .i64 V6 fun X8 =>
 consT L7 fun V9 L10 =>
 asI .i64 V9 fun X11 =>
 consT L10 fun V12 L13 =>
 asI .i64 V12 fun X14 =>
 consT L13 fun V15 L16 =>
 asI .i64 V15 fun X17 =>
 endT L16 <|
 callK (vr 11 0 [.t (.agg [.int .i64 X5, .int .i64 X8, .int .i64 X11, .int .i64 X14, .int .i64 X17]), .t (.int .i64 at8)] ⟨[], []⟩) fun V18 B19 =>
 asT V18 fun X20 =>
 asL 1 X20 fun N21 L22 =>
 endB B19 <|
(bif (decide ((L22.length : Int) = 0)) then
 some ((.t (.bool up5)), ⟨[], []⟩)
else
 needC (decide (0 ≤ 0)) fun _ =>
 getT L22 ((0 : Int)).toNat fun E23 =>
 asI .i64 E23 fun X24 =>
(bif (decide (t32 < (picks1.length : Int))) then
 needC (decide (0 ≤ t32)) fun _ =>
 getT picks1 (t32).toNat fun E25 =>
 asB E25 fun B26 =>
(bif B26 then
(bif (decide (1 < (L22.length : Int))) then
 needC (decide (0 ≤ 1)) fun _ =>
 getT L22 ((1 : Int)).toNat fun E27 =>
 asI .i64 E27 fun X28 =>
 L3_9 (picks1z) (picks1) (up5) (X28) (t31) ((IntKind.i64.wrap (t32 + 1))) (m8_0) (m8_1) (m8_2) (m8_3z) (m8_3)
else
 L3_9 (picks1z) (picks1) (up5) (X24) (t31) ((IntKind.i64.wrap (t32 + 1))) (m8_0) (m8_1) (m8_2) (m8_3z) (m8_3))
else
 L3_9 (picks1z) (picks1) (up5) (X24) (t31) ((IntKind.i64.wrap (t32 + 1))) (m8_0) (m8_1) (m8_2) (m8_3z) (m8_3))
else
 L3_9 (picks1z) (picks1) (up5) (X24) (t31) ((IntKind.i64.wrap (t32 + 1))) (m8_0) (m8_1) (m8_2) (m8_3z) (m8_3)))))
else
 some ((.t (.bool false)), ⟨[], []⟩))
theorem L3_9g (KL3_9 : Env → St → Option Res) (picks1z : Bool) (picks1 : List T) (up5 : Bool) (at8 t31 t32 m8_0 m8_1 m8_2 : Int) (m8_3z : Bool) (m8_3 : List T) : WL3_9 (fun e st => gP 3 0 77 Try.f3 (Ta3 KL3_9) (.lp :: PaL3_9) e st) picks1z picks1 up5 at8 t31 t32 m8_0 m8_1 m8_2 m8_3z m8_3 = RL3_9 (WL3_9 KL3_9) picks1z picks1 up5 at8 t31 t32 m8_0 m8_1 m8_2 m8_3z m8_3 := by kernel_rfl
theorem L3_9_eq (picks1z : Bool) (picks1 : List T) (up5 : Bool) (at8 t31 t32 m8_0 m8_1 m8_2 : Int) (m8_3z : Bool) (m8_3 : List T) : L3_9 picks1z picks1 up5 at8 t31 t32 m8_0 m8_1 m8_2 m8_3z m8_3 = RL3_9 L3_9 picks1z picks1 up5 at8 t31 t32 m8_0 m8_1 m8_2 m8_3z m8_3 :=
  (congrArg (fun k => WL3_9 k picks1z picks1 up5 at8 t31 t32 m8_0 m8_1 m8_2 m8_3z m8_3) (funext fun e => funext fun st => round_eq Try.prog hint (b := (nav (List.reverse (.lp :: PaL3_9)) (bodyOf Try.f3))) (fn := Try.f3) (nt := 77) (T := (Ta3 VL3_9)) [PaL3_9] rfl PaL3_9 e st rfl rfl rfl)).trans (L3_9g VL3_9 picks1z picks1 up5 at8 t31 t32 m8_0 m8_1 m8_2 m8_3z m8_3)
end Go.Proofs.Ytgkdkjjohknfpaa.VM
