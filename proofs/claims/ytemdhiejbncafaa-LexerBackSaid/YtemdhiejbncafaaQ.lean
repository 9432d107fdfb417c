/- The equations of the functions, as the small evaluator gives them (printed by vgen.py). Conditions: none. -/
import Derived.Test.YtemdhiejbncafaaVmD
import Derived.Test.YtemdhiejbncafaaProg
set_option linter.all false
set_option linter.all false
namespace Go.Proofs.Ytemdhiejbncafaa.VM
open Go AM
def normTab : List (Nat × Nat × List (Nat × Norm)) := [
  (30, 0, [(2, { slots := [(0, 0), (3, 0)], cells := [] })]),
  (15, 0, [(4, { slots := [(0, 0), (2, 0), (23, 0), (24, 0)], cells := [] })]),
  (12, 0, [(6, { slots := [(0, 0), (5, 5), (6, 0), (7, 0)], cells := [] }), (21, { slots := [(0, 0), (5, 0), (6, 0), (7, 0), (8, 0)], cells := [] }), (26, { slots := [(0, 0), (5, 0), (7, 0), (8, 0), (9, 0)], cells := [] }), (28, { slots := [(0, 0), (5, 0)], cells := [] })]),
  (21, 0, [(2, { slots := [(0, 0), (5, 0), (6, 0), (7, 0)], cells := [] })]),
  (14, 0, [(4, { slots := [(0, 0), (1, 0), (12, 0), (13, 0)], cells := [] })]),
  (9, 0, [(11, { slots := [(1, 0), (5, 0)], cells := [] })]),
  (37, 0, [(2, { slots := [(0, 0), (1, 0), (7, 0), (8, 0)], cells := [] })]),
  (22, 0, [(2, { slots := [(0, 0), (3, 3)], cells := [] })])]
def callTab : List (Nat × Nat × List (Nat × Nat × CallH)) := [
]
def unrollTab : List (Nat × Nat × Nat) := []
def ownTab : List (Nat × Nat × List Nat) := []
def eqtTab : List (Nat × List Value) := [(31, [.int .i64 0, .string ByteArray.empty, .int .i64 0])]
def ovSet : List (Nat × OvF) := [(23, ovJoin 26), (43, ovIdx)]
def hint : Hint := mkHint eqtTab normTab callTab ownTab unrollTab ovSet
noncomputable abbrev gE (f w nt : Nat) (fn : Func) (T : Tab) (args : List V) (st : St) : Option Res := codeT Try.prog hint f w nt T [] (resKV Try.prog fn (hint.own f w)) (nrm hint f w (bodyOf fn) (envV args 0) st).1 (nrm hint f w (bodyOf fn) (envV args 0) st).2 (bodyOf fn)
noncomputable abbrev gP (f w nt : Nat) (fn : Func) (T : Tab) (p : List Stp) (e : Env) (st : St) : Option Res := codeT Try.prog hint f w nt T p (ctxT Try.prog hint f w nt T [] (List.reverse p) (bodyOf fn) (resKV Try.prog fn (hint.own f w))) e st (nav (List.reverse p) (bodyOf fn))
noncomputable def vr (f w : Nat) (args : List V) (st : St) : Option (V × St) := vrun Try.prog hint f w args st
abbrev YL30_2 := ByteArray → Int → Option Res
def PaL30_2 : List Stp := [.blk, .fst, .snd, .snd]
def Ta30 (KL30_2 : Env → St → Option Res) : Tab := [(PaL30_2, KL30_2)]
def WL30_2 (k : Env → St → Option Res) (s0 : ByteArray) (n3 : Int) : Option Res := k [(0, .t (.str s0)), (3, .t (.int .i64 n3))] ⟨[], []⟩
noncomputable def VL30_2 : Env → St → Option Res := fun e st => atV Try.prog hint 30 0 Try.f30 25 (List.reverse PaL30_2) e st
noncomputable def L30_2 (s0 : ByteArray) (n3 : Int) : Option Res := WL30_2 VL30_2 s0 n3
abbrev YL15_4 := ByteArray → Int → Int → Int → Option Res
def PaL15_4 : List Stp := [.blk, .snd, .fst, .snd, .snd]
def Ta15 (KL15_4 : Env → St → Option Res) : Tab := [(PaL15_4, KL15_4)]
def WL15_4 (k : Env → St → Option Res) (s0 : ByteArray) (n2 A B : Int) : Option Res := k [(0, .t (.str s0)), (2, .t (.int .i64 n2)), (23, .t (.int .i64 A)), (24, .t (.int .i64 B))] ⟨[], []⟩
noncomputable def VL15_4 : Env → St → Option Res := fun e st => atV Try.prog hint 15 0 Try.f15 42 (List.reverse PaL15_4) e st
noncomputable def L15_4 (s0 : ByteArray) (n2 A B : Int) : Option Res := WL15_4 VL15_4 s0 n2 A B
abbrev YL12_6 := ByteArray → Bool → Int → Bool → (List T) → Option Res
abbrev YJ12_28 := ByteArray → Bool → (List T) → Option Res
abbrev YJ12_21 := ByteArray → Bool → Int → Int → Bool → (List T) → Option Res
abbrev YJ12_26 := ByteArray → Int → Int → Bool → (List T) → Int → ByteArray → Int → Option Res
def PaL12_6 : List Stp := [.blk, .fst, .snd, .snd, .snd, .snd, .snd, .blk, .snd]
def PaJ12_28 : List Stp := [.snd, .snd, .snd, .snd, .snd, .snd, .blk, .snd]
def PaJ12_21 : List Stp := [.snd, .snd, .blk, .snd, .lp, .blk, .fst, .snd, .snd, .snd, .snd, .snd, .blk, .snd]
def PaJ12_26 : List Stp := [.snd, .snd, .snd, .snd, .snd, .blk, .snd, .lp, .blk, .fst, .snd, .snd, .snd, .snd, .snd, .blk, .snd]
def Ta12 (KL12_6 KJ12_28 KJ12_21 KJ12_26 : Env → St → Option Res) : Tab := [(PaL12_6, KL12_6), (PaJ12_28, KJ12_28), (PaJ12_21, KJ12_21), (PaJ12_26, KJ12_26)]
def WL12_6 (k : Env → St → Option Res) (s0 : ByteArray) (ends6 : Bool) (at7 : Int) (A : Bool) (B : List T) : Option Res := k [(0, .t (.str s0)), (5, .buf 8), (6, .t (.bool ends6)), (7, .t (.int .i64 at7))] ⟨[(8, .arr true 3 A B)], []⟩
noncomputable def VL12_6 : Env → St → Option Res := fun e st => atV Try.prog hint 12 0 Try.f12 82 (List.reverse PaL12_6) e st
noncomputable def L12_6 (s0 : ByteArray) (ends6 : Bool) (at7 : Int) (A : Bool) (B : List T) : Option Res := WL12_6 VL12_6 s0 ends6 at7 A B
def WJ12_28 (k : Env → St → Option Res) (s0 : ByteArray) (A : Bool) (B : List T) : Option Res := k [(0, .t (.str s0)), (5, .buf 8)] ⟨[(8, .arr true 3 A B)], []⟩
noncomputable def VJ12_28 : Env → St → Option Res := fun e st => atV Try.prog hint 12 0 Try.f12 82 (List.reverse PaJ12_28) e st
noncomputable def J12_28 (s0 : ByteArray) (A : Bool) (B : List T) : Option Res := WJ12_28 VJ12_28 s0 A B
def WJ12_21 (k : Env → St → Option Res) (s0 : ByteArray) (ends6 : Bool) (at7 n8 : Int) (A : Bool) (B : List T) : Option Res := k [(0, .t (.str s0)), (5, .buf 8), (6, .t (.bool ends6)), (7, .t (.int .i64 at7)), (8, .t (.int .i64 n8))] ⟨[(8, .arr true 3 A B)], []⟩
noncomputable def VJ12_21 : Env → St → Option Res := fun e st => atV Try.prog hint 12 0 Try.f12 82 (List.reverse PaJ12_21) e st
noncomputable def J12_21 (s0 : ByteArray) (ends6 : Bool) (at7 n8 : Int) (A : Bool) (B : List T) : Option Res := WJ12_21 VJ12_21 s0 ends6 at7 n8 A B
def WJ12_26 (k : Env → St → Option Res) (s0 : ByteArray) (at7 n8 : Int) (A : Bool) (B : List T) (C : Int) (D : ByteArray) (E : Int) : Option Res := k [(0, .t (.str s0)), (5, .buf 8), (7, .t (.int .i64 at7)), (8, .t (.int .i64 n8)), (9, .ptr 9 0 0)] ⟨[(8, .arr true 3 A B), (9, .var [.t (.int .i64 C), .t (.str D), .t (.int .i64 E)])], []⟩
noncomputable def VJ12_26 : Env → St → Option Res := fun e st => atV Try.prog hint 12 0 Try.f12 82 (List.reverse PaJ12_26) e st
noncomputable def J12_26 (s0 : ByteArray) (at7 n8 : Int) (A : Bool) (B : List T) (C : Int) (D : ByteArray) (E : Int) : Option Res := WJ12_26 VJ12_26 s0 at7 n8 A B C D E
abbrev YL21_2 := Bool → (List T) → Bool → (List T) → Int → Int → Option Res
def PaL21_2 : List Stp := [.blk, .snd, .fst, .snd]
def Ta21 (KL21_2 : Env → St → Option Res) : Tab := [(PaL21_2, KL21_2)]
def WL21_2 (k : Env → St → Option Res) (l0z : Bool) (l0 : List T) (A : Bool) (B : List T) (C D : Int) : Option Res := k [(0, .t (.list 3 l0z l0)), (5, .t (.list 3 A B)), (6, .t (.int .i64 C)), (7, .t (.int .i64 D))] ⟨[], []⟩
noncomputable def VL21_2 : Env → St → Option Res := fun e st => atV Try.prog hint 21 0 Try.f21 19 (List.reverse PaL21_2) e st
noncomputable def L21_2 (l0z : Bool) (l0 : List T) (A : Bool) (B : List T) (C D : Int) : Option Res := WL21_2 VL21_2 l0z l0 A B C D
abbrev YL14_4 := Bool → (List T) → Bool → (List T) → Int → Int → Option Res
def PaL14_4 : List Stp := [.blk, .snd, .fst, .snd, .snd]
def Ta14 (KL14_4 : Env → St → Option Res) : Tab := [(PaL14_4, KL14_4)]
def WL14_4 (k : Env → St → Option Res) (A : Bool) (B : List T) (b1z : Bool) (b1 : List T) (C D : Int) : Option Res := k [(0, .t (.list 3 A B)), (1, .t (.list 3 b1z b1)), (12, .t (.int .i64 C)), (13, .t (.int .i64 D))] ⟨[], []⟩
noncomputable def VL14_4 : Env → St → Option Res := fun e st => atV Try.prog hint 14 0 Try.f14 26 (List.reverse PaL14_4) e st
noncomputable def L14_4 (A : Bool) (B : List T) (b1z : Bool) (b1 : List T) (C D : Int) : Option Res := WL14_4 VL14_4 A B b1z b1 C D
abbrev YJ9_11 := ByteArray → Bool → Option Res
def PaJ9_11 : List Stp := [.snd, .snd, .snd, .snd]
def Ta9 (KJ9_11 : Env → St → Option Res) : Tab := [(PaJ9_11, KJ9_11)]
def WJ9_11 (k : Env → St → Option Res) (s1 : ByteArray) (up5 : Bool) : Option Res := k [(1, .t (.str s1)), (5, .t (.bool up5))] ⟨[], []⟩
noncomputable def VJ9_11 : Env → St → Option Res := fun e st => atV Try.prog hint 9 0 Try.f9 105 (List.reverse PaJ9_11) e st
noncomputable def J9_11 (s1 : ByteArray) (up5 : Bool) : Option Res := WJ9_11 VJ9_11 s1 up5
abbrev YL37_2 := Bool → (List T) → Int → Int → Option Res
def PaL37_2 : List Stp := [.blk, .snd, .fst, .snd]
def Ta37 (KL37_2 : Env → St → Option Res) : Tab := [(PaL37_2, KL37_2)]
def WL37_2 (k : Env → St → Option Res) (s0z : Bool) (s0 : List T) (A B : Int) : Option Res := k [(0, .t (.list 3 s0z s0)), (1, .fn 38 [] []), (7, .t (.int .i64 A)), (8, .t (.int .i64 B))] ⟨[], []⟩
noncomputable def VL37_2 : Env → St → Option Res := fun e st => atV Try.prog hint 37 0 Try.f37 19 (List.reverse PaL37_2) e st
noncomputable def L37_2 (s0z : Bool) (s0 : List T) (A B : Int) : Option Res := WL37_2 VL37_2 s0z s0 A B
abbrev YL22_2 := Bool → (List T) → Bool → (List T) → Option Res
def PaL22_2 : List Stp := [.blk, .fst, .snd, .snd]
def Ta22 (KL22_2 : Env → St → Option Res) : Tab := [(PaL22_2, KL22_2)]
def WL22_2 (k : Env → St → Option Res) (l0z : Bool) (l0 : List T) (A : Bool) (B : List T) : Option Res := k [(0, .t (.list 3 l0z l0)), (3, .buf 8)] ⟨[(8, .arr true 1 A B)], []⟩
noncomputable def VL22_2 : Env → St → Option Res := fun e st => atV Try.prog hint 22 0 Try.f22 35 (List.reverse PaL22_2) e st
noncomputable def L22_2 (l0z : Bool) (l0 : List T) (A : Bool) (B : List T) : Option Res := WL22_2 VL22_2 l0z l0 A B
noncomputable def R29  (A : ByteArray) (B : Int) : Option Res := callK (vr 43 0 [.t (.str A), .t (.int .u8 B)] ⟨[], []⟩) fun a b => asT a fun c => asI .i64 c fun a => endB b <| some ((.t (.int .i64 a)), ⟨[], []⟩)
theorem eq29g  (A : ByteArray) (B : Int) : gE 29 0 8 Try.f29 [] [.t (.str A), .t (.int .u8 B)] ⟨[], []⟩ = R29  A B := by kernel_rfl
theorem eq29 (A : ByteArray) (B : Int) : vr 29 0 [.t (.str A), .t (.int .u8 B)] ⟨[], []⟩ = R29  A B :=
  Eq.trans (call_eq Try.prog hint (fn := Try.f29) (nt := 8) (T := []) [] rfl _ _ rfl rfl rfl rfl rfl) (eq29g  A B)
noncomputable def R28  (A : Int) : Option Res :=
(bif (decide (97 ≤ (bitsI .or .u8 A 32))) then
(bif (decide ((bitsI .or .u8 A 32) ≤ 122)) then
 some ((.t (.int .i64 1)), ⟨[], []⟩)
else
(bif (decide (48 ≤ A)) then
(bif (decide (A ≤ 57)) then
 some ((.t (.int .i64 2)), ⟨[], []⟩)
else
 callK (vr 29 0 [.t (.str ⟨#[43, 45, 42, 40, 41, 91, 93, 44, 61, 58]⟩), .t (.int .u8 A)] ⟨[], []⟩) fun a b => asT a fun c => asI .i64 c fun a => endB b <|
(bif (decide (0 ≤ a)) then
 some ((.t (.int .i64 3)), ⟨[], []⟩)
else
(bif (decide (A = 32)) then
 some ((.t (.int .i64 4)), ⟨[], []⟩)
else
(bif (decide (A = 9)) then
 some ((.t (.int .i64 4)), ⟨[], []⟩)
else
(bif (decide (A = 10)) then
 some ((.t (.int .i64 5)), ⟨[], []⟩)
else
(bif (decide (A = 35)) then
 some ((.t (.int .i64 6)), ⟨[], []⟩)
else
 some ((.t (.int .i64 0)), ⟨[], []⟩)))))))
else
 callK (vr 29 0 [.t (.str ⟨#[43, 45, 42, 40, 41, 91, 93, 44, 61, 58]⟩), .t (.int .u8 A)] ⟨[], []⟩) fun a b => asT a fun c => asI .i64 c fun a => endB b <|
(bif (decide (0 ≤ a)) then
 some ((.t (.int .i64 3)), ⟨[], []⟩)
else
(bif (decide (A = 32)) then
 some ((.t (.int .i64 4)), ⟨[], []⟩)
else
(bif (decide (A = 9)) then
 some ((.t (.int .i64 4)), ⟨[], []⟩)
else
(bif (decide (A = 10)) then
 some ((.t (.int .i64 5)), ⟨[], []⟩)
else
(bif (decide (A = 35)) then
 some ((.t (.int .i64 6)), ⟨[], []⟩)
else
 some ((.t (.int .i64 0)), ⟨[], []⟩))))))))
else
(bif (decide (48 ≤ A)) then
(bif (decide (A ≤ 57)) then
 some ((.t (.int .i64 2)), ⟨[], []⟩)
else
 callK (vr 29 0 [.t (.str ⟨#[43, 45, 42, 40, 41, 91, 93, 44, 61, 58]⟩), .t (.int .u8 A)] ⟨[], []⟩) fun a b => asT a fun c => asI .i64 c fun a => endB b <|
(bif (decide (0 ≤ a)) then
 some ((.t (.int .i64 3)), ⟨[], []⟩)
else
(bif (decide (A = 32)) then
 some ((.t (.int .i64 4)), ⟨[], []⟩)
else
(bif (decide (A = 9)) then
 some ((.t (.int .i64 4)), ⟨[], []⟩)
else
(bif (decide (A = 10)) then
 some ((.t (.int .i64 5)), ⟨[], []⟩)
else
(bif (decide (A = 35)) then
 some ((.t (.int .i64 6)), ⟨[], []⟩)
else
 some ((.t (.int .i64 0)), ⟨[], []⟩)))))))
else
 callK (vr 29 0 [.t (.str ⟨#[43, 45, 42, 40, 41, 91, 93, 44, 61, 58]⟩), .t (.int .u8 A)] ⟨[], []⟩) fun a b => asT a fun c => asI .i64 c fun a => endB b <|
(bif (decide (0 ≤ a)) then
 some ((.t (.int .i64 3)), ⟨[], []⟩)
else
(bif (decide (A = 32)) then
 some ((.t (.int .i64 4)), ⟨[], []⟩)
else
(bif (decide (A = 9)) then
 some ((.t (.int .i64 4)), ⟨[], []⟩)
else
(bif (decide (A = 10)) then
 some ((.t (.int .i64 5)), ⟨[], []⟩)
else
(bif (decide (A = 35)) then
 some ((.t (.int .i64 6)), ⟨[], []⟩)
else
 some ((.t (.int .i64 0)), ⟨[], []⟩))))))))
theorem eq28g  (A : Int) : gE 28 0 36 Try.f28 [] [.t (.int .u8 A)] ⟨[], []⟩ = R28  A := by kernel_rfl
theorem eq28 (A : Int) : vr 28 0 [.t (.int .u8 A)] ⟨[], []⟩ = R28  A :=
  Eq.trans (call_eq Try.prog hint (fn := Try.f28) (nt := 36) (T := []) [] rfl _ _ rfl rfl rfl rfl rfl) (eq28g  A)
noncomputable def R30 (L30_2 : YL30_2) (A : ByteArray) : Option Res := L30_2 (A) (0)
theorem eq30g (KL30_2 : Env → St → Option Res) (A : ByteArray) : gE 30 0 25 Try.f30 (Ta30 KL30_2) [.t (.str A)] ⟨[], []⟩ = R30 (WL30_2 KL30_2) A := by kernel_rfl
theorem eq30 (A : ByteArray) : vr 30 0 [.t (.str A)] ⟨[], []⟩ = R30 L30_2 A :=
  Eq.trans (call_eq Try.prog hint (fn := Try.f30) (nt := 25) (T := (Ta30 VL30_2)) [PaL30_2] rfl _ _ rfl rfl rfl rfl rfl) (eq30g VL30_2 A)
noncomputable def RL30_2 (L30_2 : YL30_2) (s0 : ByteArray) (n3 : Int) : Option Res :=
(bif (decide (n3 < (s0.size : Int))) then
 needC (decide (0 ≤ n3) && decide (n3 < (s0.size : Int))) fun _ => callK (vr 28 0 [.t (.int .u8 (((s0 : ByteArray)[(n3).toNat]!).toNat : Int))] ⟨[], []⟩) fun a b => asT a fun c => asI .i64 c fun a => endB b <|
(bif (decide (a = 1)) then
 L30_2 (s0) ((IntKind.i64.wrap (n3 + 1)))
else
 needC (decide (0 ≤ n3) && decide (n3 < (s0.size : Int))) fun _ => callK (vr 28 0 [.t (.int .u8 (((s0 : ByteArray)[(n3).toNat]!).toNat : Int))] ⟨[], []⟩) fun a b => asT a fun c => asI .i64 c fun a => endB b <|
(bif (decide (a = 2)) then
 L30_2 (s0) ((IntKind.i64.wrap (n3 + 1)))
else
 some ((.t (.int .i64 n3)), ⟨[], []⟩)))
else
 some ((.t (.int .i64 n3)), ⟨[], []⟩))
theorem L30_2g (KL30_2 : Env → St → Option Res) (s0 : ByteArray) (n3 : Int) : WL30_2 (fun e st => gP 30 0 25 Try.f30 (Ta30 KL30_2) (.lp :: PaL30_2) e st) s0 n3 = RL30_2 (WL30_2 KL30_2) s0 n3 := by kernel_rfl
theorem L30_2_eq (s0 : ByteArray) (n3 : Int) : L30_2 s0 n3 = RL30_2 L30_2 s0 n3 :=
  (congrArg (fun k => WL30_2 k s0 n3) (funext fun e => funext fun st => round_eq Try.prog hint (b := (nav (List.reverse (.lp :: PaL30_2)) (bodyOf Try.f30))) (fn := Try.f30) (nt := 25) (T := (Ta30 VL30_2)) [PaL30_2] rfl PaL30_2 e st rfl rfl rfl)).trans (L30_2g VL30_2 s0 n3)
noncomputable def R18  (A : ByteArray) : Option Res :=
(bif (!decide ((A : ByteArray) = ⟨#[]⟩)) then
(bif (decide ((A.size : Int) ≤ 16)) then
 needC (decide (0 ≤ 0) && decide ((0 : Int) < (A.size : Int))) fun _ => callK (vr 28 0 [.t (.int .u8 (((A : ByteArray)[((0 : Int)).toNat]!).toNat : Int))] ⟨[], []⟩) fun a b => asT a fun c => asI .i64 c fun a => endB b <|
(bif (decide (a = 1)) then
 callK (vr 30 0 [.t (.str A)] ⟨[], []⟩) fun a b => asT a fun c => asI .i64 c fun a => endB b <| some ((.t (.bool (decide (a = (A.size : Int))))), ⟨[], []⟩)
else
 some ((.t (.bool false)), ⟨[], []⟩))
else
 some ((.t (.bool false)), ⟨[], []⟩))
else
 some ((.t (.bool false)), ⟨[], []⟩))
theorem eq18g  (A : ByteArray) : gE 18 0 23 Try.f18 [] [.t (.str A)] ⟨[], []⟩ = R18  A := by kernel_rfl
theorem eq18 (A : ByteArray) : vr 18 0 [.t (.str A)] ⟨[], []⟩ = R18  A :=
  Eq.trans (call_eq Try.prog hint (fn := Try.f18) (nt := 23) (T := []) [] rfl _ _ rfl rfl rfl rfl rfl) (eq18g  A)
noncomputable def R15 (L15_4 : YL15_4) (A : ByteArray) : Option Res :=
(bif (decide ((A : ByteArray) = ⟨#[]⟩)) then
 some ((.tup [.t (.int .i64 0), .t (.bool false)]), ⟨[], []⟩)
else
(bif (decide (18 < (A.size : Int))) then
 some ((.tup [.t (.int .i64 0), .t (.bool false)]), ⟨[], []⟩)
else
(bif (decide (1 < (A.size : Int))) then
 needC (decide (0 ≤ 0) && decide ((0 : Int) < (A.size : Int))) fun _ =>
(bif (decide ((((A : ByteArray)[((0 : Int)).toNat]!).toNat : Int) = 48)) then
 some ((.tup [.t (.int .i64 0), .t (.bool false)]), ⟨[], []⟩)
else
 L15_4 (A) (0) ((A.size : Int)) (0))
else
 L15_4 (A) (0) ((A.size : Int)) (0))))
theorem eq15g (KL15_4 : Env → St → Option Res) (A : ByteArray) : gE 15 0 42 Try.f15 (Ta15 KL15_4) [.t (.str A)] ⟨[], []⟩ = R15 (WL15_4 KL15_4) A := by kernel_rfl
theorem eq15 (A : ByteArray) : vr 15 0 [.t (.str A)] ⟨[], []⟩ = R15 L15_4 A :=
  Eq.trans (call_eq Try.prog hint (fn := Try.f15) (nt := 42) (T := (Ta15 VL15_4)) [PaL15_4] rfl _ _ rfl rfl rfl rfl rfl) (eq15g VL15_4 A)
noncomputable def RL15_4 (L15_4 : YL15_4) (s0 : ByteArray) (n2 A B : Int) : Option Res :=
(bif (decide (B < A)) then
 needC (decide (0 ≤ B) && decide (B < (s0.size : Int))) fun _ => callK (vr 28 0 [.t (.int .u8 (((s0 : ByteArray)[(B).toNat]!).toNat : Int))] ⟨[], []⟩) fun a b => asT a fun c => asI .i64 c fun a => endB b <|
(bif (!decide (a = 2)) then
 some ((.tup [.t (.int .i64 0), .t (.bool false)]), ⟨[], []⟩)
else
 needC (decide (0 ≤ B) && decide (B < (s0.size : Int))) fun _ => L15_4 (s0) ((IntKind.i64.wrap ((IntKind.i64.wrap ((10 : Int) * n2)) + (IntKind.i64.wrap (IntKind.u8.wrap ((((s0 : ByteArray)[(B).toNat]!).toNat : Int) - 48)))))) (A) ((IntKind.i64.wrap (B + 1))))
else
 some ((.tup [.t (.int .i64 n2), .t (.bool true)]), ⟨[], []⟩))
theorem L15_4g (KL15_4 : Env → St → Option Res) (s0 : ByteArray) (n2 A B : Int) : WL15_4 (fun e st => gP 15 0 42 Try.f15 (Ta15 KL15_4) (.lp :: PaL15_4) e st) s0 n2 A B = RL15_4 (WL15_4 KL15_4) s0 n2 A B := by kernel_rfl
theorem L15_4_eq (s0 : ByteArray) (n2 A B : Int) : L15_4 s0 n2 A B = RL15_4 L15_4 s0 n2 A B :=
  (congrArg (fun k => WL15_4 k s0 n2 A B) (funext fun e => funext fun st => round_eq Try.prog hint (b := (nav (List.reverse (.lp :: PaL15_4)) (bodyOf Try.f15))) (fn := Try.f15) (nt := 42) (T := (Ta15 VL15_4)) [PaL15_4] rfl PaL15_4 e st rfl rfl rfl)).trans (L15_4g VL15_4 s0 n2 A B)
noncomputable def R31  (A : ByteArray) : Option Res := callK (vr 18 0 [.t (.str A)] ⟨[], []⟩) fun a b => asT a fun c => asB c fun a => endB b <|
(bif a then
 some ((.tup [.t (.agg [.int .i64 1, .str A, .int .i64 0]), .t (.bool true)]), ⟨[], []⟩)
else
(bif (decide ((A.size : Int) = 1)) then
 needC (decide (0 ≤ 0) && decide ((0 : Int) < (A.size : Int))) fun _ => callK (vr 28 0 [.t (.int .u8 (((A : ByteArray)[((0 : Int)).toNat]!).toNat : Int))] ⟨[], []⟩) fun a b => asT a fun c => asI .i64 c fun a => endB b <|
(bif (decide (a = 3)) then
 some ((.tup [.t (.agg [.int .i64 3, .str A, .int .i64 0]), .t (.bool true)]), ⟨[], []⟩)
else
 callK (vr 15 0 [.t (.str A)] ⟨[], []⟩) fun a b => asTup a fun c => consV c fun a d => asT a fun c => asI .i64 c fun a => consV d fun c f => asT c fun d => asB d fun c => endV f <| endB b <| some ((.tup [.t (.agg [.int .i64 2, .str A, .int .i64 a]), .t (.bool c)]), ⟨[], []⟩))
else
 callK (vr 15 0 [.t (.str A)] ⟨[], []⟩) fun a b => asTup a fun c => consV c fun a d => asT a fun c => asI .i64 c fun a => consV d fun c f => asT c fun d => asB d fun c => endV f <| endB b <| some ((.tup [.t (.agg [.int .i64 2, .str A, .int .i64 a]), .t (.bool c)]), ⟨[], []⟩)))
theorem eq31g  (A : ByteArray) : gE 31 0 31 Try.f31 [] [.t (.str A)] ⟨[], []⟩ = R31  A := by kernel_rfl
theorem eq31 (A : ByteArray) : vr 31 0 [.t (.str A)] ⟨[], []⟩ = R31  A :=
  Eq.trans (call_eq Try.prog hint (fn := Try.f31) (nt := 31) (T := []) [] rfl _ _ rfl rfl rfl rfl rfl) (eq31g  A)
noncomputable def R12 (L12_6 : YL12_6) (J12_28 : YJ12_28) (J12_21 : YJ12_21) (J12_26 : YJ12_26) (A : ByteArray) : Option Res :=
(bif (decide (65536 < (A.size : Int))) then
 some ((.tup [.t (.list 3 false []), .t (.int .i64 0), .t (.int .i64 2)]), ⟨[], []⟩)
else
 L12_6 (A) (false) (0) (false) ([]))
theorem eq12g (KL12_6 KJ12_28 KJ12_21 KJ12_26 : Env → St → Option Res) (A : ByteArray) : gE 12 0 82 Try.f12 (Ta12 KL12_6 KJ12_28 KJ12_21 KJ12_26) [.t (.str A)] ⟨[], []⟩ = R12 (WL12_6 KL12_6) (WJ12_28 KJ12_28) (WJ12_21 KJ12_21) (WJ12_26 KJ12_26) A := by kernel_rfl
theorem eq12 (A : ByteArray) : vr 12 0 [.t (.str A)] ⟨[], []⟩ = R12 L12_6 J12_28 J12_21 J12_26 A :=
  Eq.trans (call_eq Try.prog hint (fn := Try.f12) (nt := 82) (T := (Ta12 VL12_6 VJ12_28 VJ12_21 VJ12_26)) [PaL12_6, PaJ12_28, PaJ12_21, PaJ12_26] rfl _ _ rfl rfl rfl rfl rfl) (eq12g VL12_6 VJ12_28 VJ12_21 VJ12_26 A)
noncomputable def RL12_6 (L12_6 : YL12_6) (J12_28 : YJ12_28) (J12_21 : YJ12_21) (J12_26 : YJ12_26) (s0 : ByteArray) (ends6 : Bool) (at7 : Int) (A : Bool) (B : List T) : Option Res :=
(bif (decide (at7 < (s0.size : Int))) then
 needC (decide (0 ≤ at7) && decide (at7 < (s0.size : Int))) fun _ => callK (vr 28 0 [.t (.int .u8 (((s0 : ByteArray)[(at7).toNat]!).toNat : Int))] ⟨[], []⟩) fun a b => asT a fun c => asI .i64 c fun a => endB b <|
(bif (decide (a = 5)) then
 L12_6 (s0) ((decide (0 < (B.length : Int)))) ((IntKind.i64.wrap (at7 + 1))) (A) (B)
else
(bif (decide (a = 4)) then
 L12_6 (s0) (ends6) ((IntKind.i64.wrap (at7 + 1))) (A) (B)
else
(bif (decide (a = 6)) then
 subS s0 (some at7) none fun b => callK (vr 29 0 [.t (.str b), .t (.int .u8 10)] ⟨[], []⟩) fun c d => asT c fun b => asI .i64 b fun c => endB d <|
(bif (decide (c < 0)) then
 J12_28 (s0) (A) (B)
else
 L12_6 (s0) (ends6) ((IntKind.i64.wrap (at7 + c))) (A) (B))
else
(bif (decide (a = 1)) then
 subS s0 (some at7) none fun b => callK (vr 30 0 [.t (.str b)] ⟨[], []⟩) fun c d => asT c fun b => asI .i64 b fun c => endB d <| J12_21 (s0) (ends6) (at7) (c) (A) (B)
else
(bif (decide (a = 2)) then
 subS s0 (some at7) none fun a => callK (vr 30 0 [.t (.str a)] ⟨[], []⟩) fun b c => asT b fun a => asI .i64 a fun b => endB c <| J12_21 (s0) (ends6) (at7) (b) (A) (B)
else
 J12_21 (s0) (ends6) (at7) (1) (A) (B))))))
else
 J12_28 (s0) (A) (B))
theorem L12_6g (KL12_6 KJ12_28 KJ12_21 KJ12_26 : Env → St → Option Res) (s0 : ByteArray) (ends6 : Bool) (at7 : Int) (A : Bool) (B : List T) : WL12_6 (fun e st => gP 12 0 82 Try.f12 (Ta12 KL12_6 KJ12_28 KJ12_21 KJ12_26) (.lp :: PaL12_6) e st) s0 ends6 at7 A B = RL12_6 (WL12_6 KL12_6) (WJ12_28 KJ12_28) (WJ12_21 KJ12_21) (WJ12_26 KJ12_26) s0 ends6 at7 A B := by kernel_rfl
theorem L12_6_eq (s0 : ByteArray) (ends6 : Bool) (at7 : Int) (A : Bool) (B : List T) : L12_6 s0 ends6 at7 A B = RL12_6 L12_6 J12_28 J12_21 J12_26 s0 ends6 at7 A B :=
  (congrArg (fun k => WL12_6 k s0 ends6 at7 A B) (funext fun e => funext fun st => round_eq Try.prog hint (b := (nav (List.reverse (.lp :: PaL12_6)) (bodyOf Try.f12))) (fn := Try.f12) (nt := 82) (T := (Ta12 VL12_6 VJ12_28 VJ12_21 VJ12_26)) [PaL12_6, PaJ12_28, PaJ12_21, PaJ12_26] rfl PaL12_6 e st rfl rfl rfl)).trans (L12_6g VL12_6 VJ12_28 VJ12_21 VJ12_26 s0 ends6 at7 A B)
noncomputable def RJ12_28 (L12_6 : YL12_6) (J12_28 : YJ12_28) (J12_21 : YJ12_21) (J12_26 : YJ12_26) (s0 : ByteArray) (A : Bool) (B : List T) : Option Res :=
(bif (decide (4096 < (B.length : Int))) then
 some ((.tup [.t (.list 3 false []), .t (.int .i64 0), .t (.int .i64 2)]), ⟨[], []⟩)
else
 some ((.tup [.t (.list 3 A B), .t (.int .i64 (s0.size : Int)), .t (.int .i64 0)]), ⟨[], []⟩))
theorem J12_28g (KL12_6 KJ12_28 KJ12_21 KJ12_26 : Env → St → Option Res) (s0 : ByteArray) (A : Bool) (B : List T) : WJ12_28 (fun e st => gP 12 0 82 Try.f12 (Ta12 KL12_6 KJ12_28 KJ12_21 KJ12_26) PaJ12_28 e st) s0 A B = RJ12_28 (WL12_6 KL12_6) (WJ12_28 KJ12_28) (WJ12_21 KJ12_21) (WJ12_26 KJ12_26) s0 A B := by kernel_rfl
theorem J12_28_eq (s0 : ByteArray) (A : Bool) (B : List T) : J12_28 s0 A B = RJ12_28 L12_6 J12_28 J12_21 J12_26 s0 A B :=
  (congrArg (fun k => WJ12_28 k s0 A B) (funext fun e => funext fun st => join_eq Try.prog hint (fn := Try.f12) (nt := 82) (T := (Ta12 VL12_6 VJ12_28 VJ12_21 VJ12_26)) [PaL12_6, PaJ12_28, PaJ12_21, PaJ12_26] rfl PaJ12_28 e st rfl)).trans (J12_28g VL12_6 VJ12_28 VJ12_21 VJ12_26 s0 A B)
noncomputable def RJ12_21 (L12_6 : YL12_6) (J12_28 : YJ12_28) (J12_21 : YJ12_21) (J12_26 : YJ12_26) (s0 : ByteArray) (ends6 : Bool) (at7 n8 : Int) (A : Bool) (B : List T) : Option Res := subS s0 (some at7) (some (IntKind.i64.wrap (at7 + n8))) fun a => callK (vr 31 0 [.t (.str a)] ⟨[], []⟩) fun b c => asTup b fun a => consV a fun b d => asT b fun a => asA a fun b => consT b fun a f => asI .i64 a fun b => consT f fun a g => asS a fun f => consT g fun a h => asI .i64 a fun g => endT h <| consV d fun a h => asT a fun d => asB d fun a => endV h <| endB c <|
(bif (!a) then
 some ((.tup [.t (.list 3 false []), .t (.int .i64 at7), .t (.int .i64 6)]), ⟨[], []⟩)
else
(bif ends6 then
 needC (decide ((B.length + 1) * (32 + 1) ≤ 70368744177664) && decide (32 ≤ 1048576)) fun _ => J12_26 (s0) (at7) (n8) ((A || true)) ((B ++ ([.agg [.int .i64 4, .str ByteArray.empty, .int .i64 0]] : List T))) (b) (f) (g)
else
 J12_26 (s0) (at7) (n8) (A) (B) (b) (f) (g)))
theorem J12_21g (KL12_6 KJ12_28 KJ12_21 KJ12_26 : Env → St → Option Res) (s0 : ByteArray) (ends6 : Bool) (at7 n8 : Int) (A : Bool) (B : List T) : WJ12_21 (fun e st => gP 12 0 82 Try.f12 (Ta12 KL12_6 KJ12_28 KJ12_21 KJ12_26) PaJ12_21 e st) s0 ends6 at7 n8 A B = RJ12_21 (WL12_6 KL12_6) (WJ12_28 KJ12_28) (WJ12_21 KJ12_21) (WJ12_26 KJ12_26) s0 ends6 at7 n8 A B := by kernel_rfl
theorem J12_21_eq (s0 : ByteArray) (ends6 : Bool) (at7 n8 : Int) (A : Bool) (B : List T) : J12_21 s0 ends6 at7 n8 A B = RJ12_21 L12_6 J12_28 J12_21 J12_26 s0 ends6 at7 n8 A B :=
  (congrArg (fun k => WJ12_21 k s0 ends6 at7 n8 A B) (funext fun e => funext fun st => join_eq Try.prog hint (fn := Try.f12) (nt := 82) (T := (Ta12 VL12_6 VJ12_28 VJ12_21 VJ12_26)) [PaL12_6, PaJ12_28, PaJ12_21, PaJ12_26] rfl PaJ12_21 e st rfl)).trans (J12_21g VL12_6 VJ12_28 VJ12_21 VJ12_26 s0 ends6 at7 n8 A B)
noncomputable def RJ12_26 (L12_6 : YL12_6) (J12_28 : YJ12_28) (J12_21 : YJ12_21) (J12_26 : YJ12_26) (s0 : ByteArray) (at7 n8 : Int) (A : Bool) (B : List T) (C : Int) (D : ByteArray) (E : Int) : Option Res := needC (decide ((B.length + 1) * (32 + 1) ≤ 70368744177664) && decide (32 ≤ 1048576)) fun _ => L12_6 (s0) (false) ((IntKind.i64.wrap (at7 + n8))) ((A || true)) ((B ++ ([.agg [.int .i64 C, .str D, .int .i64 E]] : List T)))
theorem J12_26g (KL12_6 KJ12_28 KJ12_21 KJ12_26 : Env → St → Option Res) (s0 : ByteArray) (at7 n8 : Int) (A : Bool) (B : List T) (C : Int) (D : ByteArray) (E : Int) : WJ12_26 (fun e st => gP 12 0 82 Try.f12 (Ta12 KL12_6 KJ12_28 KJ12_21 KJ12_26) PaJ12_26 e st) s0 at7 n8 A B C D E = RJ12_26 (WL12_6 KL12_6) (WJ12_28 KJ12_28) (WJ12_21 KJ12_21) (WJ12_26 KJ12_26) s0 at7 n8 A B C D E := by kernel_rfl
theorem J12_26_eq (s0 : ByteArray) (at7 n8 : Int) (A : Bool) (B : List T) (C : Int) (D : ByteArray) (E : Int) : J12_26 s0 at7 n8 A B C D E = RJ12_26 L12_6 J12_28 J12_21 J12_26 s0 at7 n8 A B C D E :=
  (congrArg (fun k => WJ12_26 k s0 at7 n8 A B C D E) (funext fun e => funext fun st => join_eq Try.prog hint (fn := Try.f12) (nt := 82) (T := (Ta12 VL12_6 VJ12_28 VJ12_21 VJ12_26)) [PaL12_6, PaJ12_28, PaJ12_21, PaJ12_26] rfl PaJ12_26 e st rfl)).trans (J12_26g VL12_6 VJ12_28 VJ12_21 VJ12_26 s0 at7 n8 A B C D E)
noncomputable def R11   : Option Res := callK (vr 12 0 [.t (.str ⟨#[65, 91, 105, 93, 32, 61, 32, 50]⟩)] ⟨[], []⟩) fun a b => asTup a fun c => consV c fun a d => asT a fun c => asL 3 c fun a f => consV d fun a c => asT a fun d => asI .i64 d fun a => consV c fun d g => asT d fun c => asI .i64 c fun d => endV g <| endB b <|
(bif (!decide ((f.length : Int) = 6)) then
 some ((.t (.bool false)), ⟨[], []⟩)
else
(bif (!decide (a = 8)) then
 some ((.t (.bool false)), ⟨[], []⟩)
else
(bif (!decide (d = 0)) then
 some ((.t (.bool false)), ⟨[], []⟩)
else
 needC (decide (0 ≤ 0)) fun _ => getT f ((0 : Int)).toNat fun a => asA a fun b => consT b fun a c => asI .i64 a fun b => consT c fun a d => asS a fun c => consT d fun a g => asI .i64 a fun d => endT g <|
(bif (decide (b = 1) && (decide ((c : ByteArray) = ⟨#[65]⟩) && (decide (d = 0) && true))) then
 needC (decide (0 ≤ 1)) fun _ => getT f ((1 : Int)).toNat fun a => asA a fun b => consT b fun a c => asI .i64 a fun b => consT c fun a d => asS a fun c => consT d fun a g => asI .i64 a fun d => endT g <|
(bif (decide (b = 3) && (decide ((c : ByteArray) = ⟨#[91]⟩) && (decide (d = 0) && true))) then
 needC (decide (0 ≤ 5)) fun _ => getT f ((5 : Int)).toNat fun a => asA a fun b => consT b fun a c => asI .i64 a fun b => consT c fun a d => asS a fun c => consT d fun a f => asI .i64 a fun d => endT f <| some ((.t (.bool (decide (b = 2) && (decide ((c : ByteArray) = ⟨#[50]⟩) && (decide (d = 2) && true))))), ⟨[], []⟩)
else
 some ((.t (.bool false)), ⟨[], []⟩))
else
 some ((.t (.bool false)), ⟨[], []⟩)))))
theorem eq11g   : gE 11 0 39 Try.f11 [] [] ⟨[], []⟩ = R11   := by kernel_rfl
theorem eq11  : vr 11 0 [] ⟨[], []⟩ = R11   :=
  Eq.trans (call_eq Try.prog hint (fn := Try.f11) (nt := 39) (T := []) [] rfl _ _ rfl rfl rfl rfl rfl) (eq11g  )
noncomputable def R21 (L21_2 : YL21_2) (A : Bool) (B : List T) : Option Res := L21_2 (A) (B) (A) (B) ((B.length : Int)) (0)
theorem eq21g (KL21_2 : Env → St → Option Res) (A : Bool) (B : List T) : gE 21 0 19 Try.f21 (Ta21 KL21_2) [.t (.list 3 A B)] ⟨[], []⟩ = R21 (WL21_2 KL21_2) A B := by kernel_rfl
theorem eq21 (A : Bool) (B : List T) : vr 21 0 [.t (.list 3 A B)] ⟨[], []⟩ = R21 L21_2 A B :=
  Eq.trans (call_eq Try.prog hint (fn := Try.f21) (nt := 19) (T := (Ta21 VL21_2)) [PaL21_2] rfl _ _ rfl rfl rfl rfl rfl) (eq21g VL21_2 A B)
noncomputable def RL21_2 (L21_2 : YL21_2) (l0z : Bool) (l0 : List T) (A : Bool) (B : List T) (C D : Int) : Option Res :=
(bif (decide (D < C)) then
 needC (decide (0 ≤ D)) fun _ => getT B (D).toNat fun a => asA a fun b => consT b fun a c => asI .i64 a fun b => consT c fun a b => asS a fun c => consT b fun a d => asI .i64 a fun b => endT d <|
(bif (decide (1000 < (c.size : Int))) then
 some ((.t (.bool false)), ⟨[], []⟩)
else
 L21_2 (l0z) (l0) (A) (B) (C) ((IntKind.i64.wrap (D + 1))))
else
 some ((.t (.bool (decide ((l0.length : Int) ≤ 5000)))), ⟨[], []⟩))
theorem L21_2g (KL21_2 : Env → St → Option Res) (l0z : Bool) (l0 : List T) (A : Bool) (B : List T) (C D : Int) : WL21_2 (fun e st => gP 21 0 19 Try.f21 (Ta21 KL21_2) (.lp :: PaL21_2) e st) l0z l0 A B C D = RL21_2 (WL21_2 KL21_2) l0z l0 A B C D := by kernel_rfl
theorem L21_2_eq (l0z : Bool) (l0 : List T) (A : Bool) (B : List T) (C D : Int) : L21_2 l0z l0 A B C D = RL21_2 L21_2 l0z l0 A B C D :=
  (congrArg (fun k => WL21_2 k l0z l0 A B C D) (funext fun e => funext fun st => round_eq Try.prog hint (b := (nav (List.reverse (.lp :: PaL21_2)) (bodyOf Try.f21))) (fn := Try.f21) (nt := 19) (T := (Ta21 VL21_2)) [PaL21_2] rfl PaL21_2 e st rfl rfl rfl)).trans (L21_2g VL21_2 l0z l0 A B C D)
noncomputable def R14 (L14_4 : YL14_4) (A : Bool) (B : List T) (C : Bool) (D : List T) : Option Res :=
(bif (!decide ((B.length : Int) = (D.length : Int))) then
 some ((.t (.bool false)), ⟨[], []⟩)
else
 L14_4 (A) (B) (C) (D) ((B.length : Int)) (0))
theorem eq14g (KL14_4 : Env → St → Option Res) (A : Bool) (B : List T) (C : Bool) (D : List T) : gE 14 0 26 Try.f14 (Ta14 KL14_4) [.t (.list 3 A B), .t (.list 3 C D)] ⟨[], []⟩ = R14 (WL14_4 KL14_4) A B C D := by kernel_rfl
theorem eq14 (A : Bool) (B : List T) (C : Bool) (D : List T) : vr 14 0 [.t (.list 3 A B), .t (.list 3 C D)] ⟨[], []⟩ = R14 L14_4 A B C D :=
  Eq.trans (call_eq Try.prog hint (fn := Try.f14) (nt := 26) (T := (Ta14 VL14_4)) [PaL14_4] rfl _ _ rfl rfl rfl rfl rfl) (eq14g VL14_4 A B C D)
noncomputable def RL14_4 (L14_4 : YL14_4) (A : Bool) (B : List T) (b1z : Bool) (b1 : List T) (C D : Int) : Option Res :=
(bif (decide (D < C)) then
 needC (decide (0 ≤ D)) fun _ => getT B (D).toNat fun a => asA a fun b => consT b fun a c => asI .i64 a fun b => consT c fun a d => asS a fun c => consT d fun a f => asI .i64 a fun d => endT f <| needC (decide (0 ≤ D)) fun _ => getT b1 (D).toNat fun a => asA a fun f => consT f fun a g => asI .i64 a fun f => consT g fun a h => asS a fun g => consT h fun a i => asI .i64 a fun h => endT i <|
(bif (!(decide (b = f) && (decide ((c : ByteArray) = g) && (decide (d = h) && true)))) then
 some ((.t (.bool false)), ⟨[], []⟩)
else
 L14_4 (A) (B) (b1z) (b1) (C) ((IntKind.i64.wrap (D + 1))))
else
 some ((.t (.bool true)), ⟨[], []⟩))
theorem L14_4g (KL14_4 : Env → St → Option Res) (A : Bool) (B : List T) (b1z : Bool) (b1 : List T) (C D : Int) : WL14_4 (fun e st => gP 14 0 26 Try.f14 (Ta14 KL14_4) (.lp :: PaL14_4) e st) A B b1z b1 C D = RL14_4 (WL14_4 KL14_4) A B b1z b1 C D := by kernel_rfl
theorem L14_4_eq (A : Bool) (B : List T) (b1z : Bool) (b1 : List T) (C D : Int) : L14_4 A B b1z b1 C D = RL14_4 L14_4 A B b1z b1 C D :=
  (congrArg (fun k => WL14_4 k A B b1z b1 C D) (funext fun e => funext fun st => round_eq Try.prog hint (b := (nav (List.reverse (.lp :: PaL14_4)) (bodyOf Try.f14))) (fn := Try.f14) (nt := 26) (T := (Ta14 VL14_4)) [PaL14_4] rfl PaL14_4 e st rfl rfl rfl)).trans (L14_4g VL14_4 A B b1z b1 C D)
noncomputable def R9 (J9_11 : YJ9_11) (A : Bool) (B : List T) (C : ByteArray) : Option Res := callK (vr 11 0 [] ⟨[], []⟩) fun a b => asT a fun c => asB c fun a => endB b <| callK (vr 21 0 [.t (.list 3 A B)] ⟨[], []⟩) fun b c => asT b fun d => asB d fun b => endB c <|
(bif (!b) then
 some ((.t (.bool a)), ⟨[], []⟩)
else
(bif (decide (20000 < (C.size : Int))) then
 some ((.t (.bool a)), ⟨[], []⟩)
else
 callK (vr 23 0 [.t (.list 3 A B)] ⟨[], []⟩) fun b c => asTup b fun d => consV d fun b f => asT b fun d => asS d fun b => consV f fun d g => asT d fun f => asI .i64 f fun d => endV g <| endB c <|
(bif (decide (d = 0)) then
(bif (decide (60000 < (b.size : Int))) then
 some ((.t (.bool a)), ⟨[], []⟩)
else
 callK (vr 12 0 [.t (.str b)] ⟨[], []⟩) fun c d => asTup c fun f => consV f fun c g => asT c fun f => asL 3 f fun c h => consV g fun f i => asT f fun g => asI .i64 g fun f => consV i fun g j => asT g fun i => asI .i64 i fun g => endV j <| endB d <|
(bif (!decide (g = 0)) then
 some ((.t (.bool false)), ⟨[], []⟩)
else
(bif (!decide (f = (b.size : Int))) then
 some ((.t (.bool false)), ⟨[], []⟩)
else
 callK (vr 14 0 [.t (.list 3 c h), .t (.list 3 A B)] ⟨[], []⟩) fun b d => asT b fun c => asB c fun b => endB d <|
(bif (!b) then
 some ((.t (.bool false)), ⟨[], []⟩)
else
 J9_11 (C) (a)))))
else
 J9_11 (C) (a))))
theorem eq9g (KJ9_11 : Env → St → Option Res) (A : Bool) (B : List T) (C : ByteArray) : gE 9 0 105 Try.f9 (Ta9 KJ9_11) [.t (.list 3 A B), .t (.str C)] ⟨[], []⟩ = R9 (WJ9_11 KJ9_11) A B C := by kernel_rfl
theorem eq9 (A : Bool) (B : List T) (C : ByteArray) : vr 9 0 [.t (.list 3 A B), .t (.str C)] ⟨[], []⟩ = R9 J9_11 A B C :=
  Eq.trans (call_eq Try.prog hint (fn := Try.f9) (nt := 105) (T := (Ta9 VJ9_11)) [PaJ9_11] rfl _ _ rfl rfl rfl rfl rfl) (eq9g VJ9_11 A B C)
noncomputable def RJ9_11 (J9_11 : YJ9_11) (s1 : ByteArray) (up5 : Bool) : Option Res := callK (vr 12 0 [.t (.str s1)] ⟨[], []⟩) fun a b => asTup a fun c => consV c fun a d => asT a fun c => asL 3 c fun a f => consV d fun c g => asT c fun d => asI .i64 d fun c => consV g fun d h => asT d fun g => asI .i64 g fun d => endV h <| endB b <|
(bif (!decide (d = 0)) then
(bif up5 then
(bif (decide ((f.length : Int) = 0)) then
 some ((.t (.bool (decide (c ≤ (s1.size : Int))))), ⟨[], []⟩)
else
 some ((.t (.bool false)), ⟨[], []⟩))
else
 some ((.t (.bool false)), ⟨[], []⟩))
else
 callK (vr 23 0 [.t (.list 3 a f)] ⟨[], []⟩) fun b c => asTup b fun d => consV d fun b g => asT b fun d => asS d fun b => consV g fun d h => asT d fun g => asI .i64 g fun d => endV h <| endB c <| callK (vr 12 0 [.t (.str b)] ⟨[], []⟩) fun c g => asTup c fun b => consV b fun c h => asT c fun b => asL 3 b fun c i => consV h fun b j => asT b fun h => asI .i64 h fun b => consV j fun b h => asT b fun j => asI .i64 j fun b => endV h <| endB g <|
(bif up5 then
(bif (decide (d = 0)) then
(bif (decide (b = 0)) then
 callK (vr 14 0 [.t (.list 3 a f), .t (.list 3 c i)] ⟨[], []⟩) fun b d => asT b fun a => asB a fun b => endB d <| some ((.t (.bool b)), ⟨[], []⟩)
else
 some ((.t (.bool false)), ⟨[], []⟩))
else
 some ((.t (.bool false)), ⟨[], []⟩))
else
 some ((.t (.bool false)), ⟨[], []⟩)))
theorem J9_11g (KJ9_11 : Env → St → Option Res) (s1 : ByteArray) (up5 : Bool) : WJ9_11 (fun e st => gP 9 0 105 Try.f9 (Ta9 KJ9_11) PaJ9_11 e st) s1 up5 = RJ9_11 (WJ9_11 KJ9_11) s1 up5 := by kernel_rfl
theorem J9_11_eq (s1 : ByteArray) (up5 : Bool) : J9_11 s1 up5 = RJ9_11 J9_11 s1 up5 :=
  (congrArg (fun k => WJ9_11 k s1 up5) (funext fun e => funext fun st => join_eq Try.prog hint (fn := Try.f9) (nt := 105) (T := (Ta9 VJ9_11)) [PaJ9_11] rfl PaJ9_11 e st rfl)).trans (J9_11g VJ9_11 s1 up5)
noncomputable def R38  (A : Int) (B : ByteArray) (C : Int) : Option Res := some ((.t (.bool (decide (A = 4)))), ⟨[], []⟩)
theorem eq38g  (A : Int) (B : ByteArray) (C : Int) : gE 38 0 6 Try.f38 [] [.t (.agg [.int .i64 A, .str B, .int .i64 C])] ⟨[], []⟩ = R38  A B C := by kernel_rfl
theorem eq38 (A : Int) (B : ByteArray) (C : Int) : vr 38 0 [.t (.agg [.int .i64 A, .str B, .int .i64 C])] ⟨[], []⟩ = R38  A B C :=
  Eq.trans (call_eq Try.prog hint (fn := Try.f38) (nt := 6) (T := []) [] rfl _ _ rfl rfl rfl rfl rfl) (eq38g  A B C)
noncomputable def R37 (L37_2 : YL37_2) (A : Bool) (B : List T) : Option Res := L37_2 (A) (B) ((B.length : Int)) (0)
theorem eq37g (KL37_2 : Env → St → Option Res) (A : Bool) (B : List T) : gE 37 0 19 Try.f37 (Ta37 KL37_2) [.t (.list 3 A B), .fn 38 [] []] ⟨[], []⟩ = R37 (WL37_2 KL37_2) A B := by kernel_rfl
theorem eq37 (A : Bool) (B : List T) : vr 37 0 [.t (.list 3 A B), .fn 38 [] []] ⟨[], []⟩ = R37 L37_2 A B :=
  Eq.trans (call_eq Try.prog hint (fn := Try.f37) (nt := 19) (T := (Ta37 VL37_2)) [PaL37_2] rfl _ _ rfl rfl rfl rfl rfl) (eq37g VL37_2 A B)
noncomputable def RL37_2 (L37_2 : YL37_2) (s0z : Bool) (s0 : List T) (A B : Int) : Option Res :=
(bif (decide (B < A)) then
 needC (decide (0 ≤ B)) fun _ => getT s0 (B).toNat fun a => asA a fun b => consT b fun a c => asI .i64 a fun b => consT c fun a d => asS a fun c => consT d fun a f => asI .i64 a fun d => endT f <| callK (vr 38 0 [.t (.agg [.int .i64 b, .str c, .int .i64 d])] ⟨[], []⟩) fun a f => asT a fun b => asB b fun a => endB f <|
(bif a then
 some ((.t (.int .i64 B)), ⟨[], []⟩)
else
 L37_2 (s0z) (s0) (A) ((IntKind.i64.wrap (B + 1))))
else
 some ((.t (.int .i64 (-1))), ⟨[], []⟩))
theorem L37_2g (KL37_2 : Env → St → Option Res) (s0z : Bool) (s0 : List T) (A B : Int) : WL37_2 (fun e st => gP 37 0 19 Try.f37 (Ta37 KL37_2) (.lp :: PaL37_2) e st) s0z s0 A B = RL37_2 (WL37_2 KL37_2) s0z s0 A B := by kernel_rfl
theorem L37_2_eq (s0z : Bool) (s0 : List T) (A B : Int) : L37_2 s0z s0 A B = RL37_2 L37_2 s0z s0 A B :=
  (congrArg (fun k => WL37_2 k s0z s0 A B) (funext fun e => funext fun st => round_eq Try.prog hint (b := (nav (List.reverse (.lp :: PaL37_2)) (bodyOf Try.f37))) (fn := Try.f37) (nt := 19) (T := (Ta37 VL37_2)) [PaL37_2] rfl PaL37_2 e st rfl rfl rfl)).trans (L37_2g VL37_2 s0z s0 A B)
noncomputable def R39  (A : Bool) (B : List T) : Option Res :=
(bif (!A) then
 some ((.t (.list 3 false [])), ⟨[], []⟩)
else
 needC (decide ((0 + B.length) * (32 + 1) ≤ 70368744177664) && decide (32 ≤ 1048576)) fun _ => some ((.t (.list 3 true (([] : List T) ++ B))), ⟨[], []⟩))
theorem eq39g  (A : Bool) (B : List T) : gE 39 0 8 Try.f39 [] [.t (.list 3 A B)] ⟨[], []⟩ = R39  A B := by kernel_rfl
theorem eq39 (A : Bool) (B : List T) : vr 39 0 [.t (.list 3 A B)] ⟨[], []⟩ = R39  A B :=
  Eq.trans (call_eq Try.prog hint (fn := Try.f39) (nt := 8) (T := []) [] rfl _ _ rfl rfl rfl rfl rfl) (eq39g  A B)
noncomputable def R22 (L22_2 : YL22_2) (A : Bool) (B : List T) : Option Res := L22_2 (A) (B) (false) ([])
theorem eq22g (KL22_2 : Env → St → Option Res) (A : Bool) (B : List T) : gE 22 0 35 Try.f22 (Ta22 KL22_2) [.t (.list 3 A B)] ⟨[], []⟩ = R22 (WL22_2 KL22_2) A B := by kernel_rfl
theorem eq22 (A : Bool) (B : List T) : vr 22 0 [.t (.list 3 A B)] ⟨[], []⟩ = R22 L22_2 A B :=
  Eq.trans (call_eq Try.prog hint (fn := Try.f22) (nt := 35) (T := (Ta22 VL22_2)) [PaL22_2] rfl _ _ rfl rfl rfl rfl rfl) (eq22g VL22_2 A B)
noncomputable def RL22_2 (L22_2 : YL22_2) (l0z : Bool) (l0 : List T) (A : Bool) (B : List T) : Option Res :=
(bif (decide (0 < (l0.length : Int))) then
 callK (vr 37 0 [.t (.list 3 l0z l0), .fn 38 [] []] ⟨[], []⟩) fun a b => asT a fun c => asI .i64 c fun a => endB b <|
(bif (decide (a < 0)) then
 callK (vr 39 0 [.t (.list 3 l0z l0)] ⟨[], []⟩) fun b c => asT b fun d => asL 3 d fun b f => endB c <| needC (decide ((B.length + 1) * (24 + 1) ≤ 70368744177664) && decide (24 ≤ 1048576)) fun _ => some ((.t (.list 1 (A || true) (B ++ ([.list 3 b f] : List T)))), ⟨[], []⟩)
else
 cutL l0 none (some a) fun b => callK (vr 39 0 [.t (.list 3 l0z b)] ⟨[], []⟩) fun c d => asT c fun b => asL 3 b fun c f => endB d <| needC (decide ((B.length + 1) * (24 + 1) ≤ 70368744177664) && decide (24 ≤ 1048576)) fun _ => cutL l0 (some (IntKind.i64.wrap (a + 1))) none fun b =>
(bif (decide ((b.length : Int) = 0)) then
 needC (decide ((((B ++ ([.list 3 c f] : List T))).length + 1) * (24 + 1) ≤ 70368744177664) && decide (24 ≤ 1048576)) fun _ => L22_2 (l0z) (b) (((A || true) || true)) (((B ++ ([.list 3 c f] : List T)) ++ ([.list 3 false []] : List T)))
else
 L22_2 (l0z) (b) ((A || true)) ((B ++ ([.list 3 c f] : List T)))))
else
 some ((.t (.list 1 A B)), ⟨[], []⟩))
theorem L22_2g (KL22_2 : Env → St → Option Res) (l0z : Bool) (l0 : List T) (A : Bool) (B : List T) : WL22_2 (fun e st => gP 22 0 35 Try.f22 (Ta22 KL22_2) (.lp :: PaL22_2) e st) l0z l0 A B = RL22_2 (WL22_2 KL22_2) l0z l0 A B := by kernel_rfl
theorem L22_2_eq (l0z : Bool) (l0 : List T) (A : Bool) (B : List T) : L22_2 l0z l0 A B = RL22_2 L22_2 l0z l0 A B :=
  (congrArg (fun k => WL22_2 k l0z l0 A B) (funext fun e => funext fun st => round_eq Try.prog hint (b := (nav (List.reverse (.lp :: PaL22_2)) (bodyOf Try.f22))) (fn := Try.f22) (nt := 35) (T := (Ta22 VL22_2)) [PaL22_2] rfl PaL22_2 e st rfl rfl rfl)).trans (L22_2g VL22_2 l0z l0 A B)
noncomputable def R26  (A : Int) (B : ByteArray) (C : Int) : Option Res := callK (vr 31 0 [.t (.str B)] ⟨[], []⟩) fun a b => asTup a fun c => consV c fun a d => asT a fun c => asA c fun a => consT a fun c f => asI .i64 c fun a => consT f fun c g => asS c fun f => consT g fun c h => asI .i64 c fun g => endT h <| consV d fun c h => asT c fun d => asB d fun c => endV h <| endB b <|
(bif (decide (A = 4) && (decide ((B : ByteArray) = ByteArray.empty) && (decide (C = 0) && true))) then
 some ((.t (.int .i64 0)), ⟨[], []⟩)
else
(bif c then
(bif (decide (A = a) && (decide ((B : ByteArray) = f) && (decide (C = g) && true))) then
 some ((.t (.int .i64 0)), ⟨[], []⟩)
else
 some ((.t (.int .i64 1)), ⟨[], []⟩))
else
 some ((.t (.int .i64 1)), ⟨[], []⟩)))
theorem eq26g  (A : Int) (B : ByteArray) (C : Int) : gE 26 0 22 Try.f26 [] [.t (.agg [.int .i64 A, .str B, .int .i64 C])] ⟨[], []⟩ = R26  A B C := by kernel_rfl
theorem eq26 (A : Int) (B : ByteArray) (C : Int) : vr 26 0 [.t (.agg [.int .i64 A, .str B, .int .i64 C])] ⟨[], []⟩ = R26  A B C :=
  Eq.trans (call_eq Try.prog hint (fn := Try.f26) (nt := 22) (T := []) [] rfl _ _ rfl rfl rfl rfl rfl) (eq26g  A B C)
end Go.Proofs.Ytemdhiejbncafaa.VM
