/- The equations, the second part. Conditions: none. -/
import Derived.Test.YtejfkiohnoiagaaQa
set_option linter.all false
namespace Go.Proofs.Ytejfkiohnoiagaa.VM
open Go AM

noncomputable def RJ11_20 (L11_5 : Bool → (List T) → Bool → (List T) → Int → Int → Int → Int → Bool → (List T) → Bool → (List T) → Int → Int → Bool → (List T) → Bool → (List T) → Option Res) (L11_15 : Bool → (List T) → Bool → (List T) → Int → Int → Int → Int → Bool → (List T) → Bool → (List T) → Int → Int → Bool → (List T) → Bool → (List T) → Option Res) (J11_20 : Bool → (List T) → Int → Int → Bool → (List T) → Bool → (List T) → Int → Int → Bool → (List T) → Bool → (List T) → Option Res) (groups2z : Bool) (groups2 : List T) (m8_0 : Int) (m8_1 : Int) (m8_2z : Bool) (m8_2 : List T) (m8_3z : Bool) (m8_3 : List T) (m9_0 : Int) (m9_1 : Int) (m10z : Bool) (m10 : List T) (m11z : Bool) (m11 : List T) : Option Res :=
 callK (vr 28 0 [(.t (.agg [(.int .i64 m9_0), (.int .i64 m9_1), (.list 1 m10z m10), (.list 1 m11z m11)])), (.t (.int .i64 (groups2.length : Int)))] ⟨[], []⟩) fun v_1 b_2 =>
 asT v_1 fun x_3 =>
 asI .i64 x_3 fun x_4 =>
 endB b_2 <|
(bif (!decide (x_4 = 0)) then
 some ((.tup [(.t (.agg [(.int .i64 0), (.int .i64 0), (.list 1 false []), (.list 1 false [])])), (.t (.int .i64 x_4))]), ⟨[], []⟩)
else
 some ((.tup [(.t (.agg [(.int .i64 m9_0), (.int .i64 m9_1), (.list 1 m10z m10), (.list 1 m11z m11)])), (.t (.int .i64 0))]), ⟨[], []⟩))
theorem J11_20g (KL11_5 KL11_15 KJ11_20 : Env → St → Option Res) (groups2z : Bool) (groups2 : List T) (m8_0 : Int) (m8_1 : Int) (m8_2z : Bool) (m8_2 : List T) (m8_3z : Bool) (m8_3 : List T) (m9_0 : Int) (m9_1 : Int) (m10z : Bool) (m10 : List T) (m11z : Bool) (m11 : List T) : codeT Try.prog hint 11 0 73 (Ta11 KL11_5 KL11_15 KJ11_20) PaJ11_20 (ctxT Try.prog hint 11 0 73 (Ta11 KL11_5 KL11_15 KJ11_20) [] (List.reverse PaJ11_20) (bodyOf Try.f11) (resKV Try.prog Try.f11 (hint.own 11 0))) [(2, (.t (.list 1 groups2z groups2))), (6, (.ptr 8 0 0)), (8, (.ptr 9 0 0))] ⟨[(8, (.var [(.t (.int .i64 m8_0)), (.t (.int .i64 m8_1)), (.t (.list 1 m8_2z m8_2)), (.t (.list 1 m8_3z m8_3))])), (9, (.var [(.t (.int .i64 m9_0)), (.t (.int .i64 m9_1)), (.buf 10), (.buf 11)])), (10, (.arr true 1 m10z m10)), (11, (.arr true 1 m11z m11))], []⟩ (nav (List.reverse PaJ11_20) (bodyOf Try.f11)) = RJ11_20 (fun groups2z groups2 t20z t20 t21 t22 m8_0 m8_1 m8_2z m8_2 m8_3z m8_3 m9_0 m9_1 m10z m10 m11z m11 => KL11_5 [(2, (.t (.list 1 groups2z groups2))), (6, (.ptr 8 0 0)), (8, (.ptr 9 0 0)), (20, (.t (.list 1 t20z t20))), (21, (.t (.int .i64 t21))), (22, (.t (.int .i64 t22)))] ⟨[(8, (.var [(.t (.int .i64 m8_0)), (.t (.int .i64 m8_1)), (.t (.list 1 m8_2z m8_2)), (.t (.list 1 m8_3z m8_3))])), (9, (.var [(.t (.int .i64 m9_0)), (.t (.int .i64 m9_1)), (.buf 10), (.buf 11)])), (10, (.arr true 1 m10z m10)), (11, (.arr true 1 m11z m11))], []⟩) (fun groups2z groups2 t44z t44 t45 t46 m8_0 m8_1 m8_2z m8_2 m8_3z m8_3 m9_0 m9_1 m10z m10 m11z m11 => KL11_15 [(2, (.t (.list 1 groups2z groups2))), (6, (.ptr 8 0 0)), (8, (.ptr 9 0 0)), (44, (.t (.list 1 t44z t44))), (45, (.t (.int .i64 t45))), (46, (.t (.int .i64 t46)))] ⟨[(8, (.var [(.t (.int .i64 m8_0)), (.t (.int .i64 m8_1)), (.t (.list 1 m8_2z m8_2)), (.t (.list 1 m8_3z m8_3))])), (9, (.var [(.t (.int .i64 m9_0)), (.t (.int .i64 m9_1)), (.buf 10), (.buf 11)])), (10, (.arr true 1 m10z m10)), (11, (.arr true 1 m11z m11))], []⟩) (fun groups2z groups2 m8_0 m8_1 m8_2z m8_2 m8_3z m8_3 m9_0 m9_1 m10z m10 m11z m11 => KJ11_20 [(2, (.t (.list 1 groups2z groups2))), (6, (.ptr 8 0 0)), (8, (.ptr 9 0 0))] ⟨[(8, (.var [(.t (.int .i64 m8_0)), (.t (.int .i64 m8_1)), (.t (.list 1 m8_2z m8_2)), (.t (.list 1 m8_3z m8_3))])), (9, (.var [(.t (.int .i64 m9_0)), (.t (.int .i64 m9_1)), (.buf 10), (.buf 11)])), (10, (.arr true 1 m10z m10)), (11, (.arr true 1 m11z m11))], []⟩) groups2z groups2 m8_0 m8_1 m8_2z m8_2 m8_3z m8_3 m9_0 m9_1 m10z m10 m11z m11 := by kernel_rfl
theorem J11_20_eq (groups2z : Bool) (groups2 : List T) (m8_0 : Int) (m8_1 : Int) (m8_2z : Bool) (m8_2 : List T) (m8_3z : Bool) (m8_3 : List T) (m9_0 : Int) (m9_1 : Int) (m10z : Bool) (m10 : List T) (m11z : Bool) (m11 : List T) : J11_20 groups2z groups2 m8_0 m8_1 m8_2z m8_2 m8_3z m8_3 m9_0 m9_1 m10z m10 m11z m11 = RJ11_20 L11_5 L11_15 J11_20 groups2z groups2 m8_0 m8_1 m8_2z m8_2 m8_3z m8_3 m9_0 m9_1 m10z m10 m11z m11 :=
  (join_eq Try.prog hint (fn := Try.f11) (nt := 73) (T := (Ta11 (fun e st => atV Try.prog hint 11 0 Try.f11 73 (List.reverse PaL11_5) e st) (fun e st => atV Try.prog hint 11 0 Try.f11 73 (List.reverse PaL11_15) e st) (fun e st => atV Try.prog hint 11 0 Try.f11 73 (List.reverse PaJ11_20) e st))) [PaL11_5, PaL11_15, PaJ11_20] rfl PaJ11_20 [(2, (.t (.list 1 groups2z groups2))), (6, (.ptr 8 0 0)), (8, (.ptr 9 0 0))] ⟨[(8, (.var [(.t (.int .i64 m8_0)), (.t (.int .i64 m8_1)), (.t (.list 1 m8_2z m8_2)), (.t (.list 1 m8_3z m8_3))])), (9, (.var [(.t (.int .i64 m9_0)), (.t (.int .i64 m9_1)), (.buf 10), (.buf 11)])), (10, (.arr true 1 m10z m10)), (11, (.arr true 1 m11z m11))], []⟩ rfl).trans (J11_20g (fun e st => atV Try.prog hint 11 0 Try.f11 73 (List.reverse PaL11_5) e st) (fun e st => atV Try.prog hint 11 0 Try.f11 73 (List.reverse PaL11_15) e st) (fun e st => atV Try.prog hint 11 0 Try.f11 73 (List.reverse PaJ11_20) e st) groups2z groups2 m8_0 m8_1 m8_2z m8_2 m8_3z m8_3 m9_0 m9_1 m10z m10 m11z m11)
noncomputable def R12  (a0_0 : Int) (a0_1 : Int) (a0_2z : Bool) (a0_2 : List T) (a0_3z : Bool) (a0_3 : List T) (a1_0 : Int) (a1_1 : Int) (a1_2z : Bool) (a1_2 : List T) (a1_3z : Bool) (a1_3 : List T) : Option Res :=
(bif (decide (a0_0 = a1_0)) then
(bif (decide (a0_1 = a1_1)) then
 callK (vr 16 0 [(.t (.list 1 a0_2z a0_2)), (.t (.list 1 a1_2z a1_2))] ⟨[], []⟩) fun v_1 b_2 =>
 asT v_1 fun x_3 =>
 asB x_3 fun b_4 =>
 endB b_2 <|
(bif b_4 then
 callK (vr 16 0 [(.t (.list 1 a0_3z a0_3)), (.t (.list 1 a1_3z a1_3))] ⟨[], []⟩) fun v_5 b_6 =>
 asT v_5 fun x_7 =>
 asB x_7 fun b_8 =>
 endB b_6 <|
 some ((.t (.bool b_8)), ⟨[], []⟩)
else
 some ((.t (.bool false)), ⟨[], []⟩))
else
 some ((.t (.bool false)), ⟨[], []⟩))
else
 some ((.t (.bool false)), ⟨[], []⟩))
theorem eq12g  (a0_0 : Int) (a0_1 : Int) (a0_2z : Bool) (a0_2 : List T) (a0_3z : Bool) (a0_3 : List T) (a1_0 : Int) (a1_1 : Int) (a1_2z : Bool) (a1_2 : List T) (a1_3z : Bool) (a1_3 : List T) : codeT Try.prog hint 12 0 31 [] [] (resKV Try.prog Try.f12 (hint.own 12 0)) (nrm hint 12 0 (bodyOf Try.f12) (envV [(.t (.agg [(.int .i64 a0_0), (.int .i64 a0_1), (.list 1 a0_2z a0_2), (.list 1 a0_3z a0_3)])), (.t (.agg [(.int .i64 a1_0), (.int .i64 a1_1), (.list 1 a1_2z a1_2), (.list 1 a1_3z a1_3)]))] 0) ⟨[], []⟩).1 (nrm hint 12 0 (bodyOf Try.f12) (envV [(.t (.agg [(.int .i64 a0_0), (.int .i64 a0_1), (.list 1 a0_2z a0_2), (.list 1 a0_3z a0_3)])), (.t (.agg [(.int .i64 a1_0), (.int .i64 a1_1), (.list 1 a1_2z a1_2), (.list 1 a1_3z a1_3)]))] 0) ⟨[], []⟩).2 (bodyOf Try.f12) = R12  a0_0 a0_1 a0_2z a0_2 a0_3z a0_3 a1_0 a1_1 a1_2z a1_2 a1_3z a1_3 := by kernel_rfl
/-- purfle/purfleref04.Same -/
theorem eq12 (a0_0 : Int) (a0_1 : Int) (a0_2z : Bool) (a0_2 : List T) (a0_3z : Bool) (a0_3 : List T) (a1_0 : Int) (a1_1 : Int) (a1_2z : Bool) (a1_2 : List T) (a1_3z : Bool) (a1_3 : List T) : vr 12 0 [(.t (.agg [(.int .i64 a0_0), (.int .i64 a0_1), (.list 1 a0_2z a0_2), (.list 1 a0_3z a0_3)])), (.t (.agg [(.int .i64 a1_0), (.int .i64 a1_1), (.list 1 a1_2z a1_2), (.list 1 a1_3z a1_3)]))] ⟨[], []⟩ = R12  a0_0 a0_1 a0_2z a0_2 a0_3z a0_3 a1_0 a1_1 a1_2z a1_2 a1_3z a1_3 :=
  (call_eq Try.prog hint (fn := Try.f12) (nt := 31) (T := []) [] rfl [(.t (.agg [(.int .i64 a0_0), (.int .i64 a0_1), (.list 1 a0_2z a0_2), (.list 1 a0_3z a0_3)])), (.t (.agg [(.int .i64 a1_0), (.int .i64 a1_1), (.list 1 a1_2z a1_2), (.list 1 a1_3z a1_3)]))] ⟨[], []⟩ rfl rfl rfl rfl rfl).trans (eq12g  a0_0 a0_1 a0_2z a0_2 a0_3z a0_3 a1_0 a1_1 a1_2z a1_2 a1_3z a1_3)
noncomputable def R3 (L3_4 : Int → Int → Bool → (List T) → Bool → Int → Bool → (List T) → Int → Int → Option Res) (L3_15 : Int → Int → Bool → (List T) → Bool → Int → Int → Int → Int → Int → Bool → (List T) → Bool → (List T) → Int → Int → Bool → (List T) → Bool → (List T) → Option Res) (a0 : Int) (a1 : Int) (a2z : Bool) (a2 : List T) : Option Res :=
 callK (vr 9 0 [] ⟨[], []⟩) fun v_1 b_2 =>
 asT v_1 fun x_3 =>
 asB x_3 fun b_4 =>
 endB b_2 <|
 L3_4 (a0) (a1) (a2z) (a2) (b_4) (0) (a2z) (a2) ((a2.length : Int)) (0)
theorem eq3g (KL3_4 KL3_15 : Env → St → Option Res) (a0 : Int) (a1 : Int) (a2z : Bool) (a2 : List T) : codeT Try.prog hint 3 0 93 (Ta3 KL3_4 KL3_15) [] (resKV Try.prog Try.f3 (hint.own 3 0)) (nrm hint 3 0 (bodyOf Try.f3) (envV [(.t (.int .i64 a0)), (.t (.int .i64 a1)), (.t (.list 1 a2z a2))] 0) ⟨[], []⟩).1 (nrm hint 3 0 (bodyOf Try.f3) (envV [(.t (.int .i64 a0)), (.t (.int .i64 a1)), (.t (.list 1 a2z a2))] 0) ⟨[], []⟩).2 (bodyOf Try.f3) = R3 (fun kind0 size1 groups2z groups2 up7 many8 t19z t19 t20 t21 => KL3_4 [(0, (.t (.int .i64 kind0))), (1, (.t (.int .i64 size1))), (2, (.t (.list 1 groups2z groups2))), (7, (.t (.bool up7))), (8, (.t (.int .i64 many8))), (19, (.t (.list 1 t19z t19))), (20, (.t (.int .i64 t20))), (21, (.t (.int .i64 t21)))] ⟨[], []⟩) (fun kind0 size1 groups2z groups2 up7 f14 t63 t64 m8_0 m8_1 m8_2z m8_2 m9z m9 m10_0 m10_1 m10_2z m10_2 m10_3z m10_3 => KL3_15 [(0, (.t (.int .i64 kind0))), (1, (.t (.int .i64 size1))), (2, (.t (.list 1 groups2z groups2))), (7, (.t (.bool up7))), (11, (.ptr 8 0 0)), (13, (.ptr 10 0 0)), (14, (.t (.int .i64 f14))), (63, (.t (.int .i64 t63))), (64, (.t (.int .i64 t64)))] ⟨[(8, (.var [(.t (.int .i64 m8_0)), (.t (.int .i64 m8_1)), (.t (.list 1 m8_2z m8_2)), (.buf 9)])), (9, (.arr true 1 m9z m9)), (10, (.var [(.t (.int .i64 m10_0)), (.t (.int .i64 m10_1)), (.t (.list 1 m10_2z m10_2)), (.t (.list 1 m10_3z m10_3))]))], []⟩) a0 a1 a2z a2 := by kernel_rfl
/-- purfle/purflelaw04.LevelMakes -/
theorem eq3 (a0 : Int) (a1 : Int) (a2z : Bool) (a2 : List T) : vr 3 0 [(.t (.int .i64 a0)), (.t (.int .i64 a1)), (.t (.list 1 a2z a2))] ⟨[], []⟩ = R3 L3_4 L3_15 a0 a1 a2z a2 :=
  (call_eq Try.prog hint (fn := Try.f3) (nt := 93) (T := (Ta3 (fun e st => atV Try.prog hint 3 0 Try.f3 93 (List.reverse PaL3_4) e st) (fun e st => atV Try.prog hint 3 0 Try.f3 93 (List.reverse PaL3_15) e st))) [PaL3_4, PaL3_15] rfl [(.t (.int .i64 a0)), (.t (.int .i64 a1)), (.t (.list 1 a2z a2))] ⟨[], []⟩ rfl rfl rfl rfl rfl).trans (eq3g (fun e st => atV Try.prog hint 3 0 Try.f3 93 (List.reverse PaL3_4) e st) (fun e st => atV Try.prog hint 3 0 Try.f3 93 (List.reverse PaL3_15) e st) a0 a1 a2z a2)
noncomputable def RL3_4 (L3_4 : Int → Int → Bool → (List T) → Bool → Int → Bool → (List T) → Int → Int → Option Res) (L3_15 : Int → Int → Bool → (List T) → Bool → Int → Int → Int → Int → Int → Bool → (List T) → Bool → (List T) → Int → Int → Bool → (List T) → Bool → (List T) → Option Res) (kind0 : Int) (size1 : Int) (groups2z : Bool) (groups2 : List T) (up7 : Bool) (many8 : Int) (t19z : Bool) (t19 : List T) (t20 : Int) (t21 : Int) : Option Res :=
(bif (decide (t21 < t20)) then
 needC (decide (0 ≤ t21)) fun _ =>
 getT t19 (t21).toNat fun e_1 =>
 asL 1 e_1 fun nn_2 l_3 =>
 L3_4 (kind0) (size1) (groups2z) (groups2) (up7) ((IntKind.i64.wrap (many8 + (l_3.length : Int)))) (t19z) (t19) (t20) ((IntKind.i64.wrap (t21 + 1)))
else
(bif (decide (70000 < many8)) then
 some ((.t (.bool up7)), ⟨[], []⟩)
else
(bif (decide (5000 < (groups2.length : Int))) then
 some ((.t (.bool up7)), ⟨[], []⟩)
else
 callK (vr 10 1 [(.t (.int .i64 kind0)), (.t (.int .i64 size1)), (.t (.list 1 groups2z groups2))] ⟨[], []⟩) fun v_4 b_5 =>
 asTup v_4 fun l_6 =>
 consV l_6 fun v_7 l_8 =>
 asG v_7 fun l_9 =>
 consV l_9 fun v_10 l_11 =>
 asT v_10 fun x_12 =>
 asI .i64 x_12 fun x_13 =>
 consV l_11 fun v_14 l_15 =>
 asT v_14 fun x_16 =>
 asI .i64 x_16 fun x_17 =>
 consV l_15 fun v_18 l_19 =>
 asT v_18 fun x_20 =>
 asL 1 x_20 fun nn_21 l_22 =>
 consV l_19 fun v_23 l_24 =>
 isBuf 500 v_23 <|
 endV l_24 <|
 consV l_8 fun v_25 l_26 =>
 asT v_25 fun x_27 =>
 asI .i64 x_27 fun x_28 =>
 endV l_26 <|
 consB 500 b_5 fun k_29 b_30 =>
 asArr 1 k_29 fun nn_31 l_32 =>
 endB b_30 <|
 callK (vr 11 0 [(.t (.int .i64 kind0)), (.t (.int .i64 size1)), (.t (.list 1 groups2z groups2))] ⟨[], []⟩) fun v_33 b_34 =>
 asTup v_33 fun l_35 =>
 consV l_35 fun v_36 l_37 =>
 asT v_36 fun x_38 =>
 asA x_38 fun l_39 =>
 consT l_39 fun v_40 l_41 =>
 asI .i64 v_40 fun x_42 =>
 consT l_41 fun v_43 l_44 =>
 asI .i64 v_43 fun x_45 =>
 consT l_44 fun v_46 l_47 =>
 asL 1 v_46 fun nn_48 l_49 =>
 consT l_47 fun v_50 l_51 =>
 asL 1 v_50 fun nn_52 l_53 =>
 endT l_51 <|
 consV l_37 fun v_54 l_55 =>
 asT v_54 fun x_56 =>
 asI .i64 x_56 fun x_57 =>
 endV l_55 <|
 endB b_34 <|
 callK (vr 12 0 [(.t (.agg [(.int .i64 x_13), (.int .i64 x_17), (.list 1 nn_21 l_22), (.list 1 nn_31 l_32)])), (.t (.agg [(.int .i64 x_42), (.int .i64 x_45), (.list 1 nn_48 l_49), (.list 1 nn_52 l_53)]))] ⟨[], []⟩) fun v_58 b_59 =>
 asT v_58 fun x_60 =>
 asB x_60 fun b_61 =>
 endB b_59 <|
(bif (!b_61) then
 some ((.t (.bool false)), ⟨[], []⟩)
else
(bif (!decide (x_28 = x_57)) then
 some ((.t (.bool false)), ⟨[], []⟩)
else
 L3_15 (kind0) (size1) (groups2z) (groups2) (up7) (x_57) ((l_32.length : Int)) (0) (x_13) (x_17) (nn_21) (l_22) (nn_31) (l_32) (x_42) (x_45) (nn_48) (l_49) (nn_52) (l_53))))))
theorem L3_4g (KL3_4 KL3_15 : Env → St → Option Res) (kind0 : Int) (size1 : Int) (groups2z : Bool) (groups2 : List T) (up7 : Bool) (many8 : Int) (t19z : Bool) (t19 : List T) (t20 : Int) (t21 : Int) : codeT Try.prog hint 3 0 93 (Ta3 KL3_4 KL3_15) (.lp :: PaL3_4) (ctxT Try.prog hint 3 0 93 (Ta3 KL3_4 KL3_15) [] (List.reverse (.lp :: PaL3_4)) (bodyOf Try.f3) (resKV Try.prog Try.f3 (hint.own 3 0))) [(0, (.t (.int .i64 kind0))), (1, (.t (.int .i64 size1))), (2, (.t (.list 1 groups2z groups2))), (7, (.t (.bool up7))), (8, (.t (.int .i64 many8))), (19, (.t (.list 1 t19z t19))), (20, (.t (.int .i64 t20))), (21, (.t (.int .i64 t21)))] ⟨[], []⟩ (nav (List.reverse (.lp :: PaL3_4)) (bodyOf Try.f3)) = RL3_4 (fun kind0 size1 groups2z groups2 up7 many8 t19z t19 t20 t21 => KL3_4 [(0, (.t (.int .i64 kind0))), (1, (.t (.int .i64 size1))), (2, (.t (.list 1 groups2z groups2))), (7, (.t (.bool up7))), (8, (.t (.int .i64 many8))), (19, (.t (.list 1 t19z t19))), (20, (.t (.int .i64 t20))), (21, (.t (.int .i64 t21)))] ⟨[], []⟩) (fun kind0 size1 groups2z groups2 up7 f14 t63 t64 m8_0 m8_1 m8_2z m8_2 m9z m9 m10_0 m10_1 m10_2z m10_2 m10_3z m10_3 => KL3_15 [(0, (.t (.int .i64 kind0))), (1, (.t (.int .i64 size1))), (2, (.t (.list 1 groups2z groups2))), (7, (.t (.bool up7))), (11, (.ptr 8 0 0)), (13, (.ptr 10 0 0)), (14, (.t (.int .i64 f14))), (63, (.t (.int .i64 t63))), (64, (.t (.int .i64 t64)))] ⟨[(8, (.var [(.t (.int .i64 m8_0)), (.t (.int .i64 m8_1)), (.t (.list 1 m8_2z m8_2)), (.buf 9)])), (9, (.arr true 1 m9z m9)), (10, (.var [(.t (.int .i64 m10_0)), (.t (.int .i64 m10_1)), (.t (.list 1 m10_2z m10_2)), (.t (.list 1 m10_3z m10_3))]))], []⟩) kind0 size1 groups2z groups2 up7 many8 t19z t19 t20 t21 := by kernel_rfl
theorem L3_4_eq (kind0 : Int) (size1 : Int) (groups2z : Bool) (groups2 : List T) (up7 : Bool) (many8 : Int) (t19z : Bool) (t19 : List T) (t20 : Int) (t21 : Int) : L3_4 kind0 size1 groups2z groups2 up7 many8 t19z t19 t20 t21 = RL3_4 L3_4 L3_15 kind0 size1 groups2z groups2 up7 many8 t19z t19 t20 t21 :=
  (round_eq Try.prog hint (b := (nav (List.reverse (.lp :: PaL3_4)) (bodyOf Try.f3))) (fn := Try.f3) (nt := 93) (T := (Ta3 (fun e st => atV Try.prog hint 3 0 Try.f3 93 (List.reverse PaL3_4) e st) (fun e st => atV Try.prog hint 3 0 Try.f3 93 (List.reverse PaL3_15) e st))) [PaL3_4, PaL3_15] rfl PaL3_4 [(0, (.t (.int .i64 kind0))), (1, (.t (.int .i64 size1))), (2, (.t (.list 1 groups2z groups2))), (7, (.t (.bool up7))), (8, (.t (.int .i64 many8))), (19, (.t (.list 1 t19z t19))), (20, (.t (.int .i64 t20))), (21, (.t (.int .i64 t21)))] ⟨[], []⟩ rfl rfl rfl).trans (L3_4g (fun e st => atV Try.prog hint 3 0 Try.f3 93 (List.reverse PaL3_4) e st) (fun e st => atV Try.prog hint 3 0 Try.f3 93 (List.reverse PaL3_15) e st) kind0 size1 groups2z groups2 up7 many8 t19z t19 t20 t21)
noncomputable def RL3_15 (L3_4 : Int → Int → Bool → (List T) → Bool → Int → Bool → (List T) → Int → Int → Option Res) (L3_15 : Int → Int → Bool → (List T) → Bool → Int → Int → Int → Int → Int → Bool → (List T) → Bool → (List T) → Int → Int → Bool → (List T) → Bool → (List T) → Option Res) (kind0 : Int) (size1 : Int) (groups2z : Bool) (groups2 : List T) (up7 : Bool) (f14 : Int) (t63 : Int) (t64 : Int) (m8_0 : Int) (m8_1 : Int) (m8_2z : Bool) (m8_2 : List T) (m9z : Bool) (m9 : List T) (m10_0 : Int) (m10_1 : Int) (m10_2z : Bool) (m10_2 : List T) (m10_3z : Bool) (m10_3 : List T) : Option Res :=
(bif (decide (t64 < t63)) then
 needC (decide (0 ≤ t64) && decide (t64 < (m9.length : Int))) fun _ =>
 getT m9 ((t64).toNat) fun e_1 =>
 asI .i64 e_1 fun x_2 =>
 needC (decide (0 ≤ t64) && decide (t64 < (m9.length : Int))) fun _ =>
 needC (m9z && true) fun _ =>
 setT m9 ((t64).toNat) (.int .i64 (IntKind.i64.wrap (x_2 + 100))) fun l_3 =>
 L3_15 (kind0) (size1) (groups2z) (groups2) (up7) (f14) (t63) ((IntKind.i64.wrap (t64 + 1))) (m8_0) (m8_1) (m8_2z) (m8_2) (m9z) (l_3) (m10_0) (m10_1) (m10_2z) (m10_2) (m10_3z) (m10_3)
else
 callK (vr 11 0 [(.t (.int .i64 kind0)), (.t (.int .i64 size1)), (.t (.list 1 groups2z groups2))] ⟨[], []⟩) fun v_4 b_5 =>
 asTup v_4 fun l_6 =>
 consV l_6 fun v_7 l_8 =>
 asT v_7 fun x_9 =>
 asA x_9 fun l_10 =>
 consT l_10 fun v_11 l_12 =>
 asI .i64 v_11 fun x_13 =>
 consT l_12 fun v_14 l_15 =>
 asI .i64 v_14 fun x_16 =>
 consT l_15 fun v_17 l_18 =>
 asL 1 v_17 fun nn_19 l_20 =>
 consT l_18 fun v_21 l_22 =>
 asL 1 v_21 fun nn_23 l_24 =>
 endT l_22 <|
 consV l_8 fun v_25 l_26 =>
 asT v_25 fun x_27 =>
 asI .i64 x_27 fun x_28 =>
 endV l_26 <|
 endB b_5 <|
(bif up7 then
 callK (vr 12 0 [(.t (.agg [(.int .i64 x_13), (.int .i64 x_16), (.list 1 nn_19 l_20), (.list 1 nn_23 l_24)])), (.t (.agg [(.int .i64 m10_0), (.int .i64 m10_1), (.list 1 m10_2z m10_2), (.list 1 m10_3z m10_3)]))] ⟨[], []⟩) fun v_29 b_30 =>
 asT v_29 fun x_31 =>
 asB x_31 fun b_32 =>
 endB b_30 <|
(bif b_32 then
 some ((.t (.bool (decide (x_28 = f14)))), ⟨[], []⟩)
else
 some ((.t (.bool false)), ⟨[], []⟩))
else
 some ((.t (.bool false)), ⟨[], []⟩)))
theorem L3_15g (KL3_4 KL3_15 : Env → St → Option Res) (kind0 : Int) (size1 : Int) (groups2z : Bool) (groups2 : List T) (up7 : Bool) (f14 : Int) (t63 : Int) (t64 : Int) (m8_0 : Int) (m8_1 : Int) (m8_2z : Bool) (m8_2 : List T) (m9z : Bool) (m9 : List T) (m10_0 : Int) (m10_1 : Int) (m10_2z : Bool) (m10_2 : List T) (m10_3z : Bool) (m10_3 : List T) : codeT Try.prog hint 3 0 93 (Ta3 KL3_4 KL3_15) (.lp :: PaL3_15) (ctxT Try.prog hint 3 0 93 (Ta3 KL3_4 KL3_15) [] (List.reverse (.lp :: PaL3_15)) (bodyOf Try.f3) (resKV Try.prog Try.f3 (hint.own 3 0))) [(0, (.t (.int .i64 kind0))), (1, (.t (.int .i64 size1))), (2, (.t (.list 1 groups2z groups2))), (7, (.t (.bool up7))), (11, (.ptr 8 0 0)), (13, (.ptr 10 0 0)), (14, (.t (.int .i64 f14))), (63, (.t (.int .i64 t63))), (64, (.t (.int .i64 t64)))] ⟨[(8, (.var [(.t (.int .i64 m8_0)), (.t (.int .i64 m8_1)), (.t (.list 1 m8_2z m8_2)), (.buf 9)])), (9, (.arr true 1 m9z m9)), (10, (.var [(.t (.int .i64 m10_0)), (.t (.int .i64 m10_1)), (.t (.list 1 m10_2z m10_2)), (.t (.list 1 m10_3z m10_3))]))], []⟩ (nav (List.reverse (.lp :: PaL3_15)) (bodyOf Try.f3)) = RL3_15 (fun kind0 size1 groups2z groups2 up7 many8 t19z t19 t20 t21 => KL3_4 [(0, (.t (.int .i64 kind0))), (1, (.t (.int .i64 size1))), (2, (.t (.list 1 groups2z groups2))), (7, (.t (.bool up7))), (8, (.t (.int .i64 many8))), (19, (.t (.list 1 t19z t19))), (20, (.t (.int .i64 t20))), (21, (.t (.int .i64 t21)))] ⟨[], []⟩) (fun kind0 size1 groups2z groups2 up7 f14 t63 t64 m8_0 m8_1 m8_2z m8_2 m9z m9 m10_0 m10_1 m10_2z m10_2 m10_3z m10_3 => KL3_15 [(0, (.t (.int .i64 kind0))), (1, (.t (.int .i64 size1))), (2, (.t (.list 1 groups2z groups2))), (7, (.t (.bool up7))), (11, (.ptr 8 0 0)), (13, (.ptr 10 0 0)), (14, (.t (.int .i64 f14))), (63, (.t (.int .i64 t63))), (64, (.t (.int .i64 t64)))] ⟨[(8, (.var [(.t (.int .i64 m8_0)), (.t (.int .i64 m8_1)), (.t (.list 1 m8_2z m8_2)), (.buf 9)])), (9, (.arr true 1 m9z m9)), (10, (.var [(.t (.int .i64 m10_0)), (.t (.int .i64 m10_1)), (.t (.list 1 m10_2z m10_2)), (.t (.list 1 m10_3z m10_3))]))], []⟩) kind0 size1 groups2z groups2 up7 f14 t63 t64 m8_0 m8_1 m8_2z m8_2 m9z m9 m10_0 m10_1 m10_2z m10_2 m10_3z m10_3 := by kernel_rfl
theorem L3_15_eq (kind0 : Int) (size1 : Int) (groups2z : Bool) (groups2 : List T) (up7 : Bool) (f14 : Int) (t63 : Int) (t64 : Int) (m8_0 : Int) (m8_1 : Int) (m8_2z : Bool) (m8_2 : List T) (m9z : Bool) (m9 : List T) (m10_0 : Int) (m10_1 : Int) (m10_2z : Bool) (m10_2 : List T) (m10_3z : Bool) (m10_3 : List T) : L3_15 kind0 size1 groups2z groups2 up7 f14 t63 t64 m8_0 m8_1 m8_2z m8_2 m9z m9 m10_0 m10_1 m10_2z m10_2 m10_3z m10_3 = RL3_15 L3_4 L3_15 kind0 size1 groups2z groups2 up7 f14 t63 t64 m8_0 m8_1 m8_2z m8_2 m9z m9 m10_0 m10_1 m10_2z m10_2 m10_3z m10_3 :=
  (round_eq Try.prog hint (b := (nav (List.reverse (.lp :: PaL3_15)) (bodyOf Try.f3))) (fn := Try.f3) (nt := 93) (T := (Ta3 (fun e st => atV Try.prog hint 3 0 Try.f3 93 (List.reverse PaL3_4) e st) (fun e st => atV Try.prog hint 3 0 Try.f3 93 (List.reverse PaL3_15) e st))) [PaL3_4, PaL3_15] rfl PaL3_15 [(0, (.t (.int .i64 kind0))), (1, (.t (.int .i64 size1))), (2, (.t (.list 1 groups2z groups2))), (7, (.t (.bool up7))), (11, (.ptr 8 0 0)), (13, (.ptr 10 0 0)), (14, (.t (.int .i64 f14))), (63, (.t (.int .i64 t63))), (64, (.t (.int .i64 t64)))] ⟨[(8, (.var [(.t (.int .i64 m8_0)), (.t (.int .i64 m8_1)), (.t (.list 1 m8_2z m8_2)), (.buf 9)])), (9, (.arr true 1 m9z m9)), (10, (.var [(.t (.int .i64 m10_0)), (.t (.int .i64 m10_1)), (.t (.list 1 m10_2z m10_2)), (.t (.list 1 m10_3z m10_3))]))], []⟩ rfl rfl rfl).trans (L3_15g (fun e st => atV Try.prog hint 3 0 Try.f3 93 (List.reverse PaL3_4) e st) (fun e st => atV Try.prog hint 3 0 Try.f3 93 (List.reverse PaL3_15) e st) kind0 size1 groups2z groups2 up7 f14 t63 t64 m8_0 m8_1 m8_2z m8_2 m9z m9 m10_0 m10_1 m10_2z m10_2 m10_3z m10_3)
noncomputable def R30  (a0_0 : Int) (a0_1 : Int) (a0_2z : Bool) (a0_2 : List T) (a0_3z : Bool) (a0_3 : List T) (a1 : Int) (a2 : Int) : Option Res :=
 callK (vr 19 0 [(.t (.agg [(.int .i64 a0_0), (.int .i64 a0_1), (.list 1 a0_2z a0_2), (.list 1 a0_3z a0_3)])), (.t (.int .i64 a1))] ⟨[], []⟩) fun v_1 b_2 =>
 asT v_1 fun x_3 =>
 asI .i64 x_3 fun x_4 =>
 endB b_2 <|
(bif (!decide (x_4 = 0)) then
 some ((.t (.int .i64 x_4)), ⟨[], []⟩)
else
(bif (decide (a2 < 0)) then
 some ((.t (.int .i64 5)), ⟨[], []⟩)
else
(bif (decide (a1 ≤ a2)) then
 some ((.t (.int .i64 5)), ⟨[], []⟩)
else
 some ((.t (.int .i64 0)), ⟨[], []⟩))))
theorem eq30g  (a0_0 : Int) (a0_1 : Int) (a0_2z : Bool) (a0_2 : List T) (a0_3z : Bool) (a0_3 : List T) (a1 : Int) (a2 : Int) : codeT Try.prog hint 30 0 21 [] [] (resKV Try.prog Try.f30 (hint.own 30 0)) (nrm hint 30 0 (bodyOf Try.f30) (envV [(.t (.agg [(.int .i64 a0_0), (.int .i64 a0_1), (.list 1 a0_2z a0_2), (.list 1 a0_3z a0_3)])), (.t (.int .i64 a1)), (.t (.int .i64 a2))] 0) ⟨[], []⟩).1 (nrm hint 30 0 (bodyOf Try.f30) (envV [(.t (.agg [(.int .i64 a0_0), (.int .i64 a0_1), (.list 1 a0_2z a0_2), (.list 1 a0_3z a0_3)])), (.t (.int .i64 a1)), (.t (.int .i64 a2))] 0) ⟨[], []⟩).2 (bodyOf Try.f30) = R30  a0_0 a0_1 a0_2z a0_2 a0_3z a0_3 a1 a2 := by kernel_rfl
/-- purfle/level.ready -/
theorem eq30 (a0_0 : Int) (a0_1 : Int) (a0_2z : Bool) (a0_2 : List T) (a0_3z : Bool) (a0_3 : List T) (a1 : Int) (a2 : Int) : vr 30 0 [(.t (.agg [(.int .i64 a0_0), (.int .i64 a0_1), (.list 1 a0_2z a0_2), (.list 1 a0_3z a0_3)])), (.t (.int .i64 a1)), (.t (.int .i64 a2))] ⟨[], []⟩ = R30  a0_0 a0_1 a0_2z a0_2 a0_3z a0_3 a1 a2 :=
  (call_eq Try.prog hint (fn := Try.f30) (nt := 21) (T := []) [] rfl [(.t (.agg [(.int .i64 a0_0), (.int .i64 a0_1), (.list 1 a0_2z a0_2), (.list 1 a0_3z a0_3)])), (.t (.int .i64 a1)), (.t (.int .i64 a2))] ⟨[], []⟩ rfl rfl rfl rfl rfl).trans (eq30g  a0_0 a0_1 a0_2z a0_2 a0_3z a0_3 a1 a2)
noncomputable def R31 (J31_7 : Int → Int → Int → Bool → (List T) → Bool → (List T) → Option Res) (a0_0 : Int) (a0_1 : Int) (a0_2z : Bool) (a0_2 : List T) (a0_3z : Bool) (a0_3 : List T) (a1 : Int) : Option Res :=
(bif (decide (a0_0 = 1)) then
 needC (decide (0 ≤ a1)) fun _ =>
 getT a0_2 (a1).toNat fun e_1 =>
 asI .i64 e_1 fun x_2 =>
 needC (decide (0 ≤ (IntKind.i64.wrap (a1 + 1)))) fun _ =>
 getT a0_2 ((IntKind.i64.wrap (a1 + 1))).toNat fun e_3 =>
 asI .i64 e_3 fun x_4 =>
 some ((.tup [(.t (.int .i64 x_2)), (.t (.int .i64 x_4))]), ⟨[], []⟩)
else
(bif (decide (a0_0 = 2)) then
 needC (decide (0 ≤ a1)) fun _ =>
 getT a0_2 (a1).toNat fun e_5 =>
 asI .i64 e_5 fun x_6 =>
 needC (decide (0 ≤ (IntKind.i64.wrap (a1 + 1)))) fun _ =>
 getT a0_2 ((IntKind.i64.wrap (a1 + 1))).toNat fun e_7 =>
 asI .i64 e_7 fun x_8 =>
 some ((.tup [(.t (.int .i64 x_6)), (.t (.int .i64 x_8))]), ⟨[], []⟩)
else
(bif (decide (a0_0 = 3)) then
 some ((.tup [(.t (.int .i64 a1)), (.t (.int .i64 (IntKind.i64.wrap (a1 + 1))))]), ⟨[], []⟩)
else
 J31_7 (a1) (a0_0) (a0_1) (a0_2z) (a0_2) (a0_3z) (a0_3))))
theorem eq31g (KJ31_7 : Env → St → Option Res) (a0_0 : Int) (a0_1 : Int) (a0_2z : Bool) (a0_2 : List T) (a0_3z : Bool) (a0_3 : List T) (a1 : Int) : codeT Try.prog hint 31 0 36 (Ta31 KJ31_7) [] (resKV Try.prog Try.f31 (hint.own 31 0)) (nrm hint 31 0 (bodyOf Try.f31) (envV [(.t (.agg [(.int .i64 a0_0), (.int .i64 a0_1), (.list 1 a0_2z a0_2), (.list 1 a0_3z a0_3)])), (.t (.int .i64 a1))] 0) ⟨[], []⟩).1 (nrm hint 31 0 (bodyOf Try.f31) (envV [(.t (.agg [(.int .i64 a0_0), (.int .i64 a0_1), (.list 1 a0_2z a0_2), (.list 1 a0_3z a0_3)])), (.t (.int .i64 a1))] 0) ⟨[], []⟩).2 (bodyOf Try.f31) = R31 (fun p1 m8_0 m8_1 m8_2z m8_2 m8_3z m8_3 => KJ31_7 [(1, (.t (.int .i64 p1))), (2, (.ptr 8 0 0))] ⟨[(8, (.var [(.t (.int .i64 m8_0)), (.t (.int .i64 m8_1)), (.t (.list 1 m8_2z m8_2)), (.t (.list 1 m8_3z m8_3))]))], []⟩) a0_0 a0_1 a0_2z a0_2 a0_3z a0_3 a1 := by kernel_rfl
/-- purfle/level.segment -/
theorem eq31 (a0_0 : Int) (a0_1 : Int) (a0_2z : Bool) (a0_2 : List T) (a0_3z : Bool) (a0_3 : List T) (a1 : Int) : vr 31 0 [(.t (.agg [(.int .i64 a0_0), (.int .i64 a0_1), (.list 1 a0_2z a0_2), (.list 1 a0_3z a0_3)])), (.t (.int .i64 a1))] ⟨[], []⟩ = R31 J31_7 a0_0 a0_1 a0_2z a0_2 a0_3z a0_3 a1 :=
  (call_eq Try.prog hint (fn := Try.f31) (nt := 36) (T := (Ta31 (fun e st => atV Try.prog hint 31 0 Try.f31 36 (List.reverse PaJ31_7) e st))) [PaJ31_7] rfl [(.t (.agg [(.int .i64 a0_0), (.int .i64 a0_1), (.list 1 a0_2z a0_2), (.list 1 a0_3z a0_3)])), (.t (.int .i64 a1))] ⟨[], []⟩ rfl rfl rfl rfl rfl).trans (eq31g (fun e st => atV Try.prog hint 31 0 Try.f31 36 (List.reverse PaJ31_7) e st) a0_0 a0_1 a0_2z a0_2 a0_3z a0_3 a1)
noncomputable def RJ31_7 (J31_7 : Int → Int → Int → Bool → (List T) → Bool → (List T) → Option Res) (p1 : Int) (m8_0 : Int) (m8_1 : Int) (m8_2z : Bool) (m8_2 : List T) (m8_3z : Bool) (m8_3 : List T) : Option Res :=
 some ((.tup [(.t (.int .i64 (IntKind.i64.wrap (p1 * m8_1)))), (.t (.int .i64 (IntKind.i64.wrap ((IntKind.i64.wrap (p1 + 1)) * m8_1))))]), ⟨[], []⟩)
theorem J31_7g (KJ31_7 : Env → St → Option Res) (p1 : Int) (m8_0 : Int) (m8_1 : Int) (m8_2z : Bool) (m8_2 : List T) (m8_3z : Bool) (m8_3 : List T) : codeT Try.prog hint 31 0 36 (Ta31 KJ31_7) PaJ31_7 (ctxT Try.prog hint 31 0 36 (Ta31 KJ31_7) [] (List.reverse PaJ31_7) (bodyOf Try.f31) (resKV Try.prog Try.f31 (hint.own 31 0))) [(1, (.t (.int .i64 p1))), (2, (.ptr 8 0 0))] ⟨[(8, (.var [(.t (.int .i64 m8_0)), (.t (.int .i64 m8_1)), (.t (.list 1 m8_2z m8_2)), (.t (.list 1 m8_3z m8_3))]))], []⟩ (nav (List.reverse PaJ31_7) (bodyOf Try.f31)) = RJ31_7 (fun p1 m8_0 m8_1 m8_2z m8_2 m8_3z m8_3 => KJ31_7 [(1, (.t (.int .i64 p1))), (2, (.ptr 8 0 0))] ⟨[(8, (.var [(.t (.int .i64 m8_0)), (.t (.int .i64 m8_1)), (.t (.list 1 m8_2z m8_2)), (.t (.list 1 m8_3z m8_3))]))], []⟩) p1 m8_0 m8_1 m8_2z m8_2 m8_3z m8_3 := by kernel_rfl
theorem J31_7_eq (p1 : Int) (m8_0 : Int) (m8_1 : Int) (m8_2z : Bool) (m8_2 : List T) (m8_3z : Bool) (m8_3 : List T) : J31_7 p1 m8_0 m8_1 m8_2z m8_2 m8_3z m8_3 = RJ31_7 J31_7 p1 m8_0 m8_1 m8_2z m8_2 m8_3z m8_3 :=
  (join_eq Try.prog hint (fn := Try.f31) (nt := 36) (T := (Ta31 (fun e st => atV Try.prog hint 31 0 Try.f31 36 (List.reverse PaJ31_7) e st))) [PaJ31_7] rfl PaJ31_7 [(1, (.t (.int .i64 p1))), (2, (.ptr 8 0 0))] ⟨[(8, (.var [(.t (.int .i64 m8_0)), (.t (.int .i64 m8_1)), (.t (.list 1 m8_2z m8_2)), (.t (.list 1 m8_3z m8_3))]))], []⟩ rfl).trans (J31_7g (fun e st => atV Try.prog hint 31 0 Try.f31 36 (List.reverse PaJ31_7) e st) p1 m8_0 m8_1 m8_2z m8_2 m8_3z m8_3)
noncomputable def R15 (L15_7 : Int → Int → Int → Int → Int → Bool → (List T) → Bool → (List T) → Bool → (List T) → Option Res) (J15_12 : Int → Int → Int → Int → Int → Int → Bool → (List T) → Bool → (List T) → Bool → (List T) → Option Res) (a0_0 : Int) (a0_1 : Int) (a0_2z : Bool) (a0_2 : List T) (a0_3z : Bool) (a0_3 : List T) (a1 : Int) (a2 : Int) : Option Res :=
 callK (vr 30 0 [(.t (.agg [(.int .i64 a0_0), (.int .i64 a0_1), (.list 1 a0_2z a0_2), (.list 1 a0_3z a0_3)])), (.t (.int .i64 a1)), (.t (.int .i64 a2))] ⟨[], []⟩) fun v_1 b_2 =>
 asT v_1 fun x_3 =>
 asI .i64 x_3 fun x_4 =>
 endB b_2 <|
(bif (!decide (x_4 = 0)) then
 some ((.tup [(.t (.list 2 false [])), (.t (.int .i64 x_4))]), ⟨[], []⟩)
else
 callK (vr 31 0 [(.t (.agg [(.int .i64 a0_0), (.int .i64 a0_1), (.list 1 a0_2z a0_2), (.list 1 a0_3z a0_3)])), (.t (.int .i64 a2))] ⟨[], []⟩) fun v_5 b_6 =>
 asTup v_5 fun l_7 =>
 consV l_7 fun v_8 l_9 =>
 asT v_8 fun x_10 =>
 asI .i64 x_10 fun x_11 =>
 consV l_9 fun v_12 l_13 =>
 asT v_12 fun x_14 =>
 asI .i64 x_14 fun x_15 =>
 endV l_13 <|
 endB b_6 <|
 needC (decide (0 ≤ 0) && decide ((0 : Int) ≤ (IntKind.i64.wrap (x_15 - x_11))) && decide ((IntKind.i64.wrap (x_15 - x_11)) * (16 + 1) ≤ 70368744177664)) fun _ =>
 L15_7 (x_11) (x_15) (x_11) (a0_0) (a0_1) (a0_2z) (a0_2) (a0_3z) (a0_3) (true) ((List.replicate ((0 : Int)).toNat (.agg [(.int .i64 0), (.int .i64 0)]))))
theorem eq15g (KL15_7 KJ15_12 : Env → St → Option Res) (a0_0 : Int) (a0_1 : Int) (a0_2z : Bool) (a0_2 : List T) (a0_3z : Bool) (a0_3 : List T) (a1 : Int) (a2 : Int) : codeT Try.prog hint 15 0 55 (Ta15 KL15_7 KJ15_12) [] (resKV Try.prog Try.f15 (hint.own 15 0)) (nrm hint 15 0 (bodyOf Try.f15) (envV [(.t (.agg [(.int .i64 a0_0), (.int .i64 a0_1), (.list 1 a0_2z a0_2), (.list 1 a0_3z a0_3)])), (.t (.int .i64 a1)), (.t (.int .i64 a2))] 0) ⟨[], []⟩).1 (nrm hint 15 0 (bodyOf Try.f15) (envV [(.t (.agg [(.int .i64 a0_0), (.int .i64 a0_1), (.list 1 a0_2z a0_2), (.list 1 a0_3z a0_3)])), (.t (.int .i64 a1)), (.t (.int .i64 a2))] 0) ⟨[], []⟩).2 (bodyOf Try.f15) = R15 (fun from9 to10 n12 m8_0 m8_1 m8_2z m8_2 m8_3z m8_3 m9z m9 => KL15_7 [(3, (.ptr 8 0 0)), (9, (.t (.int .i64 from9))), (10, (.t (.int .i64 to10))), (11, (.buf 9)), (12, (.t (.int .i64 n12)))] ⟨[(8, (.var [(.t (.int .i64 m8_0)), (.t (.int .i64 m8_1)), (.t (.list 1 m8_2z m8_2)), (.t (.list 1 m8_3z m8_3))])), (9, (.arr true 2 m9z m9))], []⟩) (fun from9 to10 n12 at13 m8_0 m8_1 m8_2z m8_2 m8_3z m8_3 m9z m9 => KJ15_12 [(3, (.ptr 8 0 0)), (9, (.t (.int .i64 from9))), (10, (.t (.int .i64 to10))), (11, (.buf 9)), (12, (.t (.int .i64 n12))), (13, (.t (.int .i64 at13)))] ⟨[(8, (.var [(.t (.int .i64 m8_0)), (.t (.int .i64 m8_1)), (.t (.list 1 m8_2z m8_2)), (.t (.list 1 m8_3z m8_3))])), (9, (.arr true 2 m9z m9))], []⟩) a0_0 a0_1 a0_2z a0_2 a0_3z a0_3 a1 a2 := by kernel_rfl
/-- purfle/level.Children -/
theorem eq15 (a0_0 : Int) (a0_1 : Int) (a0_2z : Bool) (a0_2 : List T) (a0_3z : Bool) (a0_3 : List T) (a1 : Int) (a2 : Int) : vr 15 0 [(.t (.agg [(.int .i64 a0_0), (.int .i64 a0_1), (.list 1 a0_2z a0_2), (.list 1 a0_3z a0_3)])), (.t (.int .i64 a1)), (.t (.int .i64 a2))] ⟨[], []⟩ = R15 L15_7 J15_12 a0_0 a0_1 a0_2z a0_2 a0_3z a0_3 a1 a2 :=
  (call_eq Try.prog hint (fn := Try.f15) (nt := 55) (T := (Ta15 (fun e st => atV Try.prog hint 15 0 Try.f15 55 (List.reverse PaL15_7) e st) (fun e st => atV Try.prog hint 15 0 Try.f15 55 (List.reverse PaJ15_12) e st))) [PaL15_7, PaJ15_12] rfl [(.t (.agg [(.int .i64 a0_0), (.int .i64 a0_1), (.list 1 a0_2z a0_2), (.list 1 a0_3z a0_3)])), (.t (.int .i64 a1)), (.t (.int .i64 a2))] ⟨[], []⟩ rfl rfl rfl rfl rfl).trans (eq15g (fun e st => atV Try.prog hint 15 0 Try.f15 55 (List.reverse PaL15_7) e st) (fun e st => atV Try.prog hint 15 0 Try.f15 55 (List.reverse PaJ15_12) e st) a0_0 a0_1 a0_2z a0_2 a0_3z a0_3 a1 a2)
noncomputable def RL15_7 (L15_7 : Int → Int → Int → Int → Int → Bool → (List T) → Bool → (List T) → Bool → (List T) → Option Res) (J15_12 : Int → Int → Int → Int → Int → Int → Bool → (List T) → Bool → (List T) → Bool → (List T) → Option Res) (from9 : Int) (to10 : Int) (n12 : Int) (m8_0 : Int) (m8_1 : Int) (m8_2z : Bool) (m8_2 : List T) (m8_3z : Bool) (m8_3 : List T) (m9z : Bool) (m9 : List T) : Option Res :=
(bif (decide (n12 < to10)) then
 callK (vr 14 0 [(.t (.agg [(.int .i64 m8_0), (.int .i64 m8_1), (.list 1 m8_2z m8_2), (.list 1 m8_3z m8_3)]))] ⟨[], []⟩) fun v_1 b_2 =>
 asT v_1 fun x_3 =>
 asB x_3 fun b_4 =>
 endB b_2 <|
(bif (!b_4) then
 needC (decide (0 ≤ n12)) fun _ =>
 getT m8_3 (n12).toNat fun e_5 =>
 asI .i64 e_5 fun x_6 =>
 J15_12 (from9) (to10) (n12) (x_6) (m8_0) (m8_1) (m8_2z) (m8_2) (m8_3z) (m8_3) (m9z) (m9)
else
 J15_12 (from9) (to10) (n12) ((IntKind.i64.wrap (n12 - from9))) (m8_0) (m8_1) (m8_2z) (m8_2) (m8_3z) (m8_3) (m9z) (m9))
else
 some ((.tup [(.t (.list 2 m9z m9)), (.t (.int .i64 0))]), ⟨[], []⟩))
theorem L15_7g (KL15_7 KJ15_12 : Env → St → Option Res) (from9 : Int) (to10 : Int) (n12 : Int) (m8_0 : Int) (m8_1 : Int) (m8_2z : Bool) (m8_2 : List T) (m8_3z : Bool) (m8_3 : List T) (m9z : Bool) (m9 : List T) : codeT Try.prog hint 15 0 55 (Ta15 KL15_7 KJ15_12) (.lp :: PaL15_7) (ctxT Try.prog hint 15 0 55 (Ta15 KL15_7 KJ15_12) [] (List.reverse (.lp :: PaL15_7)) (bodyOf Try.f15) (resKV Try.prog Try.f15 (hint.own 15 0))) [(3, (.ptr 8 0 0)), (9, (.t (.int .i64 from9))), (10, (.t (.int .i64 to10))), (11, (.buf 9)), (12, (.t (.int .i64 n12)))] ⟨[(8, (.var [(.t (.int .i64 m8_0)), (.t (.int .i64 m8_1)), (.t (.list 1 m8_2z m8_2)), (.t (.list 1 m8_3z m8_3))])), (9, (.arr true 2 m9z m9))], []⟩ (nav (List.reverse (.lp :: PaL15_7)) (bodyOf Try.f15)) = RL15_7 (fun from9 to10 n12 m8_0 m8_1 m8_2z m8_2 m8_3z m8_3 m9z m9 => KL15_7 [(3, (.ptr 8 0 0)), (9, (.t (.int .i64 from9))), (10, (.t (.int .i64 to10))), (11, (.buf 9)), (12, (.t (.int .i64 n12)))] ⟨[(8, (.var [(.t (.int .i64 m8_0)), (.t (.int .i64 m8_1)), (.t (.list 1 m8_2z m8_2)), (.t (.list 1 m8_3z m8_3))])), (9, (.arr true 2 m9z m9))], []⟩) (fun from9 to10 n12 at13 m8_0 m8_1 m8_2z m8_2 m8_3z m8_3 m9z m9 => KJ15_12 [(3, (.ptr 8 0 0)), (9, (.t (.int .i64 from9))), (10, (.t (.int .i64 to10))), (11, (.buf 9)), (12, (.t (.int .i64 n12))), (13, (.t (.int .i64 at13)))] ⟨[(8, (.var [(.t (.int .i64 m8_0)), (.t (.int .i64 m8_1)), (.t (.list 1 m8_2z m8_2)), (.t (.list 1 m8_3z m8_3))])), (9, (.arr true 2 m9z m9))], []⟩) from9 to10 n12 m8_0 m8_1 m8_2z m8_2 m8_3z m8_3 m9z m9 := by kernel_rfl
theorem L15_7_eq (from9 : Int) (to10 : Int) (n12 : Int) (m8_0 : Int) (m8_1 : Int) (m8_2z : Bool) (m8_2 : List T) (m8_3z : Bool) (m8_3 : List T) (m9z : Bool) (m9 : List T) : L15_7 from9 to10 n12 m8_0 m8_1 m8_2z m8_2 m8_3z m8_3 m9z m9 = RL15_7 L15_7 J15_12 from9 to10 n12 m8_0 m8_1 m8_2z m8_2 m8_3z m8_3 m9z m9 :=
  (round_eq Try.prog hint (b := (nav (List.reverse (.lp :: PaL15_7)) (bodyOf Try.f15))) (fn := Try.f15) (nt := 55) (T := (Ta15 (fun e st => atV Try.prog hint 15 0 Try.f15 55 (List.reverse PaL15_7) e st) (fun e st => atV Try.prog hint 15 0 Try.f15 55 (List.reverse PaJ15_12) e st))) [PaL15_7, PaJ15_12] rfl PaL15_7 [(3, (.ptr 8 0 0)), (9, (.t (.int .i64 from9))), (10, (.t (.int .i64 to10))), (11, (.buf 9)), (12, (.t (.int .i64 n12)))] ⟨[(8, (.var [(.t (.int .i64 m8_0)), (.t (.int .i64 m8_1)), (.t (.list 1 m8_2z m8_2)), (.t (.list 1 m8_3z m8_3))])), (9, (.arr true 2 m9z m9))], []⟩ rfl rfl rfl).trans (L15_7g (fun e st => atV Try.prog hint 15 0 Try.f15 55 (List.reverse PaL15_7) e st) (fun e st => atV Try.prog hint 15 0 Try.f15 55 (List.reverse PaJ15_12) e st) from9 to10 n12 m8_0 m8_1 m8_2z m8_2 m8_3z m8_3 m9z m9)
noncomputable def RJ15_12 (L15_7 : Int → Int → Int → Int → Int → Bool → (List T) → Bool → (List T) → Bool → (List T) → Option Res) (J15_12 : Int → Int → Int → Int → Int → Int → Bool → (List T) → Bool → (List T) → Bool → (List T) → Option Res) (from9 : Int) (to10 : Int) (n12 : Int) (at13 : Int) (m8_0 : Int) (m8_1 : Int) (m8_2z : Bool) (m8_2 : List T) (m8_3z : Bool) (m8_3 : List T) (m9z : Bool) (m9 : List T) : Option Res :=
 needC (decide ((m9.length + 1) * (16 + 1) ≤ 70368744177664) && decide (16 ≤ 1048576)) fun _ =>
 L15_7 (from9) (to10) ((IntKind.i64.wrap (n12 + 1))) (m8_0) (m8_1) (m8_2z) (m8_2) (m8_3z) (m8_3) ((m9z || true)) ((m9 ++ ([(.agg [(.int .i64 at13), (.int .i64 n12)])] : List T)))
theorem J15_12g (KL15_7 KJ15_12 : Env → St → Option Res) (from9 : Int) (to10 : Int) (n12 : Int) (at13 : Int) (m8_0 : Int) (m8_1 : Int) (m8_2z : Bool) (m8_2 : List T) (m8_3z : Bool) (m8_3 : List T) (m9z : Bool) (m9 : List T) : codeT Try.prog hint 15 0 55 (Ta15 KL15_7 KJ15_12) PaJ15_12 (ctxT Try.prog hint 15 0 55 (Ta15 KL15_7 KJ15_12) [] (List.reverse PaJ15_12) (bodyOf Try.f15) (resKV Try.prog Try.f15 (hint.own 15 0))) [(3, (.ptr 8 0 0)), (9, (.t (.int .i64 from9))), (10, (.t (.int .i64 to10))), (11, (.buf 9)), (12, (.t (.int .i64 n12))), (13, (.t (.int .i64 at13)))] ⟨[(8, (.var [(.t (.int .i64 m8_0)), (.t (.int .i64 m8_1)), (.t (.list 1 m8_2z m8_2)), (.t (.list 1 m8_3z m8_3))])), (9, (.arr true 2 m9z m9))], []⟩ (nav (List.reverse PaJ15_12) (bodyOf Try.f15)) = RJ15_12 (fun from9 to10 n12 m8_0 m8_1 m8_2z m8_2 m8_3z m8_3 m9z m9 => KL15_7 [(3, (.ptr 8 0 0)), (9, (.t (.int .i64 from9))), (10, (.t (.int .i64 to10))), (11, (.buf 9)), (12, (.t (.int .i64 n12)))] ⟨[(8, (.var [(.t (.int .i64 m8_0)), (.t (.int .i64 m8_1)), (.t (.list 1 m8_2z m8_2)), (.t (.list 1 m8_3z m8_3))])), (9, (.arr true 2 m9z m9))], []⟩) (fun from9 to10 n12 at13 m8_0 m8_1 m8_2z m8_2 m8_3z m8_3 m9z m9 => KJ15_12 [(3, (.ptr 8 0 0)), (9, (.t (.int .i64 from9))), (10, (.t (.int .i64 to10))), (11, (.buf 9)), (12, (.t (.int .i64 n12))), (13, (.t (.int .i64 at13)))] ⟨[(8, (.var [(.t (.int .i64 m8_0)), (.t (.int .i64 m8_1)), (.t (.list 1 m8_2z m8_2)), (.t (.list 1 m8_3z m8_3))])), (9, (.arr true 2 m9z m9))], []⟩) from9 to10 n12 at13 m8_0 m8_1 m8_2z m8_2 m8_3z m8_3 m9z m9 := by kernel_rfl
theorem J15_12_eq (from9 : Int) (to10 : Int) (n12 : Int) (at13 : Int) (m8_0 : Int) (m8_1 : Int) (m8_2z : Bool) (m8_2 : List T) (m8_3z : Bool) (m8_3 : List T) (m9z : Bool) (m9 : List T) : J15_12 from9 to10 n12 at13 m8_0 m8_1 m8_2z m8_2 m8_3z m8_3 m9z m9 = RJ15_12 L15_7 J15_12 from9 to10 n12 at13 m8_0 m8_1 m8_2z m8_2 m8_3z m8_3 m9z m9 :=
  (join_eq Try.prog hint (fn := Try.f15) (nt := 55) (T := (Ta15 (fun e st => atV Try.prog hint 15 0 Try.f15 55 (List.reverse PaL15_7) e st) (fun e st => atV Try.prog hint 15 0 Try.f15 55 (List.reverse PaJ15_12) e st))) [PaL15_7, PaJ15_12] rfl PaJ15_12 [(3, (.ptr 8 0 0)), (9, (.t (.int .i64 from9))), (10, (.t (.int .i64 to10))), (11, (.buf 9)), (12, (.t (.int .i64 n12))), (13, (.t (.int .i64 at13)))] ⟨[(8, (.var [(.t (.int .i64 m8_0)), (.t (.int .i64 m8_1)), (.t (.list 1 m8_2z m8_2)), (.t (.list 1 m8_3z m8_3))])), (9, (.arr true 2 m9z m9))], []⟩ rfl).trans (J15_12g (fun e st => atV Try.prog hint 15 0 Try.f15 55 (List.reverse PaL15_7) e st) (fun e st => atV Try.prog hint 15 0 Try.f15 55 (List.reverse PaJ15_12) e st) from9 to10 n12 at13 m8_0 m8_1 m8_2z m8_2 m8_3z m8_3 m9z m9)
noncomputable def R4 (L4_17 : Bool → (List T) → Bool → (List T) → Bool → Int → Int → Int → Int → Int → Bool → (List T) → Bool → (List T) → Int → Int → Bool → (List T) → Bool → (List T) → Option Res) (L4_24 : Bool → (List T) → Bool → (List T) → Bool → Int → Bool → (List T) → Bool → (List T) → Int → Int → Int → Int → Int → Int → Bool → (List T) → Bool → (List T) → Int → Int → Bool → (List T) → Bool → (List T) → Option Res) (a0 : Int) (a1 : Int) (a2z : Bool) (a2 : List T) (a3z : Bool) (a3 : List T) : Option Res :=
 callK (vr 9 0 [] ⟨[], []⟩) fun v_1 b_2 =>
 asT v_1 fun x_3 =>
 asB x_3 fun b_4 =>
 endB b_2 <|
(bif (decide (100 < (IntKind.i64.wrap ((a2.length : Int) + (a3.length : Int))))) then
 some ((.t (.bool b_4)), ⟨[], []⟩)
else
 callK (vr 10 0 [(.t (.int .i64 a0)), (.t (.int .i64 a1)), (.t (.list 1 a2z a2))] ⟨[], []⟩) fun v_5 b_6 =>
 asTup v_5 fun l_7 =>
 consV l_7 fun v_8 l_9 =>
 asT v_8 fun x_10 =>
 asA x_10 fun l_11 =>
 consT l_11 fun v_12 l_13 =>
 asI .i64 v_12 fun x_14 =>
 consT l_13 fun v_15 l_16 =>
 asI .i64 v_15 fun x_17 =>
 consT l_16 fun v_18 l_19 =>
 asL 1 v_18 fun nn_20 l_21 =>
 consT l_19 fun v_22 l_23 =>
 asL 1 v_22 fun nn_24 l_25 =>
 endT l_23 <|
 consV l_9 fun v_26 l_27 =>
 asT v_26 fun x_28 =>
 asI .i64 x_28 fun x_29 =>
 endV l_27 <|
 endB b_6 <|
 callK (vr 10 0 [(.t (.int .i64 a0)), (.t (.int .i64 a1)), (.t (.list 1 a3z a3))] ⟨[], []⟩) fun v_30 b_31 =>
 asTup v_30 fun l_32 =>
 consV l_32 fun v_33 l_34 =>
 asT v_33 fun x_35 =>
 asA x_35 fun l_36 =>
 consT l_36 fun v_37 l_38 =>
 asI .i64 v_37 fun x_39 =>
 consT l_38 fun v_40 l_41 =>
 asI .i64 v_40 fun x_42 =>
 consT l_41 fun v_43 l_44 =>
 asL 1 v_43 fun nn_45 l_46 =>
 consT l_44 fun v_47 l_48 =>
 asL 1 v_47 fun nn_49 l_50 =>
 endT l_48 <|
 consV l_34 fun v_51 l_52 =>
 asT v_51 fun x_53 =>
 asI .i64 x_53 fun x_54 =>
 endV l_52 <|
 endB b_31 <|
 needC (decide (a2.length * (24 + 1) ≤ 70368744177664) && decide (24 ≤ 1048576)) fun _ =>
 needC (decide ((a2.length + a3.length) * (24 + 1) ≤ 70368744177664) && decide (24 ≤ 1048576)) fun _ =>
 callK (vr 10 0 [(.t (.int .i64 a0)), (.t (.int .i64 a1)), (.t (.list 1 ((!a2.isEmpty) || (!a3.isEmpty)) (a2 ++ a3)))] ⟨[], []⟩) fun v_55 b_56 =>
 asTup v_55 fun l_57 =>
 consV l_57 fun v_58 l_59 =>
 asT v_58 fun x_60 =>
 asA x_60 fun l_61 =>
 consT l_61 fun v_62 l_63 =>
 asI .i64 v_62 fun x_64 =>
 consT l_63 fun v_65 l_66 =>
 asI .i64 v_65 fun x_67 =>
 consT l_66 fun v_68 l_69 =>
 asL 1 v_68 fun nn_70 l_71 =>
 consT l_69 fun v_72 l_73 =>
 asL 1 v_72 fun nn_74 l_75 =>
 endT l_73 <|
 consV l_59 fun v_76 l_77 =>
 asT v_76 fun x_78 =>
 asI .i64 x_78 fun x_79 =>
 endV l_77 <|
 endB b_56 <|
(bif (!decide (x_29 = 0)) then
(bif b_4 then
(bif (!decide (x_79 = 0)) then
 some ((.t (.bool true)), ⟨[], []⟩)
else
(bif (decide (x_29 = 0)) then
 some ((.t (.bool (decide (x_54 = 0)))), ⟨[], []⟩)
else
 some ((.t (.bool false)), ⟨[], []⟩)))
else
 some ((.t (.bool false)), ⟨[], []⟩))
else
(bif (!decide (x_54 = 0)) then
(bif b_4 then
(bif (!decide (x_79 = 0)) then
 some ((.t (.bool true)), ⟨[], []⟩)
else
(bif (decide (x_29 = 0)) then
 some ((.t (.bool (decide (x_54 = 0)))), ⟨[], []⟩)
else
 some ((.t (.bool false)), ⟨[], []⟩)))
else
 some ((.t (.bool false)), ⟨[], []⟩))
else
(bif (!decide (x_79 = 0)) then
(bif b_4 then
(bif (!decide (x_79 = 0)) then
 some ((.t (.bool true)), ⟨[], []⟩)
else
(bif (decide (x_29 = 0)) then
 some ((.t (.bool (decide (x_54 = 0)))), ⟨[], []⟩)
else
 some ((.t (.bool false)), ⟨[], []⟩)))
else
 some ((.t (.bool false)), ⟨[], []⟩))
else
 callK (vr 13 0 [(.t (.agg [(.int .i64 x_14), (.int .i64 x_17), (.list 1 nn_20 l_21), (.list 1 nn_24 l_25)])), (.t (.int .i64 (a2.length : Int)))] ⟨[], []⟩) fun v_80 b_81 =>
 asTup v_80 fun l_82 =>
 consV l_82 fun v_83 l_84 =>
 asT v_83 fun x_85 =>
 asI .i64 x_85 fun x_86 =>
 consV l_84 fun v_87 l_88 =>
 asT v_87 fun x_89 =>
 asI .i64 x_89 fun x_90 =>
 endV l_88 <|
 endB b_81 <|
 callK (vr 13 0 [(.t (.agg [(.int .i64 x_39), (.int .i64 x_42), (.list 1 nn_45 l_46), (.list 1 nn_49 l_50)])), (.t (.int .i64 (a3.length : Int)))] ⟨[], []⟩) fun v_91 b_92 =>
 asTup v_91 fun l_93 =>
 consV l_93 fun v_94 l_95 =>
 asT v_94 fun x_96 =>
 asI .i64 x_96 fun x_97 =>
 consV l_95 fun v_98 l_99 =>
 asT v_98 fun x_100 =>
 asI .i64 x_100 fun x_101 =>
 endV l_99 <|
 endB b_92 <|
 callK (vr 13 0 [(.t (.agg [(.int .i64 x_64), (.int .i64 x_67), (.list 1 nn_70 l_71), (.list 1 nn_74 l_75)])), (.t (.int .i64 (IntKind.i64.wrap ((a2.length : Int) + (a3.length : Int)))))] ⟨[], []⟩) fun v_102 b_103 =>
 asTup v_102 fun l_104 =>
 consV l_104 fun v_105 l_106 =>
 asT v_105 fun x_107 =>
 asI .i64 x_107 fun x_108 =>
 consV l_106 fun v_109 l_110 =>
 asT v_109 fun x_111 =>
 asI .i64 x_111 fun x_112 =>
 endV l_110 <|
 endB b_103 <|
(bif (!decide (x_90 = 0)) then
 some ((.t (.bool false)), ⟨[], []⟩)
else
(bif (!decide (x_101 = 0)) then
 some ((.t (.bool false)), ⟨[], []⟩)
else
(bif (!decide (x_112 = 0)) then
 some ((.t (.bool false)), ⟨[], []⟩)
else
(bif (!decide (x_108 = (IntKind.i64.wrap (x_86 + x_97)))) then
 some ((.t (.bool false)), ⟨[], []⟩)
else
 callK (vr 14 0 [(.t (.agg [(.int .i64 x_64), (.int .i64 x_67), (.list 1 nn_70 l_71), (.list 1 nn_74 l_75)]))] ⟨[], []⟩) fun v_113 b_114 =>
 asT v_113 fun x_115 =>
 asB x_115 fun b_116 =>
 endB b_114 <|
(bif b_116 then
(bif (decide (200 < a1)) then
 some ((.t (.bool b_4)), ⟨[], []⟩)
else
 L4_17 (a2z) (a2) (a3z) (a3) (b_4) (x_86) ((a3.length : Int)) (0) (x_39) (x_42) (nn_45) (l_46) (nn_49) (l_50) (x_64) (x_67) (nn_70) (l_71) (nn_74) (l_75))
else
 L4_17 (a2z) (a2) (a3z) (a3) (b_4) (x_86) ((a3.length : Int)) (0) (x_39) (x_42) (nn_45) (l_46) (nn_49) (l_50) (x_64) (x_67) (nn_70) (l_71) (nn_74) (l_75))))))))))
theorem eq4g (KL4_17 KL4_24 : Env → St → Option Res) (a0 : Int) (a1 : Int) (a2z : Bool) (a2 : List T) (a3z : Bool) (a3 : List T) : codeT Try.prog hint 4 0 205 (Ta4 KL4_17 KL4_24) [] (resKV Try.prog Try.f4 (hint.own 4 0)) (nrm hint 4 0 (bodyOf Try.f4) (envV [(.t (.int .i64 a0)), (.t (.int .i64 a1)), (.t (.list 1 a2z a2)), (.t (.list 1 a3z a3))] 0) ⟨[], []⟩).1 (nrm hint 4 0 (bodyOf Try.f4) (envV [(.t (.int .i64 a0)), (.t (.int .i64 a1)), (.t (.list 1 a2z a2)), (.t (.list 1 a3z a3))] 0) ⟨[], []⟩).2 (bodyOf Try.f4) = R4 (fun a2z a2 b3z b3 up9 n16 t132 t133 m8_0 m8_1 m8_2z m8_2 m8_3z m8_3 m9_0 m9_1 m9_2z m9_2 m9_3z m9_3 => KL4_17 [(2, (.t (.list 1 a2z a2))), (3, (.t (.list 1 b3z b3))), (9, (.t (.bool up9))), (12, (.ptr 8 0 0)), (14, (.ptr 9 0 0)), (16, (.t (.int .i64 n16))), (132, (.t (.int .i64 t132))), (133, (.t (.int .i64 t133)))] ⟨[(8, (.var [(.t (.int .i64 m8_0)), (.t (.int .i64 m8_1)), (.t (.list 1 m8_2z m8_2)), (.t (.list 1 m8_3z m8_3))])), (9, (.var [(.t (.int .i64 m9_0)), (.t (.int .i64 m9_1)), (.t (.list 1 m9_2z m9_2)), (.t (.list 1 m9_3z m9_3))]))], []⟩) (fun a2z a2 b3z b3 up9 n16 c23z c23 d25z d25 t132 t133 t172 t173 m8_0 m8_1 m8_2z m8_2 m8_3z m8_3 m9_0 m9_1 m9_2z m9_2 m9_3z m9_3 => KL4_24 [(2, (.t (.list 1 a2z a2))), (3, (.t (.list 1 b3z b3))), (9, (.t (.bool up9))), (12, (.ptr 8 0 0)), (14, (.ptr 9 0 0)), (16, (.t (.int .i64 n16))), (23, (.t (.list 2 c23z c23))), (25, (.t (.list 2 d25z d25))), (132, (.t (.int .i64 t132))), (133, (.t (.int .i64 t133))), (172, (.t (.int .i64 t172))), (173, (.t (.int .i64 t173)))] ⟨[(8, (.var [(.t (.int .i64 m8_0)), (.t (.int .i64 m8_1)), (.t (.list 1 m8_2z m8_2)), (.t (.list 1 m8_3z m8_3))])), (9, (.var [(.t (.int .i64 m9_0)), (.t (.int .i64 m9_1)), (.t (.list 1 m9_2z m9_2)), (.t (.list 1 m9_3z m9_3))]))], []⟩) a0 a1 a2z a2 a3z a3 := by kernel_rfl
/-- purfle/purflelaw04.LevelJoins -/
theorem eq4 (a0 : Int) (a1 : Int) (a2z : Bool) (a2 : List T) (a3z : Bool) (a3 : List T) : vr 4 0 [(.t (.int .i64 a0)), (.t (.int .i64 a1)), (.t (.list 1 a2z a2)), (.t (.list 1 a3z a3))] ⟨[], []⟩ = R4 L4_17 L4_24 a0 a1 a2z a2 a3z a3 :=
  (call_eq Try.prog hint (fn := Try.f4) (nt := 205) (T := (Ta4 (fun e st => atV Try.prog hint 4 0 Try.f4 205 (List.reverse PaL4_17) e st) (fun e st => atV Try.prog hint 4 0 Try.f4 205 (List.reverse PaL4_24) e st))) [PaL4_17, PaL4_24] rfl [(.t (.int .i64 a0)), (.t (.int .i64 a1)), (.t (.list 1 a2z a2)), (.t (.list 1 a3z a3))] ⟨[], []⟩ rfl rfl rfl rfl rfl).trans (eq4g (fun e st => atV Try.prog hint 4 0 Try.f4 205 (List.reverse PaL4_17) e st) (fun e st => atV Try.prog hint 4 0 Try.f4 205 (List.reverse PaL4_24) e st) a0 a1 a2z a2 a3z a3)
noncomputable def RL4_17 (L4_17 : Bool → (List T) → Bool → (List T) → Bool → Int → Int → Int → Int → Int → Bool → (List T) → Bool → (List T) → Int → Int → Bool → (List T) → Bool → (List T) → Option Res) (L4_24 : Bool → (List T) → Bool → (List T) → Bool → Int → Bool → (List T) → Bool → (List T) → Int → Int → Int → Int → Int → Int → Bool → (List T) → Bool → (List T) → Int → Int → Bool → (List T) → Bool → (List T) → Option Res) (a2z : Bool) (a2 : List T) (b3z : Bool) (b3 : List T) (up9 : Bool) (n16 : Int) (t132 : Int) (t133 : Int) (m8_0 : Int) (m8_1 : Int) (m8_2z : Bool) (m8_2 : List T) (m8_3z : Bool) (m8_3 : List T) (m9_0 : Int) (m9_1 : Int) (m9_2z : Bool) (m9_2 : List T) (m9_3z : Bool) (m9_3 : List T) : Option Res :=
(bif (decide (t133 < t132)) then
 callK (vr 15 0 [(.t (.agg [(.int .i64 m8_0), (.int .i64 m8_1), (.list 1 m8_2z m8_2), (.list 1 m8_3z m8_3)])), (.t (.int .i64 (b3.length : Int))), (.t (.int .i64 t133))] ⟨[], []⟩) fun v_1 b_2 =>
 asTup v_1 fun l_3 =>
 consV l_3 fun v_4 l_5 =>
 asT v_4 fun x_6 =>
 asL 2 x_6 fun nn_7 l_8 =>
 consV l_5 fun v_9 l_10 =>
 asT v_9 fun x_11 =>
 asI .i64 x_11 fun x_12 =>
 endV l_10 <|
 endB b_2 <|
 callK (vr 15 0 [(.t (.agg [(.int .i64 m9_0), (.int .i64 m9_1), (.list 1 m9_2z m9_2), (.list 1 m9_3z m9_3)])), (.t (.int .i64 (IntKind.i64.wrap ((a2.length : Int) + (b3.length : Int))))), (.t (.int .i64 (IntKind.i64.wrap ((a2.length : Int) + t133))))] ⟨[], []⟩) fun v_13 b_14 =>
 asTup v_13 fun l_15 =>
 consV l_15 fun v_16 l_17 =>
 asT v_16 fun x_18 =>
 asL 2 x_18 fun nn_19 l_20 =>
 consV l_17 fun v_21 l_22 =>
 asT v_21 fun x_23 =>
 asI .i64 x_23 fun x_24 =>
 endV l_22 <|
 endB b_14 <|
(bif (!decide (x_12 = 0)) then
 some ((.t (.bool false)), ⟨[], []⟩)
else
(bif (!decide (x_24 = 0)) then
 some ((.t (.bool false)), ⟨[], []⟩)
else
(bif (!decide ((l_8.length : Int) = (l_20.length : Int))) then
 some ((.t (.bool false)), ⟨[], []⟩)
else
 L4_24 (a2z) (a2) (b3z) (b3) (up9) (n16) (nn_7) (l_8) (nn_19) (l_20) (t132) (t133) ((l_8.length : Int)) (0) (m8_0) (m8_1) (m8_2z) (m8_2) (m8_3z) (m8_3) (m9_0) (m9_1) (m9_2z) (m9_2) (m9_3z) (m9_3))))
else
 some ((.t (.bool up9)), ⟨[], []⟩))
theorem L4_17g (KL4_17 KL4_24 : Env → St → Option Res) (a2z : Bool) (a2 : List T) (b3z : Bool) (b3 : List T) (up9 : Bool) (n16 : Int) (t132 : Int) (t133 : Int) (m8_0 : Int) (m8_1 : Int) (m8_2z : Bool) (m8_2 : List T) (m8_3z : Bool) (m8_3 : List T) (m9_0 : Int) (m9_1 : Int) (m9_2z : Bool) (m9_2 : List T) (m9_3z : Bool) (m9_3 : List T) : codeT Try.prog hint 4 0 205 (Ta4 KL4_17 KL4_24) (.lp :: PaL4_17) (ctxT Try.prog hint 4 0 205 (Ta4 KL4_17 KL4_24) [] (List.reverse (.lp :: PaL4_17)) (bodyOf Try.f4) (resKV Try.prog Try.f4 (hint.own 4 0))) [(2, (.t (.list 1 a2z a2))), (3, (.t (.list 1 b3z b3))), (9, (.t (.bool up9))), (12, (.ptr 8 0 0)), (14, (.ptr 9 0 0)), (16, (.t (.int .i64 n16))), (132, (.t (.int .i64 t132))), (133, (.t (.int .i64 t133)))] ⟨[(8, (.var [(.t (.int .i64 m8_0)), (.t (.int .i64 m8_1)), (.t (.list 1 m8_2z m8_2)), (.t (.list 1 m8_3z m8_3))])), (9, (.var [(.t (.int .i64 m9_0)), (.t (.int .i64 m9_1)), (.t (.list 1 m9_2z m9_2)), (.t (.list 1 m9_3z m9_3))]))], []⟩ (nav (List.reverse (.lp :: PaL4_17)) (bodyOf Try.f4)) = RL4_17 (fun a2z a2 b3z b3 up9 n16 t132 t133 m8_0 m8_1 m8_2z m8_2 m8_3z m8_3 m9_0 m9_1 m9_2z m9_2 m9_3z m9_3 => KL4_17 [(2, (.t (.list 1 a2z a2))), (3, (.t (.list 1 b3z b3))), (9, (.t (.bool up9))), (12, (.ptr 8 0 0)), (14, (.ptr 9 0 0)), (16, (.t (.int .i64 n16))), (132, (.t (.int .i64 t132))), (133, (.t (.int .i64 t133)))] ⟨[(8, (.var [(.t (.int .i64 m8_0)), (.t (.int .i64 m8_1)), (.t (.list 1 m8_2z m8_2)), (.t (.list 1 m8_3z m8_3))])), (9, (.var [(.t (.int .i64 m9_0)), (.t (.int .i64 m9_1)), (.t (.list 1 m9_2z m9_2)), (.t (.list 1 m9_3z m9_3))]))], []⟩) (fun a2z a2 b3z b3 up9 n16 c23z c23 d25z d25 t132 t133 t172 t173 m8_0 m8_1 m8_2z m8_2 m8_3z m8_3 m9_0 m9_1 m9_2z m9_2 m9_3z m9_3 => KL4_24 [(2, (.t (.list 1 a2z a2))), (3, (.t (.list 1 b3z b3))), (9, (.t (.bool up9))), (12, (.ptr 8 0 0)), (14, (.ptr 9 0 0)), (16, (.t (.int .i64 n16))), (23, (.t (.list 2 c23z c23))), (25, (.t (.list 2 d25z d25))), (132, (.t (.int .i64 t132))), (133, (.t (.int .i64 t133))), (172, (.t (.int .i64 t172))), (173, (.t (.int .i64 t173)))] ⟨[(8, (.var [(.t (.int .i64 m8_0)), (.t (.int .i64 m8_1)), (.t (.list 1 m8_2z m8_2)), (.t (.list 1 m8_3z m8_3))])), (9, (.var [(.t (.int .i64 m9_0)), (.t (.int .i64 m9_1)), (.t (.list 1 m9_2z m9_2)), (.t (.list 1 m9_3z m9_3))]))], []⟩) a2z a2 b3z b3 up9 n16 t132 t133 m8_0 m8_1 m8_2z m8_2 m8_3z m8_3 m9_0 m9_1 m9_2z m9_2 m9_3z m9_3 := by kernel_rfl
theorem L4_17_eq (a2z : Bool) (a2 : List T) (b3z : Bool) (b3 : List T) (up9 : Bool) (n16 : Int) (t132 : Int) (t133 : Int) (m8_0 : Int) (m8_1 : Int) (m8_2z : Bool) (m8_2 : List T) (m8_3z : Bool) (m8_3 : List T) (m9_0 : Int) (m9_1 : Int) (m9_2z : Bool) (m9_2 : List T) (m9_3z : Bool) (m9_3 : List T) : L4_17 a2z a2 b3z b3 up9 n16 t132 t133 m8_0 m8_1 m8_2z m8_2 m8_3z m8_3 m9_0 m9_1 m9_2z m9_2 m9_3z m9_3 = RL4_17 L4_17 L4_24 a2z a2 b3z b3 up9 n16 t132 t133 m8_0 m8_1 m8_2z m8_2 m8_3z m8_3 m9_0 m9_1 m9_2z m9_2 m9_3z m9_3 :=
  (round_eq Try.prog hint (b := (nav (List.reverse (.lp :: PaL4_17)) (bodyOf Try.f4))) (fn := Try.f4) (nt := 205) (T := (Ta4 (fun e st => atV Try.prog hint 4 0 Try.f4 205 (List.reverse PaL4_17) e st) (fun e st => atV Try.prog hint 4 0 Try.f4 205 (List.reverse PaL4_24) e st))) [PaL4_17, PaL4_24] rfl PaL4_17 [(2, (.t (.list 1 a2z a2))), (3, (.t (.list 1 b3z b3))), (9, (.t (.bool up9))), (12, (.ptr 8 0 0)), (14, (.ptr 9 0 0)), (16, (.t (.int .i64 n16))), (132, (.t (.int .i64 t132))), (133, (.t (.int .i64 t133)))] ⟨[(8, (.var [(.t (.int .i64 m8_0)), (.t (.int .i64 m8_1)), (.t (.list 1 m8_2z m8_2)), (.t (.list 1 m8_3z m8_3))])), (9, (.var [(.t (.int .i64 m9_0)), (.t (.int .i64 m9_1)), (.t (.list 1 m9_2z m9_2)), (.t (.list 1 m9_3z m9_3))]))], []⟩ rfl rfl rfl).trans (L4_17g (fun e st => atV Try.prog hint 4 0 Try.f4 205 (List.reverse PaL4_17) e st) (fun e st => atV Try.prog hint 4 0 Try.f4 205 (List.reverse PaL4_24) e st) a2z a2 b3z b3 up9 n16 t132 t133 m8_0 m8_1 m8_2z m8_2 m8_3z m8_3 m9_0 m9_1 m9_2z m9_2 m9_3z m9_3)
noncomputable def RL4_24 (L4_17 : Bool → (List T) → Bool → (List T) → Bool → Int → Int → Int → Int → Int → Bool → (List T) → Bool → (List T) → Int → Int → Bool → (List T) → Bool → (List T) → Option Res) (L4_24 : Bool → (List T) → Bool → (List T) → Bool → Int → Bool → (List T) → Bool → (List T) → Int → Int → Int → Int → Int → Int → Bool → (List T) → Bool → (List T) → Int → Int → Bool → (List T) → Bool → (List T) → Option Res) (a2z : Bool) (a2 : List T) (b3z : Bool) (b3 : List T) (up9 : Bool) (n16 : Int) (c23z : Bool) (c23 : List T) (d25z : Bool) (d25 : List T) (t132 : Int) (t133 : Int) (t172 : Int) (t173 : Int) (m8_0 : Int) (m8_1 : Int) (m8_2z : Bool) (m8_2 : List T) (m8_3z : Bool) (m8_3 : List T) (m9_0 : Int) (m9_1 : Int) (m9_2z : Bool) (m9_2 : List T) (m9_3z : Bool) (m9_3 : List T) : Option Res :=
(bif (decide (t173 < t172)) then
 needC (decide (0 ≤ t173)) fun _ =>
 getT d25 (t173).toNat fun e_1 =>
 asA e_1 fun l_2 =>
 consT l_2 fun v_3 l_4 =>
 asI .i64 v_3 fun x_5 =>
 consT l_4 fun v_6 l_7 =>
 asI .i64 v_6 fun x_8 =>
 endT l_7 <|
 needC (decide (0 ≤ t173)) fun _ =>
 getT c23 (t173).toNat fun e_9 =>
 asA e_9 fun l_10 =>
 consT l_10 fun v_11 l_12 =>
 asI .i64 v_11 fun x_13 =>
 consT l_12 fun v_14 l_15 =>
 asI .i64 v_14 fun x_16 =>
 endT l_15 <|
(bif (!decide (x_5 = x_13)) then
 some ((.t (.bool false)), ⟨[], []⟩)
else
 needC (decide (0 ≤ t173)) fun _ =>
 getT d25 (t173).toNat fun e_17 =>
 asA e_17 fun l_18 =>
 consT l_18 fun v_19 l_20 =>
 asI .i64 v_19 fun x_21 =>
 consT l_20 fun v_22 l_23 =>
 asI .i64 v_22 fun x_24 =>
 endT l_23 <|
 needC (decide (0 ≤ t173)) fun _ =>
 getT c23 (t173).toNat fun e_25 =>
 asA e_25 fun l_26 =>
 consT l_26 fun v_27 l_28 =>
 asI .i64 v_27 fun x_29 =>
 consT l_28 fun v_30 l_31 =>
 asI .i64 v_30 fun x_32 =>
 endT l_31 <|
(bif (!decide (x_24 = (IntKind.i64.wrap (x_32 + n16)))) then
 some ((.t (.bool false)), ⟨[], []⟩)
else
 L4_24 (a2z) (a2) (b3z) (b3) (up9) (n16) (c23z) (c23) (d25z) (d25) (t132) (t133) (t172) ((IntKind.i64.wrap (t173 + 1))) (m8_0) (m8_1) (m8_2z) (m8_2) (m8_3z) (m8_3) (m9_0) (m9_1) (m9_2z) (m9_2) (m9_3z) (m9_3)))
else
 L4_17 (a2z) (a2) (b3z) (b3) (up9) (n16) (t132) ((IntKind.i64.wrap (t133 + 1))) (m8_0) (m8_1) (m8_2z) (m8_2) (m8_3z) (m8_3) (m9_0) (m9_1) (m9_2z) (m9_2) (m9_3z) (m9_3))
theorem L4_24g (KL4_17 KL4_24 : Env → St → Option Res) (a2z : Bool) (a2 : List T) (b3z : Bool) (b3 : List T) (up9 : Bool) (n16 : Int) (c23z : Bool) (c23 : List T) (d25z : Bool) (d25 : List T) (t132 : Int) (t133 : Int) (t172 : Int) (t173 : Int) (m8_0 : Int) (m8_1 : Int) (m8_2z : Bool) (m8_2 : List T) (m8_3z : Bool) (m8_3 : List T) (m9_0 : Int) (m9_1 : Int) (m9_2z : Bool) (m9_2 : List T) (m9_3z : Bool) (m9_3 : List T) : codeT Try.prog hint 4 0 205 (Ta4 KL4_17 KL4_24) (.lp :: PaL4_24) (ctxT Try.prog hint 4 0 205 (Ta4 KL4_17 KL4_24) [] (List.reverse (.lp :: PaL4_24)) (bodyOf Try.f4) (resKV Try.prog Try.f4 (hint.own 4 0))) [(2, (.t (.list 1 a2z a2))), (3, (.t (.list 1 b3z b3))), (9, (.t (.bool up9))), (12, (.ptr 8 0 0)), (14, (.ptr 9 0 0)), (16, (.t (.int .i64 n16))), (23, (.t (.list 2 c23z c23))), (25, (.t (.list 2 d25z d25))), (132, (.t (.int .i64 t132))), (133, (.t (.int .i64 t133))), (172, (.t (.int .i64 t172))), (173, (.t (.int .i64 t173)))] ⟨[(8, (.var [(.t (.int .i64 m8_0)), (.t (.int .i64 m8_1)), (.t (.list 1 m8_2z m8_2)), (.t (.list 1 m8_3z m8_3))])), (9, (.var [(.t (.int .i64 m9_0)), (.t (.int .i64 m9_1)), (.t (.list 1 m9_2z m9_2)), (.t (.list 1 m9_3z m9_3))]))], []⟩ (nav (List.reverse (.lp :: PaL4_24)) (bodyOf Try.f4)) = RL4_24 (fun a2z a2 b3z b3 up9 n16 t132 t133 m8_0 m8_1 m8_2z m8_2 m8_3z m8_3 m9_0 m9_1 m9_2z m9_2 m9_3z m9_3 => KL4_17 [(2, (.t (.list 1 a2z a2))), (3, (.t (.list 1 b3z b3))), (9, (.t (.bool up9))), (12, (.ptr 8 0 0)), (14, (.ptr 9 0 0)), (16, (.t (.int .i64 n16))), (132, (.t (.int .i64 t132))), (133, (.t (.int .i64 t133)))] ⟨[(8, (.var [(.t (.int .i64 m8_0)), (.t (.int .i64 m8_1)), (.t (.list 1 m8_2z m8_2)), (.t (.list 1 m8_3z m8_3))])), (9, (.var [(.t (.int .i64 m9_0)), (.t (.int .i64 m9_1)), (.t (.list 1 m9_2z m9_2)), (.t (.list 1 m9_3z m9_3))]))], []⟩) (fun a2z a2 b3z b3 up9 n16 c23z c23 d25z d25 t132 t133 t172 t173 m8_0 m8_1 m8_2z m8_2 m8_3z m8_3 m9_0 m9_1 m9_2z m9_2 m9_3z m9_3 => KL4_24 [(2, (.t (.list 1 a2z a2))), (3, (.t (.list 1 b3z b3))), (9, (.t (.bool up9))), (12, (.ptr 8 0 0)), (14, (.ptr 9 0 0)), (16, (.t (.int .i64 n16))), (23, (.t (.list 2 c23z c23))), (25, (.t (.list 2 d25z d25))), (132, (.t (.int .i64 t132))), (133, (.t (.int .i64 t133))), (172, (.t (.int .i64 t172))), (173, (.t (.int .i64 t173)))] ⟨[(8, (.var [(.t (.int .i64 m8_0)), (.t (.int .i64 m8_1)), (.t (.list 1 m8_2z m8_2)), (.t (.list 1 m8_3z m8_3))])), (9, (.var [(.t (.int .i64 m9_0)), (.t (.int .i64 m9_1)), (.t (.list 1 m9_2z m9_2)), (.t (.list 1 m9_3z m9_3))]))], []⟩) a2z a2 b3z b3 up9 n16 c23z c23 d25z d25 t132 t133 t172 t173 m8_0 m8_1 m8_2z m8_2 m8_3z m8_3 m9_0 m9_1 m9_2z m9_2 m9_3z m9_3 := by kernel_rfl
theorem L4_24_eq (a2z : Bool) (a2 : List T) (b3z : Bool) (b3 : List T) (up9 : Bool) (n16 : Int) (c23z : Bool) (c23 : List T) (d25z : Bool) (d25 : List T) (t132 : Int) (t133 : Int) (t172 : Int) (t173 : Int) (m8_0 : Int) (m8_1 : Int) (m8_2z : Bool) (m8_2 : List T) (m8_3z : Bool) (m8_3 : List T) (m9_0 : Int) (m9_1 : Int) (m9_2z : Bool) (m9_2 : List T) (m9_3z : Bool) (m9_3 : List T) : L4_24 a2z a2 b3z b3 up9 n16 c23z c23 d25z d25 t132 t133 t172 t173 m8_0 m8_1 m8_2z m8_2 m8_3z m8_3 m9_0 m9_1 m9_2z m9_2 m9_3z m9_3 = RL4_24 L4_17 L4_24 a2z a2 b3z b3 up9 n16 c23z c23 d25z d25 t132 t133 t172 t173 m8_0 m8_1 m8_2z m8_2 m8_3z m8_3 m9_0 m9_1 m9_2z m9_2 m9_3z m9_3 :=
  (round_eq Try.prog hint (b := (nav (List.reverse (.lp :: PaL4_24)) (bodyOf Try.f4))) (fn := Try.f4) (nt := 205) (T := (Ta4 (fun e st => atV Try.prog hint 4 0 Try.f4 205 (List.reverse PaL4_17) e st) (fun e st => atV Try.prog hint 4 0 Try.f4 205 (List.reverse PaL4_24) e st))) [PaL4_17, PaL4_24] rfl PaL4_24 [(2, (.t (.list 1 a2z a2))), (3, (.t (.list 1 b3z b3))), (9, (.t (.bool up9))), (12, (.ptr 8 0 0)), (14, (.ptr 9 0 0)), (16, (.t (.int .i64 n16))), (23, (.t (.list 2 c23z c23))), (25, (.t (.list 2 d25z d25))), (132, (.t (.int .i64 t132))), (133, (.t (.int .i64 t133))), (172, (.t (.int .i64 t172))), (173, (.t (.int .i64 t173)))] ⟨[(8, (.var [(.t (.int .i64 m8_0)), (.t (.int .i64 m8_1)), (.t (.list 1 m8_2z m8_2)), (.t (.list 1 m8_3z m8_3))])), (9, (.var [(.t (.int .i64 m9_0)), (.t (.int .i64 m9_1)), (.t (.list 1 m9_2z m9_2)), (.t (.list 1 m9_3z m9_3))]))], []⟩ rfl rfl rfl).trans (L4_24g (fun e st => atV Try.prog hint 4 0 Try.f4 205 (List.reverse PaL4_17) e st) (fun e st => atV Try.prog hint 4 0 Try.f4 205 (List.reverse PaL4_24) e st) a2z a2 b3z b3 up9 n16 c23z c23 d25z d25 t132 t133 t172 t173 m8_0 m8_1 m8_2z m8_2 m8_3z m8_3 m9_0 m9_1 m9_2z m9_2 m9_3z m9_3)
noncomputable def R32 (L32_4 : Bool → (List T) → Bool → (List T) → Int → Int → Option Res) (a0z : Bool) (a0 : List T) (a1z : Bool) (a1 : List T) : Option Res :=
(bif (!decide ((a0.length : Int) = (a1.length : Int))) then
 some ((.t (.bool false)), ⟨[], []⟩)
else
 L32_4 (a0z) (a0) (a1z) (a1) ((a0.length : Int)) (0))
theorem eq32g (KL32_4 : Env → St → Option Res) (a0z : Bool) (a0 : List T) (a1z : Bool) (a1 : List T) : codeT Try.prog hint 32 0 26 (Ta32 KL32_4) [] (resKV Try.prog Try.f32 (hint.own 32 0)) (nrm hint 32 0 (bodyOf Try.f32) (envV [(.t (.list 1 a0z a0)), (.t (.list 1 a1z a1))] 0) ⟨[], []⟩).1 (nrm hint 32 0 (bodyOf Try.f32) (envV [(.t (.list 1 a0z a0)), (.t (.list 1 a1z a1))] 0) ⟨[], []⟩).2 (bodyOf Try.f32) = R32 (fun s10z s10 s21z s21 t12 t13 => KL32_4 [(0, (.t (.list 1 s10z s10))), (1, (.t (.list 1 s21z s21))), (12, (.t (.int .i64 t12))), (13, (.t (.int .i64 t13)))] ⟨[], []⟩) a0z a0 a1z a1 := by kernel_rfl
/-- slices.Equal[[]int,int] -/
theorem eq32 (a0z : Bool) (a0 : List T) (a1z : Bool) (a1 : List T) : vr 32 0 [(.t (.list 1 a0z a0)), (.t (.list 1 a1z a1))] ⟨[], []⟩ = R32 L32_4 a0z a0 a1z a1 :=
  (call_eq Try.prog hint (fn := Try.f32) (nt := 26) (T := (Ta32 (fun e st => atV Try.prog hint 32 0 Try.f32 26 (List.reverse PaL32_4) e st))) [PaL32_4] rfl [(.t (.list 1 a0z a0)), (.t (.list 1 a1z a1))] ⟨[], []⟩ rfl rfl rfl rfl rfl).trans (eq32g (fun e st => atV Try.prog hint 32 0 Try.f32 26 (List.reverse PaL32_4) e st) a0z a0 a1z a1)
noncomputable def RL32_4 (L32_4 : Bool → (List T) → Bool → (List T) → Int → Int → Option Res) (s10z : Bool) (s10 : List T) (s21z : Bool) (s21 : List T) (t12 : Int) (t13 : Int) : Option Res :=
(bif (decide (t13 < t12)) then
 needC (decide (0 ≤ t13)) fun _ =>
 getT s10 (t13).toNat fun e_1 =>
 asI .i64 e_1 fun x_2 =>
 needC (decide (0 ≤ t13)) fun _ =>
 getT s21 (t13).toNat fun e_3 =>
 asI .i64 e_3 fun x_4 =>
(bif (!decide (x_2 = x_4)) then
 some ((.t (.bool false)), ⟨[], []⟩)
else
 L32_4 (s10z) (s10) (s21z) (s21) (t12) ((IntKind.i64.wrap (t13 + 1))))
else
 some ((.t (.bool true)), ⟨[], []⟩))
theorem L32_4g (KL32_4 : Env → St → Option Res) (s10z : Bool) (s10 : List T) (s21z : Bool) (s21 : List T) (t12 : Int) (t13 : Int) : codeT Try.prog hint 32 0 26 (Ta32 KL32_4) (.lp :: PaL32_4) (ctxT Try.prog hint 32 0 26 (Ta32 KL32_4) [] (List.reverse (.lp :: PaL32_4)) (bodyOf Try.f32) (resKV Try.prog Try.f32 (hint.own 32 0))) [(0, (.t (.list 1 s10z s10))), (1, (.t (.list 1 s21z s21))), (12, (.t (.int .i64 t12))), (13, (.t (.int .i64 t13)))] ⟨[], []⟩ (nav (List.reverse (.lp :: PaL32_4)) (bodyOf Try.f32)) = RL32_4 (fun s10z s10 s21z s21 t12 t13 => KL32_4 [(0, (.t (.list 1 s10z s10))), (1, (.t (.list 1 s21z s21))), (12, (.t (.int .i64 t12))), (13, (.t (.int .i64 t13)))] ⟨[], []⟩) s10z s10 s21z s21 t12 t13 := by kernel_rfl
theorem L32_4_eq (s10z : Bool) (s10 : List T) (s21z : Bool) (s21 : List T) (t12 : Int) (t13 : Int) : L32_4 s10z s10 s21z s21 t12 t13 = RL32_4 L32_4 s10z s10 s21z s21 t12 t13 :=
  (round_eq Try.prog hint (b := (nav (List.reverse (.lp :: PaL32_4)) (bodyOf Try.f32))) (fn := Try.f32) (nt := 26) (T := (Ta32 (fun e st => atV Try.prog hint 32 0 Try.f32 26 (List.reverse PaL32_4) e st))) [PaL32_4] rfl PaL32_4 [(0, (.t (.list 1 s10z s10))), (1, (.t (.list 1 s21z s21))), (12, (.t (.int .i64 t12))), (13, (.t (.int .i64 t13)))] ⟨[], []⟩ rfl rfl rfl).trans (L32_4g (fun e st => atV Try.prog hint 32 0 Try.f32 26 (List.reverse PaL32_4) e st) s10z s10 s21z s21 t12 t13)
noncomputable def R17  (a0_0 : Int) (a0_1 : Int) (a0_2z : Bool) (a0_2 : List T) (a0_3z : Bool) (a0_3 : List T) (a1_0 : Int) (a1_1 : Int) (a1_2z : Bool) (a1_2 : List T) (a1_3z : Bool) (a1_3 : List T) : Option Res :=
(bif (decide (a0_0 = a1_0) && (decide (a0_1 = a1_1) && true)) then
 callK (vr 32 0 [(.t (.list 1 a0_2z a0_2)), (.t (.list 1 a1_2z a1_2))] ⟨[], []⟩) fun v_1 b_2 =>
 asT v_1 fun x_3 =>
 asB x_3 fun b_4 =>
 endB b_2 <|
(bif b_4 then
 callK (vr 32 0 [(.t (.list 1 a0_3z a0_3)), (.t (.list 1 a1_3z a1_3))] ⟨[], []⟩) fun v_5 b_6 =>
 asT v_5 fun x_7 =>
 asB x_7 fun b_8 =>
 endB b_6 <|
 some ((.t (.bool b_8)), ⟨[], []⟩)
else
 some ((.t (.bool false)), ⟨[], []⟩))
else
 some ((.t (.bool false)), ⟨[], []⟩))
theorem eq17g  (a0_0 : Int) (a0_1 : Int) (a0_2z : Bool) (a0_2 : List T) (a0_3z : Bool) (a0_3 : List T) (a1_0 : Int) (a1_1 : Int) (a1_2z : Bool) (a1_2 : List T) (a1_3z : Bool) (a1_3 : List T) : codeT Try.prog hint 17 0 30 [] [] (resKV Try.prog Try.f17 (hint.own 17 0)) (nrm hint 17 0 (bodyOf Try.f17) (envV [(.t (.agg [(.int .i64 a0_0), (.int .i64 a0_1), (.list 1 a0_2z a0_2), (.list 1 a0_3z a0_3)])), (.t (.agg [(.int .i64 a1_0), (.int .i64 a1_1), (.list 1 a1_2z a1_2), (.list 1 a1_3z a1_3)]))] 0) ⟨[], []⟩).1 (nrm hint 17 0 (bodyOf Try.f17) (envV [(.t (.agg [(.int .i64 a0_0), (.int .i64 a0_1), (.list 1 a0_2z a0_2), (.list 1 a0_3z a0_3)])), (.t (.agg [(.int .i64 a1_0), (.int .i64 a1_1), (.list 1 a1_2z a1_2), (.list 1 a1_3z a1_3)]))] 0) ⟨[], []⟩).2 (bodyOf Try.f17) = R17  a0_0 a0_1 a0_2z a0_2 a0_3z a0_3 a1_0 a1_1 a1_2z a1_2 a1_3z a1_3 := by kernel_rfl
/-- purfle/level.Same -/
theorem eq17 (a0_0 : Int) (a0_1 : Int) (a0_2z : Bool) (a0_2 : List T) (a0_3z : Bool) (a0_3 : List T) (a1_0 : Int) (a1_1 : Int) (a1_2z : Bool) (a1_2 : List T) (a1_3z : Bool) (a1_3 : List T) : vr 17 0 [(.t (.agg [(.int .i64 a0_0), (.int .i64 a0_1), (.list 1 a0_2z a0_2), (.list 1 a0_3z a0_3)])), (.t (.agg [(.int .i64 a1_0), (.int .i64 a1_1), (.list 1 a1_2z a1_2), (.list 1 a1_3z a1_3)]))] ⟨[], []⟩ = R17  a0_0 a0_1 a0_2z a0_2 a0_3z a0_3 a1_0 a1_1 a1_2z a1_2 a1_3z a1_3 :=
  (call_eq Try.prog hint (fn := Try.f17) (nt := 30) (T := []) [] rfl [(.t (.agg [(.int .i64 a0_0), (.int .i64 a0_1), (.list 1 a0_2z a0_2), (.list 1 a0_3z a0_3)])), (.t (.agg [(.int .i64 a1_0), (.int .i64 a1_1), (.list 1 a1_2z a1_2), (.list 1 a1_3z a1_3)]))] ⟨[], []⟩ rfl rfl rfl rfl rfl).trans (eq17g  a0_0 a0_1 a0_2z a0_2 a0_3z a0_3 a1_0 a1_1 a1_2z a1_2 a1_3z a1_3)
noncomputable def R5 (L5_5 : Int → Int → Bool → (List T) → Bool → Bool → (List T) → Int → Int → Option Res) (L5_15 : Int → Int → Bool → (List T) → Bool → Bool → (List T) → Int → Int → Int → Int → Bool → (List T) → Bool → (List T) → Bool → (List T) → Option Res) (L5_22 : Int → Int → Bool → (List T) → Bool → Bool → (List T) → Bool → (List T) → Int → Int → Bool → (List T) → Int → Int → Int → Int → Bool → (List T) → Bool → (List T) → Bool → (List T) → Bool → (List T) → Option Res) (a0 : Int) (a1 : Int) (a2z : Bool) (a2 : List T) : Option Res :=
 callK (vr 9 0 [] ⟨[], []⟩) fun v_1 b_2 =>
 asT v_1 fun x_3 =>
 asB x_3 fun b_4 =>
 endB b_2 <|
(bif (decide (100 < (a2.length : Int))) then
 some ((.t (.bool b_4)), ⟨[], []⟩)
else
 L5_5 (a0) (a1) (a2z) (a2) (b_4) (a2z) (a2) ((a2.length : Int)) (0))
theorem eq5g (KL5_5 KL5_15 KL5_22 : Env → St → Option Res) (a0 : Int) (a1 : Int) (a2z : Bool) (a2 : List T) : codeT Try.prog hint 5 0 126 (Ta5 KL5_5 KL5_15 KL5_22) [] (resKV Try.prog Try.f5 (hint.own 5 0)) (nrm hint 5 0 (bodyOf Try.f5) (envV [(.t (.int .i64 a0)), (.t (.int .i64 a1)), (.t (.list 1 a2z a2))] 0) ⟨[], []⟩).1 (nrm hint 5 0 (bodyOf Try.f5) (envV [(.t (.int .i64 a0)), (.t (.int .i64 a1)), (.t (.list 1 a2z a2))] 0) ⟨[], []⟩).2 (bodyOf Try.f5) = R5 (fun kind0 size1 groups2z groups2 up7 t27z t27 t28 t29 => KL5_5 [(0, (.t (.int .i64 kind0))), (1, (.t (.int .i64 size1))), (2, (.t (.list 1 groups2z groups2))), (7, (.t (.bool up7))), (27, (.t (.list 1 t27z t27))), (28, (.t (.int .i64 t28))), (29, (.t (.int .i64 t29)))] ⟨[], []⟩) (fun kind0 size1 groups2z groups2 up7 t56z t56 t57 t58 m8_0 m8_1 m8_2z m8_2 m8_3z m8_3 m9z m9 => KL5_15 [(0, (.t (.int .i64 kind0))), (1, (.t (.int .i64 size1))), (2, (.t (.list 1 groups2z groups2))), (7, (.t (.bool up7))), (10, (.ptr 8 0 0)), (12, (.buf 9)), (56, (.t (.list 1 t56z t56))), (57, (.t (.int .i64 t57))), (58, (.t (.int .i64 t58)))] ⟨[(8, (.var [(.t (.int .i64 m8_0)), (.t (.int .i64 m8_1)), (.t (.list 1 m8_2z m8_2)), (.t (.list 1 m8_3z m8_3))])), (9, (.arr true 1 m9z m9))], []⟩) (fun kind0 size1 groups2z groups2 up7 g14z g14 t56z t56 t57 t58 t73z t73 t74 t75 m8_0 m8_1 m8_2z m8_2 m8_3z m8_3 m9z m9 m10z m10 => KL5_22 [(0, (.t (.int .i64 kind0))), (1, (.t (.int .i64 size1))), (2, (.t (.list 1 groups2z groups2))), (7, (.t (.bool up7))), (10, (.ptr 8 0 0)), (12, (.buf 9)), (14, (.t (.list 1 g14z g14))), (17, (.buf 10)), (56, (.t (.list 1 t56z t56))), (57, (.t (.int .i64 t57))), (58, (.t (.int .i64 t58))), (73, (.t (.list 2 t73z t73))), (74, (.t (.int .i64 t74))), (75, (.t (.int .i64 t75)))] ⟨[(8, (.var [(.t (.int .i64 m8_0)), (.t (.int .i64 m8_1)), (.t (.list 1 m8_2z m8_2)), (.t (.list 1 m8_3z m8_3))])), (9, (.arr true 1 m9z m9)), (10, (.arr true 1 m10z m10))], []⟩) a0 a1 a2z a2 := by kernel_rfl
/-- purfle/purflelaw04.LevelBack -/
theorem eq5 (a0 : Int) (a1 : Int) (a2z : Bool) (a2 : List T) : vr 5 0 [(.t (.int .i64 a0)), (.t (.int .i64 a1)), (.t (.list 1 a2z a2))] ⟨[], []⟩ = R5 L5_5 L5_15 L5_22 a0 a1 a2z a2 :=
  (call_eq Try.prog hint (fn := Try.f5) (nt := 126) (T := (Ta5 (fun e st => atV Try.prog hint 5 0 Try.f5 126 (List.reverse PaL5_5) e st) (fun e st => atV Try.prog hint 5 0 Try.f5 126 (List.reverse PaL5_15) e st) (fun e st => atV Try.prog hint 5 0 Try.f5 126 (List.reverse PaL5_22) e st))) [PaL5_5, PaL5_15, PaL5_22] rfl [(.t (.int .i64 a0)), (.t (.int .i64 a1)), (.t (.list 1 a2z a2))] ⟨[], []⟩ rfl rfl rfl rfl rfl).trans (eq5g (fun e st => atV Try.prog hint 5 0 Try.f5 126 (List.reverse PaL5_5) e st) (fun e st => atV Try.prog hint 5 0 Try.f5 126 (List.reverse PaL5_15) e st) (fun e st => atV Try.prog hint 5 0 Try.f5 126 (List.reverse PaL5_22) e st) a0 a1 a2z a2)
noncomputable def RL5_5 (L5_5 : Int → Int → Bool → (List T) → Bool → Bool → (List T) → Int → Int → Option Res) (L5_15 : Int → Int → Bool → (List T) → Bool → Bool → (List T) → Int → Int → Int → Int → Bool → (List T) → Bool → (List T) → Bool → (List T) → Option Res) (L5_22 : Int → Int → Bool → (List T) → Bool → Bool → (List T) → Bool → (List T) → Int → Int → Bool → (List T) → Int → Int → Int → Int → Bool → (List T) → Bool → (List T) → Bool → (List T) → Bool → (List T) → Option Res) (kind0 : Int) (size1 : Int) (groups2z : Bool) (groups2 : List T) (up7 : Bool) (t27z : Bool) (t27 : List T) (t28 : Int) (t29 : Int) : Option Res :=
(bif (decide (t29 < t28)) then
 needC (decide (0 ≤ t29)) fun _ =>
 getT t27 (t29).toNat fun e_1 =>
 asL 1 e_1 fun nn_2 l_3 =>
(bif (decide (300 < (l_3.length : Int))) then
 some ((.t (.bool up7)), ⟨[], []⟩)
else
 L5_5 (kind0) (size1) (groups2z) (groups2) (up7) (t27z) (t27) (t28) ((IntKind.i64.wrap (t29 + 1))))
else
 callK (vr 10 0 [(.t (.int .i64 kind0)), (.t (.int .i64 size1)), (.t (.list 1 groups2z groups2))] ⟨[], []⟩) fun v_4 b_5 =>
 asTup v_4 fun l_6 =>
 consV l_6 fun v_7 l_8 =>
 asT v_7 fun x_9 =>
 asA x_9 fun l_10 =>
 consT l_10 fun v_11 l_12 =>
 asI .i64 v_11 fun x_13 =>
 consT l_12 fun v_14 l_15 =>
 asI .i64 v_14 fun x_16 =>
 consT l_15 fun v_17 l_18 =>
 asL 1 v_17 fun nn_19 l_20 =>
 consT l_18 fun v_21 l_22 =>
 asL 1 v_21 fun nn_23 l_24 =>
 endT l_22 <|
 consV l_8 fun v_25 l_26 =>
 asT v_25 fun x_27 =>
 asI .i64 x_27 fun x_28 =>
 endV l_26 <|
 endB b_5 <|
(bif (!decide (x_28 = 0)) then
 some ((.t (.bool up7)), ⟨[], []⟩)
else
 callK (vr 14 0 [(.t (.agg [(.int .i64 x_13), (.int .i64 x_16), (.list 1 nn_19 l_20), (.list 1 nn_23 l_24)]))] ⟨[], []⟩) fun v_29 b_30 =>
 asT v_29 fun x_31 =>
 asB x_31 fun b_32 =>
 endB b_30 <|
(bif b_32 then
(bif (decide (100 < size1)) then
 some ((.t (.bool up7)), ⟨[], []⟩)
else
 L5_15 (kind0) (size1) (groups2z) (groups2) (up7) (groups2z) (groups2) ((groups2.length : Int)) (0) (x_13) (x_16) (nn_19) (l_20) (nn_23) (l_24) (false) ([]))
else
 L5_15 (kind0) (size1) (groups2z) (groups2) (up7) (groups2z) (groups2) ((groups2.length : Int)) (0) (x_13) (x_16) (nn_19) (l_20) (nn_23) (l_24) (false) ([]))))
theorem L5_5g (KL5_5 KL5_15 KL5_22 : Env → St → Option Res) (kind0 : Int) (size1 : Int) (groups2z : Bool) (groups2 : List T) (up7 : Bool) (t27z : Bool) (t27 : List T) (t28 : Int) (t29 : Int) : codeT Try.prog hint 5 0 126 (Ta5 KL5_5 KL5_15 KL5_22) (.lp :: PaL5_5) (ctxT Try.prog hint 5 0 126 (Ta5 KL5_5 KL5_15 KL5_22) [] (List.reverse (.lp :: PaL5_5)) (bodyOf Try.f5) (resKV Try.prog Try.f5 (hint.own 5 0))) [(0, (.t (.int .i64 kind0))), (1, (.t (.int .i64 size1))), (2, (.t (.list 1 groups2z groups2))), (7, (.t (.bool up7))), (27, (.t (.list 1 t27z t27))), (28, (.t (.int .i64 t28))), (29, (.t (.int .i64 t29)))] ⟨[], []⟩ (nav (List.reverse (.lp :: PaL5_5)) (bodyOf Try.f5)) = RL5_5 (fun kind0 size1 groups2z groups2 up7 t27z t27 t28 t29 => KL5_5 [(0, (.t (.int .i64 kind0))), (1, (.t (.int .i64 size1))), (2, (.t (.list 1 groups2z groups2))), (7, (.t (.bool up7))), (27, (.t (.list 1 t27z t27))), (28, (.t (.int .i64 t28))), (29, (.t (.int .i64 t29)))] ⟨[], []⟩) (fun kind0 size1 groups2z groups2 up7 t56z t56 t57 t58 m8_0 m8_1 m8_2z m8_2 m8_3z m8_3 m9z m9 => KL5_15 [(0, (.t (.int .i64 kind0))), (1, (.t (.int .i64 size1))), (2, (.t (.list 1 groups2z groups2))), (7, (.t (.bool up7))), (10, (.ptr 8 0 0)), (12, (.buf 9)), (56, (.t (.list 1 t56z t56))), (57, (.t (.int .i64 t57))), (58, (.t (.int .i64 t58)))] ⟨[(8, (.var [(.t (.int .i64 m8_0)), (.t (.int .i64 m8_1)), (.t (.list 1 m8_2z m8_2)), (.t (.list 1 m8_3z m8_3))])), (9, (.arr true 1 m9z m9))], []⟩) (fun kind0 size1 groups2z groups2 up7 g14z g14 t56z t56 t57 t58 t73z t73 t74 t75 m8_0 m8_1 m8_2z m8_2 m8_3z m8_3 m9z m9 m10z m10 => KL5_22 [(0, (.t (.int .i64 kind0))), (1, (.t (.int .i64 size1))), (2, (.t (.list 1 groups2z groups2))), (7, (.t (.bool up7))), (10, (.ptr 8 0 0)), (12, (.buf 9)), (14, (.t (.list 1 g14z g14))), (17, (.buf 10)), (56, (.t (.list 1 t56z t56))), (57, (.t (.int .i64 t57))), (58, (.t (.int .i64 t58))), (73, (.t (.list 2 t73z t73))), (74, (.t (.int .i64 t74))), (75, (.t (.int .i64 t75)))] ⟨[(8, (.var [(.t (.int .i64 m8_0)), (.t (.int .i64 m8_1)), (.t (.list 1 m8_2z m8_2)), (.t (.list 1 m8_3z m8_3))])), (9, (.arr true 1 m9z m9)), (10, (.arr true 1 m10z m10))], []⟩) kind0 size1 groups2z groups2 up7 t27z t27 t28 t29 := by kernel_rfl
theorem L5_5_eq (kind0 : Int) (size1 : Int) (groups2z : Bool) (groups2 : List T) (up7 : Bool) (t27z : Bool) (t27 : List T) (t28 : Int) (t29 : Int) : L5_5 kind0 size1 groups2z groups2 up7 t27z t27 t28 t29 = RL5_5 L5_5 L5_15 L5_22 kind0 size1 groups2z groups2 up7 t27z t27 t28 t29 :=
  (round_eq Try.prog hint (b := (nav (List.reverse (.lp :: PaL5_5)) (bodyOf Try.f5))) (fn := Try.f5) (nt := 126) (T := (Ta5 (fun e st => atV Try.prog hint 5 0 Try.f5 126 (List.reverse PaL5_5) e st) (fun e st => atV Try.prog hint 5 0 Try.f5 126 (List.reverse PaL5_15) e st) (fun e st => atV Try.prog hint 5 0 Try.f5 126 (List.reverse PaL5_22) e st))) [PaL5_5, PaL5_15, PaL5_22] rfl PaL5_5 [(0, (.t (.int .i64 kind0))), (1, (.t (.int .i64 size1))), (2, (.t (.list 1 groups2z groups2))), (7, (.t (.bool up7))), (27, (.t (.list 1 t27z t27))), (28, (.t (.int .i64 t28))), (29, (.t (.int .i64 t29)))] ⟨[], []⟩ rfl rfl rfl).trans (L5_5g (fun e st => atV Try.prog hint 5 0 Try.f5 126 (List.reverse PaL5_5) e st) (fun e st => atV Try.prog hint 5 0 Try.f5 126 (List.reverse PaL5_15) e st) (fun e st => atV Try.prog hint 5 0 Try.f5 126 (List.reverse PaL5_22) e st) kind0 size1 groups2z groups2 up7 t27z t27 t28 t29)
noncomputable def RL5_15 (L5_5 : Int → Int → Bool → (List T) → Bool → Bool → (List T) → Int → Int → Option Res) (L5_15 : Int → Int → Bool → (List T) → Bool → Bool → (List T) → Int → Int → Int → Int → Bool → (List T) → Bool → (List T) → Bool → (List T) → Option Res) (L5_22 : Int → Int → Bool → (List T) → Bool → Bool → (List T) → Bool → (List T) → Int → Int → Bool → (List T) → Int → Int → Int → Int → Bool → (List T) → Bool → (List T) → Bool → (List T) → Bool → (List T) → Option Res) (kind0 : Int) (size1 : Int) (groups2z : Bool) (groups2 : List T) (up7 : Bool) (t56z : Bool) (t56 : List T) (t57 : Int) (t58 : Int) (m8_0 : Int) (m8_1 : Int) (m8_2z : Bool) (m8_2 : List T) (m8_3z : Bool) (m8_3 : List T) (m9z : Bool) (m9 : List T) : Option Res :=
(bif (decide (t58 < t57)) then
 needC (decide (0 ≤ t58)) fun _ =>
 getT t56 (t58).toNat fun e_1 =>
 asL 1 e_1 fun nn_2 l_3 =>
 callK (vr 15 0 [(.t (.agg [(.int .i64 m8_0), (.int .i64 m8_1), (.list 1 m8_2z m8_2), (.list 1 m8_3z m8_3)])), (.t (.int .i64 (groups2.length : Int))), (.t (.int .i64 t58))] ⟨[], []⟩) fun v_4 b_5 =>
 asTup v_4 fun l_6 =>
 consV l_6 fun v_7 l_8 =>
 asT v_7 fun x_9 =>
 asL 2 x_9 fun nn_10 l_11 =>
 consV l_8 fun v_12 l_13 =>
 asT v_12 fun x_14 =>
 asI .i64 x_14 fun x_15 =>
 endV l_13 <|
 endB b_5 <|
(bif (!decide (x_15 = 0)) then
 some ((.t (.bool false)), ⟨[], []⟩)
else
 L5_22 (kind0) (size1) (groups2z) (groups2) (up7) (nn_2) (l_3) (t56z) (t56) (t57) (t58) (nn_10) (l_11) ((l_11.length : Int)) (0) (m8_0) (m8_1) (m8_2z) (m8_2) (m8_3z) (m8_3) (m9z) (m9) (false) ([]))
else
 callK (vr 10 0 [(.t (.int .i64 kind0)), (.t (.int .i64 size1)), (.t (.list 1 m9z m9))] ⟨[], []⟩) fun v_16 b_17 =>
 asTup v_16 fun l_18 =>
 consV l_18 fun v_19 l_20 =>
 asT v_19 fun x_21 =>
 asA x_21 fun l_22 =>
 consT l_22 fun v_23 l_24 =>
 asI .i64 v_23 fun x_25 =>
 consT l_24 fun v_26 l_27 =>
 asI .i64 v_26 fun x_28 =>
 consT l_27 fun v_29 l_30 =>
 asL 1 v_29 fun nn_31 l_32 =>
 consT l_30 fun v_33 l_34 =>
 asL 1 v_33 fun nn_35 l_36 =>
 endT l_34 <|
 consV l_20 fun v_37 l_38 =>
 asT v_37 fun x_39 =>
 asI .i64 x_39 fun x_40 =>
 endV l_38 <|
 endB b_17 <|
(bif up7 then
(bif (decide (x_40 = 0)) then
 callK (vr 17 0 [(.t (.agg [(.int .i64 m8_0), (.int .i64 m8_1), (.list 1 m8_2z m8_2), (.list 1 m8_3z m8_3)])), (.t (.agg [(.int .i64 x_25), (.int .i64 x_28), (.list 1 nn_31 l_32), (.list 1 nn_35 l_36)]))] ⟨[], []⟩) fun v_41 b_42 =>
 asT v_41 fun x_43 =>
 asB x_43 fun b_44 =>
 endB b_42 <|
 some ((.t (.bool b_44)), ⟨[], []⟩)
else
 some ((.t (.bool false)), ⟨[], []⟩))
else
 some ((.t (.bool false)), ⟨[], []⟩)))
theorem L5_15g (KL5_5 KL5_15 KL5_22 : Env → St → Option Res) (kind0 : Int) (size1 : Int) (groups2z : Bool) (groups2 : List T) (up7 : Bool) (t56z : Bool) (t56 : List T) (t57 : Int) (t58 : Int) (m8_0 : Int) (m8_1 : Int) (m8_2z : Bool) (m8_2 : List T) (m8_3z : Bool) (m8_3 : List T) (m9z : Bool) (m9 : List T) : codeT Try.prog hint 5 0 126 (Ta5 KL5_5 KL5_15 KL5_22) (.lp :: PaL5_15) (ctxT Try.prog hint 5 0 126 (Ta5 KL5_5 KL5_15 KL5_22) [] (List.reverse (.lp :: PaL5_15)) (bodyOf Try.f5) (resKV Try.prog Try.f5 (hint.own 5 0))) [(0, (.t (.int .i64 kind0))), (1, (.t (.int .i64 size1))), (2, (.t (.list 1 groups2z groups2))), (7, (.t (.bool up7))), (10, (.ptr 8 0 0)), (12, (.buf 9)), (56, (.t (.list 1 t56z t56))), (57, (.t (.int .i64 t57))), (58, (.t (.int .i64 t58)))] ⟨[(8, (.var [(.t (.int .i64 m8_0)), (.t (.int .i64 m8_1)), (.t (.list 1 m8_2z m8_2)), (.t (.list 1 m8_3z m8_3))])), (9, (.arr true 1 m9z m9))], []⟩ (nav (List.reverse (.lp :: PaL5_15)) (bodyOf Try.f5)) = RL5_15 (fun kind0 size1 groups2z groups2 up7 t27z t27 t28 t29 => KL5_5 [(0, (.t (.int .i64 kind0))), (1, (.t (.int .i64 size1))), (2, (.t (.list 1 groups2z groups2))), (7, (.t (.bool up7))), (27, (.t (.list 1 t27z t27))), (28, (.t (.int .i64 t28))), (29, (.t (.int .i64 t29)))] ⟨[], []⟩) (fun kind0 size1 groups2z groups2 up7 t56z t56 t57 t58 m8_0 m8_1 m8_2z m8_2 m8_3z m8_3 m9z m9 => KL5_15 [(0, (.t (.int .i64 kind0))), (1, (.t (.int .i64 size1))), (2, (.t (.list 1 groups2z groups2))), (7, (.t (.bool up7))), (10, (.ptr 8 0 0)), (12, (.buf 9)), (56, (.t (.list 1 t56z t56))), (57, (.t (.int .i64 t57))), (58, (.t (.int .i64 t58)))] ⟨[(8, (.var [(.t (.int .i64 m8_0)), (.t (.int .i64 m8_1)), (.t (.list 1 m8_2z m8_2)), (.t (.list 1 m8_3z m8_3))])), (9, (.arr true 1 m9z m9))], []⟩) (fun kind0 size1 groups2z groups2 up7 g14z g14 t56z t56 t57 t58 t73z t73 t74 t75 m8_0 m8_1 m8_2z m8_2 m8_3z m8_3 m9z m9 m10z m10 => KL5_22 [(0, (.t (.int .i64 kind0))), (1, (.t (.int .i64 size1))), (2, (.t (.list 1 groups2z groups2))), (7, (.t (.bool up7))), (10, (.ptr 8 0 0)), (12, (.buf 9)), (14, (.t (.list 1 g14z g14))), (17, (.buf 10)), (56, (.t (.list 1 t56z t56))), (57, (.t (.int .i64 t57))), (58, (.t (.int .i64 t58))), (73, (.t (.list 2 t73z t73))), (74, (.t (.int .i64 t74))), (75, (.t (.int .i64 t75)))] ⟨[(8, (.var [(.t (.int .i64 m8_0)), (.t (.int .i64 m8_1)), (.t (.list 1 m8_2z m8_2)), (.t (.list 1 m8_3z m8_3))])), (9, (.arr true 1 m9z m9)), (10, (.arr true 1 m10z m10))], []⟩) kind0 size1 groups2z groups2 up7 t56z t56 t57 t58 m8_0 m8_1 m8_2z m8_2 m8_3z m8_3 m9z m9 := by kernel_rfl
theorem L5_15_eq (kind0 : Int) (size1 : Int) (groups2z : Bool) (groups2 : List T) (up7 : Bool) (t56z : Bool) (t56 : List T) (t57 : Int) (t58 : Int) (m8_0 : Int) (m8_1 : Int) (m8_2z : Bool) (m8_2 : List T) (m8_3z : Bool) (m8_3 : List T) (m9z : Bool) (m9 : List T) : L5_15 kind0 size1 groups2z groups2 up7 t56z t56 t57 t58 m8_0 m8_1 m8_2z m8_2 m8_3z m8_3 m9z m9 = RL5_15 L5_5 L5_15 L5_22 kind0 size1 groups2z groups2 up7 t56z t56 t57 t58 m8_0 m8_1 m8_2z m8_2 m8_3z m8_3 m9z m9 :=
  (round_eq Try.prog hint (b := (nav (List.reverse (.lp :: PaL5_15)) (bodyOf Try.f5))) (fn := Try.f5) (nt := 126) (T := (Ta5 (fun e st => atV Try.prog hint 5 0 Try.f5 126 (List.reverse PaL5_5) e st) (fun e st => atV Try.prog hint 5 0 Try.f5 126 (List.reverse PaL5_15) e st) (fun e st => atV Try.prog hint 5 0 Try.f5 126 (List.reverse PaL5_22) e st))) [PaL5_5, PaL5_15, PaL5_22] rfl PaL5_15 [(0, (.t (.int .i64 kind0))), (1, (.t (.int .i64 size1))), (2, (.t (.list 1 groups2z groups2))), (7, (.t (.bool up7))), (10, (.ptr 8 0 0)), (12, (.buf 9)), (56, (.t (.list 1 t56z t56))), (57, (.t (.int .i64 t57))), (58, (.t (.int .i64 t58)))] ⟨[(8, (.var [(.t (.int .i64 m8_0)), (.t (.int .i64 m8_1)), (.t (.list 1 m8_2z m8_2)), (.t (.list 1 m8_3z m8_3))])), (9, (.arr true 1 m9z m9))], []⟩ rfl rfl rfl).trans (L5_15g (fun e st => atV Try.prog hint 5 0 Try.f5 126 (List.reverse PaL5_5) e st) (fun e st => atV Try.prog hint 5 0 Try.f5 126 (List.reverse PaL5_15) e st) (fun e st => atV Try.prog hint 5 0 Try.f5 126 (List.reverse PaL5_22) e st) kind0 size1 groups2z groups2 up7 t56z t56 t57 t58 m8_0 m8_1 m8_2z m8_2 m8_3z m8_3 m9z m9)
noncomputable def RL5_22 (L5_5 : Int → Int → Bool → (List T) → Bool → Bool → (List T) → Int → Int → Option Res) (L5_15 : Int → Int → Bool → (List T) → Bool → Bool → (List T) → Int → Int → Int → Int → Bool → (List T) → Bool → (List T) → Bool → (List T) → Option Res) (L5_22 : Int → Int → Bool → (List T) → Bool → Bool → (List T) → Bool → (List T) → Int → Int → Bool → (List T) → Int → Int → Int → Int → Bool → (List T) → Bool → (List T) → Bool → (List T) → Bool → (List T) → Option Res) (kind0 : Int) (size1 : Int) (groups2z : Bool) (groups2 : List T) (up7 : Bool) (g14z : Bool) (g14 : List T) (t56z : Bool) (t56 : List T) (t57 : Int) (t58 : Int) (t73z : Bool) (t73 : List T) (t74 : Int) (t75 : Int) (m8_0 : Int) (m8_1 : Int) (m8_2z : Bool) (m8_2 : List T) (m8_3z : Bool) (m8_3 : List T) (m9z : Bool) (m9 : List T) (m10z : Bool) (m10 : List T) : Option Res :=
(bif (decide (t75 < t74)) then
 needC (decide (0 ≤ t75)) fun _ =>
 getT t73 (t75).toNat fun e_1 =>
 asA e_1 fun l_2 =>
 consT l_2 fun v_3 l_4 =>
 asI .i64 v_3 fun x_5 =>
 consT l_4 fun v_6 l_7 =>
 asI .i64 v_6 fun x_8 =>
 endT l_7 <|
 needC (decide ((m10.length + 1) * (8 + 1) ≤ 70368744177664) && decide (8 ≤ 1048576)) fun _ =>
 L5_22 (kind0) (size1) (groups2z) (groups2) (up7) (g14z) (g14) (t56z) (t56) (t57) (t58) (t73z) (t73) (t74) ((IntKind.i64.wrap (t75 + 1))) (m8_0) (m8_1) (m8_2z) (m8_2) (m8_3z) (m8_3) (m9z) (m9) ((m10z || true)) ((m10 ++ ([(.int .i64 x_5)] : List T)))
else
 callK (vr 14 0 [(.t (.agg [(.int .i64 m8_0), (.int .i64 m8_1), (.list 1 m8_2z m8_2), (.list 1 m8_3z m8_3)]))] ⟨[], []⟩) fun v_9 b_10 =>
 asT v_9 fun x_11 =>
 asB x_11 fun b_12 =>
 endB b_10 <|
(bif (!b_12) then
 callK (vr 16 0 [(.t (.list 1 m10z m10)), (.t (.list 1 g14z g14))] ⟨[], []⟩) fun v_13 b_14 =>
 asT v_13 fun x_15 =>
 asB x_15 fun b_16 =>
 endB b_14 <|
(bif (!b_16) then
 some ((.t (.bool false)), ⟨[], []⟩)
else
 callK (vr 14 0 [(.t (.agg [(.int .i64 m8_0), (.int .i64 m8_1), (.list 1 m8_2z m8_2), (.list 1 m8_3z m8_3)]))] ⟨[], []⟩) fun v_17 b_18 =>
 asT v_17 fun x_19 =>
 asB x_19 fun b_20 =>
 endB b_18 <|
(bif b_20 then
(bif (!decide ((m10.length : Int) = size1)) then
 some ((.t (.bool false)), ⟨[], []⟩)
else
 needC (decide ((m9.length + 1) * (24 + 1) ≤ 70368744177664) && decide (24 ≤ 1048576)) fun _ =>
 L5_15 (kind0) (size1) (groups2z) (groups2) (up7) (t56z) (t56) (t57) ((IntKind.i64.wrap (t58 + 1))) (m8_0) (m8_1) (m8_2z) (m8_2) (m8_3z) (m8_3) ((m9z || true)) ((m9 ++ ([(.list 1 m10z m10)] : List T))))
else
 needC (decide ((m9.length + 1) * (24 + 1) ≤ 70368744177664) && decide (24 ≤ 1048576)) fun _ =>
 L5_15 (kind0) (size1) (groups2z) (groups2) (up7) (t56z) (t56) (t57) ((IntKind.i64.wrap (t58 + 1))) (m8_0) (m8_1) (m8_2z) (m8_2) (m8_3z) (m8_3) ((m9z || true)) ((m9 ++ ([(.list 1 m10z m10)] : List T)))))
else
 callK (vr 14 0 [(.t (.agg [(.int .i64 m8_0), (.int .i64 m8_1), (.list 1 m8_2z m8_2), (.list 1 m8_3z m8_3)]))] ⟨[], []⟩) fun v_21 b_22 =>
 asT v_21 fun x_23 =>
 asB x_23 fun b_24 =>
 endB b_22 <|
(bif b_24 then
(bif (!decide ((m10.length : Int) = size1)) then
 some ((.t (.bool false)), ⟨[], []⟩)
else
 needC (decide ((m9.length + 1) * (24 + 1) ≤ 70368744177664) && decide (24 ≤ 1048576)) fun _ =>
 L5_15 (kind0) (size1) (groups2z) (groups2) (up7) (t56z) (t56) (t57) ((IntKind.i64.wrap (t58 + 1))) (m8_0) (m8_1) (m8_2z) (m8_2) (m8_3z) (m8_3) ((m9z || true)) ((m9 ++ ([(.list 1 m10z m10)] : List T))))
else
 needC (decide ((m9.length + 1) * (24 + 1) ≤ 70368744177664) && decide (24 ≤ 1048576)) fun _ =>
 L5_15 (kind0) (size1) (groups2z) (groups2) (up7) (t56z) (t56) (t57) ((IntKind.i64.wrap (t58 + 1))) (m8_0) (m8_1) (m8_2z) (m8_2) (m8_3z) (m8_3) ((m9z || true)) ((m9 ++ ([(.list 1 m10z m10)] : List T))))))
theorem L5_22g (KL5_5 KL5_15 KL5_22 : Env → St → Option Res) (kind0 : Int) (size1 : Int) (groups2z : Bool) (groups2 : List T) (up7 : Bool) (g14z : Bool) (g14 : List T) (t56z : Bool) (t56 : List T) (t57 : Int) (t58 : Int) (t73z : Bool) (t73 : List T) (t74 : Int) (t75 : Int) (m8_0 : Int) (m8_1 : Int) (m8_2z : Bool) (m8_2 : List T) (m8_3z : Bool) (m8_3 : List T) (m9z : Bool) (m9 : List T) (m10z : Bool) (m10 : List T) : codeT Try.prog hint 5 0 126 (Ta5 KL5_5 KL5_15 KL5_22) (.lp :: PaL5_22) (ctxT Try.prog hint 5 0 126 (Ta5 KL5_5 KL5_15 KL5_22) [] (List.reverse (.lp :: PaL5_22)) (bodyOf Try.f5) (resKV Try.prog Try.f5 (hint.own 5 0))) [(0, (.t (.int .i64 kind0))), (1, (.t (.int .i64 size1))), (2, (.t (.list 1 groups2z groups2))), (7, (.t (.bool up7))), (10, (.ptr 8 0 0)), (12, (.buf 9)), (14, (.t (.list 1 g14z g14))), (17, (.buf 10)), (56, (.t (.list 1 t56z t56))), (57, (.t (.int .i64 t57))), (58, (.t (.int .i64 t58))), (73, (.t (.list 2 t73z t73))), (74, (.t (.int .i64 t74))), (75, (.t (.int .i64 t75)))] ⟨[(8, (.var [(.t (.int .i64 m8_0)), (.t (.int .i64 m8_1)), (.t (.list 1 m8_2z m8_2)), (.t (.list 1 m8_3z m8_3))])), (9, (.arr true 1 m9z m9)), (10, (.arr true 1 m10z m10))], []⟩ (nav (List.reverse (.lp :: PaL5_22)) (bodyOf Try.f5)) = RL5_22 (fun kind0 size1 groups2z groups2 up7 t27z t27 t28 t29 => KL5_5 [(0, (.t (.int .i64 kind0))), (1, (.t (.int .i64 size1))), (2, (.t (.list 1 groups2z groups2))), (7, (.t (.bool up7))), (27, (.t (.list 1 t27z t27))), (28, (.t (.int .i64 t28))), (29, (.t (.int .i64 t29)))] ⟨[], []⟩) (fun kind0 size1 groups2z groups2 up7 t56z t56 t57 t58 m8_0 m8_1 m8_2z m8_2 m8_3z m8_3 m9z m9 => KL5_15 [(0, (.t (.int .i64 kind0))), (1, (.t (.int .i64 size1))), (2, (.t (.list 1 groups2z groups2))), (7, (.t (.bool up7))), (10, (.ptr 8 0 0)), (12, (.buf 9)), (56, (.t (.list 1 t56z t56))), (57, (.t (.int .i64 t57))), (58, (.t (.int .i64 t58)))] ⟨[(8, (.var [(.t (.int .i64 m8_0)), (.t (.int .i64 m8_1)), (.t (.list 1 m8_2z m8_2)), (.t (.list 1 m8_3z m8_3))])), (9, (.arr true 1 m9z m9))], []⟩) (fun kind0 size1 groups2z groups2 up7 g14z g14 t56z t56 t57 t58 t73z t73 t74 t75 m8_0 m8_1 m8_2z m8_2 m8_3z m8_3 m9z m9 m10z m10 => KL5_22 [(0, (.t (.int .i64 kind0))), (1, (.t (.int .i64 size1))), (2, (.t (.list 1 groups2z groups2))), (7, (.t (.bool up7))), (10, (.ptr 8 0 0)), (12, (.buf 9)), (14, (.t (.list 1 g14z g14))), (17, (.buf 10)), (56, (.t (.list 1 t56z t56))), (57, (.t (.int .i64 t57))), (58, (.t (.int .i64 t58))), (73, (.t (.list 2 t73z t73))), (74, (.t (.int .i64 t74))), (75, (.t (.int .i64 t75)))] ⟨[(8, (.var [(.t (.int .i64 m8_0)), (.t (.int .i64 m8_1)), (.t (.list 1 m8_2z m8_2)), (.t (.list 1 m8_3z m8_3))])), (9, (.arr true 1 m9z m9)), (10, (.arr true 1 m10z m10))], []⟩) kind0 size1 groups2z groups2 up7 g14z g14 t56z t56 t57 t58 t73z t73 t74 t75 m8_0 m8_1 m8_2z m8_2 m8_3z m8_3 m9z m9 m10z m10 := by kernel_rfl
theorem L5_22_eq (kind0 : Int) (size1 : Int) (groups2z : Bool) (groups2 : List T) (up7 : Bool) (g14z : Bool) (g14 : List T) (t56z : Bool) (t56 : List T) (t57 : Int) (t58 : Int) (t73z : Bool) (t73 : List T) (t74 : Int) (t75 : Int) (m8_0 : Int) (m8_1 : Int) (m8_2z : Bool) (m8_2 : List T) (m8_3z : Bool) (m8_3 : List T) (m9z : Bool) (m9 : List T) (m10z : Bool) (m10 : List T) : L5_22 kind0 size1 groups2z groups2 up7 g14z g14 t56z t56 t57 t58 t73z t73 t74 t75 m8_0 m8_1 m8_2z m8_2 m8_3z m8_3 m9z m9 m10z m10 = RL5_22 L5_5 L5_15 L5_22 kind0 size1 groups2z groups2 up7 g14z g14 t56z t56 t57 t58 t73z t73 t74 t75 m8_0 m8_1 m8_2z m8_2 m8_3z m8_3 m9z m9 m10z m10 :=
  (round_eq Try.prog hint (b := (nav (List.reverse (.lp :: PaL5_22)) (bodyOf Try.f5))) (fn := Try.f5) (nt := 126) (T := (Ta5 (fun e st => atV Try.prog hint 5 0 Try.f5 126 (List.reverse PaL5_5) e st) (fun e st => atV Try.prog hint 5 0 Try.f5 126 (List.reverse PaL5_15) e st) (fun e st => atV Try.prog hint 5 0 Try.f5 126 (List.reverse PaL5_22) e st))) [PaL5_5, PaL5_15, PaL5_22] rfl PaL5_22 [(0, (.t (.int .i64 kind0))), (1, (.t (.int .i64 size1))), (2, (.t (.list 1 groups2z groups2))), (7, (.t (.bool up7))), (10, (.ptr 8 0 0)), (12, (.buf 9)), (14, (.t (.list 1 g14z g14))), (17, (.buf 10)), (56, (.t (.list 1 t56z t56))), (57, (.t (.int .i64 t57))), (58, (.t (.int .i64 t58))), (73, (.t (.list 2 t73z t73))), (74, (.t (.int .i64 t74))), (75, (.t (.int .i64 t75)))] ⟨[(8, (.var [(.t (.int .i64 m8_0)), (.t (.int .i64 m8_1)), (.t (.list 1 m8_2z m8_2)), (.t (.list 1 m8_3z m8_3))])), (9, (.arr true 1 m9z m9)), (10, (.arr true 1 m10z m10))], []⟩ rfl rfl rfl).trans (L5_22g (fun e st => atV Try.prog hint 5 0 Try.f5 126 (List.reverse PaL5_5) e st) (fun e st => atV Try.prog hint 5 0 Try.f5 126 (List.reverse PaL5_15) e st) (fun e st => atV Try.prog hint 5 0 Try.f5 126 (List.reverse PaL5_22) e st) kind0 size1 groups2z groups2 up7 g14z g14 t56z t56 t57 t58 t73z t73 t74 t75 m8_0 m8_1 m8_2z m8_2 m8_3z m8_3 m9z m9 m10z m10)
noncomputable def R18  (a0_0 : Int) (a0_1 : Int) (a0_2z : Bool) (a0_2 : List T) (a0_3z : Bool) (a0_3 : List T) (a1 : Int) : Option Res :=
(bif (decide ((a0_2.length : Int) ≤ 70000)) then
(bif (decide ((a0_3.length : Int) ≤ 70000)) then
 callK (vr 21 0 [(.t (.agg [(.int .i64 a0_0), (.int .i64 a0_1), (.list 1 a0_2z a0_2), (.list 1 a0_3z a0_3)]))] ⟨[], []⟩) fun v_1 b_2 =>
 asT v_1 fun x_3 =>
 asB x_3 fun b_4 =>
 endB b_2 <|
(bif (!b_4) then
 some ((.t (.bool (decide (a1 ≤ 70000)))), ⟨[], []⟩)
else
(bif (decide (a0_1 ≤ 5000)) then
 some ((.t (.bool (decide (a1 ≤ 70000)))), ⟨[], []⟩)
else
 some ((.t (.bool false)), ⟨[], []⟩)))
else
 some ((.t (.bool false)), ⟨[], []⟩))
else
 some ((.t (.bool false)), ⟨[], []⟩))
theorem eq18g  (a0_0 : Int) (a0_1 : Int) (a0_2z : Bool) (a0_2 : List T) (a0_3z : Bool) (a0_3 : List T) (a1 : Int) : codeT Try.prog hint 18 0 29 [] [] (resKV Try.prog Try.f18 (hint.own 18 0)) (nrm hint 18 0 (bodyOf Try.f18) (envV [(.t (.agg [(.int .i64 a0_0), (.int .i64 a0_1), (.list 1 a0_2z a0_2), (.list 1 a0_3z a0_3)])), (.t (.int .i64 a1))] 0) ⟨[], []⟩).1 (nrm hint 18 0 (bodyOf Try.f18) (envV [(.t (.agg [(.int .i64 a0_0), (.int .i64 a0_1), (.list 1 a0_2z a0_2), (.list 1 a0_3z a0_3)])), (.t (.int .i64 a1))] 0) ⟨[], []⟩).2 (bodyOf Try.f18) = R18  a0_0 a0_1 a0_2z a0_2 a0_3z a0_3 a1 := by kernel_rfl
/-- purfle/purflelaw04.few -/
theorem eq18 (a0_0 : Int) (a0_1 : Int) (a0_2z : Bool) (a0_2 : List T) (a0_3z : Bool) (a0_3 : List T) (a1 : Int) : vr 18 0 [(.t (.agg [(.int .i64 a0_0), (.int .i64 a0_1), (.list 1 a0_2z a0_2), (.list 1 a0_3z a0_3)])), (.t (.int .i64 a1))] ⟨[], []⟩ = R18  a0_0 a0_1 a0_2z a0_2 a0_3z a0_3 a1 :=
  (call_eq Try.prog hint (fn := Try.f18) (nt := 29) (T := []) [] rfl [(.t (.agg [(.int .i64 a0_0), (.int .i64 a0_1), (.list 1 a0_2z a0_2), (.list 1 a0_3z a0_3)])), (.t (.int .i64 a1))] ⟨[], []⟩ rfl rfl rfl rfl rfl).trans (eq18g  a0_0 a0_1 a0_2z a0_2 a0_3z a0_3 a1)
noncomputable def R46  (a0 : Int) : Option Res :=
 some ((.t (.bool (!decide (a0 = a0)))), ⟨[], []⟩)
theorem eq46g  (a0 : Int) : codeT Try.prog hint 46 0 6 [] [] (resKV Try.prog Try.f46 (hint.own 46 0)) (nrm hint 46 0 (bodyOf Try.f46) (envV [(.t (.int .i64 a0))] 0) ⟨[], []⟩).1 (nrm hint 46 0 (bodyOf Try.f46) (envV [(.t (.int .i64 a0))] 0) ⟨[], []⟩).2 (bodyOf Try.f46) = R46  a0 := by kernel_rfl
/-- slices.isNaN[int] -/
theorem eq46 (a0 : Int) : vr 46 0 [(.t (.int .i64 a0))] ⟨[], []⟩ = R46  a0 :=
  (call_eq Try.prog hint (fn := Try.f46) (nt := 6) (T := []) [] rfl [(.t (.int .i64 a0))] ⟨[], []⟩ rfl rfl rfl rfl rfl).trans (eq46g  a0)
noncomputable def R37 (L37_3 : Bool → (List T) → Int → Int → Int → Int → Option Res) (a0z : Bool) (a0 : List T) (a1 : Int) : Option Res :=
 L37_3 (a0z) (a0) (a1) ((a0.length : Int)) (0) ((a0.length : Int))
theorem eq37g (KL37_3 : Env → St → Option Res) (a0z : Bool) (a0 : List T) (a1 : Int) : codeT Try.prog hint 37 0 54 (Ta37 KL37_3) [] (resKV Try.prog Try.f37 (hint.own 37 0)) (nrm hint 37 0 (bodyOf Try.f37) (envV [(.t (.list 1 a0z a0)), (.t (.int .i64 a1))] 0) ⟨[], []⟩).1 (nrm hint 37 0 (bodyOf Try.f37) (envV [(.t (.list 1 a0z a0)), (.t (.int .i64 a1))] 0) ⟨[], []⟩).2 (bodyOf Try.f37) = R37 (fun x0z x0 target1 n6 i7 j8 => KL37_3 [(0, (.t (.list 1 x0z x0))), (1, (.t (.int .i64 target1))), (6, (.t (.int .i64 n6))), (7, (.t (.int .i64 i7))), (8, (.t (.int .i64 j8)))] ⟨[], []⟩) a0z a0 a1 := by kernel_rfl
/-- slices.BinarySearch[[]int,int] -/
theorem eq37 (a0z : Bool) (a0 : List T) (a1 : Int) : vr 37 0 [(.t (.list 1 a0z a0)), (.t (.int .i64 a1))] ⟨[], []⟩ = R37 L37_3 a0z a0 a1 :=
  (call_eq Try.prog hint (fn := Try.f37) (nt := 54) (T := (Ta37 (fun e st => atV Try.prog hint 37 0 Try.f37 54 (List.reverse PaL37_3) e st))) [PaL37_3] rfl [(.t (.list 1 a0z a0)), (.t (.int .i64 a1))] ⟨[], []⟩ rfl rfl rfl rfl rfl).trans (eq37g (fun e st => atV Try.prog hint 37 0 Try.f37 54 (List.reverse PaL37_3) e st) a0z a0 a1)
noncomputable def RL37_3 (L37_3 : Bool → (List T) → Int → Int → Int → Int → Option Res) (x0z : Bool) (x0 : List T) (target1 : Int) (n6 : Int) (i7 : Int) (j8 : Int) : Option Res :=
(bif (decide (i7 < j8)) then
 needC (decide (0 ≤ (IntKind.i64.wrap (shrI .u64 (IntKind.u64.wrap (IntKind.i64.wrap (i7 + j8))) 1)))) fun _ =>
 getT x0 ((IntKind.i64.wrap (shrI .u64 (IntKind.u64.wrap (IntKind.i64.wrap (i7 + j8))) 1))).toNat fun e_1 =>
 asI .i64 e_1 fun x_2 =>
 callK (vr 45 0 [(.t (.int .i64 x_2)), (.t (.int .i64 target1))] ⟨[], []⟩) fun v_3 b_4 =>
 asT v_3 fun x_5 =>
 asB x_5 fun b_6 =>
 endB b_4 <|
(bif b_6 then
 L37_3 (x0z) (x0) (target1) (n6) ((IntKind.i64.wrap ((IntKind.i64.wrap (shrI .u64 (IntKind.u64.wrap (IntKind.i64.wrap (i7 + j8))) 1)) + 1))) (j8)
else
 L37_3 (x0z) (x0) (target1) (n6) (i7) ((IntKind.i64.wrap (shrI .u64 (IntKind.u64.wrap (IntKind.i64.wrap (i7 + j8))) 1))))
else
(bif (decide (i7 < n6)) then
 needC (decide (0 ≤ i7)) fun _ =>
 getT x0 (i7).toNat fun e_7 =>
 asI .i64 e_7 fun x_8 =>
(bif (decide (x_8 = target1)) then
 some ((.tup [(.t (.int .i64 i7)), (.t (.bool true))]), ⟨[], []⟩)
else
 needC (decide (0 ≤ i7)) fun _ =>
 getT x0 (i7).toNat fun e_9 =>
 asI .i64 e_9 fun x_10 =>
 callK (vr 46 0 [(.t (.int .i64 x_10))] ⟨[], []⟩) fun v_11 b_12 =>
 asT v_11 fun x_13 =>
 asB x_13 fun b_14 =>
 endB b_12 <|
(bif b_14 then
 callK (vr 46 0 [(.t (.int .i64 target1))] ⟨[], []⟩) fun v_15 b_16 =>
 asT v_15 fun x_17 =>
 asB x_17 fun b_18 =>
 endB b_16 <|
 some ((.tup [(.t (.int .i64 i7)), (.t (.bool b_18))]), ⟨[], []⟩)
else
 some ((.tup [(.t (.int .i64 i7)), (.t (.bool false))]), ⟨[], []⟩)))
else
 some ((.tup [(.t (.int .i64 i7)), (.t (.bool false))]), ⟨[], []⟩)))
theorem L37_3g (KL37_3 : Env → St → Option Res) (x0z : Bool) (x0 : List T) (target1 : Int) (n6 : Int) (i7 : Int) (j8 : Int) : codeT Try.prog hint 37 0 54 (Ta37 KL37_3) (.lp :: PaL37_3) (ctxT Try.prog hint 37 0 54 (Ta37 KL37_3) [] (List.reverse (.lp :: PaL37_3)) (bodyOf Try.f37) (resKV Try.prog Try.f37 (hint.own 37 0))) [(0, (.t (.list 1 x0z x0))), (1, (.t (.int .i64 target1))), (6, (.t (.int .i64 n6))), (7, (.t (.int .i64 i7))), (8, (.t (.int .i64 j8)))] ⟨[], []⟩ (nav (List.reverse (.lp :: PaL37_3)) (bodyOf Try.f37)) = RL37_3 (fun x0z x0 target1 n6 i7 j8 => KL37_3 [(0, (.t (.list 1 x0z x0))), (1, (.t (.int .i64 target1))), (6, (.t (.int .i64 n6))), (7, (.t (.int .i64 i7))), (8, (.t (.int .i64 j8)))] ⟨[], []⟩) x0z x0 target1 n6 i7 j8 := by kernel_rfl
theorem L37_3_eq (x0z : Bool) (x0 : List T) (target1 : Int) (n6 : Int) (i7 : Int) (j8 : Int) : L37_3 x0z x0 target1 n6 i7 j8 = RL37_3 L37_3 x0z x0 target1 n6 i7 j8 :=
  (round_eq Try.prog hint (b := (nav (List.reverse (.lp :: PaL37_3)) (bodyOf Try.f37))) (fn := Try.f37) (nt := 54) (T := (Ta37 (fun e st => atV Try.prog hint 37 0 Try.f37 54 (List.reverse PaL37_3) e st))) [PaL37_3] rfl PaL37_3 [(0, (.t (.list 1 x0z x0))), (1, (.t (.int .i64 target1))), (6, (.t (.int .i64 n6))), (7, (.t (.int .i64 i7))), (8, (.t (.int .i64 j8)))] ⟨[], []⟩ rfl rfl rfl).trans (L37_3g (fun e st => atV Try.prog hint 37 0 Try.f37 54 (List.reverse PaL37_3) e st) x0z x0 target1 n6 i7 j8)
noncomputable def R20 (J20_8 : Int → Int → Bool → Option Res) (a0_0 : Int) (a0_1 : Int) (a0_2z : Bool) (a0_2 : List T) (a0_3z : Bool) (a0_3 : List T) (a1 : Int) (a2 : Int) (a3 : Int) : Option Res :=
 callK (vr 30 0 [(.t (.agg [(.int .i64 a0_0), (.int .i64 a0_1), (.list 1 a0_2z a0_2), (.list 1 a0_3z a0_3)])), (.t (.int .i64 a1)), (.t (.int .i64 a2))] ⟨[], []⟩) fun v_1 b_2 =>
 asT v_1 fun x_3 =>
 asI .i64 x_3 fun x_4 =>
 endB b_2 <|
(bif (!decide (x_4 = 0)) then
 some ((.tup [(.t (.int .i64 0)), (.t (.bool false)), (.t (.int .i64 x_4))]), ⟨[], []⟩)
else
 callK (vr 31 0 [(.t (.agg [(.int .i64 a0_0), (.int .i64 a0_1), (.list 1 a0_2z a0_2), (.list 1 a0_3z a0_3)])), (.t (.int .i64 a2))] ⟨[], []⟩) fun v_5 b_6 =>
 asTup v_5 fun l_7 =>
 consV l_7 fun v_8 l_9 =>
 asT v_8 fun x_10 =>
 asI .i64 x_10 fun x_11 =>
 consV l_9 fun v_12 l_13 =>
 asT v_12 fun x_14 =>
 asI .i64 x_14 fun x_15 =>
 endV l_13 <|
 endB b_6 <|
(bif (decide (0 ≤ a3)) then
 callK (vr 14 0 [(.t (.agg [(.int .i64 a0_0), (.int .i64 a0_1), (.list 1 a0_2z a0_2), (.list 1 a0_3z a0_3)]))] ⟨[], []⟩) fun v_16 b_17 =>
 asT v_16 fun x_18 =>
 asB x_18 fun b_19 =>
 endB b_17 <|
(bif (!b_19) then
 cutL a0_3 (some x_11) (some x_15) fun l_20 =>
 callK (vr 37 0 [(.t (.list 1 a0_3z l_20)), (.t (.int .i64 a3))] ⟨[], []⟩) fun v_21 b_22 =>
 asTup v_21 fun l_23 =>
 consV l_23 fun v_24 l_25 =>
 asT v_24 fun x_26 =>
 asI .i64 x_26 fun x_27 =>
 consV l_25 fun v_28 l_29 =>
 asT v_28 fun x_30 =>
 asB x_30 fun b_31 =>
 endV l_29 <|
 endB b_22 <|
 J20_8 (x_11) (x_27) (b_31)
else
 J20_8 (x_11) (a3) ((decide (a3 < a0_1))))
else
 callK (vr 14 0 [(.t (.agg [(.int .i64 a0_0), (.int .i64 a0_1), (.list 1 a0_2z a0_2), (.list 1 a0_3z a0_3)]))] ⟨[], []⟩) fun v_32 b_33 =>
 asT v_32 fun x_34 =>
 asB x_34 fun b_35 =>
 endB b_33 <|
(bif (!b_35) then
 cutL a0_3 (some x_11) (some x_15) fun l_36 =>
 callK (vr 37 0 [(.t (.list 1 a0_3z l_36)), (.t (.int .i64 a3))] ⟨[], []⟩) fun v_37 b_38 =>
 asTup v_37 fun l_39 =>
 consV l_39 fun v_40 l_41 =>
 asT v_40 fun x_42 =>
 asI .i64 x_42 fun x_43 =>
 consV l_41 fun v_44 l_45 =>
 asT v_44 fun x_46 =>
 asB x_46 fun b_47 =>
 endV l_45 <|
 endB b_38 <|
 J20_8 (x_11) (x_43) (b_47)
else
 J20_8 (x_11) (a3) (false))))
theorem eq20g (KJ20_8 : Env → St → Option Res) (a0_0 : Int) (a0_1 : Int) (a0_2z : Bool) (a0_2 : List T) (a0_3z : Bool) (a0_3 : List T) (a1 : Int) (a2 : Int) (a3 : Int) : codeT Try.prog hint 20 0 56 (Ta20 KJ20_8) [] (resKV Try.prog Try.f20 (hint.own 20 0)) (nrm hint 20 0 (bodyOf Try.f20) (envV [(.t (.agg [(.int .i64 a0_0), (.int .i64 a0_1), (.list 1 a0_2z a0_2), (.list 1 a0_3z a0_3)])), (.t (.int .i64 a1)), (.t (.int .i64 a2)), (.t (.int .i64 a3))] 0) ⟨[], []⟩).1 (nrm hint 20 0 (bodyOf Try.f20) (envV [(.t (.agg [(.int .i64 a0_0), (.int .i64 a0_1), (.list 1 a0_2z a0_2), (.list 1 a0_3z a0_3)])), (.t (.int .i64 a1)), (.t (.int .i64 a2)), (.t (.int .i64 a3))] 0) ⟨[], []⟩).2 (bodyOf Try.f20) = R20 (fun from12 i14 is15 => KJ20_8 [(12, (.t (.int .i64 from12))), (14, (.t (.int .i64 i14))), (15, (.t (.bool is15)))] ⟨[], []⟩) a0_0 a0_1 a0_2z a0_2 a0_3z a0_3 a1 a2 a3 := by kernel_rfl
/-- purfle/level.Find -/
theorem eq20 (a0_0 : Int) (a0_1 : Int) (a0_2z : Bool) (a0_2 : List T) (a0_3z : Bool) (a0_3 : List T) (a1 : Int) (a2 : Int) (a3 : Int) : vr 20 0 [(.t (.agg [(.int .i64 a0_0), (.int .i64 a0_1), (.list 1 a0_2z a0_2), (.list 1 a0_3z a0_3)])), (.t (.int .i64 a1)), (.t (.int .i64 a2)), (.t (.int .i64 a3))] ⟨[], []⟩ = R20 J20_8 a0_0 a0_1 a0_2z a0_2 a0_3z a0_3 a1 a2 a3 :=
  (call_eq Try.prog hint (fn := Try.f20) (nt := 56) (T := (Ta20 (fun e st => atV Try.prog hint 20 0 Try.f20 56 (List.reverse PaJ20_8) e st))) [PaJ20_8] rfl [(.t (.agg [(.int .i64 a0_0), (.int .i64 a0_1), (.list 1 a0_2z a0_2), (.list 1 a0_3z a0_3)])), (.t (.int .i64 a1)), (.t (.int .i64 a2)), (.t (.int .i64 a3))] ⟨[], []⟩ rfl rfl rfl rfl rfl).trans (eq20g (fun e st => atV Try.prog hint 20 0 Try.f20 56 (List.reverse PaJ20_8) e st) a0_0 a0_1 a0_2z a0_2 a0_3z a0_3 a1 a2 a3)
noncomputable def RJ20_8 (J20_8 : Int → Int → Bool → Option Res) (from12 : Int) (i14 : Int) (is15 : Bool) : Option Res :=
(bif (!is15) then
 some ((.tup [(.t (.int .i64 0)), (.t (.bool false)), (.t (.int .i64 0))]), ⟨[], []⟩)
else
 some ((.tup [(.t (.int .i64 (IntKind.i64.wrap (from12 + i14)))), (.t (.bool true)), (.t (.int .i64 0))]), ⟨[], []⟩))
theorem J20_8g (KJ20_8 : Env → St → Option Res) (from12 : Int) (i14 : Int) (is15 : Bool) : codeT Try.prog hint 20 0 56 (Ta20 KJ20_8) PaJ20_8 (ctxT Try.prog hint 20 0 56 (Ta20 KJ20_8) [] (List.reverse PaJ20_8) (bodyOf Try.f20) (resKV Try.prog Try.f20 (hint.own 20 0))) [(12, (.t (.int .i64 from12))), (14, (.t (.int .i64 i14))), (15, (.t (.bool is15)))] ⟨[], []⟩ (nav (List.reverse PaJ20_8) (bodyOf Try.f20)) = RJ20_8 (fun from12 i14 is15 => KJ20_8 [(12, (.t (.int .i64 from12))), (14, (.t (.int .i64 i14))), (15, (.t (.bool is15)))] ⟨[], []⟩) from12 i14 is15 := by kernel_rfl
theorem J20_8_eq (from12 : Int) (i14 : Int) (is15 : Bool) : J20_8 from12 i14 is15 = RJ20_8 J20_8 from12 i14 is15 :=
  (join_eq Try.prog hint (fn := Try.f20) (nt := 56) (T := (Ta20 (fun e st => atV Try.prog hint 20 0 Try.f20 56 (List.reverse PaJ20_8) e st))) [PaJ20_8] rfl PaJ20_8 [(12, (.t (.int .i64 from12))), (14, (.t (.int .i64 i14))), (15, (.t (.bool is15)))] ⟨[], []⟩ rfl).trans (J20_8g (fun e st => atV Try.prog hint 20 0 Try.f20 56 (List.reverse PaJ20_8) e st) from12 i14 is15)
noncomputable def R6 (L6_10 : Int → Int → Bool → Bool → (List T) → Int → Int → Int → Int → Bool → (List T) → Bool → (List T) → (List (T × T)) → Option Res) (L6_16 : Int → Int → Bool → Int → Int → Int → Int → Bool → (List T) → Bool → (List T) → (List (T × T)) → Option Res) (a0_0 : Int) (a0_1 : Int) (a0_2z : Bool) (a0_2 : List T) (a0_3z : Bool) (a0_3 : List T) (a1 : Int) (a2 : Int) : Option Res :=
 callK (vr 9 0 [] ⟨[], []⟩) fun v_1 b_2 =>
 asT v_1 fun x_3 =>
 asB x_3 fun b_4 =>
 endB b_2 <|
 callK (vr 18 0 [(.t (.agg [(.int .i64 a0_0), (.int .i64 a0_1), (.list 1 a0_2z a0_2), (.list 1 a0_3z a0_3)])), (.t (.int .i64 a1))] ⟨[], []⟩) fun v_5 b_6 =>
 asT v_5 fun x_7 =>
 asB x_7 fun b_8 =>
 endB b_6 <|
(bif (!b_8) then
 some ((.t (.bool b_4)), ⟨[], []⟩)
else
(bif (decide (a1 < 1)) then
 some ((.t (.bool b_4)), ⟨[], []⟩)
else
(bif (decide (300 < a0_1)) then
 some ((.t (.bool b_4)), ⟨[], []⟩)
else
 callK (vr 19 0 [(.t (.agg [(.int .i64 a0_0), (.int .i64 a0_1), (.list 1 a0_2z a0_2), (.list 1 a0_3z a0_3)])), (.t (.int .i64 a1))] ⟨[], []⟩) fun v_9 b_10 =>
 asT v_9 fun x_11 =>
 asI .i64 x_11 fun x_12 =>
 endB b_10 <|
(bif (!decide (x_12 = 0)) then
 some ((.t (.bool b_4)), ⟨[], []⟩)
else
 needC (!decide (a1 = 0)) fun _ =>
 needC (!decide (a1 = 0)) fun _ =>
 callK (vr 15 0 [(.t (.agg [(.int .i64 a0_0), (.int .i64 a0_1), (.list 1 a0_2z a0_2), (.list 1 a0_3z a0_3)])), (.t (.int .i64 a1)), (.t (.int .i64 (Int.tmod (IntKind.i64.wrap ((Int.tmod a2 a1) + a1)) a1)))] ⟨[], []⟩) fun v_13 b_14 =>
 asTup v_13 fun l_15 =>
 consV l_15 fun v_16 l_17 =>
 asT v_16 fun x_18 =>
 asL 2 x_18 fun nn_19 l_20 =>
 consV l_17 fun v_21 l_22 =>
 asT v_21 fun x_23 =>
 asI .i64 x_23 fun x_24 =>
 endV l_22 <|
 endB b_14 <|
(bif (!decide (x_24 = 0)) then
 some ((.t (.bool false)), ⟨[], []⟩)
else
 L6_10 (a1) ((Int.tmod (IntKind.i64.wrap ((Int.tmod a2 a1) + a1)) a1)) (b_4) (nn_19) (l_20) ((l_20.length : Int)) (0) (a0_0) (a0_1) (a0_2z) (a0_2) (a0_3z) (a0_3) ([]))))))
theorem eq6g (KL6_10 KL6_16 : Env → St → Option Res) (a0_0 : Int) (a0_1 : Int) (a0_2z : Bool) (a0_2 : List T) (a0_3z : Bool) (a0_3 : List T) (a1 : Int) (a2 : Int) : codeT Try.prog hint 6 0 100 (Ta6 KL6_10 KL6_16) [] (resKV Try.prog Try.f6 (hint.own 6 0)) (nrm hint 6 0 (bodyOf Try.f6) (envV [(.t (.agg [(.int .i64 a0_0), (.int .i64 a0_1), (.list 1 a0_2z a0_2), (.list 1 a0_3z a0_3)])), (.t (.int .i64 a1)), (.t (.int .i64 a2))] 0) ⟨[], []⟩).1 (nrm hint 6 0 (bodyOf Try.f6) (envV [(.t (.agg [(.int .i64 a0_0), (.int .i64 a0_1), (.list 1 a0_2z a0_2), (.list 1 a0_3z a0_3)])), (.t (.int .i64 a1)), (.t (.int .i64 a2))] 0) ⟨[], []⟩).2 (bodyOf Try.f6) = R6 (fun ahead1 p2 up7 t56z t56 t57 t58 m8_0 m8_1 m8_2z m8_2 m8_3z m8_3 m9 => KL6_10 [(1, (.t (.int .i64 ahead1))), (2, (.t (.int .i64 p2))), (3, (.ptr 8 0 0)), (7, (.t (.bool up7))), (10, (.map 9)), (56, (.t (.list 2 t56z t56))), (57, (.t (.int .i64 t57))), (58, (.t (.int .i64 t58)))] ⟨[(8, (.var [(.t (.int .i64 m8_0)), (.t (.int .i64 m8_1)), (.t (.list 1 m8_2z m8_2)), (.t (.list 1 m8_3z m8_3))])), (9, (.map m9))], []⟩) (fun ahead1 p2 up7 many13 at14 m8_0 m8_1 m8_2z m8_2 m8_3z m8_3 m9 => KL6_16 [(1, (.t (.int .i64 ahead1))), (2, (.t (.int .i64 p2))), (3, (.ptr 8 0 0)), (7, (.t (.bool up7))), (10, (.map 9)), (13, (.t (.int .i64 many13))), (14, (.t (.int .i64 at14)))] ⟨[(8, (.var [(.t (.int .i64 m8_0)), (.t (.int .i64 m8_1)), (.t (.list 1 m8_2z m8_2)), (.t (.list 1 m8_3z m8_3))])), (9, (.map m9))], []⟩) a0_0 a0_1 a0_2z a0_2 a0_3z a0_3 a1 a2 := by kernel_rfl
/-- purfle/purflelaw04.LevelPlaces -/
theorem eq6 (a0_0 : Int) (a0_1 : Int) (a0_2z : Bool) (a0_2 : List T) (a0_3z : Bool) (a0_3 : List T) (a1 : Int) (a2 : Int) : vr 6 0 [(.t (.agg [(.int .i64 a0_0), (.int .i64 a0_1), (.list 1 a0_2z a0_2), (.list 1 a0_3z a0_3)])), (.t (.int .i64 a1)), (.t (.int .i64 a2))] ⟨[], []⟩ = R6 L6_10 L6_16 a0_0 a0_1 a0_2z a0_2 a0_3z a0_3 a1 a2 :=
  (call_eq Try.prog hint (fn := Try.f6) (nt := 100) (T := (Ta6 (fun e st => atV Try.prog hint 6 0 Try.f6 100 (List.reverse PaL6_10) e st) (fun e st => atV Try.prog hint 6 0 Try.f6 100 (List.reverse PaL6_16) e st))) [PaL6_10, PaL6_16] rfl [(.t (.agg [(.int .i64 a0_0), (.int .i64 a0_1), (.list 1 a0_2z a0_2), (.list 1 a0_3z a0_3)])), (.t (.int .i64 a1)), (.t (.int .i64 a2))] ⟨[], []⟩ rfl rfl rfl rfl rfl).trans (eq6g (fun e st => atV Try.prog hint 6 0 Try.f6 100 (List.reverse PaL6_10) e st) (fun e st => atV Try.prog hint 6 0 Try.f6 100 (List.reverse PaL6_16) e st) a0_0 a0_1 a0_2z a0_2 a0_3z a0_3 a1 a2)
noncomputable def RL6_10 (L6_10 : Int → Int → Bool → Bool → (List T) → Int → Int → Int → Int → Bool → (List T) → Bool → (List T) → (List (T × T)) → Option Res) (L6_16 : Int → Int → Bool → Int → Int → Int → Int → Bool → (List T) → Bool → (List T) → (List (T × T)) → Option Res) (ahead1 : Int) (p2 : Int) (up7 : Bool) (t56z : Bool) (t56 : List T) (t57 : Int) (t58 : Int) (m8_0 : Int) (m8_1 : Int) (m8_2z : Bool) (m8_2 : List T) (m8_3z : Bool) (m8_3 : List T) (m9 : List (T × T)) : Option Res :=
(bif (decide (t58 < t57)) then
 needC (decide (0 ≤ t58)) fun _ =>
 getT t56 (t58).toNat fun e_1 =>
 asA e_1 fun l_2 =>
 consT l_2 fun v_3 l_4 =>
 asI .i64 v_3 fun x_5 =>
 consT l_4 fun v_6 l_7 =>
 asI .i64 v_6 fun x_8 =>
 endT l_7 <|
 putC m9 (.int .i64 x_5) (.bool true) fun es_9 =>
 L6_10 (ahead1) (p2) (up7) (t56z) (t56) (t57) ((IntKind.i64.wrap (t58 + 1))) (m8_0) (m8_1) (m8_2z) (m8_2) (m8_3z) (m8_3) (es_9)
else
 L6_16 (ahead1) (p2) (up7) (0) (-1) (m8_0) (m8_1) (m8_2z) (m8_2) (m8_3z) (m8_3) (m9))
theorem L6_10g (KL6_10 KL6_16 : Env → St → Option Res) (ahead1 : Int) (p2 : Int) (up7 : Bool) (t56z : Bool) (t56 : List T) (t57 : Int) (t58 : Int) (m8_0 : Int) (m8_1 : Int) (m8_2z : Bool) (m8_2 : List T) (m8_3z : Bool) (m8_3 : List T) (m9 : List (T × T)) : codeT Try.prog hint 6 0 100 (Ta6 KL6_10 KL6_16) (.lp :: PaL6_10) (ctxT Try.prog hint 6 0 100 (Ta6 KL6_10 KL6_16) [] (List.reverse (.lp :: PaL6_10)) (bodyOf Try.f6) (resKV Try.prog Try.f6 (hint.own 6 0))) [(1, (.t (.int .i64 ahead1))), (2, (.t (.int .i64 p2))), (3, (.ptr 8 0 0)), (7, (.t (.bool up7))), (10, (.map 9)), (56, (.t (.list 2 t56z t56))), (57, (.t (.int .i64 t57))), (58, (.t (.int .i64 t58)))] ⟨[(8, (.var [(.t (.int .i64 m8_0)), (.t (.int .i64 m8_1)), (.t (.list 1 m8_2z m8_2)), (.t (.list 1 m8_3z m8_3))])), (9, (.map m9))], []⟩ (nav (List.reverse (.lp :: PaL6_10)) (bodyOf Try.f6)) = RL6_10 (fun ahead1 p2 up7 t56z t56 t57 t58 m8_0 m8_1 m8_2z m8_2 m8_3z m8_3 m9 => KL6_10 [(1, (.t (.int .i64 ahead1))), (2, (.t (.int .i64 p2))), (3, (.ptr 8 0 0)), (7, (.t (.bool up7))), (10, (.map 9)), (56, (.t (.list 2 t56z t56))), (57, (.t (.int .i64 t57))), (58, (.t (.int .i64 t58)))] ⟨[(8, (.var [(.t (.int .i64 m8_0)), (.t (.int .i64 m8_1)), (.t (.list 1 m8_2z m8_2)), (.t (.list 1 m8_3z m8_3))])), (9, (.map m9))], []⟩) (fun ahead1 p2 up7 many13 at14 m8_0 m8_1 m8_2z m8_2 m8_3z m8_3 m9 => KL6_16 [(1, (.t (.int .i64 ahead1))), (2, (.t (.int .i64 p2))), (3, (.ptr 8 0 0)), (7, (.t (.bool up7))), (10, (.map 9)), (13, (.t (.int .i64 many13))), (14, (.t (.int .i64 at14)))] ⟨[(8, (.var [(.t (.int .i64 m8_0)), (.t (.int .i64 m8_1)), (.t (.list 1 m8_2z m8_2)), (.t (.list 1 m8_3z m8_3))])), (9, (.map m9))], []⟩) ahead1 p2 up7 t56z t56 t57 t58 m8_0 m8_1 m8_2z m8_2 m8_3z m8_3 m9 := by kernel_rfl
theorem L6_10_eq (ahead1 : Int) (p2 : Int) (up7 : Bool) (t56z : Bool) (t56 : List T) (t57 : Int) (t58 : Int) (m8_0 : Int) (m8_1 : Int) (m8_2z : Bool) (m8_2 : List T) (m8_3z : Bool) (m8_3 : List T) (m9 : List (T × T)) : L6_10 ahead1 p2 up7 t56z t56 t57 t58 m8_0 m8_1 m8_2z m8_2 m8_3z m8_3 m9 = RL6_10 L6_10 L6_16 ahead1 p2 up7 t56z t56 t57 t58 m8_0 m8_1 m8_2z m8_2 m8_3z m8_3 m9 :=
  (round_eq Try.prog hint (b := (nav (List.reverse (.lp :: PaL6_10)) (bodyOf Try.f6))) (fn := Try.f6) (nt := 100) (T := (Ta6 (fun e st => atV Try.prog hint 6 0 Try.f6 100 (List.reverse PaL6_10) e st) (fun e st => atV Try.prog hint 6 0 Try.f6 100 (List.reverse PaL6_16) e st))) [PaL6_10, PaL6_16] rfl PaL6_10 [(1, (.t (.int .i64 ahead1))), (2, (.t (.int .i64 p2))), (3, (.ptr 8 0 0)), (7, (.t (.bool up7))), (10, (.map 9)), (56, (.t (.list 2 t56z t56))), (57, (.t (.int .i64 t57))), (58, (.t (.int .i64 t58)))] ⟨[(8, (.var [(.t (.int .i64 m8_0)), (.t (.int .i64 m8_1)), (.t (.list 1 m8_2z m8_2)), (.t (.list 1 m8_3z m8_3))])), (9, (.map m9))], []⟩ rfl rfl rfl).trans (L6_10g (fun e st => atV Try.prog hint 6 0 Try.f6 100 (List.reverse PaL6_10) e st) (fun e st => atV Try.prog hint 6 0 Try.f6 100 (List.reverse PaL6_16) e st) ahead1 p2 up7 t56z t56 t57 t58 m8_0 m8_1 m8_2z m8_2 m8_3z m8_3 m9)
noncomputable def RL6_16 (L6_10 : Int → Int → Bool → Bool → (List T) → Int → Int → Int → Int → Bool → (List T) → Bool → (List T) → (List (T × T)) → Option Res) (L6_16 : Int → Int → Bool → Int → Int → Int → Int → Bool → (List T) → Bool → (List T) → (List (T × T)) → Option Res) (ahead1 : Int) (p2 : Int) (up7 : Bool) (many13 : Int) (at14 : Int) (m8_0 : Int) (m8_1 : Int) (m8_2z : Bool) (m8_2 : List T) (m8_3z : Bool) (m8_3 : List T) (m9 : List (T × T)) : Option Res :=
(bif (decide (at14 ≤ m8_1)) then
 callK (vr 20 0 [(.t (.agg [(.int .i64 m8_0), (.int .i64 m8_1), (.list 1 m8_2z m8_2), (.list 1 m8_3z m8_3)])), (.t (.int .i64 ahead1)), (.t (.int .i64 p2)), (.t (.int .i64 at14))] ⟨[], []⟩) fun v_1 b_2 =>
 asTup v_1 fun l_3 =>
 consV l_3 fun v_4 l_5 =>
 asT v_4 fun x_6 =>
 asI .i64 x_6 fun x_7 =>
 consV l_5 fun v_8 l_9 =>
 asT v_8 fun x_10 =>
 asB x_10 fun b_11 =>
 consV l_9 fun v_12 l_13 =>
 asT v_12 fun x_14 =>
 asI .i64 x_14 fun x_15 =>
 endV l_13 <|
 endB b_2 <|
(bif (!decide (x_15 = 0)) then
 some ((.t (.bool false)), ⟨[], []⟩)
else
 lkT m9 (.int .i64 at14) (.bool false) fun v_16 p_17 =>
 asB v_16 fun b_18 =>
(bif (!(b_11 == b_18)) then
 some ((.t (.bool false)), ⟨[], []⟩)
else
(bif b_11 then
 L6_16 (ahead1) (p2) (up7) ((IntKind.i64.wrap (many13 + 1))) ((IntKind.i64.wrap (at14 + 1))) (m8_0) (m8_1) (m8_2z) (m8_2) (m8_3z) (m8_3) (m9)
else
 L6_16 (ahead1) (p2) (up7) (many13) ((IntKind.i64.wrap (at14 + 1))) (m8_0) (m8_1) (m8_2z) (m8_2) (m8_3z) (m8_3) (m9))))
else
(bif up7 then
 some ((.t (.bool (decide (many13 = (m9.length : Int))))), ⟨[], []⟩)
else
 some ((.t (.bool false)), ⟨[], []⟩)))
theorem L6_16g (KL6_10 KL6_16 : Env → St → Option Res) (ahead1 : Int) (p2 : Int) (up7 : Bool) (many13 : Int) (at14 : Int) (m8_0 : Int) (m8_1 : Int) (m8_2z : Bool) (m8_2 : List T) (m8_3z : Bool) (m8_3 : List T) (m9 : List (T × T)) : codeT Try.prog hint 6 0 100 (Ta6 KL6_10 KL6_16) (.lp :: PaL6_16) (ctxT Try.prog hint 6 0 100 (Ta6 KL6_10 KL6_16) [] (List.reverse (.lp :: PaL6_16)) (bodyOf Try.f6) (resKV Try.prog Try.f6 (hint.own 6 0))) [(1, (.t (.int .i64 ahead1))), (2, (.t (.int .i64 p2))), (3, (.ptr 8 0 0)), (7, (.t (.bool up7))), (10, (.map 9)), (13, (.t (.int .i64 many13))), (14, (.t (.int .i64 at14)))] ⟨[(8, (.var [(.t (.int .i64 m8_0)), (.t (.int .i64 m8_1)), (.t (.list 1 m8_2z m8_2)), (.t (.list 1 m8_3z m8_3))])), (9, (.map m9))], []⟩ (nav (List.reverse (.lp :: PaL6_16)) (bodyOf Try.f6)) = RL6_16 (fun ahead1 p2 up7 t56z t56 t57 t58 m8_0 m8_1 m8_2z m8_2 m8_3z m8_3 m9 => KL6_10 [(1, (.t (.int .i64 ahead1))), (2, (.t (.int .i64 p2))), (3, (.ptr 8 0 0)), (7, (.t (.bool up7))), (10, (.map 9)), (56, (.t (.list 2 t56z t56))), (57, (.t (.int .i64 t57))), (58, (.t (.int .i64 t58)))] ⟨[(8, (.var [(.t (.int .i64 m8_0)), (.t (.int .i64 m8_1)), (.t (.list 1 m8_2z m8_2)), (.t (.list 1 m8_3z m8_3))])), (9, (.map m9))], []⟩) (fun ahead1 p2 up7 many13 at14 m8_0 m8_1 m8_2z m8_2 m8_3z m8_3 m9 => KL6_16 [(1, (.t (.int .i64 ahead1))), (2, (.t (.int .i64 p2))), (3, (.ptr 8 0 0)), (7, (.t (.bool up7))), (10, (.map 9)), (13, (.t (.int .i64 many13))), (14, (.t (.int .i64 at14)))] ⟨[(8, (.var [(.t (.int .i64 m8_0)), (.t (.int .i64 m8_1)), (.t (.list 1 m8_2z m8_2)), (.t (.list 1 m8_3z m8_3))])), (9, (.map m9))], []⟩) ahead1 p2 up7 many13 at14 m8_0 m8_1 m8_2z m8_2 m8_3z m8_3 m9 := by kernel_rfl
theorem L6_16_eq (ahead1 : Int) (p2 : Int) (up7 : Bool) (many13 : Int) (at14 : Int) (m8_0 : Int) (m8_1 : Int) (m8_2z : Bool) (m8_2 : List T) (m8_3z : Bool) (m8_3 : List T) (m9 : List (T × T)) : L6_16 ahead1 p2 up7 many13 at14 m8_0 m8_1 m8_2z m8_2 m8_3z m8_3 m9 = RL6_16 L6_10 L6_16 ahead1 p2 up7 many13 at14 m8_0 m8_1 m8_2z m8_2 m8_3z m8_3 m9 :=
  (round_eq Try.prog hint (b := (nav (List.reverse (.lp :: PaL6_16)) (bodyOf Try.f6))) (fn := Try.f6) (nt := 100) (T := (Ta6 (fun e st => atV Try.prog hint 6 0 Try.f6 100 (List.reverse PaL6_10) e st) (fun e st => atV Try.prog hint 6 0 Try.f6 100 (List.reverse PaL6_16) e st))) [PaL6_10, PaL6_16] rfl PaL6_16 [(1, (.t (.int .i64 ahead1))), (2, (.t (.int .i64 p2))), (3, (.ptr 8 0 0)), (7, (.t (.bool up7))), (10, (.map 9)), (13, (.t (.int .i64 many13))), (14, (.t (.int .i64 at14)))] ⟨[(8, (.var [(.t (.int .i64 m8_0)), (.t (.int .i64 m8_1)), (.t (.list 1 m8_2z m8_2)), (.t (.list 1 m8_3z m8_3))])), (9, (.map m9))], []⟩ rfl rfl rfl).trans (L6_16g (fun e st => atV Try.prog hint 6 0 Try.f6 100 (List.reverse PaL6_10) e st) (fun e st => atV Try.prog hint 6 0 Try.f6 100 (List.reverse PaL6_16) e st) ahead1 p2 up7 many13 at14 m8_0 m8_1 m8_2z m8_2 m8_3z m8_3 m9)
noncomputable def R39  (a0 : Int) (a1 : Int) : Option Res :=
(bif (decide (a0 ≤ a1)) then
 some ((.t (.int .i64 (-1))), ⟨[], []⟩)
else
 some ((.t (.int .i64 1)), ⟨[], []⟩))
theorem eq39g  (a0 : Int) (a1 : Int) : codeT Try.prog hint 39 0 8 [] [] (resKV Try.prog Try.f39 (hint.own 39 0)) (nrm hint 39 0 (bodyOf Try.f39) (envV [(.t (.int .i64 a0)), (.t (.int .i64 a1))] 0) ⟨[], []⟩).1 (nrm hint 39 0 (bodyOf Try.f39) (envV [(.t (.int .i64 a0)), (.t (.int .i64 a1))] 0) ⟨[], []⟩).2 (bodyOf Try.f39) = R39  a0 a1 := by kernel_rfl
/-- purfle/level.Parent$1 -/
theorem eq39 (a0 : Int) (a1 : Int) : vr 39 0 [(.t (.int .i64 a0)), (.t (.int .i64 a1))] ⟨[], []⟩ = R39  a0 a1 :=
  (call_eq Try.prog hint (fn := Try.f39) (nt := 8) (T := []) [] rfl [(.t (.int .i64 a0)), (.t (.int .i64 a1))] ⟨[], []⟩ rfl rfl rfl rfl rfl).trans (eq39g  a0 a1)
noncomputable def R38 (L38_3 : Bool → (List T) → Int → Int → Int → Int → Option Res) (a0z : Bool) (a0 : List T) (a1 : Int) : Option Res :=
 L38_3 (a0z) (a0) (a1) ((a0.length : Int)) (0) ((a0.length : Int))
theorem eq38g (KL38_3 : Env → St → Option Res) (a0z : Bool) (a0 : List T) (a1 : Int) : codeT Try.prog hint 38 0 49 (Ta38 KL38_3) [] (resKV Try.prog Try.f38 (hint.own 38 0)) (nrm hint 38 0 (bodyOf Try.f38) (envV [(.t (.list 1 a0z a0)), (.t (.int .i64 a1)), (.fn 39 [] [])] 0) ⟨[], []⟩).1 (nrm hint 38 0 (bodyOf Try.f38) (envV [(.t (.list 1 a0z a0)), (.t (.int .i64 a1)), (.fn 39 [] [])] 0) ⟨[], []⟩).2 (bodyOf Try.f38) = R38 (fun x0z x0 target1 n8 i9 j10 => KL38_3 [(0, (.t (.list 1 x0z x0))), (1, (.t (.int .i64 target1))), (2, (.fn 39 [] [])), (8, (.t (.int .i64 n8))), (9, (.t (.int .i64 i9))), (10, (.t (.int .i64 j10)))] ⟨[], []⟩) a0z a0 a1 := by kernel_rfl
/-- slices.BinarySearchFunc[[]int,int,int] -/
theorem eq38 (a0z : Bool) (a0 : List T) (a1 : Int) : vr 38 0 [(.t (.list 1 a0z a0)), (.t (.int .i64 a1)), (.fn 39 [] [])] ⟨[], []⟩ = R38 L38_3 a0z a0 a1 :=
  (call_eq Try.prog hint (fn := Try.f38) (nt := 49) (T := (Ta38 (fun e st => atV Try.prog hint 38 0 Try.f38 49 (List.reverse PaL38_3) e st))) [PaL38_3] rfl [(.t (.list 1 a0z a0)), (.t (.int .i64 a1)), (.fn 39 [] [])] ⟨[], []⟩ rfl rfl rfl rfl rfl).trans (eq38g (fun e st => atV Try.prog hint 38 0 Try.f38 49 (List.reverse PaL38_3) e st) a0z a0 a1)
noncomputable def RL38_3 (L38_3 : Bool → (List T) → Int → Int → Int → Int → Option Res) (x0z : Bool) (x0 : List T) (target1 : Int) (n8 : Int) (i9 : Int) (j10 : Int) : Option Res :=
(bif (decide (i9 < j10)) then
 needC (decide (0 ≤ (IntKind.i64.wrap (shrI .u64 (IntKind.u64.wrap (IntKind.i64.wrap (i9 + j10))) 1)))) fun _ =>
 getT x0 ((IntKind.i64.wrap (shrI .u64 (IntKind.u64.wrap (IntKind.i64.wrap (i9 + j10))) 1))).toNat fun e_1 =>
 asI .i64 e_1 fun x_2 =>
 callK (vr 39 0 [(.t (.int .i64 x_2)), (.t (.int .i64 target1))] ⟨[], []⟩) fun v_3 b_4 =>
 asT v_3 fun x_5 =>
 asI .i64 x_5 fun x_6 =>
 endB b_4 <|
(bif (decide (x_6 < 0)) then
 L38_3 (x0z) (x0) (target1) (n8) ((IntKind.i64.wrap ((IntKind.i64.wrap (shrI .u64 (IntKind.u64.wrap (IntKind.i64.wrap (i9 + j10))) 1)) + 1))) (j10)
else
 L38_3 (x0z) (x0) (target1) (n8) (i9) ((IntKind.i64.wrap (shrI .u64 (IntKind.u64.wrap (IntKind.i64.wrap (i9 + j10))) 1))))
else
(bif (decide (i9 < n8)) then
 needC (decide (0 ≤ i9)) fun _ =>
 getT x0 (i9).toNat fun e_7 =>
 asI .i64 e_7 fun x_8 =>
 callK (vr 39 0 [(.t (.int .i64 x_8)), (.t (.int .i64 target1))] ⟨[], []⟩) fun v_9 b_10 =>
 asT v_9 fun x_11 =>
 asI .i64 x_11 fun x_12 =>
 endB b_10 <|
 some ((.tup [(.t (.int .i64 i9)), (.t (.bool (decide (x_12 = 0))))]), ⟨[], []⟩)
else
 some ((.tup [(.t (.int .i64 i9)), (.t (.bool false))]), ⟨[], []⟩)))
theorem L38_3g (KL38_3 : Env → St → Option Res) (x0z : Bool) (x0 : List T) (target1 : Int) (n8 : Int) (i9 : Int) (j10 : Int) : codeT Try.prog hint 38 0 49 (Ta38 KL38_3) (.lp :: PaL38_3) (ctxT Try.prog hint 38 0 49 (Ta38 KL38_3) [] (List.reverse (.lp :: PaL38_3)) (bodyOf Try.f38) (resKV Try.prog Try.f38 (hint.own 38 0))) [(0, (.t (.list 1 x0z x0))), (1, (.t (.int .i64 target1))), (2, (.fn 39 [] [])), (8, (.t (.int .i64 n8))), (9, (.t (.int .i64 i9))), (10, (.t (.int .i64 j10)))] ⟨[], []⟩ (nav (List.reverse (.lp :: PaL38_3)) (bodyOf Try.f38)) = RL38_3 (fun x0z x0 target1 n8 i9 j10 => KL38_3 [(0, (.t (.list 1 x0z x0))), (1, (.t (.int .i64 target1))), (2, (.fn 39 [] [])), (8, (.t (.int .i64 n8))), (9, (.t (.int .i64 i9))), (10, (.t (.int .i64 j10)))] ⟨[], []⟩) x0z x0 target1 n8 i9 j10 := by kernel_rfl
theorem L38_3_eq (x0z : Bool) (x0 : List T) (target1 : Int) (n8 : Int) (i9 : Int) (j10 : Int) : L38_3 x0z x0 target1 n8 i9 j10 = RL38_3 L38_3 x0z x0 target1 n8 i9 j10 :=
  (round_eq Try.prog hint (b := (nav (List.reverse (.lp :: PaL38_3)) (bodyOf Try.f38))) (fn := Try.f38) (nt := 49) (T := (Ta38 (fun e st => atV Try.prog hint 38 0 Try.f38 49 (List.reverse PaL38_3) e st))) [PaL38_3] rfl PaL38_3 [(0, (.t (.list 1 x0z x0))), (1, (.t (.int .i64 target1))), (2, (.fn 39 [] [])), (8, (.t (.int .i64 n8))), (9, (.t (.int .i64 i9))), (10, (.t (.int .i64 j10)))] ⟨[], []⟩ rfl rfl rfl).trans (L38_3g (fun e st => atV Try.prog hint 38 0 Try.f38 49 (List.reverse PaL38_3) e st) x0z x0 target1 n8 i9 j10)
noncomputable def R22  (a0_0 : Int) (a0_1 : Int) (a0_2z : Bool) (a0_2 : List T) (a0_3z : Bool) (a0_3 : List T) (a1 : Int) (a2 : Int) : Option Res :=
 callK (vr 19 0 [(.t (.agg [(.int .i64 a0_0), (.int .i64 a0_1), (.list 1 a0_2z a0_2), (.list 1 a0_3z a0_3)])), (.t (.int .i64 a1))] ⟨[], []⟩) fun v_1 b_2 =>
 asT v_1 fun x_3 =>
 asI .i64 x_3 fun x_4 =>
 endB b_2 <|
(bif (!decide (x_4 = 0)) then
 some ((.tup [(.t (.int .i64 0)), (.t (.int .i64 0)), (.t (.int .i64 x_4))]), ⟨[], []⟩)
else
(bif (decide (a2 < 0)) then
 some ((.tup [(.t (.int .i64 0)), (.t (.int .i64 0)), (.t (.int .i64 5))]), ⟨[], []⟩)
else
 callK (vr 29 0 [(.t (.agg [(.int .i64 a0_0), (.int .i64 a0_1), (.list 1 a0_2z a0_2), (.list 1 a0_3z a0_3)])), (.t (.int .i64 a1))] ⟨[], []⟩) fun v_5 b_6 =>
 asT v_5 fun x_7 =>
 asI .i64 x_7 fun x_8 =>
 endB b_6 <|
(bif (decide (x_8 ≤ a2)) then
 some ((.tup [(.t (.int .i64 0)), (.t (.int .i64 0)), (.t (.int .i64 5))]), ⟨[], []⟩)
else
 callK (vr 14 0 [(.t (.agg [(.int .i64 a0_0), (.int .i64 a0_1), (.list 1 a0_2z a0_2), (.list 1 a0_3z a0_3)]))] ⟨[], []⟩) fun v_9 b_10 =>
 asT v_9 fun x_11 =>
 asB x_11 fun b_12 =>
 endB b_10 <|
(bif b_12 then
 needC (!decide (a0_1 = 0)) fun _ =>
 needC (!decide (a0_1 = 0)) fun _ =>
 some ((.tup [(.t (.int .i64 (IntKind.i64.wrap (Int.tdiv a2 a0_1)))), (.t (.int .i64 (Int.tmod a2 a0_1))), (.t (.int .i64 0))]), ⟨[], []⟩)
else
(bif (decide (a0_0 = 3)) then
 needC (decide (0 ≤ a2)) fun _ =>
 getT a0_3 (a2).toNat fun e_13 =>
 asI .i64 e_13 fun x_14 =>
 some ((.tup [(.t (.int .i64 a2)), (.t (.int .i64 x_14)), (.t (.int .i64 0))]), ⟨[], []⟩)
else
 callK (vr 38 0 [(.t (.list 1 a0_2z a0_2)), (.t (.int .i64 a2)), (.fn 39 [] [])] ⟨[], []⟩) fun v_15 b_16 =>
 asTup v_15 fun l_17 =>
 consV l_17 fun v_18 l_19 =>
 asT v_18 fun x_20 =>
 asI .i64 x_20 fun x_21 =>
 consV l_19 fun v_22 l_23 =>
 asT v_22 fun x_24 =>
 asB x_24 fun b_25 =>
 endV l_23 <|
 endB b_16 <|
 needC (decide (0 ≤ a2)) fun _ =>
 getT a0_3 (a2).toNat fun e_26 =>
 asI .i64 e_26 fun x_27 =>
 some ((.tup [(.t (.int .i64 (IntKind.i64.wrap (x_21 - 1)))), (.t (.int .i64 x_27)), (.t (.int .i64 0))]), ⟨[], []⟩))))))
theorem eq22g  (a0_0 : Int) (a0_1 : Int) (a0_2z : Bool) (a0_2 : List T) (a0_3z : Bool) (a0_3 : List T) (a1 : Int) (a2 : Int) : codeT Try.prog hint 22 0 63 [] [] (resKV Try.prog Try.f22 (hint.own 22 0)) (nrm hint 22 0 (bodyOf Try.f22) (envV [(.t (.agg [(.int .i64 a0_0), (.int .i64 a0_1), (.list 1 a0_2z a0_2), (.list 1 a0_3z a0_3)])), (.t (.int .i64 a1)), (.t (.int .i64 a2))] 0) ⟨[], []⟩).1 (nrm hint 22 0 (bodyOf Try.f22) (envV [(.t (.agg [(.int .i64 a0_0), (.int .i64 a0_1), (.list 1 a0_2z a0_2), (.list 1 a0_3z a0_3)])), (.t (.int .i64 a1)), (.t (.int .i64 a2))] 0) ⟨[], []⟩).2 (bodyOf Try.f22) = R22  a0_0 a0_1 a0_2z a0_2 a0_3z a0_3 a1 a2 := by kernel_rfl
/-- purfle/level.Parent -/
theorem eq22 (a0_0 : Int) (a0_1 : Int) (a0_2z : Bool) (a0_2 : List T) (a0_3z : Bool) (a0_3 : List T) (a1 : Int) (a2 : Int) : vr 22 0 [(.t (.agg [(.int .i64 a0_0), (.int .i64 a0_1), (.list 1 a0_2z a0_2), (.list 1 a0_3z a0_3)])), (.t (.int .i64 a1)), (.t (.int .i64 a2))] ⟨[], []⟩ = R22  a0_0 a0_1 a0_2z a0_2 a0_3z a0_3 a1 a2 :=
  (call_eq Try.prog hint (fn := Try.f22) (nt := 63) (T := []) [] rfl [(.t (.agg [(.int .i64 a0_0), (.int .i64 a0_1), (.list 1 a0_2z a0_2), (.list 1 a0_3z a0_3)])), (.t (.int .i64 a1)), (.t (.int .i64 a2))] ⟨[], []⟩ rfl rfl rfl rfl rfl).trans (eq22g  a0_0 a0_1 a0_2z a0_2 a0_3z a0_3 a1 a2)
noncomputable def R7 (L7_6 : Int → Bool → Int → Int → Int → Int → Int → Bool → (List T) → Bool → (List T) → Option Res) (L7_12 : Int → Bool → Int → Int → Bool → (List T) → Int → Int → Bool → (List T) → Int → Int → Int → Int → Bool → (List T) → Bool → (List T) → Option Res) (J7_23 : Int → Bool → Int → Int → Bool → (List T) → Int → Int → Int → Bool → (List T) → Int → Int → Int → Int → Bool → (List T) → Bool → (List T) → Int → Int → Option Res) (a0_0 : Int) (a0_1 : Int) (a0_2z : Bool) (a0_2 : List T) (a0_3z : Bool) (a0_3 : List T) (a1 : Int) : Option Res :=
 callK (vr 9 0 [] ⟨[], []⟩) fun v_1 b_2 =>
 asT v_1 fun x_3 =>
 asB x_3 fun b_4 =>
 endB b_2 <|
 callK (vr 18 0 [(.t (.agg [(.int .i64 a0_0), (.int .i64 a0_1), (.list 1 a0_2z a0_2), (.list 1 a0_3z a0_3)])), (.t (.int .i64 a1))] ⟨[], []⟩) fun v_5 b_6 =>
 asT v_5 fun x_7 =>
 asB x_7 fun b_8 =>
 endB b_6 <|
(bif (!b_8) then
 some ((.t (.bool b_4)), ⟨[], []⟩)
else
(bif (decide (300 < (a0_3.length : Int))) then
 some ((.t (.bool b_4)), ⟨[], []⟩)
else
(bif (decide (100 < a1)) then
 some ((.t (.bool b_4)), ⟨[], []⟩)
else
 callK (vr 21 0 [(.t (.agg [(.int .i64 a0_0), (.int .i64 a0_1), (.list 1 a0_2z a0_2), (.list 1 a0_3z a0_3)]))] ⟨[], []⟩) fun v_9 b_10 =>
 asT v_9 fun x_11 =>
 asB x_11 fun b_12 =>
 endB b_10 <|
(bif b_12 then
(bif (decide (100 < a0_1)) then
 some ((.t (.bool b_4)), ⟨[], []⟩)
else
 callK (vr 19 0 [(.t (.agg [(.int .i64 a0_0), (.int .i64 a0_1), (.list 1 a0_2z a0_2), (.list 1 a0_3z a0_3)])), (.t (.int .i64 a1))] ⟨[], []⟩) fun v_13 b_14 =>
 asT v_13 fun x_15 =>
 asI .i64 x_15 fun x_16 =>
 endB b_14 <|
(bif (!decide (x_16 = 0)) then
 some ((.t (.bool b_4)), ⟨[], []⟩)
else
 L7_6 (a1) (b_4) (0) (a1) (0) (a0_0) (a0_1) (a0_2z) (a0_2) (a0_3z) (a0_3)))
else
 callK (vr 19 0 [(.t (.agg [(.int .i64 a0_0), (.int .i64 a0_1), (.list 1 a0_2z a0_2), (.list 1 a0_3z a0_3)])), (.t (.int .i64 a1))] ⟨[], []⟩) fun v_17 b_18 =>
 asT v_17 fun x_19 =>
 asI .i64 x_19 fun x_20 =>
 endB b_18 <|
(bif (!decide (x_20 = 0)) then
 some ((.t (.bool b_4)), ⟨[], []⟩)
else
 L7_6 (a1) (b_4) (0) (a1) (0) (a0_0) (a0_1) (a0_2z) (a0_2) (a0_3z) (a0_3))))))
theorem eq7g (KL7_6 KL7_12 KJ7_23 : Env → St → Option Res) (a0_0 : Int) (a0_1 : Int) (a0_2z : Bool) (a0_2 : List T) (a0_3z : Bool) (a0_3 : List T) (a1 : Int) : codeT Try.prog hint 7 0 203 (Ta7 KL7_6 KL7_12 KJ7_23) [] (resKV Try.prog Try.f7 (hint.own 7 0)) (nrm hint 7 0 (bodyOf Try.f7) (envV [(.t (.agg [(.int .i64 a0_0), (.int .i64 a0_1), (.list 1 a0_2z a0_2), (.list 1 a0_3z a0_3)])), (.t (.int .i64 a1))] 0) ⟨[], []⟩).1 (nrm hint 7 0 (bodyOf Try.f7) (envV [(.t (.agg [(.int .i64 a0_0), (.int .i64 a0_1), (.list 1 a0_2z a0_2), (.list 1 a0_3z a0_3)])), (.t (.int .i64 a1))] 0) ⟨[], []⟩).2 (bodyOf Try.f7) = R7 (fun ahead1 up5 n6 t54 t55 m8_0 m8_1 m8_2z m8_2 m8_3z m8_3 => KL7_6 [(1, (.t (.int .i64 ahead1))), (2, (.ptr 8 0 0)), (5, (.t (.bool up5))), (6, (.t (.int .i64 n6))), (54, (.t (.int .i64 t54))), (55, (.t (.int .i64 t55)))] ⟨[(8, (.var [(.t (.int .i64 m8_0)), (.t (.int .i64 m8_1)), (.t (.list 1 m8_2z m8_2)), (.t (.list 1 m8_3z m8_3))]))], []⟩) (fun ahead1 up5 n6 p7 c8z c8 t54 t55 t67z t67 t68 t69 m8_0 m8_1 m8_2z m8_2 m8_3z m8_3 => KL7_12 [(1, (.t (.int .i64 ahead1))), (2, (.ptr 8 0 0)), (5, (.t (.bool up5))), (6, (.t (.int .i64 n6))), (7, (.t (.int .i64 p7))), (8, (.t (.list 2 c8z c8))), (54, (.t (.int .i64 t54))), (55, (.t (.int .i64 t55))), (67, (.t (.list 2 t67z t67))), (68, (.t (.int .i64 t68))), (69, (.t (.int .i64 t69)))] ⟨[(8, (.var [(.t (.int .i64 m8_0)), (.t (.int .i64 m8_1)), (.t (.list 1 m8_2z m8_2)), (.t (.list 1 m8_3z m8_3))]))], []⟩) (fun ahead1 up5 n6 p7 c8z c8 i10 t54 t55 t67z t67 t68 t69 m8_0 m8_1 m8_2z m8_2 m8_3z m8_3 m9_0 m9_1 => KJ7_23 [(1, (.t (.int .i64 ahead1))), (2, (.ptr 8 0 0)), (5, (.t (.bool up5))), (6, (.t (.int .i64 n6))), (7, (.t (.int .i64 p7))), (8, (.t (.list 2 c8z c8))), (10, (.t (.int .i64 i10))), (11, (.ptr 9 0 0)), (54, (.t (.int .i64 t54))), (55, (.t (.int .i64 t55))), (67, (.t (.list 2 t67z t67))), (68, (.t (.int .i64 t68))), (69, (.t (.int .i64 t69)))] ⟨[(8, (.var [(.t (.int .i64 m8_0)), (.t (.int .i64 m8_1)), (.t (.list 1 m8_2z m8_2)), (.t (.list 1 m8_3z m8_3))])), (9, (.var [(.t (.int .i64 m9_0)), (.t (.int .i64 m9_1))]))], []⟩) a0_0 a0_1 a0_2z a0_2 a0_3z a0_3 a1 := by kernel_rfl
/-- purfle/purflelaw04.LevelAll -/
theorem eq7 (a0_0 : Int) (a0_1 : Int) (a0_2z : Bool) (a0_2 : List T) (a0_3z : Bool) (a0_3 : List T) (a1 : Int) : vr 7 0 [(.t (.agg [(.int .i64 a0_0), (.int .i64 a0_1), (.list 1 a0_2z a0_2), (.list 1 a0_3z a0_3)])), (.t (.int .i64 a1))] ⟨[], []⟩ = R7 L7_6 L7_12 J7_23 a0_0 a0_1 a0_2z a0_2 a0_3z a0_3 a1 :=
  (call_eq Try.prog hint (fn := Try.f7) (nt := 203) (T := (Ta7 (fun e st => atV Try.prog hint 7 0 Try.f7 203 (List.reverse PaL7_6) e st) (fun e st => atV Try.prog hint 7 0 Try.f7 203 (List.reverse PaL7_12) e st) (fun e st => atV Try.prog hint 7 0 Try.f7 203 (List.reverse PaJ7_23) e st))) [PaL7_6, PaL7_12, PaJ7_23] rfl [(.t (.agg [(.int .i64 a0_0), (.int .i64 a0_1), (.list 1 a0_2z a0_2), (.list 1 a0_3z a0_3)])), (.t (.int .i64 a1))] ⟨[], []⟩ rfl rfl rfl rfl rfl).trans (eq7g (fun e st => atV Try.prog hint 7 0 Try.f7 203 (List.reverse PaL7_6) e st) (fun e st => atV Try.prog hint 7 0 Try.f7 203 (List.reverse PaL7_12) e st) (fun e st => atV Try.prog hint 7 0 Try.f7 203 (List.reverse PaJ7_23) e st) a0_0 a0_1 a0_2z a0_2 a0_3z a0_3 a1)
noncomputable def RL7_6 (L7_6 : Int → Bool → Int → Int → Int → Int → Int → Bool → (List T) → Bool → (List T) → Option Res) (L7_12 : Int → Bool → Int → Int → Bool → (List T) → Int → Int → Bool → (List T) → Int → Int → Int → Int → Bool → (List T) → Bool → (List T) → Option Res) (J7_23 : Int → Bool → Int → Int → Bool → (List T) → Int → Int → Int → Bool → (List T) → Int → Int → Int → Int → Bool → (List T) → Bool → (List T) → Int → Int → Option Res) (ahead1 : Int) (up5 : Bool) (n6 : Int) (t54 : Int) (t55 : Int) (m8_0 : Int) (m8_1 : Int) (m8_2z : Bool) (m8_2 : List T) (m8_3z : Bool) (m8_3 : List T) : Option Res :=
(bif (decide (t55 < t54)) then
 callK (vr 15 0 [(.t (.agg [(.int .i64 m8_0), (.int .i64 m8_1), (.list 1 m8_2z m8_2), (.list 1 m8_3z m8_3)])), (.t (.int .i64 ahead1)), (.t (.int .i64 t55))] ⟨[], []⟩) fun v_1 b_2 =>
 asTup v_1 fun l_3 =>
 consV l_3 fun v_4 l_5 =>
 asT v_4 fun x_6 =>
 asL 2 x_6 fun nn_7 l_8 =>
 consV l_5 fun v_9 l_10 =>
 asT v_9 fun x_11 =>
 asI .i64 x_11 fun x_12 =>
 endV l_10 <|
 endB b_2 <|
(bif (!decide (x_12 = 0)) then
 some ((.t (.bool false)), ⟨[], []⟩)
else
 L7_12 (ahead1) (up5) (n6) (t55) (nn_7) (l_8) (t54) (t55) (nn_7) (l_8) ((l_8.length : Int)) (0) (m8_0) (m8_1) (m8_2z) (m8_2) (m8_3z) (m8_3))
else
 callK (vr 13 0 [(.t (.agg [(.int .i64 m8_0), (.int .i64 m8_1), (.list 1 m8_2z m8_2), (.list 1 m8_3z m8_3)])), (.t (.int .i64 ahead1))] ⟨[], []⟩) fun v_13 b_14 =>
 asTup v_13 fun l_15 =>
 consV l_15 fun v_16 l_17 =>
 asT v_16 fun x_18 =>
 asI .i64 x_18 fun x_19 =>
 consV l_17 fun v_20 l_21 =>
 asT v_20 fun x_22 =>
 asI .i64 x_22 fun x_23 =>
 endV l_21 <|
 endB b_14 <|
 callK (vr 22 0 [(.t (.agg [(.int .i64 m8_0), (.int .i64 m8_1), (.list 1 m8_2z m8_2), (.list 1 m8_3z m8_3)])), (.t (.int .i64 ahead1)), (.t (.int .i64 n6))] ⟨[], []⟩) fun v_24 b_25 =>
 asTup v_24 fun l_26 =>
 consV l_26 fun v_27 l_28 =>
 asT v_27 fun x_29 =>
 asI .i64 x_29 fun x_30 =>
 consV l_28 fun v_31 l_32 =>
 asT v_31 fun x_33 =>
 asI .i64 x_33 fun x_34 =>
 consV l_32 fun v_35 l_36 =>
 asT v_35 fun x_37 =>
 asI .i64 x_37 fun x_38 =>
 endV l_36 <|
 endB b_25 <|
(bif up5 then
(bif (decide (x_19 = n6)) then
(bif (decide (x_23 = 0)) then
 some ((.t (.bool (decide (x_38 = 5)))), ⟨[], []⟩)
else
 some ((.t (.bool false)), ⟨[], []⟩))
else
 some ((.t (.bool false)), ⟨[], []⟩))
else
 some ((.t (.bool false)), ⟨[], []⟩)))
theorem L7_6g (KL7_6 KL7_12 KJ7_23 : Env → St → Option Res) (ahead1 : Int) (up5 : Bool) (n6 : Int) (t54 : Int) (t55 : Int) (m8_0 : Int) (m8_1 : Int) (m8_2z : Bool) (m8_2 : List T) (m8_3z : Bool) (m8_3 : List T) : codeT Try.prog hint 7 0 203 (Ta7 KL7_6 KL7_12 KJ7_23) (.lp :: PaL7_6) (ctxT Try.prog hint 7 0 203 (Ta7 KL7_6 KL7_12 KJ7_23) [] (List.reverse (.lp :: PaL7_6)) (bodyOf Try.f7) (resKV Try.prog Try.f7 (hint.own 7 0))) [(1, (.t (.int .i64 ahead1))), (2, (.ptr 8 0 0)), (5, (.t (.bool up5))), (6, (.t (.int .i64 n6))), (54, (.t (.int .i64 t54))), (55, (.t (.int .i64 t55)))] ⟨[(8, (.var [(.t (.int .i64 m8_0)), (.t (.int .i64 m8_1)), (.t (.list 1 m8_2z m8_2)), (.t (.list 1 m8_3z m8_3))]))], []⟩ (nav (List.reverse (.lp :: PaL7_6)) (bodyOf Try.f7)) = RL7_6 (fun ahead1 up5 n6 t54 t55 m8_0 m8_1 m8_2z m8_2 m8_3z m8_3 => KL7_6 [(1, (.t (.int .i64 ahead1))), (2, (.ptr 8 0 0)), (5, (.t (.bool up5))), (6, (.t (.int .i64 n6))), (54, (.t (.int .i64 t54))), (55, (.t (.int .i64 t55)))] ⟨[(8, (.var [(.t (.int .i64 m8_0)), (.t (.int .i64 m8_1)), (.t (.list 1 m8_2z m8_2)), (.t (.list 1 m8_3z m8_3))]))], []⟩) (fun ahead1 up5 n6 p7 c8z c8 t54 t55 t67z t67 t68 t69 m8_0 m8_1 m8_2z m8_2 m8_3z m8_3 => KL7_12 [(1, (.t (.int .i64 ahead1))), (2, (.ptr 8 0 0)), (5, (.t (.bool up5))), (6, (.t (.int .i64 n6))), (7, (.t (.int .i64 p7))), (8, (.t (.list 2 c8z c8))), (54, (.t (.int .i64 t54))), (55, (.t (.int .i64 t55))), (67, (.t (.list 2 t67z t67))), (68, (.t (.int .i64 t68))), (69, (.t (.int .i64 t69)))] ⟨[(8, (.var [(.t (.int .i64 m8_0)), (.t (.int .i64 m8_1)), (.t (.list 1 m8_2z m8_2)), (.t (.list 1 m8_3z m8_3))]))], []⟩) (fun ahead1 up5 n6 p7 c8z c8 i10 t54 t55 t67z t67 t68 t69 m8_0 m8_1 m8_2z m8_2 m8_3z m8_3 m9_0 m9_1 => KJ7_23 [(1, (.t (.int .i64 ahead1))), (2, (.ptr 8 0 0)), (5, (.t (.bool up5))), (6, (.t (.int .i64 n6))), (7, (.t (.int .i64 p7))), (8, (.t (.list 2 c8z c8))), (10, (.t (.int .i64 i10))), (11, (.ptr 9 0 0)), (54, (.t (.int .i64 t54))), (55, (.t (.int .i64 t55))), (67, (.t (.list 2 t67z t67))), (68, (.t (.int .i64 t68))), (69, (.t (.int .i64 t69)))] ⟨[(8, (.var [(.t (.int .i64 m8_0)), (.t (.int .i64 m8_1)), (.t (.list 1 m8_2z m8_2)), (.t (.list 1 m8_3z m8_3))])), (9, (.var [(.t (.int .i64 m9_0)), (.t (.int .i64 m9_1))]))], []⟩) ahead1 up5 n6 t54 t55 m8_0 m8_1 m8_2z m8_2 m8_3z m8_3 := by kernel_rfl
theorem L7_6_eq (ahead1 : Int) (up5 : Bool) (n6 : Int) (t54 : Int) (t55 : Int) (m8_0 : Int) (m8_1 : Int) (m8_2z : Bool) (m8_2 : List T) (m8_3z : Bool) (m8_3 : List T) : L7_6 ahead1 up5 n6 t54 t55 m8_0 m8_1 m8_2z m8_2 m8_3z m8_3 = RL7_6 L7_6 L7_12 J7_23 ahead1 up5 n6 t54 t55 m8_0 m8_1 m8_2z m8_2 m8_3z m8_3 :=
  (round_eq Try.prog hint (b := (nav (List.reverse (.lp :: PaL7_6)) (bodyOf Try.f7))) (fn := Try.f7) (nt := 203) (T := (Ta7 (fun e st => atV Try.prog hint 7 0 Try.f7 203 (List.reverse PaL7_6) e st) (fun e st => atV Try.prog hint 7 0 Try.f7 203 (List.reverse PaL7_12) e st) (fun e st => atV Try.prog hint 7 0 Try.f7 203 (List.reverse PaJ7_23) e st))) [PaL7_6, PaL7_12, PaJ7_23] rfl PaL7_6 [(1, (.t (.int .i64 ahead1))), (2, (.ptr 8 0 0)), (5, (.t (.bool up5))), (6, (.t (.int .i64 n6))), (54, (.t (.int .i64 t54))), (55, (.t (.int .i64 t55)))] ⟨[(8, (.var [(.t (.int .i64 m8_0)), (.t (.int .i64 m8_1)), (.t (.list 1 m8_2z m8_2)), (.t (.list 1 m8_3z m8_3))]))], []⟩ rfl rfl rfl).trans (L7_6g (fun e st => atV Try.prog hint 7 0 Try.f7 203 (List.reverse PaL7_6) e st) (fun e st => atV Try.prog hint 7 0 Try.f7 203 (List.reverse PaL7_12) e st) (fun e st => atV Try.prog hint 7 0 Try.f7 203 (List.reverse PaJ7_23) e st) ahead1 up5 n6 t54 t55 m8_0 m8_1 m8_2z m8_2 m8_3z m8_3)
noncomputable def RL7_12 (L7_6 : Int → Bool → Int → Int → Int → Int → Int → Bool → (List T) → Bool → (List T) → Option Res) (L7_12 : Int → Bool → Int → Int → Bool → (List T) → Int → Int → Bool → (List T) → Int → Int → Int → Int → Bool → (List T) → Bool → (List T) → Option Res) (J7_23 : Int → Bool → Int → Int → Bool → (List T) → Int → Int → Int → Bool → (List T) → Int → Int → Int → Int → Bool → (List T) → Bool → (List T) → Int → Int → Option Res) (ahead1 : Int) (up5 : Bool) (n6 : Int) (p7 : Int) (c8z : Bool) (c8 : List T) (t54 : Int) (t55 : Int) (t67z : Bool) (t67 : List T) (t68 : Int) (t69 : Int) (m8_0 : Int) (m8_1 : Int) (m8_2z : Bool) (m8_2 : List T) (m8_3z : Bool) (m8_3 : List T) : Option Res :=
(bif (decide (t69 < t68)) then
 needC (decide (0 ≤ t69)) fun _ =>
 getT t67 (t69).toNat fun e_1 =>
 asA e_1 fun l_2 =>
 consT l_2 fun v_3 l_4 =>
 asI .i64 v_3 fun x_5 =>
 consT l_4 fun v_6 l_7 =>
 asI .i64 v_6 fun x_8 =>
 endT l_7 <|
 callK (vr 22 0 [(.t (.agg [(.int .i64 m8_0), (.int .i64 m8_1), (.list 1 m8_2z m8_2), (.list 1 m8_3z m8_3)])), (.t (.int .i64 ahead1)), (.t (.int .i64 x_8))] ⟨[], []⟩) fun v_9 b_10 =>
 asTup v_9 fun l_11 =>
 consV l_11 fun v_12 l_13 =>
 asT v_12 fun x_14 =>
 asI .i64 x_14 fun x_15 =>
 consV l_13 fun v_16 l_17 =>
 asT v_16 fun x_18 =>
 asI .i64 x_18 fun x_19 =>
 consV l_17 fun v_20 l_21 =>
 asT v_20 fun x_22 =>
 asI .i64 x_22 fun x_23 =>
 endV l_21 <|
 endB b_10 <|
 callK (vr 20 0 [(.t (.agg [(.int .i64 m8_0), (.int .i64 m8_1), (.list 1 m8_2z m8_2), (.list 1 m8_3z m8_3)])), (.t (.int .i64 ahead1)), (.t (.int .i64 p7)), (.t (.int .i64 x_5))] ⟨[], []⟩) fun v_24 b_25 =>
 asTup v_24 fun l_26 =>
 consV l_26 fun v_27 l_28 =>
 asT v_27 fun x_29 =>
 asI .i64 x_29 fun x_30 =>
 consV l_28 fun v_31 l_32 =>
 asT v_31 fun x_33 =>
 asB x_33 fun b_34 =>
 consV l_32 fun v_35 l_36 =>
 asT v_35 fun x_37 =>
 asI .i64 x_37 fun x_38 =>
 endV l_36 <|
 endB b_25 <|
(bif (!decide (x_8 = n6)) then
 some ((.t (.bool false)), ⟨[], []⟩)
else
(bif (!decide (x_23 = 0)) then
 some ((.t (.bool false)), ⟨[], []⟩)
else
(bif (!decide (x_38 = 0)) then
 some ((.t (.bool false)), ⟨[], []⟩)
else
(bif (!decide (x_15 = p7)) then
 some ((.t (.bool false)), ⟨[], []⟩)
else
(bif (!decide (x_19 = x_5)) then
 some ((.t (.bool false)), ⟨[], []⟩)
else
(bif (!b_34) then
 some ((.t (.bool false)), ⟨[], []⟩)
else
(bif (decide (x_5 < 0)) then
 some ((.t (.bool false)), ⟨[], []⟩)
else
(bif (decide (m8_1 ≤ x_5)) then
 some ((.t (.bool false)), ⟨[], []⟩)
else
(bif (decide (t69 = 0)) then
(bif (!decide (x_30 = x_8)) then
 some ((.t (.bool false)), ⟨[], []⟩)
else
 J7_23 (ahead1) (up5) (n6) (p7) (c8z) (c8) (t69) (t54) (t55) (t67z) (t67) (t68) (t69) (m8_0) (m8_1) (m8_2z) (m8_2) (m8_3z) (m8_3) (x_5) (x_8))
else
 needC (decide (0 ≤ (IntKind.i64.wrap (t69 - 1)))) fun _ =>
 getT c8 ((IntKind.i64.wrap (t69 - 1))).toNat fun e_39 =>
 asA e_39 fun l_40 =>
 consT l_40 fun v_41 l_42 =>
 asI .i64 v_41 fun x_43 =>
 consT l_42 fun v_44 l_45 =>
 asI .i64 v_44 fun x_46 =>
 endT l_45 <|
(bif (!decide (x_43 = x_5)) then
(bif (!decide (x_30 = x_8)) then
 some ((.t (.bool false)), ⟨[], []⟩)
else
 J7_23 (ahead1) (up5) (n6) (p7) (c8z) (c8) (t69) (t54) (t55) (t67z) (t67) (t68) (t69) (m8_0) (m8_1) (m8_2z) (m8_2) (m8_3z) (m8_3) (x_5) (x_8))
else
(bif (decide (x_8 ≤ x_30)) then
 some ((.t (.bool false)), ⟨[], []⟩)
else
(bif (!decide (m8_0 = 2)) then
 some ((.t (.bool false)), ⟨[], []⟩)
else
 J7_23 (ahead1) (up5) (n6) (p7) (c8z) (c8) (t69) (t54) (t55) (t67z) (t67) (t68) (t69) (m8_0) (m8_1) (m8_2z) (m8_2) (m8_3z) (m8_3) (x_5) (x_8)))))))))))))
else
 L7_6 (ahead1) (up5) (n6) (t54) ((IntKind.i64.wrap (t55 + 1))) (m8_0) (m8_1) (m8_2z) (m8_2) (m8_3z) (m8_3))
theorem L7_12g (KL7_6 KL7_12 KJ7_23 : Env → St → Option Res) (ahead1 : Int) (up5 : Bool) (n6 : Int) (p7 : Int) (c8z : Bool) (c8 : List T) (t54 : Int) (t55 : Int) (t67z : Bool) (t67 : List T) (t68 : Int) (t69 : Int) (m8_0 : Int) (m8_1 : Int) (m8_2z : Bool) (m8_2 : List T) (m8_3z : Bool) (m8_3 : List T) : codeT Try.prog hint 7 0 203 (Ta7 KL7_6 KL7_12 KJ7_23) (.lp :: PaL7_12) (ctxT Try.prog hint 7 0 203 (Ta7 KL7_6 KL7_12 KJ7_23) [] (List.reverse (.lp :: PaL7_12)) (bodyOf Try.f7) (resKV Try.prog Try.f7 (hint.own 7 0))) [(1, (.t (.int .i64 ahead1))), (2, (.ptr 8 0 0)), (5, (.t (.bool up5))), (6, (.t (.int .i64 n6))), (7, (.t (.int .i64 p7))), (8, (.t (.list 2 c8z c8))), (54, (.t (.int .i64 t54))), (55, (.t (.int .i64 t55))), (67, (.t (.list 2 t67z t67))), (68, (.t (.int .i64 t68))), (69, (.t (.int .i64 t69)))] ⟨[(8, (.var [(.t (.int .i64 m8_0)), (.t (.int .i64 m8_1)), (.t (.list 1 m8_2z m8_2)), (.t (.list 1 m8_3z m8_3))]))], []⟩ (nav (List.reverse (.lp :: PaL7_12)) (bodyOf Try.f7)) = RL7_12 (fun ahead1 up5 n6 t54 t55 m8_0 m8_1 m8_2z m8_2 m8_3z m8_3 => KL7_6 [(1, (.t (.int .i64 ahead1))), (2, (.ptr 8 0 0)), (5, (.t (.bool up5))), (6, (.t (.int .i64 n6))), (54, (.t (.int .i64 t54))), (55, (.t (.int .i64 t55)))] ⟨[(8, (.var [(.t (.int .i64 m8_0)), (.t (.int .i64 m8_1)), (.t (.list 1 m8_2z m8_2)), (.t (.list 1 m8_3z m8_3))]))], []⟩) (fun ahead1 up5 n6 p7 c8z c8 t54 t55 t67z t67 t68 t69 m8_0 m8_1 m8_2z m8_2 m8_3z m8_3 => KL7_12 [(1, (.t (.int .i64 ahead1))), (2, (.ptr 8 0 0)), (5, (.t (.bool up5))), (6, (.t (.int .i64 n6))), (7, (.t (.int .i64 p7))), (8, (.t (.list 2 c8z c8))), (54, (.t (.int .i64 t54))), (55, (.t (.int .i64 t55))), (67, (.t (.list 2 t67z t67))), (68, (.t (.int .i64 t68))), (69, (.t (.int .i64 t69)))] ⟨[(8, (.var [(.t (.int .i64 m8_0)), (.t (.int .i64 m8_1)), (.t (.list 1 m8_2z m8_2)), (.t (.list 1 m8_3z m8_3))]))], []⟩) (fun ahead1 up5 n6 p7 c8z c8 i10 t54 t55 t67z t67 t68 t69 m8_0 m8_1 m8_2z m8_2 m8_3z m8_3 m9_0 m9_1 => KJ7_23 [(1, (.t (.int .i64 ahead1))), (2, (.ptr 8 0 0)), (5, (.t (.bool up5))), (6, (.t (.int .i64 n6))), (7, (.t (.int .i64 p7))), (8, (.t (.list 2 c8z c8))), (10, (.t (.int .i64 i10))), (11, (.ptr 9 0 0)), (54, (.t (.int .i64 t54))), (55, (.t (.int .i64 t55))), (67, (.t (.list 2 t67z t67))), (68, (.t (.int .i64 t68))), (69, (.t (.int .i64 t69)))] ⟨[(8, (.var [(.t (.int .i64 m8_0)), (.t (.int .i64 m8_1)), (.t (.list 1 m8_2z m8_2)), (.t (.list 1 m8_3z m8_3))])), (9, (.var [(.t (.int .i64 m9_0)), (.t (.int .i64 m9_1))]))], []⟩) ahead1 up5 n6 p7 c8z c8 t54 t55 t67z t67 t68 t69 m8_0 m8_1 m8_2z m8_2 m8_3z m8_3 := by kernel_rfl
theorem L7_12_eq (ahead1 : Int) (up5 : Bool) (n6 : Int) (p7 : Int) (c8z : Bool) (c8 : List T) (t54 : Int) (t55 : Int) (t67z : Bool) (t67 : List T) (t68 : Int) (t69 : Int) (m8_0 : Int) (m8_1 : Int) (m8_2z : Bool) (m8_2 : List T) (m8_3z : Bool) (m8_3 : List T) : L7_12 ahead1 up5 n6 p7 c8z c8 t54 t55 t67z t67 t68 t69 m8_0 m8_1 m8_2z m8_2 m8_3z m8_3 = RL7_12 L7_6 L7_12 J7_23 ahead1 up5 n6 p7 c8z c8 t54 t55 t67z t67 t68 t69 m8_0 m8_1 m8_2z m8_2 m8_3z m8_3 :=
  (round_eq Try.prog hint (b := (nav (List.reverse (.lp :: PaL7_12)) (bodyOf Try.f7))) (fn := Try.f7) (nt := 203) (T := (Ta7 (fun e st => atV Try.prog hint 7 0 Try.f7 203 (List.reverse PaL7_6) e st) (fun e st => atV Try.prog hint 7 0 Try.f7 203 (List.reverse PaL7_12) e st) (fun e st => atV Try.prog hint 7 0 Try.f7 203 (List.reverse PaJ7_23) e st))) [PaL7_6, PaL7_12, PaJ7_23] rfl PaL7_12 [(1, (.t (.int .i64 ahead1))), (2, (.ptr 8 0 0)), (5, (.t (.bool up5))), (6, (.t (.int .i64 n6))), (7, (.t (.int .i64 p7))), (8, (.t (.list 2 c8z c8))), (54, (.t (.int .i64 t54))), (55, (.t (.int .i64 t55))), (67, (.t (.list 2 t67z t67))), (68, (.t (.int .i64 t68))), (69, (.t (.int .i64 t69)))] ⟨[(8, (.var [(.t (.int .i64 m8_0)), (.t (.int .i64 m8_1)), (.t (.list 1 m8_2z m8_2)), (.t (.list 1 m8_3z m8_3))]))], []⟩ rfl rfl rfl).trans (L7_12g (fun e st => atV Try.prog hint 7 0 Try.f7 203 (List.reverse PaL7_6) e st) (fun e st => atV Try.prog hint 7 0 Try.f7 203 (List.reverse PaL7_12) e st) (fun e st => atV Try.prog hint 7 0 Try.f7 203 (List.reverse PaJ7_23) e st) ahead1 up5 n6 p7 c8z c8 t54 t55 t67z t67 t68 t69 m8_0 m8_1 m8_2z m8_2 m8_3z m8_3)
noncomputable def RJ7_23 (L7_6 : Int → Bool → Int → Int → Int → Int → Int → Bool → (List T) → Bool → (List T) → Option Res) (L7_12 : Int → Bool → Int → Int → Bool → (List T) → Int → Int → Bool → (List T) → Int → Int → Int → Int → Bool → (List T) → Bool → (List T) → Option Res) (J7_23 : Int → Bool → Int → Int → Bool → (List T) → Int → Int → Int → Bool → (List T) → Int → Int → Int → Int → Bool → (List T) → Bool → (List T) → Int → Int → Option Res) (ahead1 : Int) (up5 : Bool) (n6 : Int) (p7 : Int) (c8z : Bool) (c8 : List T) (i10 : Int) (t54 : Int) (t55 : Int) (t67z : Bool) (t67 : List T) (t68 : Int) (t69 : Int) (m8_0 : Int) (m8_1 : Int) (m8_2z : Bool) (m8_2 : List T) (m8_3z : Bool) (m8_3 : List T) (m9_0 : Int) (m9_1 : Int) : Option Res :=
(bif (decide (0 < i10)) then
 needC (decide (0 ≤ (IntKind.i64.wrap (i10 - 1)))) fun _ =>
 getT c8 ((IntKind.i64.wrap (i10 - 1))).toNat fun e_1 =>
 asA e_1 fun l_2 =>
 consT l_2 fun v_3 l_4 =>
 asI .i64 v_3 fun x_5 =>
 consT l_4 fun v_6 l_7 =>
 asI .i64 v_6 fun x_8 =>
 endT l_7 <|
(bif (decide (m9_0 < x_5)) then
 some ((.t (.bool false)), ⟨[], []⟩)
else
 L7_12 (ahead1) (up5) ((IntKind.i64.wrap (n6 + 1))) (p7) (c8z) (c8) (t54) (t55) (t67z) (t67) (t68) ((IntKind.i64.wrap (t69 + 1))) (m8_0) (m8_1) (m8_2z) (m8_2) (m8_3z) (m8_3))
else
 L7_12 (ahead1) (up5) ((IntKind.i64.wrap (n6 + 1))) (p7) (c8z) (c8) (t54) (t55) (t67z) (t67) (t68) ((IntKind.i64.wrap (t69 + 1))) (m8_0) (m8_1) (m8_2z) (m8_2) (m8_3z) (m8_3))
theorem J7_23g (KL7_6 KL7_12 KJ7_23 : Env → St → Option Res) (ahead1 : Int) (up5 : Bool) (n6 : Int) (p7 : Int) (c8z : Bool) (c8 : List T) (i10 : Int) (t54 : Int) (t55 : Int) (t67z : Bool) (t67 : List T) (t68 : Int) (t69 : Int) (m8_0 : Int) (m8_1 : Int) (m8_2z : Bool) (m8_2 : List T) (m8_3z : Bool) (m8_3 : List T) (m9_0 : Int) (m9_1 : Int) : codeT Try.prog hint 7 0 203 (Ta7 KL7_6 KL7_12 KJ7_23) PaJ7_23 (ctxT Try.prog hint 7 0 203 (Ta7 KL7_6 KL7_12 KJ7_23) [] (List.reverse PaJ7_23) (bodyOf Try.f7) (resKV Try.prog Try.f7 (hint.own 7 0))) [(1, (.t (.int .i64 ahead1))), (2, (.ptr 8 0 0)), (5, (.t (.bool up5))), (6, (.t (.int .i64 n6))), (7, (.t (.int .i64 p7))), (8, (.t (.list 2 c8z c8))), (10, (.t (.int .i64 i10))), (11, (.ptr 9 0 0)), (54, (.t (.int .i64 t54))), (55, (.t (.int .i64 t55))), (67, (.t (.list 2 t67z t67))), (68, (.t (.int .i64 t68))), (69, (.t (.int .i64 t69)))] ⟨[(8, (.var [(.t (.int .i64 m8_0)), (.t (.int .i64 m8_1)), (.t (.list 1 m8_2z m8_2)), (.t (.list 1 m8_3z m8_3))])), (9, (.var [(.t (.int .i64 m9_0)), (.t (.int .i64 m9_1))]))], []⟩ (nav (List.reverse PaJ7_23) (bodyOf Try.f7)) = RJ7_23 (fun ahead1 up5 n6 t54 t55 m8_0 m8_1 m8_2z m8_2 m8_3z m8_3 => KL7_6 [(1, (.t (.int .i64 ahead1))), (2, (.ptr 8 0 0)), (5, (.t (.bool up5))), (6, (.t (.int .i64 n6))), (54, (.t (.int .i64 t54))), (55, (.t (.int .i64 t55)))] ⟨[(8, (.var [(.t (.int .i64 m8_0)), (.t (.int .i64 m8_1)), (.t (.list 1 m8_2z m8_2)), (.t (.list 1 m8_3z m8_3))]))], []⟩) (fun ahead1 up5 n6 p7 c8z c8 t54 t55 t67z t67 t68 t69 m8_0 m8_1 m8_2z m8_2 m8_3z m8_3 => KL7_12 [(1, (.t (.int .i64 ahead1))), (2, (.ptr 8 0 0)), (5, (.t (.bool up5))), (6, (.t (.int .i64 n6))), (7, (.t (.int .i64 p7))), (8, (.t (.list 2 c8z c8))), (54, (.t (.int .i64 t54))), (55, (.t (.int .i64 t55))), (67, (.t (.list 2 t67z t67))), (68, (.t (.int .i64 t68))), (69, (.t (.int .i64 t69)))] ⟨[(8, (.var [(.t (.int .i64 m8_0)), (.t (.int .i64 m8_1)), (.t (.list 1 m8_2z m8_2)), (.t (.list 1 m8_3z m8_3))]))], []⟩) (fun ahead1 up5 n6 p7 c8z c8 i10 t54 t55 t67z t67 t68 t69 m8_0 m8_1 m8_2z m8_2 m8_3z m8_3 m9_0 m9_1 => KJ7_23 [(1, (.t (.int .i64 ahead1))), (2, (.ptr 8 0 0)), (5, (.t (.bool up5))), (6, (.t (.int .i64 n6))), (7, (.t (.int .i64 p7))), (8, (.t (.list 2 c8z c8))), (10, (.t (.int .i64 i10))), (11, (.ptr 9 0 0)), (54, (.t (.int .i64 t54))), (55, (.t (.int .i64 t55))), (67, (.t (.list 2 t67z t67))), (68, (.t (.int .i64 t68))), (69, (.t (.int .i64 t69)))] ⟨[(8, (.var [(.t (.int .i64 m8_0)), (.t (.int .i64 m8_1)), (.t (.list 1 m8_2z m8_2)), (.t (.list 1 m8_3z m8_3))])), (9, (.var [(.t (.int .i64 m9_0)), (.t (.int .i64 m9_1))]))], []⟩) ahead1 up5 n6 p7 c8z c8 i10 t54 t55 t67z t67 t68 t69 m8_0 m8_1 m8_2z m8_2 m8_3z m8_3 m9_0 m9_1 := by kernel_rfl
theorem J7_23_eq (ahead1 : Int) (up5 : Bool) (n6 : Int) (p7 : Int) (c8z : Bool) (c8 : List T) (i10 : Int) (t54 : Int) (t55 : Int) (t67z : Bool) (t67 : List T) (t68 : Int) (t69 : Int) (m8_0 : Int) (m8_1 : Int) (m8_2z : Bool) (m8_2 : List T) (m8_3z : Bool) (m8_3 : List T) (m9_0 : Int) (m9_1 : Int) : J7_23 ahead1 up5 n6 p7 c8z c8 i10 t54 t55 t67z t67 t68 t69 m8_0 m8_1 m8_2z m8_2 m8_3z m8_3 m9_0 m9_1 = RJ7_23 L7_6 L7_12 J7_23 ahead1 up5 n6 p7 c8z c8 i10 t54 t55 t67z t67 t68 t69 m8_0 m8_1 m8_2z m8_2 m8_3z m8_3 m9_0 m9_1 :=
  (join_eq Try.prog hint (fn := Try.f7) (nt := 203) (T := (Ta7 (fun e st => atV Try.prog hint 7 0 Try.f7 203 (List.reverse PaL7_6) e st) (fun e st => atV Try.prog hint 7 0 Try.f7 203 (List.reverse PaL7_12) e st) (fun e st => atV Try.prog hint 7 0 Try.f7 203 (List.reverse PaJ7_23) e st))) [PaL7_6, PaL7_12, PaJ7_23] rfl PaJ7_23 [(1, (.t (.int .i64 ahead1))), (2, (.ptr 8 0 0)), (5, (.t (.bool up5))), (6, (.t (.int .i64 n6))), (7, (.t (.int .i64 p7))), (8, (.t (.list 2 c8z c8))), (10, (.t (.int .i64 i10))), (11, (.ptr 9 0 0)), (54, (.t (.int .i64 t54))), (55, (.t (.int .i64 t55))), (67, (.t (.list 2 t67z t67))), (68, (.t (.int .i64 t68))), (69, (.t (.int .i64 t69)))] ⟨[(8, (.var [(.t (.int .i64 m8_0)), (.t (.int .i64 m8_1)), (.t (.list 1 m8_2z m8_2)), (.t (.list 1 m8_3z m8_3))])), (9, (.var [(.t (.int .i64 m9_0)), (.t (.int .i64 m9_1))]))], []⟩ rfl).trans (J7_23g (fun e st => atV Try.prog hint 7 0 Try.f7 203 (List.reverse PaL7_6) e st) (fun e st => atV Try.prog hint 7 0 Try.f7 203 (List.reverse PaL7_12) e st) (fun e st => atV Try.prog hint 7 0 Try.f7 203 (List.reverse PaJ7_23) e st) ahead1 up5 n6 p7 c8z c8 i10 t54 t55 t67z t67 t68 t69 m8_0 m8_1 m8_2z m8_2 m8_3z m8_3 m9_0 m9_1)
end Go.Proofs.Ytejfkiohnoiagaa.VM
