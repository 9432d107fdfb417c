/- The equations, the second part. Conditions: none. -/
import Derived.Test.YtifkgdmiojnllaaQa
set_option linter.all false
namespace Go.Proofs.Ytifkgdmiojnllaa.VM
open Go AM

noncomputable def R37  (a0_0 a0_1 a0_2 a0_3 a0_4 a1_0 a1_1 a1_2 : Int) (a1_3z : Bool) (a1_3 : List T) : Option Res :=
 callK (vr 38 0 [(.t (.int .i64 a0_0))] ⟨[], []⟩) fun v_1 b_2 =>
 asTup v_1 fun l_3 =>
 consV l_3 fun v_4 l_5 =>
 asT v_4 fun x_6 =>
 asA x_6 fun l_7 =>
 consT l_7 fun v_8 l_9 =>
 asS v_8 fun s_10 =>
 consT l_9 fun v_11 l_12 =>
 asI .i64 v_11 fun x_13 =>
 consT l_12 fun v_14 l_15 =>
 asI .i64 v_14 fun x_16 =>
 consT l_15 fun v_17 l_18 =>
 asI .i64 v_17 fun x_19 =>
 endT l_18 <|
 consV l_5 fun v_20 l_21 =>
 asT v_20 fun x_22 =>
 asB x_22 fun b_23 =>
 endV l_21 <|
 endB b_2 <|
 callK (vr 39 0 [(.ptr 0 0 0)] ⟨[(0, (.var [(.t (.int .i64 a0_0)), (.t (.int .i64 a0_1)), (.t (.int .i64 a0_2)), (.t (.int .i64 a0_3)), (.t (.int .i64 a0_4))]))], []⟩) fun v_24 b_25 =>
 asG v_24 fun l_26 =>
 consV l_26 fun v_27 l_28 =>
 isPtr 0 0 1 v_27 <|
 consV l_28 fun v_29 l_30 =>
 isPtr 0 0 2 v_29 <|
 consV l_30 fun v_31 l_32 =>
 isPtr 0 0 3 v_31 <|
 endV l_32 <|
 consB 0 b_25 fun k_33 b_34 =>
 asVar k_33 fun l_35 =>
 consV l_35 fun v_36 l_37 =>
 asT v_36 fun x_38 =>
 asI .i64 x_38 fun x_39 =>
 consV l_37 fun v_40 l_41 =>
 asT v_40 fun x_42 =>
 asI .i64 x_42 fun x_43 =>
 consV l_41 fun v_44 l_45 =>
 asT v_44 fun x_46 =>
 asI .i64 x_46 fun x_47 =>
 consV l_45 fun v_48 l_49 =>
 asT v_48 fun x_50 =>
 asI .i64 x_50 fun x_51 =>
 consV l_49 fun v_52 l_53 =>
 asT v_52 fun x_54 =>
 asI .i64 x_54 fun x_55 =>
 endV l_53 <|
 endB b_34 <|
(bif b_23 then
(bif (decide (0 ≤ x_43)) then
 needC (decide (0 ≤ x_13) && decide (x_13 < (6 : Int))) fun _ =>
 getT ([(.int .i64 1), (.int .i64 a1_0), (.int .i64 a1_0), (.int .i64 a1_1), (.int .i64 (a1_3.length : Int)), (.int .i64 1)]) ((0 + (x_13).toNat * 1)) fun c_56 =>
 asI .i64 c_56 fun x_57 =>
(bif (decide (x_43 < x_57)) then
(bif (decide (0 ≤ x_47)) then
 needC (decide (0 ≤ x_16) && decide (x_16 < (6 : Int))) fun _ =>
 getT ([(.int .i64 1), (.int .i64 a1_0), (.int .i64 a1_0), (.int .i64 a1_1), (.int .i64 (a1_3.length : Int)), (.int .i64 1)]) ((0 + (x_16).toNat * 1)) fun c_58 =>
 asI .i64 c_58 fun x_59 =>
(bif (decide (x_47 < x_59)) then
(bif (decide (0 ≤ x_51)) then
 needC (decide (0 ≤ x_19) && decide (x_19 < (6 : Int))) fun _ =>
 getT ([(.int .i64 1), (.int .i64 a1_0), (.int .i64 a1_0), (.int .i64 a1_1), (.int .i64 (a1_3.length : Int)), (.int .i64 1)]) ((0 + (x_19).toNat * 1)) fun c_60 =>
 asI .i64 c_60 fun x_61 =>
(bif (!decide (x_16 = 5)) then
(bif (decide (x_51 < x_61)) then
 some ((.t (.bool (decide (x_55 = 0)))), ⟨[], []⟩)
else
 some ((.t (.bool false)), ⟨[], []⟩))
else
(bif (decide (x_51 < x_61)) then
(bif (decide ((-1000000000000000000) < x_55)) then
 some ((.t (.bool (decide (x_55 < 1000000000000000000)))), ⟨[], []⟩)
else
 some ((.t (.bool false)), ⟨[], []⟩))
else
 some ((.t (.bool false)), ⟨[], []⟩)))
else
(bif (!decide (x_16 = 5)) then
 some ((.t (.bool false)), ⟨[], []⟩)
else
 some ((.t (.bool false)), ⟨[], []⟩)))
else
(bif (!decide (x_16 = 5)) then
 some ((.t (.bool false)), ⟨[], []⟩)
else
 some ((.t (.bool false)), ⟨[], []⟩)))
else
(bif (!decide (x_16 = 5)) then
 some ((.t (.bool false)), ⟨[], []⟩)
else
 some ((.t (.bool false)), ⟨[], []⟩)))
else
(bif (!decide (x_16 = 5)) then
 some ((.t (.bool false)), ⟨[], []⟩)
else
 some ((.t (.bool false)), ⟨[], []⟩)))
else
(bif (!decide (x_16 = 5)) then
 some ((.t (.bool false)), ⟨[], []⟩)
else
 some ((.t (.bool false)), ⟨[], []⟩)))
else
(bif (!decide (x_16 = 5)) then
 some ((.t (.bool false)), ⟨[], []⟩)
else
 some ((.t (.bool false)), ⟨[], []⟩)))
theorem eq37g  (a0_0 a0_1 a0_2 a0_3 a0_4 a1_0 a1_1 a1_2 : Int) (a1_3z : Bool) (a1_3 : List T) : codeT Try.prog hint 37 0 72 [] [] (resKV Try.prog Try.f37 (hint.own 37 0)) (nrm hint 37 0 (bodyOf Try.f37) (envV [(.t (.agg [(.int .i64 a0_0), (.int .i64 a0_1), (.int .i64 a0_2), (.int .i64 a0_3), (.int .i64 a0_4)])), (.t (.agg [(.int .i64 a1_0), (.int .i64 a1_1), (.int .i64 a1_2), (.list 5 a1_3z a1_3)]))] 0) ⟨[], []⟩).1 (nrm hint 37 0 (bodyOf Try.f37) (envV [(.t (.agg [(.int .i64 a0_0), (.int .i64 a0_1), (.int .i64 a0_2), (.int .i64 a0_3), (.int .i64 a0_4)])), (.t (.agg [(.int .i64 a1_0), (.int .i64 a1_1), (.int .i64 a1_2), (.list 5 a1_3z a1_3)]))] 0) ⟨[], []⟩).2 (bodyOf Try.f37) = R37  a0_0 a0_1 a0_2 a0_3 a0_4 a1_0 a1_1 a1_2 a1_3z a1_3 := by kernel_rfl
/-- purfle/code.may -/
theorem eq37 (a0_0 a0_1 a0_2 a0_3 a0_4 a1_0 a1_1 a1_2 : Int) (a1_3z : Bool) (a1_3 : List T) : vr 37 0 [(.t (.agg [(.int .i64 a0_0), (.int .i64 a0_1), (.int .i64 a0_2), (.int .i64 a0_3), (.int .i64 a0_4)])), (.t (.agg [(.int .i64 a1_0), (.int .i64 a1_1), (.int .i64 a1_2), (.list 5 a1_3z a1_3)]))] ⟨[], []⟩ = R37  a0_0 a0_1 a0_2 a0_3 a0_4 a1_0 a1_1 a1_2 a1_3z a1_3 :=
  (call_eq Try.prog hint (fn := Try.f37) (nt := 72) (T := []) [] rfl [(.t (.agg [(.int .i64 a0_0), (.int .i64 a0_1), (.int .i64 a0_2), (.int .i64 a0_3), (.int .i64 a0_4)])), (.t (.agg [(.int .i64 a1_0), (.int .i64 a1_1), (.int .i64 a1_2), (.list 5 a1_3z a1_3)]))] ⟨[], []⟩ rfl rfl rfl rfl rfl).trans (eq37g  a0_0 a0_1 a0_2 a0_3 a0_4 a1_0 a1_1 a1_2 a1_3z a1_3)
noncomputable def R36  (a0_0 a0_1 a0_2 a0_3 a0_4 m0_0 m0_1 m0_2 : Int) (m0_3z : Bool) (m0_3 : List T) : Option Res :=
 callK (vr 37 0 [(.t (.agg [(.int .i64 a0_0), (.int .i64 a0_1), (.int .i64 a0_2), (.int .i64 a0_3), (.int .i64 a0_4)])), (.t (.agg [(.int .i64 m0_0), (.int .i64 m0_1), (.int .i64 m0_2), (.list 5 m0_3z m0_3)]))] ⟨[], []⟩) fun v_1 b_2 =>
 asT v_1 fun x_3 =>
 asB x_3 fun b_4 =>
 endB b_2 <|
 some ((.t (.bool (!b_4))), ⟨[(0, (.var [(.t (.int .i64 m0_0)), (.t (.int .i64 m0_1)), (.t (.int .i64 m0_2)), (.t (.list 5 m0_3z m0_3))]))], [500]⟩)
theorem eq36g  (a0_0 a0_1 a0_2 a0_3 a0_4 m0_0 m0_1 m0_2 : Int) (m0_3z : Bool) (m0_3 : List T) : codeT Try.prog hint 36 0 8 [] [] (resKV Try.prog Try.f36 (hint.own 36 0)) (nrm hint 36 0 (bodyOf Try.f36) (envV [(.t (.agg [(.int .i64 a0_0), (.int .i64 a0_1), (.int .i64 a0_2), (.int .i64 a0_3), (.int .i64 a0_4)])), (.ptr 0 0 0)] 0) ⟨[(0, (.var [(.t (.int .i64 m0_0)), (.t (.int .i64 m0_1)), (.t (.int .i64 m0_2)), (.t (.list 5 m0_3z m0_3))]))], []⟩).1 (nrm hint 36 0 (bodyOf Try.f36) (envV [(.t (.agg [(.int .i64 a0_0), (.int .i64 a0_1), (.int .i64 a0_2), (.int .i64 a0_3), (.int .i64 a0_4)])), (.ptr 0 0 0)] 0) ⟨[(0, (.var [(.t (.int .i64 m0_0)), (.t (.int .i64 m0_1)), (.t (.int .i64 m0_2)), (.t (.list 5 m0_3z m0_3))]))], []⟩).2 (bodyOf Try.f36) = R36  a0_0 a0_1 a0_2 a0_3 a0_4 m0_0 m0_1 m0_2 m0_3z m0_3 := by kernel_rfl
/-- purfle/code.Check$1 -/
theorem eq36 (a0_0 a0_1 a0_2 a0_3 a0_4 m0_0 m0_1 m0_2 : Int) (m0_3z : Bool) (m0_3 : List T) : vr 36 0 [(.t (.agg [(.int .i64 a0_0), (.int .i64 a0_1), (.int .i64 a0_2), (.int .i64 a0_3), (.int .i64 a0_4)])), (.ptr 0 0 0)] ⟨[(0, (.var [(.t (.int .i64 m0_0)), (.t (.int .i64 m0_1)), (.t (.int .i64 m0_2)), (.t (.list 5 m0_3z m0_3))]))], []⟩ = R36  a0_0 a0_1 a0_2 a0_3 a0_4 m0_0 m0_1 m0_2 m0_3z m0_3 :=
  (call_eq Try.prog hint (fn := Try.f36) (nt := 8) (T := []) [] rfl [(.t (.agg [(.int .i64 a0_0), (.int .i64 a0_1), (.int .i64 a0_2), (.int .i64 a0_3), (.int .i64 a0_4)])), (.ptr 0 0 0)] ⟨[(0, (.var [(.t (.int .i64 m0_0)), (.t (.int .i64 m0_1)), (.t (.int .i64 m0_2)), (.t (.list 5 m0_3z m0_3))]))], []⟩ rfl rfl rfl rfl rfl).trans (eq36g  a0_0 a0_1 a0_2 a0_3 a0_4 m0_0 m0_1 m0_2 m0_3z m0_3)
noncomputable def R68 (L68_2 : YL68_2) (a0z : Bool) (a0 : List T) (m0_0 m0_1 m0_2 : Int) (m0_3z : Bool) (m0_3 : List T) : Option Res :=
 L68_2 (a0z) (a0) ((a0.length : Int)) (0) (m0_0) (m0_1) (m0_2) (m0_3z) (m0_3)
theorem eq68g (KL68_2 : Env → St → Option Res) (a0z : Bool) (a0 : List T) (m0_0 m0_1 m0_2 : Int) (m0_3z : Bool) (m0_3 : List T) : codeT Try.prog hint 68 0 19 (Ta68 KL68_2) [] (resKV Try.prog Try.f68 (hint.own 68 0)) (nrm hint 68 0 (bodyOf Try.f68) (envV [(.t (.list 5 a0z a0)), (.fn 36 [] [(.ptr 0 0 0)])] 0) ⟨[(0, (.var [(.t (.int .i64 m0_0)), (.t (.int .i64 m0_1)), (.t (.int .i64 m0_2)), (.t (.list 5 m0_3z m0_3))]))], []⟩).1 (nrm hint 68 0 (bodyOf Try.f68) (envV [(.t (.list 5 a0z a0)), (.fn 36 [] [(.ptr 0 0 0)])] 0) ⟨[(0, (.var [(.t (.int .i64 m0_0)), (.t (.int .i64 m0_1)), (.t (.int .i64 m0_2)), (.t (.list 5 m0_3z m0_3))]))], []⟩).2 (bodyOf Try.f68) = R68 (WL68_2 KL68_2) a0z a0 m0_0 m0_1 m0_2 m0_3z m0_3 := by kernel_rfl
/-- slices.IndexFunc[[]purfle/api.Ins,purfle/api.Ins] -/
theorem eq68 (a0z : Bool) (a0 : List T) (m0_0 m0_1 m0_2 : Int) (m0_3z : Bool) (m0_3 : List T) : vr 68 0 [(.t (.list 5 a0z a0)), (.fn 36 [] [(.ptr 0 0 0)])] ⟨[(0, (.var [(.t (.int .i64 m0_0)), (.t (.int .i64 m0_1)), (.t (.int .i64 m0_2)), (.t (.list 5 m0_3z m0_3))]))], []⟩ = R68 L68_2 a0z a0 m0_0 m0_1 m0_2 m0_3z m0_3 :=
  (call_eq Try.prog hint (fn := Try.f68) (nt := 19) (T := (Ta68 VL68_2)) [PaL68_2] rfl [(.t (.list 5 a0z a0)), (.fn 36 [] [(.ptr 0 0 0)])] ⟨[(0, (.var [(.t (.int .i64 m0_0)), (.t (.int .i64 m0_1)), (.t (.int .i64 m0_2)), (.t (.list 5 m0_3z m0_3))]))], []⟩ rfl rfl rfl rfl rfl).trans (eq68g VL68_2 a0z a0 m0_0 m0_1 m0_2 m0_3z m0_3)
noncomputable def RL68_2 (L68_2 : YL68_2) (s0z : Bool) (s0 : List T) (t7 t8 m0_0 m0_1 m0_2 : Int) (m0_3z : Bool) (m0_3 : List T) : Option Res :=
(bif (decide (t8 < t7)) then
 needC (decide (0 ≤ t8)) fun _ =>
 getT s0 (t8).toNat fun e_1 =>
 asA e_1 fun l_2 =>
 consT l_2 fun v_3 l_4 =>
 asI .i64 v_3 fun x_5 =>
 consT l_4 fun v_6 l_7 =>
 asI .i64 v_6 fun x_8 =>
 consT l_7 fun v_9 l_10 =>
 asI .i64 v_9 fun x_11 =>
 consT l_10 fun v_12 l_13 =>
 asI .i64 v_12 fun x_14 =>
 consT l_13 fun v_15 l_16 =>
 asI .i64 v_15 fun x_17 =>
 endT l_16 <|
 callK (vr 36 0 [(.t (.agg [(.int .i64 x_5), (.int .i64 x_8), (.int .i64 x_11), (.int .i64 x_14), (.int .i64 x_17)])), (.ptr 0 0 0)] ⟨[(0, (.var [(.t (.int .i64 m0_0)), (.t (.int .i64 m0_1)), (.t (.int .i64 m0_2)), (.t (.list 5 m0_3z m0_3))]))], []⟩) fun v_18 b_19 =>
 asT v_18 fun x_20 =>
 asB x_20 fun b_21 =>
 consB 0 b_19 fun k_22 b_23 =>
 asVar k_22 fun l_24 =>
 consV l_24 fun v_25 l_26 =>
 asT v_25 fun x_27 =>
 asI .i64 x_27 fun x_28 =>
 consV l_26 fun v_29 l_30 =>
 asT v_29 fun x_31 =>
 asI .i64 x_31 fun x_32 =>
 consV l_30 fun v_33 l_34 =>
 asT v_33 fun x_35 =>
 asI .i64 x_35 fun x_36 =>
 consV l_34 fun v_37 l_38 =>
 asT v_37 fun x_39 =>
 asL 5 x_39 fun nn_40 l_41 =>
 endV l_38 <|
 endB b_23 <|
(bif b_21 then
 some ((.t (.int .i64 t8)), ⟨[(0, (.var [(.t (.int .i64 x_28)), (.t (.int .i64 x_32)), (.t (.int .i64 x_36)), (.t (.list 5 nn_40 l_41))]))], [500]⟩)
else
 L68_2 (s0z) (s0) (t7) ((IntKind.i64.wrap (t8 + 1))) (x_28) (x_32) (x_36) (nn_40) (l_41))
else
 some ((.t (.int .i64 (-1))), ⟨[(0, (.var [(.t (.int .i64 m0_0)), (.t (.int .i64 m0_1)), (.t (.int .i64 m0_2)), (.t (.list 5 m0_3z m0_3))]))], [500]⟩))
theorem L68_2g (KL68_2 : Env → St → Option Res) (s0z : Bool) (s0 : List T) (t7 t8 m0_0 m0_1 m0_2 : Int) (m0_3z : Bool) (m0_3 : List T) : WL68_2 (fun e st => codeT Try.prog hint 68 0 19 (Ta68 KL68_2) (.lp :: PaL68_2) (ctxT Try.prog hint 68 0 19 (Ta68 KL68_2) [] (List.reverse (.lp :: PaL68_2)) (bodyOf Try.f68) (resKV Try.prog Try.f68 (hint.own 68 0))) e st (nav (List.reverse (.lp :: PaL68_2)) (bodyOf Try.f68))) s0z s0 t7 t8 m0_0 m0_1 m0_2 m0_3z m0_3 = RL68_2 (WL68_2 KL68_2) s0z s0 t7 t8 m0_0 m0_1 m0_2 m0_3z m0_3 := by kernel_rfl
theorem L68_2_eq (s0z : Bool) (s0 : List T) (t7 t8 m0_0 m0_1 m0_2 : Int) (m0_3z : Bool) (m0_3 : List T) : L68_2 s0z s0 t7 t8 m0_0 m0_1 m0_2 m0_3z m0_3 = RL68_2 L68_2 s0z s0 t7 t8 m0_0 m0_1 m0_2 m0_3z m0_3 :=
  (congrArg (fun k => WL68_2 k s0z s0 t7 t8 m0_0 m0_1 m0_2 m0_3z m0_3) (funext fun e => funext fun st => round_eq Try.prog hint (b := (nav (List.reverse (.lp :: PaL68_2)) (bodyOf Try.f68))) (fn := Try.f68) (nt := 19) (T := (Ta68 VL68_2)) [PaL68_2] rfl PaL68_2 e st rfl rfl rfl)).trans (L68_2g VL68_2 s0z s0 t7 t8 m0_0 m0_1 m0_2 m0_3z m0_3)
noncomputable def R35  (a0z : Bool) (a0 : List T) (m0_0 m0_1 m0_2 : Int) (m0_3z : Bool) (m0_3 : List T) : Option Res :=
 callK (vr 68 0 [(.t (.list 5 a0z a0)), (.fn 36 [] [(.ptr 0 0 0)])] ⟨[(0, (.var [(.t (.int .i64 m0_0)), (.t (.int .i64 m0_1)), (.t (.int .i64 m0_2)), (.t (.list 5 m0_3z m0_3))]))], []⟩) fun v_1 b_2 =>
 asT v_1 fun x_3 =>
 asI .i64 x_3 fun x_4 =>
 consB 0 b_2 fun k_5 b_6 =>
 asVar k_5 fun l_7 =>
 consV l_7 fun v_8 l_9 =>
 asT v_8 fun x_10 =>
 asI .i64 x_10 fun x_11 =>
 consV l_9 fun v_12 l_13 =>
 asT v_12 fun x_14 =>
 asI .i64 x_14 fun x_15 =>
 consV l_13 fun v_16 l_17 =>
 asT v_16 fun x_18 =>
 asI .i64 x_18 fun x_19 =>
 consV l_17 fun v_20 l_21 =>
 asT v_20 fun x_22 =>
 asL 5 x_22 fun nn_23 l_24 =>
 endV l_21 <|
 endB b_6 <|
 some ((.t (.bool (decide (0 ≤ x_4)))), ⟨[(0, (.var [(.t (.int .i64 x_11)), (.t (.int .i64 x_15)), (.t (.int .i64 x_19)), (.t (.list 5 nn_23 l_24))]))], [500]⟩)
theorem eq35g  (a0z : Bool) (a0 : List T) (m0_0 m0_1 m0_2 : Int) (m0_3z : Bool) (m0_3 : List T) : codeT Try.prog hint 35 0 9 [] [] (resKV Try.prog Try.f35 (hint.own 35 0)) (nrm hint 35 0 (bodyOf Try.f35) (envV [(.t (.list 5 a0z a0)), (.fn 36 [] [(.ptr 0 0 0)])] 0) ⟨[(0, (.var [(.t (.int .i64 m0_0)), (.t (.int .i64 m0_1)), (.t (.int .i64 m0_2)), (.t (.list 5 m0_3z m0_3))]))], []⟩).1 (nrm hint 35 0 (bodyOf Try.f35) (envV [(.t (.list 5 a0z a0)), (.fn 36 [] [(.ptr 0 0 0)])] 0) ⟨[(0, (.var [(.t (.int .i64 m0_0)), (.t (.int .i64 m0_1)), (.t (.int .i64 m0_2)), (.t (.list 5 m0_3z m0_3))]))], []⟩).2 (bodyOf Try.f35) = R35  a0z a0 m0_0 m0_1 m0_2 m0_3z m0_3 := by kernel_rfl
/-- slices.ContainsFunc[[]purfle/api.Ins,purfle/api.Ins] -/
theorem eq35 (a0z : Bool) (a0 : List T) (m0_0 m0_1 m0_2 : Int) (m0_3z : Bool) (m0_3 : List T) : vr 35 0 [(.t (.list 5 a0z a0)), (.fn 36 [] [(.ptr 0 0 0)])] ⟨[(0, (.var [(.t (.int .i64 m0_0)), (.t (.int .i64 m0_1)), (.t (.int .i64 m0_2)), (.t (.list 5 m0_3z m0_3))]))], []⟩ = R35  a0z a0 m0_0 m0_1 m0_2 m0_3z m0_3 :=
  (call_eq Try.prog hint (fn := Try.f35) (nt := 9) (T := []) [] rfl [(.t (.list 5 a0z a0)), (.fn 36 [] [(.ptr 0 0 0)])] ⟨[(0, (.var [(.t (.int .i64 m0_0)), (.t (.int .i64 m0_1)), (.t (.int .i64 m0_2)), (.t (.list 5 m0_3z m0_3))]))], []⟩ rfl rfl rfl rfl rfl).trans (eq35g  a0z a0 m0_0 m0_1 m0_2 m0_3z m0_3)
noncomputable def R14  (a0_0 a0_1 a0_2 : Int) (a0_3z : Bool) (a0_3 : List T) : Option Res :=
(bif (decide (0 ≤ a0_0)) then
(bif (decide (a0_0 ≤ 128)) then
(bif (decide (0 ≤ a0_1)) then
(bif (decide (a0_1 ≤ 128)) then
(bif (decide (0 ≤ a0_2)) then
(bif (!(decide (a0_2 ≤ a0_1))) then
 some ((.t (.int .i64 1)), ⟨[], []⟩)
else
(bif (decide ((a0_3.length : Int) = 0)) then
 some ((.t (.int .i64 1)), ⟨[], []⟩)
else
(bif (decide (4096 < (a0_3.length : Int))) then
 some ((.t (.int .i64 1)), ⟨[], []⟩)
else
 callK (vr 35 0 [(.t (.list 5 a0_3z a0_3)), (.fn 36 [] [(.ptr 0 0 0)])] ⟨[(0, (.var [(.t (.int .i64 a0_0)), (.t (.int .i64 a0_1)), (.t (.int .i64 a0_2)), (.t (.list 5 a0_3z a0_3))]))], []⟩) fun v_1 b_2 =>
 asT v_1 fun x_3 =>
 asB x_3 fun b_4 =>
 consB 0 b_2 fun k_5 b_6 =>
 asVar k_5 fun l_7 =>
 consV l_7 fun v_8 l_9 =>
 asT v_8 fun x_10 =>
 asI .i64 x_10 fun x_11 =>
 consV l_9 fun v_12 l_13 =>
 asT v_12 fun x_14 =>
 asI .i64 x_14 fun x_15 =>
 consV l_13 fun v_16 l_17 =>
 asT v_16 fun x_18 =>
 asI .i64 x_18 fun x_19 =>
 consV l_17 fun v_20 l_21 =>
 asT v_20 fun x_22 =>
 asL 5 x_22 fun nn_23 l_24 =>
 endV l_21 <|
 endB b_6 <|
(bif b_4 then
 some ((.t (.int .i64 1)), ⟨[], []⟩)
else
 needC (decide (0 ≤ (IntKind.i64.wrap ((l_24.length : Int) - 1)))) fun _ =>
 getT l_24 ((IntKind.i64.wrap ((l_24.length : Int) - 1))).toNat fun e_25 =>
 asA e_25 fun l_26 =>
 consT l_26 fun v_27 l_28 =>
 asI .i64 v_27 fun x_29 =>
 consT l_28 fun v_30 l_31 =>
 asI .i64 v_30 fun x_32 =>
 consT l_31 fun v_33 l_34 =>
 asI .i64 v_33 fun x_35 =>
 consT l_34 fun v_36 l_37 =>
 asI .i64 v_36 fun x_38 =>
 consT l_37 fun v_39 l_40 =>
 asI .i64 v_39 fun x_41 =>
 endT l_40 <|
(bif (!decide (x_29 = 0)) then
(bif (!decide (x_29 = 10)) then
 some ((.t (.int .i64 1)), ⟨[], []⟩)
else
 some ((.t (.int .i64 0)), ⟨[], []⟩))
else
 some ((.t (.int .i64 0)), ⟨[], []⟩))))))
else
 some ((.t (.int .i64 1)), ⟨[], []⟩))
else
 some ((.t (.int .i64 1)), ⟨[], []⟩))
else
 some ((.t (.int .i64 1)), ⟨[], []⟩))
else
 some ((.t (.int .i64 1)), ⟨[], []⟩))
else
 some ((.t (.int .i64 1)), ⟨[], []⟩))
theorem eq14g  (a0_0 a0_1 a0_2 : Int) (a0_3z : Bool) (a0_3 : List T) : codeT Try.prog hint 14 0 70 [] [] (resKV Try.prog Try.f14 (hint.own 14 0)) (nrm hint 14 0 (bodyOf Try.f14) (envV [(.t (.agg [(.int .i64 a0_0), (.int .i64 a0_1), (.int .i64 a0_2), (.list 5 a0_3z a0_3)]))] 0) ⟨[], []⟩).1 (nrm hint 14 0 (bodyOf Try.f14) (envV [(.t (.agg [(.int .i64 a0_0), (.int .i64 a0_1), (.int .i64 a0_2), (.list 5 a0_3z a0_3)]))] 0) ⟨[], []⟩).2 (bodyOf Try.f14) = R14  a0_0 a0_1 a0_2 a0_3z a0_3 := by kernel_rfl
/-- purfle/code.Check -/
theorem eq14 (a0_0 a0_1 a0_2 : Int) (a0_3z : Bool) (a0_3 : List T) : vr 14 0 [(.t (.agg [(.int .i64 a0_0), (.int .i64 a0_1), (.int .i64 a0_2), (.list 5 a0_3z a0_3)]))] ⟨[], []⟩ = R14  a0_0 a0_1 a0_2 a0_3z a0_3 :=
  (call_eq Try.prog hint (fn := Try.f14) (nt := 70) (T := []) [] rfl [(.t (.agg [(.int .i64 a0_0), (.int .i64 a0_1), (.int .i64 a0_2), (.list 5 a0_3z a0_3)]))] ⟨[], []⟩ rfl rfl rfl rfl rfl).trans (eq14g  a0_0 a0_1 a0_2 a0_3z a0_3)
noncomputable def R10 (L10_8 : YL10_8) (J10_17 : YJ10_17) (a0 : ByteArray) : Option Res :=
 callK (vr 28 0 [(.t (.str a0))] ⟨[], []⟩) fun v_1 b_2 =>
 asTup v_1 fun l_3 =>
 consV l_3 fun v_4 l_5 =>
 asT v_4 fun x_6 =>
 asL 3 x_6 fun nn_7 l_8 =>
 consV l_5 fun v_9 l_10 =>
 asT v_9 fun x_11 =>
 asI .i64 x_11 fun x_12 =>
 consV l_10 fun v_13 l_14 =>
 asT v_13 fun x_15 =>
 asI .i64 x_15 fun x_16 =>
 endV l_14 <|
 endB b_2 <|
(bif (!decide (x_16 = 0)) then
 some ((.tup [(.t (.agg [(.int .i64 0), (.int .i64 0), (.int .i64 0), (.list 5 false [])])), (.t (.int .i64 x_12)), (.t (.int .i64 x_16))]), ⟨[], []⟩)
else
 callK (vr 29 0 [(.t (.list 3 nn_7 l_8))] ⟨[], []⟩) fun v_17 b_18 =>
 asT v_17 fun x_19 =>
 asL 1 x_19 fun nn_20 l_21 =>
 endB b_18 <|
(bif (decide ((l_21.length : Int) = 0)) then
 some ((.tup [(.t (.agg [(.int .i64 0), (.int .i64 0), (.int .i64 0), (.list 5 false [])])), (.t (.int .i64 0)), (.t (.int .i64 6))]), ⟨[], []⟩)
else
 L10_8 (nn_20) (l_21) (nn_20) (l_21) ((l_21.length : Int)) (0) (0) (0) (0) (false) ([])))
theorem eq10g (KL10_8 KJ10_17 : Env → St → Option Res) (a0 : ByteArray) : codeT Try.prog hint 10 0 92 (Ta10 KL10_8 KJ10_17) [] (resKV Try.prog Try.f10 (hint.own 10 0)) (nrm hint 10 0 (bodyOf Try.f10) (envV [(.t (.str a0))] 0) ⟨[], []⟩).1 (nrm hint 10 0 (bodyOf Try.f10) (envV [(.t (.str a0))] 0) ⟨[], []⟩).2 (bodyOf Try.f10) = R10 (WL10_8 KL10_8) (WJ10_17 KJ10_17) a0 := by kernel_rfl
/-- purfle/code.Parse -/
theorem eq10 (a0 : ByteArray) : vr 10 0 [(.t (.str a0))] ⟨[], []⟩ = R10 L10_8 J10_17 a0 :=
  (call_eq Try.prog hint (fn := Try.f10) (nt := 92) (T := (Ta10 VL10_8 VJ10_17)) [PaL10_8, PaJ10_17] rfl [(.t (.str a0))] ⟨[], []⟩ rfl rfl rfl rfl rfl).trans (eq10g VL10_8 VJ10_17 a0)
noncomputable def RL10_8 (L10_8 : YL10_8) (J10_17 : YJ10_17) (lines8z : Bool) (lines8 : List T) (t30z : Bool) (t30 : List T) (t31 t32 m8_0 m8_1 m8_2 : Int) (m9z : Bool) (m9 : List T) : Option Res :=
(bif (decide (t32 < t31)) then
 needC (decide (0 ≤ t32)) fun _ =>
 getT t30 (t32).toNat fun e_1 =>
 asL 3 e_1 fun nn_2 l_3 =>
(bif (decide (t32 = 0)) then
 callK (vr 30 0 [(.ptr 0 0 0), (.t (.int .i64 1))] ⟨[(0, (.var [(.t (.list 3 nn_2 l_3)), (.t (.bool false))]))], []⟩) fun v_4 b_5 =>
 asT v_4 fun x_6 =>
 asA x_6 fun l_7 =>
 consT l_7 fun v_8 l_9 =>
 asI .i64 v_8 fun x_10 =>
 consT l_9 fun v_11 l_12 =>
 asS v_11 fun s_13 =>
 consT l_12 fun v_14 l_15 =>
 asI .i64 v_14 fun x_16 =>
 endT l_15 <|
 consB 0 b_5 fun k_17 b_18 =>
 asVar k_17 fun l_19 =>
 consV l_19 fun v_20 l_21 =>
 asT v_20 fun x_22 =>
 asL 3 x_22 fun nn_23 l_24 =>
 consV l_21 fun v_25 l_26 =>
 asT v_25 fun x_27 =>
 asB x_27 fun b_28 =>
 endV l_26 <|
 endB b_18 <|
 callK (vr 30 0 [(.ptr 0 0 0), (.t (.int .i64 2))] ⟨[(0, (.var [(.t (.list 3 nn_23 l_24)), (.t (.bool (!decide ((s_13 : ByteArray) = ⟨#[99, 111, 100, 101]⟩))))]))], []⟩) fun v_29 b_30 =>
 asT v_29 fun x_31 =>
 asA x_31 fun l_32 =>
 consT l_32 fun v_33 l_34 =>
 asI .i64 v_33 fun x_35 =>
 consT l_34 fun v_36 l_37 =>
 asS v_36 fun s_38 =>
 consT l_37 fun v_39 l_40 =>
 asI .i64 v_39 fun x_41 =>
 endT l_40 <|
 consB 0 b_30 fun k_42 b_43 =>
 asVar k_42 fun l_44 =>
 consV l_44 fun v_45 l_46 =>
 asT v_45 fun x_47 =>
 asL 3 x_47 fun nn_48 l_49 =>
 consV l_46 fun v_50 l_51 =>
 asT v_50 fun x_52 =>
 asB x_52 fun b_53 =>
 endV l_51 <|
 endB b_43 <|
 callK (vr 30 0 [(.ptr 0 0 0), (.t (.int .i64 2))] ⟨[(0, (.var [(.t (.list 3 nn_48 l_49)), (.t (.bool b_53))]))], []⟩) fun v_54 b_55 =>
 asT v_54 fun x_56 =>
 asA x_56 fun l_57 =>
 consT l_57 fun v_58 l_59 =>
 asI .i64 v_58 fun x_60 =>
 consT l_59 fun v_61 l_62 =>
 asS v_61 fun s_63 =>
 consT l_62 fun v_64 l_65 =>
 asI .i64 v_64 fun x_66 =>
 endT l_65 <|
 consB 0 b_55 fun k_67 b_68 =>
 asVar k_67 fun l_69 =>
 consV l_69 fun v_70 l_71 =>
 asT v_70 fun x_72 =>
 asL 3 x_72 fun nn_73 l_74 =>
 consV l_71 fun v_75 l_76 =>
 asT v_75 fun x_77 =>
 asB x_77 fun b_78 =>
 endV l_76 <|
 endB b_68 <|
 callK (vr 30 0 [(.ptr 0 0 0), (.t (.int .i64 2))] ⟨[(0, (.var [(.t (.list 3 nn_73 l_74)), (.t (.bool b_78))]))], []⟩) fun v_79 b_80 =>
 asT v_79 fun x_81 =>
 asA x_81 fun l_82 =>
 consT l_82 fun v_83 l_84 =>
 asI .i64 v_83 fun x_85 =>
 consT l_84 fun v_86 l_87 =>
 asS v_86 fun s_88 =>
 consT l_87 fun v_89 l_90 =>
 asI .i64 v_89 fun x_91 =>
 endT l_90 <|
 consB 0 b_80 fun k_92 b_93 =>
 asVar k_92 fun l_94 =>
 consV l_94 fun v_95 l_96 =>
 asT v_95 fun x_97 =>
 asL 3 x_97 fun nn_98 l_99 =>
 consV l_96 fun v_100 l_101 =>
 asT v_100 fun x_102 =>
 asB x_102 fun b_103 =>
 endV l_101 <|
 endB b_93 <|
 J10_17 (lines8z) (lines8) (t32) (t30z) (t30) (t31) (t32) (x_41) (x_66) (x_91) (m9z) (m9) (nn_98) (l_99) (b_103)
else
 callK (vr 31 0 [(.ptr 0 0 0)] ⟨[(0, (.var [(.t (.list 3 nn_2 l_3)), (.t (.bool false))]))], []⟩) fun v_104 b_105 =>
 asT v_104 fun x_106 =>
 asA x_106 fun l_107 =>
 consT l_107 fun v_108 l_109 =>
 asI .i64 v_108 fun x_110 =>
 consT l_109 fun v_111 l_112 =>
 asI .i64 v_111 fun x_113 =>
 consT l_112 fun v_114 l_115 =>
 asI .i64 v_114 fun x_116 =>
 consT l_115 fun v_117 l_118 =>
 asI .i64 v_117 fun x_119 =>
 consT l_118 fun v_120 l_121 =>
 asI .i64 v_120 fun x_122 =>
 endT l_121 <|
 consB 0 b_105 fun k_123 b_124 =>
 asVar k_123 fun l_125 =>
 consV l_125 fun v_126 l_127 =>
 asT v_126 fun x_128 =>
 asL 3 x_128 fun nn_129 l_130 =>
 consV l_127 fun v_131 l_132 =>
 asT v_131 fun x_133 =>
 asB x_133 fun b_134 =>
 endV l_132 <|
 endB b_124 <|
 needC (decide ((m9.length + 1) * (40 + 1) ≤ 70368744177664) && decide (40 ≤ 1048576)) fun _ =>
 J10_17 (lines8z) (lines8) (t32) (t30z) (t30) (t31) (t32) (m8_0) (m8_1) (m8_2) ((m9z || true)) ((m9 ++ ([(.agg [(.int .i64 x_110), (.int .i64 x_113), (.int .i64 x_116), (.int .i64 x_119), (.int .i64 x_122)])] : List T))) (nn_129) (l_130) (b_134))
else
 callK (vr 14 0 [(.t (.agg [(.int .i64 m8_0), (.int .i64 m8_1), (.int .i64 m8_2), (.list 5 m9z m9)]))] ⟨[], []⟩) fun v_135 b_136 =>
 asT v_135 fun x_137 =>
 asI .i64 x_137 fun x_138 =>
 endB b_136 <|
(bif (!decide (x_138 = 0)) then
 some ((.tup [(.t (.agg [(.int .i64 0), (.int .i64 0), (.int .i64 0), (.list 5 false [])])), (.t (.int .i64 0)), (.t (.int .i64 x_138))]), ⟨[], []⟩)
else
 some ((.tup [(.t (.agg [(.int .i64 m8_0), (.int .i64 m8_1), (.int .i64 m8_2), (.list 5 m9z m9)])), (.t (.int .i64 (lines8.length : Int))), (.t (.int .i64 0))]), ⟨[], []⟩)))
theorem L10_8g (KL10_8 KJ10_17 : Env → St → Option Res) (lines8z : Bool) (lines8 : List T) (t30z : Bool) (t30 : List T) (t31 t32 m8_0 m8_1 m8_2 : Int) (m9z : Bool) (m9 : List T) : WL10_8 (fun e st => codeT Try.prog hint 10 0 92 (Ta10 KL10_8 KJ10_17) (.lp :: PaL10_8) (ctxT Try.prog hint 10 0 92 (Ta10 KL10_8 KJ10_17) [] (List.reverse (.lp :: PaL10_8)) (bodyOf Try.f10) (resKV Try.prog Try.f10 (hint.own 10 0))) e st (nav (List.reverse (.lp :: PaL10_8)) (bodyOf Try.f10))) lines8z lines8 t30z t30 t31 t32 m8_0 m8_1 m8_2 m9z m9 = RL10_8 (WL10_8 KL10_8) (WJ10_17 KJ10_17) lines8z lines8 t30z t30 t31 t32 m8_0 m8_1 m8_2 m9z m9 := by kernel_rfl
theorem L10_8_eq (lines8z : Bool) (lines8 : List T) (t30z : Bool) (t30 : List T) (t31 t32 m8_0 m8_1 m8_2 : Int) (m9z : Bool) (m9 : List T) : L10_8 lines8z lines8 t30z t30 t31 t32 m8_0 m8_1 m8_2 m9z m9 = RL10_8 L10_8 J10_17 lines8z lines8 t30z t30 t31 t32 m8_0 m8_1 m8_2 m9z m9 :=
  (congrArg (fun k => WL10_8 k lines8z lines8 t30z t30 t31 t32 m8_0 m8_1 m8_2 m9z m9) (funext fun e => funext fun st => round_eq Try.prog hint (b := (nav (List.reverse (.lp :: PaL10_8)) (bodyOf Try.f10))) (fn := Try.f10) (nt := 92) (T := (Ta10 VL10_8 VJ10_17)) [PaL10_8, PaJ10_17] rfl PaL10_8 e st rfl rfl rfl)).trans (L10_8g VL10_8 VJ10_17 lines8z lines8 t30z t30 t31 t32 m8_0 m8_1 m8_2 m9z m9)
noncomputable def RJ10_17 (L10_8 : YL10_8) (J10_17 : YJ10_17) (lines8z : Bool) (lines8 : List T) (i9 : Int) (t30z : Bool) (t30 : List T) (t31 t32 m8_0 m8_1 m8_2 : Int) (m9z : Bool) (m9 : List T) (m10_0z : Bool) (m10_0 : List T) (m10_1 : Bool) : Option Res :=
(bif m10_1 then
 some ((.tup [(.t (.agg [(.int .i64 0), (.int .i64 0), (.int .i64 0), (.list 5 false [])])), (.t (.int .i64 i9)), (.t (.int .i64 6))]), ⟨[], []⟩)
else
(bif (decide (0 < (m10_0.length : Int))) then
 some ((.tup [(.t (.agg [(.int .i64 0), (.int .i64 0), (.int .i64 0), (.list 5 false [])])), (.t (.int .i64 i9)), (.t (.int .i64 6))]), ⟨[], []⟩)
else
 L10_8 (lines8z) (lines8) (t30z) (t30) (t31) ((IntKind.i64.wrap (t32 + 1))) (m8_0) (m8_1) (m8_2) (m9z) (m9)))
theorem J10_17g (KL10_8 KJ10_17 : Env → St → Option Res) (lines8z : Bool) (lines8 : List T) (i9 : Int) (t30z : Bool) (t30 : List T) (t31 t32 m8_0 m8_1 m8_2 : Int) (m9z : Bool) (m9 : List T) (m10_0z : Bool) (m10_0 : List T) (m10_1 : Bool) : WJ10_17 (fun e st => codeT Try.prog hint 10 0 92 (Ta10 KL10_8 KJ10_17) PaJ10_17 (ctxT Try.prog hint 10 0 92 (Ta10 KL10_8 KJ10_17) [] (List.reverse PaJ10_17) (bodyOf Try.f10) (resKV Try.prog Try.f10 (hint.own 10 0))) e st (nav (List.reverse PaJ10_17) (bodyOf Try.f10))) lines8z lines8 i9 t30z t30 t31 t32 m8_0 m8_1 m8_2 m9z m9 m10_0z m10_0 m10_1 = RJ10_17 (WL10_8 KL10_8) (WJ10_17 KJ10_17) lines8z lines8 i9 t30z t30 t31 t32 m8_0 m8_1 m8_2 m9z m9 m10_0z m10_0 m10_1 := by kernel_rfl
theorem J10_17_eq (lines8z : Bool) (lines8 : List T) (i9 : Int) (t30z : Bool) (t30 : List T) (t31 t32 m8_0 m8_1 m8_2 : Int) (m9z : Bool) (m9 : List T) (m10_0z : Bool) (m10_0 : List T) (m10_1 : Bool) : J10_17 lines8z lines8 i9 t30z t30 t31 t32 m8_0 m8_1 m8_2 m9z m9 m10_0z m10_0 m10_1 = RJ10_17 L10_8 J10_17 lines8z lines8 i9 t30z t30 t31 t32 m8_0 m8_1 m8_2 m9z m9 m10_0z m10_0 m10_1 :=
  (congrArg (fun k => WJ10_17 k lines8z lines8 i9 t30z t30 t31 t32 m8_0 m8_1 m8_2 m9z m9 m10_0z m10_0 m10_1) (funext fun e => funext fun st => join_eq Try.prog hint (fn := Try.f10) (nt := 92) (T := (Ta10 VL10_8 VJ10_17)) [PaL10_8, PaJ10_17] rfl PaJ10_17 e st rfl)).trans (J10_17g VL10_8 VJ10_17 lines8z lines8 i9 t30z t30 t31 t32 m8_0 m8_1 m8_2 m9z m9 m10_0z m10_0 m10_1)
noncomputable def R9   : Option Res :=
 callK (vr 10 0 [(.t (.str ⟨#[99, 111, 100, 101, 32, 49, 32, 48, 32, 48, 10, 104, 97, 108, 116]⟩))] ⟨[], []⟩) fun v_1 b_2 =>
 asTup v_1 fun l_3 =>
 consV l_3 fun v_4 l_5 =>
 asT v_4 fun x_6 =>
 asA x_6 fun l_7 =>
 consT l_7 fun v_8 l_9 =>
 asI .i64 v_8 fun x_10 =>
 consT l_9 fun v_11 l_12 =>
 asI .i64 v_11 fun x_13 =>
 consT l_12 fun v_14 l_15 =>
 asI .i64 v_14 fun x_16 =>
 consT l_15 fun v_17 l_18 =>
 asL 5 v_17 fun nn_19 l_20 =>
 endT l_18 <|
 consV l_5 fun v_21 l_22 =>
 asT v_21 fun x_23 =>
 asI .i64 x_23 fun x_24 =>
 consV l_22 fun v_25 l_26 =>
 asT v_25 fun x_27 =>
 asI .i64 x_27 fun x_28 =>
 endV l_26 <|
 endB b_2 <|
(bif (decide (x_24 = 2)) then
(bif (decide (x_28 = 0)) then
(bif (decide (x_10 = 1)) then
(bif (decide ((l_20.length : Int) = 1)) then
 callK (vr 14 0 [(.t (.agg [(.int .i64 x_10), (.int .i64 x_13), (.int .i64 x_16), (.list 5 nn_19 l_20)]))] ⟨[], []⟩) fun v_29 b_30 =>
 asT v_29 fun x_31 =>
 asI .i64 x_31 fun x_32 =>
 endB b_30 <|
 some ((.t (.bool (decide (x_32 = 0)))), ⟨[], []⟩)
else
 some ((.t (.bool false)), ⟨[], []⟩))
else
 some ((.t (.bool false)), ⟨[], []⟩))
else
 some ((.t (.bool false)), ⟨[], []⟩))
else
 some ((.t (.bool false)), ⟨[], []⟩))
theorem eq9g   : codeT Try.prog hint 9 0 31 [] [] (resKV Try.prog Try.f9 (hint.own 9 0)) (nrm hint 9 0 (bodyOf Try.f9) (envV [] 0) ⟨[], []⟩).1 (nrm hint 9 0 (bodyOf Try.f9) (envV [] 0) ⟨[], []⟩).2 (bodyOf Try.f9) = R9   := by kernel_rfl
/-- purfle/purflelaw14.live -/
theorem eq9  : vr 9 0 [] ⟨[], []⟩ = R9   :=
  (call_eq Try.prog hint (fn := Try.f9) (nt := 31) (T := []) [] rfl [] ⟨[], []⟩ rfl rfl rfl rfl rfl).trans (eq9g  )
noncomputable def R13  (a0_0 a0_1 a0_2 : Int) (a0_3z : Bool) (a0_3 : List T) : Option Res :=
 some ((.t (.bool (decide ((a0_3.length : Int) ≤ 300)))), ⟨[], []⟩)
theorem eq13g  (a0_0 a0_1 a0_2 : Int) (a0_3z : Bool) (a0_3 : List T) : codeT Try.prog hint 13 0 7 [] [] (resKV Try.prog Try.f13 (hint.own 13 0)) (nrm hint 13 0 (bodyOf Try.f13) (envV [(.t (.agg [(.int .i64 a0_0), (.int .i64 a0_1), (.int .i64 a0_2), (.list 5 a0_3z a0_3)]))] 0) ⟨[], []⟩).1 (nrm hint 13 0 (bodyOf Try.f13) (envV [(.t (.agg [(.int .i64 a0_0), (.int .i64 a0_1), (.int .i64 a0_2), (.list 5 a0_3z a0_3)]))] 0) ⟨[], []⟩).2 (bodyOf Try.f13) = R13  a0_0 a0_1 a0_2 a0_3z a0_3 := by kernel_rfl
/-- purfle/purfleref14.Few -/
theorem eq13 (a0_0 a0_1 a0_2 : Int) (a0_3z : Bool) (a0_3 : List T) : vr 13 0 [(.t (.agg [(.int .i64 a0_0), (.int .i64 a0_1), (.int .i64 a0_2), (.list 5 a0_3z a0_3)]))] ⟨[], []⟩ = R13  a0_0 a0_1 a0_2 a0_3z a0_3 :=
  (call_eq Try.prog hint (fn := Try.f13) (nt := 7) (T := []) [] rfl [(.t (.agg [(.int .i64 a0_0), (.int .i64 a0_1), (.int .i64 a0_2), (.list 5 a0_3z a0_3)]))] ⟨[], []⟩ rfl rfl rfl rfl rfl).trans (eq13g  a0_0 a0_1 a0_2 a0_3z a0_3)
noncomputable def R15  (a0_0 a0_1 a0_2 a0_3 a0_4 : Int) : Option Res :=
 callK (vr 38 0 [(.t (.int .i64 a0_0))] ⟨[], []⟩) fun v_1 b_2 =>
 asTup v_1 fun l_3 =>
 consV l_3 fun v_4 l_5 =>
 asT v_4 fun x_6 =>
 asA x_6 fun l_7 =>
 consT l_7 fun v_8 l_9 =>
 asS v_8 fun s_10 =>
 consT l_9 fun v_11 l_12 =>
 asI .i64 v_11 fun x_13 =>
 consT l_12 fun v_14 l_15 =>
 asI .i64 v_14 fun x_16 =>
 consT l_15 fun v_17 l_18 =>
 asI .i64 v_17 fun x_19 =>
 endT l_18 <|
 consV l_5 fun v_20 l_21 =>
 asT v_20 fun x_22 =>
 asB x_22 fun b_23 =>
 endV l_21 <|
 endB b_2 <|
 callK (vr 39 0 [(.ptr 0 0 0)] ⟨[(0, (.var [(.t (.int .i64 a0_0)), (.t (.int .i64 a0_1)), (.t (.int .i64 a0_2)), (.t (.int .i64 a0_3)), (.t (.int .i64 a0_4))]))], []⟩) fun v_24 b_25 =>
 asG v_24 fun l_26 =>
 consV l_26 fun v_27 l_28 =>
 isPtr 0 0 1 v_27 <|
 consV l_28 fun v_29 l_30 =>
 isPtr 0 0 2 v_29 <|
 consV l_30 fun v_31 l_32 =>
 isPtr 0 0 3 v_31 <|
 endV l_32 <|
 consB 0 b_25 fun k_33 b_34 =>
 asVar k_33 fun l_35 =>
 consV l_35 fun v_36 l_37 =>
 asT v_36 fun x_38 =>
 asI .i64 x_38 fun x_39 =>
 consV l_37 fun v_40 l_41 =>
 asT v_40 fun x_42 =>
 asI .i64 x_42 fun x_43 =>
 consV l_41 fun v_44 l_45 =>
 asT v_44 fun x_46 =>
 asI .i64 x_46 fun x_47 =>
 consV l_45 fun v_48 l_49 =>
 asT v_48 fun x_50 =>
 asI .i64 x_50 fun x_51 =>
 consV l_49 fun v_52 l_53 =>
 asT v_52 fun x_54 =>
 asI .i64 x_54 fun x_55 =>
 endV l_53 <|
 endB b_34 <|
(bif (decide (x_13 = 2)) then
(bif (decide (x_16 = 2)) then
(bif (decide (x_19 = 2)) then
 some ((.buf 500), ⟨[(500, (.arr true 1 true [(.int .i64 x_43), (.int .i64 x_47), (.int .i64 x_51)]))], [500]⟩)
else
 some ((.buf 500), ⟨[(500, (.arr true 1 true [(.int .i64 x_43), (.int .i64 x_47)]))], [500]⟩))
else
(bif (decide (x_19 = 2)) then
 some ((.buf 500), ⟨[(500, (.arr true 1 true [(.int .i64 x_43), (.int .i64 x_51)]))], [500]⟩)
else
 some ((.buf 500), ⟨[(500, (.arr true 1 true [(.int .i64 x_43)]))], [500]⟩)))
else
(bif (decide (x_16 = 2)) then
(bif (decide (x_19 = 2)) then
 some ((.buf 500), ⟨[(500, (.arr true 1 true [(.int .i64 x_47), (.int .i64 x_51)]))], [500]⟩)
else
 some ((.buf 500), ⟨[(500, (.arr true 1 true [(.int .i64 x_47)]))], [500]⟩))
else
(bif (decide (x_19 = 2)) then
 some ((.buf 500), ⟨[(500, (.arr true 1 true [(.int .i64 x_51)]))], [500]⟩)
else
 some ((.buf 500), ⟨[(500, (.arr true 1 false []))], [500]⟩))))
theorem eq15g  (a0_0 a0_1 a0_2 a0_3 a0_4 : Int) : codeT Try.prog hint 15 0 31 [] [] (resKV Try.prog Try.f15 (hint.own 15 0)) (nrm hint 15 0 (bodyOf Try.f15) (envV [(.t (.agg [(.int .i64 a0_0), (.int .i64 a0_1), (.int .i64 a0_2), (.int .i64 a0_3), (.int .i64 a0_4)]))] 0) ⟨[], []⟩).1 (nrm hint 15 0 (bodyOf Try.f15) (envV [(.t (.agg [(.int .i64 a0_0), (.int .i64 a0_1), (.int .i64 a0_2), (.int .i64 a0_3), (.int .i64 a0_4)]))] 0) ⟨[], []⟩).2 (bodyOf Try.f15) = R15  a0_0 a0_1 a0_2 a0_3 a0_4 := by kernel_rfl
/-- purfle/code.Reads -/
theorem eq15 (a0_0 a0_1 a0_2 a0_3 a0_4 : Int) : vr 15 0 [(.t (.agg [(.int .i64 a0_0), (.int .i64 a0_1), (.int .i64 a0_2), (.int .i64 a0_3), (.int .i64 a0_4)]))] ⟨[], []⟩ = R15  a0_0 a0_1 a0_2 a0_3 a0_4 :=
  (call_eq Try.prog hint (fn := Try.f15) (nt := 31) (T := []) [] rfl [(.t (.agg [(.int .i64 a0_0), (.int .i64 a0_1), (.int .i64 a0_2), (.int .i64 a0_3), (.int .i64 a0_4)]))] ⟨[], []⟩ rfl rfl rfl rfl rfl).trans (eq15g  a0_0 a0_1 a0_2 a0_3 a0_4)
noncomputable def R16  (a0_0 a0_1 a0_2 a0_3 a0_4 : Int) : Option Res :=
 callK (vr 38 0 [(.t (.int .i64 a0_0))] ⟨[], []⟩) fun v_1 b_2 =>
 asTup v_1 fun l_3 =>
 consV l_3 fun v_4 l_5 =>
 asT v_4 fun x_6 =>
 asA x_6 fun l_7 =>
 consT l_7 fun v_8 l_9 =>
 asS v_8 fun s_10 =>
 consT l_9 fun v_11 l_12 =>
 asI .i64 v_11 fun x_13 =>
 consT l_12 fun v_14 l_15 =>
 asI .i64 v_14 fun x_16 =>
 consT l_15 fun v_17 l_18 =>
 asI .i64 v_17 fun x_19 =>
 endT l_18 <|
 consV l_5 fun v_20 l_21 =>
 asT v_20 fun x_22 =>
 asB x_22 fun b_23 =>
 endV l_21 <|
 endB b_2 <|
(bif (!decide (x_13 = 1)) then
 some ((.tup [(.t (.int .i64 0)), (.t (.bool false))]), ⟨[], []⟩)
else
 some ((.tup [(.t (.int .i64 a0_1)), (.t (.bool true))]), ⟨[], []⟩))
theorem eq16g  (a0_0 a0_1 a0_2 a0_3 a0_4 : Int) : codeT Try.prog hint 16 0 18 [] [] (resKV Try.prog Try.f16 (hint.own 16 0)) (nrm hint 16 0 (bodyOf Try.f16) (envV [(.t (.agg [(.int .i64 a0_0), (.int .i64 a0_1), (.int .i64 a0_2), (.int .i64 a0_3), (.int .i64 a0_4)]))] 0) ⟨[], []⟩).1 (nrm hint 16 0 (bodyOf Try.f16) (envV [(.t (.agg [(.int .i64 a0_0), (.int .i64 a0_1), (.int .i64 a0_2), (.int .i64 a0_3), (.int .i64 a0_4)]))] 0) ⟨[], []⟩).2 (bodyOf Try.f16) = R16  a0_0 a0_1 a0_2 a0_3 a0_4 := by kernel_rfl
/-- purfle/code.Writes -/
theorem eq16 (a0_0 a0_1 a0_2 a0_3 a0_4 : Int) : vr 16 0 [(.t (.agg [(.int .i64 a0_0), (.int .i64 a0_1), (.int .i64 a0_2), (.int .i64 a0_3), (.int .i64 a0_4)]))] ⟨[], []⟩ = R16  a0_0 a0_1 a0_2 a0_3 a0_4 :=
  (call_eq Try.prog hint (fn := Try.f16) (nt := 18) (T := []) [] rfl [(.t (.agg [(.int .i64 a0_0), (.int .i64 a0_1), (.int .i64 a0_2), (.int .i64 a0_3), (.int .i64 a0_4)]))] ⟨[], []⟩ rfl rfl rfl rfl rfl).trans (eq16g  a0_0 a0_1 a0_2 a0_3 a0_4)
noncomputable def R17  (a0_0 a0_1 a0_2 a0_3 a0_4 a1 : Int) : Option Res :=
 callK (vr 38 0 [(.t (.int .i64 a0_0))] ⟨[], []⟩) fun v_1 b_2 =>
 asTup v_1 fun l_3 =>
 consV l_3 fun v_4 l_5 =>
 asT v_4 fun x_6 =>
 asA x_6 fun l_7 =>
 consT l_7 fun v_8 l_9 =>
 asS v_8 fun s_10 =>
 consT l_9 fun v_11 l_12 =>
 asI .i64 v_11 fun x_13 =>
 consT l_12 fun v_14 l_15 =>
 asI .i64 v_14 fun x_16 =>
 consT l_15 fun v_17 l_18 =>
 asI .i64 v_17 fun x_19 =>
 endT l_18 <|
 consV l_5 fun v_20 l_21 =>
 asT v_20 fun x_22 =>
 asB x_22 fun b_23 =>
 endV l_21 <|
 endB b_2 <|
(bif (!b_23) then
 some ((.buf 500), ⟨[(500, (.arr true 1 false []))], [500]⟩)
else
(bif (decide (a0_0 = 0)) then
 some ((.buf 500), ⟨[(500, (.arr true 1 false []))], [500]⟩)
else
(bif (decide (a0_0 = 10)) then
 some ((.buf 500), ⟨[(500, (.arr true 1 true [(.int .i64 a0_1)]))], [500]⟩)
else
(bif (decide (a0_0 = 11)) then
 some ((.buf 500), ⟨[(500, (.arr true 1 true [(.int .i64 (IntKind.i64.wrap (a1 + 1))), (.int .i64 a0_3)]))], [500]⟩)
else
(bif (decide (a0_0 = 12)) then
 some ((.buf 500), ⟨[(500, (.arr true 1 true [(.int .i64 (IntKind.i64.wrap (a1 + 1))), (.int .i64 a0_3)]))], [500]⟩)
else
 some ((.buf 500), ⟨[(500, (.arr true 1 true [(.int .i64 (IntKind.i64.wrap (a1 + 1)))]))], [500]⟩))))))
theorem eq17g  (a0_0 a0_1 a0_2 a0_3 a0_4 a1 : Int) : codeT Try.prog hint 17 0 45 [] [] (resKV Try.prog Try.f17 (hint.own 17 0)) (nrm hint 17 0 (bodyOf Try.f17) (envV [(.t (.agg [(.int .i64 a0_0), (.int .i64 a0_1), (.int .i64 a0_2), (.int .i64 a0_3), (.int .i64 a0_4)])), (.t (.int .i64 a1))] 0) ⟨[], []⟩).1 (nrm hint 17 0 (bodyOf Try.f17) (envV [(.t (.agg [(.int .i64 a0_0), (.int .i64 a0_1), (.int .i64 a0_2), (.int .i64 a0_3), (.int .i64 a0_4)])), (.t (.int .i64 a1))] 0) ⟨[], []⟩).2 (bodyOf Try.f17) = R17  a0_0 a0_1 a0_2 a0_3 a0_4 a1 := by kernel_rfl
/-- purfle/code.Next -/
theorem eq17 (a0_0 a0_1 a0_2 a0_3 a0_4 a1 : Int) : vr 17 0 [(.t (.agg [(.int .i64 a0_0), (.int .i64 a0_1), (.int .i64 a0_2), (.int .i64 a0_3), (.int .i64 a0_4)])), (.t (.int .i64 a1))] ⟨[], []⟩ = R17  a0_0 a0_1 a0_2 a0_3 a0_4 a1 :=
  (call_eq Try.prog hint (fn := Try.f17) (nt := 45) (T := []) [] rfl [(.t (.agg [(.int .i64 a0_0), (.int .i64 a0_1), (.int .i64 a0_2), (.int .i64 a0_3), (.int .i64 a0_4)])), (.t (.int .i64 a1))] ⟨[], []⟩ rfl rfl rfl rfl rfl).trans (eq17g  a0_0 a0_1 a0_2 a0_3 a0_4 a1)
noncomputable def R4 (L4_6 : YL4_6) (J4_12 : YJ4_12) (L4_13 : YL4_13) (L4_20 : YL4_20) (a0_0 a0_1 a0_2 : Int) (a0_3z : Bool) (a0_3 : List T) : Option Res :=
 callK (vr 9 0 [] ⟨[], []⟩) fun v_1 b_2 =>
 asT v_1 fun x_3 =>
 asB x_3 fun b_4 =>
 endB b_2 <|
 callK (vr 13 0 [(.t (.agg [(.int .i64 a0_0), (.int .i64 a0_1), (.int .i64 a0_2), (.list 5 a0_3z a0_3)]))] ⟨[], []⟩) fun v_5 b_6 =>
 asT v_5 fun x_7 =>
 asB x_7 fun b_8 =>
 endB b_6 <|
(bif (!b_8) then
 some ((.t (.bool b_4)), ⟨[], []⟩)
else
 callK (vr 14 0 [(.t (.agg [(.int .i64 a0_0), (.int .i64 a0_1), (.int .i64 a0_2), (.list 5 a0_3z a0_3)]))] ⟨[], []⟩) fun v_9 b_10 =>
 asT v_9 fun x_11 =>
 asI .i64 x_11 fun x_12 =>
 endB b_10 <|
(bif (!decide (x_12 = 0)) then
 some ((.t (.bool b_4)), ⟨[], []⟩)
else
 L4_6 (b_4) (false) (a0_3z) (a0_3) ((a0_3.length : Int)) (0) (a0_0) (a0_1) (a0_2) (a0_3z) (a0_3)))
theorem eq4g (KL4_6 KJ4_12 KL4_13 KL4_20 : Env → St → Option Res) (a0_0 a0_1 a0_2 : Int) (a0_3z : Bool) (a0_3 : List T) : codeT Try.prog hint 4 0 104 (Ta4 KL4_6 KJ4_12 KL4_13 KL4_20) [] (resKV Try.prog Try.f4 (hint.own 4 0)) (nrm hint 4 0 (bodyOf Try.f4) (envV [(.t (.agg [(.int .i64 a0_0), (.int .i64 a0_1), (.int .i64 a0_2), (.list 5 a0_3z a0_3)]))] 0) ⟨[], []⟩).1 (nrm hint 4 0 (bodyOf Try.f4) (envV [(.t (.agg [(.int .i64 a0_0), (.int .i64 a0_1), (.int .i64 a0_2), (.list 5 a0_3z a0_3)]))] 0) ⟨[], []⟩).2 (bodyOf Try.f4) = R4 (WL4_6 KL4_6) (WJ4_12 KJ4_12) (WL4_13 KL4_13) (WL4_20 KL4_20) a0_0 a0_1 a0_2 a0_3z a0_3 := by kernel_rfl
/-- purfle/purflelaw14.CodeBends -/
theorem eq4 (a0_0 a0_1 a0_2 : Int) (a0_3z : Bool) (a0_3 : List T) : vr 4 0 [(.t (.agg [(.int .i64 a0_0), (.int .i64 a0_1), (.int .i64 a0_2), (.list 5 a0_3z a0_3)]))] ⟨[], []⟩ = R4 L4_6 J4_12 L4_13 L4_20 a0_0 a0_1 a0_2 a0_3z a0_3 :=
  (call_eq Try.prog hint (fn := Try.f4) (nt := 104) (T := (Ta4 VL4_6 VJ4_12 VL4_13 VL4_20)) [PaL4_6, PaJ4_12, PaL4_13, PaL4_20] rfl [(.t (.agg [(.int .i64 a0_0), (.int .i64 a0_1), (.int .i64 a0_2), (.list 5 a0_3z a0_3)]))] ⟨[], []⟩ rfl rfl rfl rfl rfl).trans (eq4g VL4_6 VJ4_12 VL4_13 VL4_20 a0_0 a0_1 a0_2 a0_3z a0_3)
noncomputable def RL4_6 (L4_6 : YL4_6) (J4_12 : YJ4_12) (L4_13 : YL4_13) (L4_20 : YL4_20) (up3 last4 t25z : Bool) (t25 : List T) (t26 t27 m8_0 m8_1 m8_2 : Int) (m8_3z : Bool) (m8_3 : List T) : Option Res :=
(bif (decide (t27 < t26)) then
 needC (decide (0 ≤ t27)) fun _ =>
 getT t25 (t27).toNat fun e_1 =>
 asA e_1 fun l_2 =>
 consT l_2 fun v_3 l_4 =>
 asI .i64 v_3 fun x_5 =>
 consT l_4 fun v_6 l_7 =>
 asI .i64 v_6 fun x_8 =>
 consT l_7 fun v_9 l_10 =>
 asI .i64 v_9 fun x_11 =>
 consT l_10 fun v_12 l_13 =>
 asI .i64 v_12 fun x_14 =>
 consT l_13 fun v_15 l_16 =>
 asI .i64 v_15 fun x_17 =>
 endT l_16 <|
 callK (vr 15 0 [(.t (.agg [(.int .i64 x_5), (.int .i64 x_8), (.int .i64 x_11), (.int .i64 x_14), (.int .i64 x_17)]))] ⟨[], []⟩) fun v_18 b_19 =>
 isBuf 500 v_18 <|
 consB 500 b_19 fun k_20 b_21 =>
 asArr 1 k_20 fun nn_22 l_23 =>
 endB b_21 <|
 callK (vr 16 0 [(.t (.agg [(.int .i64 x_5), (.int .i64 x_8), (.int .i64 x_11), (.int .i64 x_14), (.int .i64 x_17)]))] ⟨[], []⟩) fun v_24 b_25 =>
 asTup v_24 fun l_26 =>
 consV l_26 fun v_27 l_28 =>
 asT v_27 fun x_29 =>
 asI .i64 x_29 fun x_30 =>
 consV l_28 fun v_31 l_32 =>
 asT v_31 fun x_33 =>
 asB x_33 fun b_34 =>
 endV l_32 <|
 endB b_25 <|
(bif b_34 then
 needC (decide ((l_23.length + 1) * (8 + 1) ≤ 70368744177664) && decide (8 ≤ 1048576)) fun _ =>
 J4_12 (up3) (last4) (t27) (t25z) (t25) (t26) (t27) (m8_0) (m8_1) (m8_2) (m8_3z) (m8_3) (x_5) (x_8) (x_11) (x_14) (x_17) ((nn_22 || true)) ((l_23 ++ ([(.int .i64 x_30)] : List T)))
else
 J4_12 (up3) (last4) (t27) (t25z) (t25) (t26) (t27) (m8_0) (m8_1) (m8_2) (m8_3z) (m8_3) (x_5) (x_8) (x_11) (x_14) (x_17) (nn_22) (l_23))
else
(bif up3 then
 callK (vr 14 0 [(.t (.agg [(.int .i64 (IntKind.i64.wrap (m8_0 - 1))), (.int .i64 m8_1), (.int .i64 m8_2), (.list 5 m8_3z m8_3)]))] ⟨[], []⟩) fun v_35 b_36 =>
 asT v_35 fun x_37 =>
 asI .i64 x_37 fun x_38 =>
 endB b_36 <|
(bif (!last4) then
 some ((.t (.bool ((decide (x_38 = 0)) == (decide (0 ≤ (IntKind.i64.wrap (m8_0 - 1))))))), ⟨[], []⟩)
else
 some ((.t (.bool ((decide (x_38 = 0)) == false))), ⟨[], []⟩))
else
 some ((.t (.bool false)), ⟨[], []⟩)))
theorem L4_6g (KL4_6 KJ4_12 KL4_13 KL4_20 : Env → St → Option Res) (up3 last4 t25z : Bool) (t25 : List T) (t26 t27 m8_0 m8_1 m8_2 : Int) (m8_3z : Bool) (m8_3 : List T) : WL4_6 (fun e st => codeT Try.prog hint 4 0 104 (Ta4 KL4_6 KJ4_12 KL4_13 KL4_20) (.lp :: PaL4_6) (ctxT Try.prog hint 4 0 104 (Ta4 KL4_6 KJ4_12 KL4_13 KL4_20) [] (List.reverse (.lp :: PaL4_6)) (bodyOf Try.f4) (resKV Try.prog Try.f4 (hint.own 4 0))) e st (nav (List.reverse (.lp :: PaL4_6)) (bodyOf Try.f4))) up3 last4 t25z t25 t26 t27 m8_0 m8_1 m8_2 m8_3z m8_3 = RL4_6 (WL4_6 KL4_6) (WJ4_12 KJ4_12) (WL4_13 KL4_13) (WL4_20 KL4_20) up3 last4 t25z t25 t26 t27 m8_0 m8_1 m8_2 m8_3z m8_3 := by kernel_rfl
theorem L4_6_eq (up3 last4 t25z : Bool) (t25 : List T) (t26 t27 m8_0 m8_1 m8_2 : Int) (m8_3z : Bool) (m8_3 : List T) : L4_6 up3 last4 t25z t25 t26 t27 m8_0 m8_1 m8_2 m8_3z m8_3 = RL4_6 L4_6 J4_12 L4_13 L4_20 up3 last4 t25z t25 t26 t27 m8_0 m8_1 m8_2 m8_3z m8_3 :=
  (congrArg (fun k => WL4_6 k up3 last4 t25z t25 t26 t27 m8_0 m8_1 m8_2 m8_3z m8_3) (funext fun e => funext fun st => round_eq Try.prog hint (b := (nav (List.reverse (.lp :: PaL4_6)) (bodyOf Try.f4))) (fn := Try.f4) (nt := 104) (T := (Ta4 VL4_6 VJ4_12 VL4_13 VL4_20)) [PaL4_6, PaJ4_12, PaL4_13, PaL4_20] rfl PaL4_6 e st rfl rfl rfl)).trans (L4_6g VL4_6 VJ4_12 VL4_13 VL4_20 up3 last4 t25z t25 t26 t27 m8_0 m8_1 m8_2 m8_3z m8_3)
noncomputable def RJ4_12 (L4_6 : YL4_6) (J4_12 : YJ4_12) (L4_13 : YL4_13) (L4_20 : YL4_20) (up3 last4 : Bool) (i5 : Int) (t25z : Bool) (t25 : List T) (t26 t27 m8_0 m8_1 m8_2 : Int) (m8_3z : Bool) (m8_3 : List T) (m9_0 m9_1 m9_2 m9_3 m9_4 : Int) (m10z : Bool) (m10 : List T) : Option Res :=
 L4_13 (up3) (last4) (i5) (t25z) (t25) (t26) (t27) ((m10.length : Int)) (0) (m8_0) (m8_1) (m8_2) (m8_3z) (m8_3) (m9_0) (m9_1) (m9_2) (m9_3) (m9_4) (m10z) (m10)
theorem J4_12g (KL4_6 KJ4_12 KL4_13 KL4_20 : Env → St → Option Res) (up3 last4 : Bool) (i5 : Int) (t25z : Bool) (t25 : List T) (t26 t27 m8_0 m8_1 m8_2 : Int) (m8_3z : Bool) (m8_3 : List T) (m9_0 m9_1 m9_2 m9_3 m9_4 : Int) (m10z : Bool) (m10 : List T) : WJ4_12 (fun e st => codeT Try.prog hint 4 0 104 (Ta4 KL4_6 KJ4_12 KL4_13 KL4_20) PaJ4_12 (ctxT Try.prog hint 4 0 104 (Ta4 KL4_6 KJ4_12 KL4_13 KL4_20) [] (List.reverse PaJ4_12) (bodyOf Try.f4) (resKV Try.prog Try.f4 (hint.own 4 0))) e st (nav (List.reverse PaJ4_12) (bodyOf Try.f4))) up3 last4 i5 t25z t25 t26 t27 m8_0 m8_1 m8_2 m8_3z m8_3 m9_0 m9_1 m9_2 m9_3 m9_4 m10z m10 = RJ4_12 (WL4_6 KL4_6) (WJ4_12 KJ4_12) (WL4_13 KL4_13) (WL4_20 KL4_20) up3 last4 i5 t25z t25 t26 t27 m8_0 m8_1 m8_2 m8_3z m8_3 m9_0 m9_1 m9_2 m9_3 m9_4 m10z m10 := by kernel_rfl
theorem J4_12_eq (up3 last4 : Bool) (i5 : Int) (t25z : Bool) (t25 : List T) (t26 t27 m8_0 m8_1 m8_2 : Int) (m8_3z : Bool) (m8_3 : List T) (m9_0 m9_1 m9_2 m9_3 m9_4 : Int) (m10z : Bool) (m10 : List T) : J4_12 up3 last4 i5 t25z t25 t26 t27 m8_0 m8_1 m8_2 m8_3z m8_3 m9_0 m9_1 m9_2 m9_3 m9_4 m10z m10 = RJ4_12 L4_6 J4_12 L4_13 L4_20 up3 last4 i5 t25z t25 t26 t27 m8_0 m8_1 m8_2 m8_3z m8_3 m9_0 m9_1 m9_2 m9_3 m9_4 m10z m10 :=
  (congrArg (fun k => WJ4_12 k up3 last4 i5 t25z t25 t26 t27 m8_0 m8_1 m8_2 m8_3z m8_3 m9_0 m9_1 m9_2 m9_3 m9_4 m10z m10) (funext fun e => funext fun st => join_eq Try.prog hint (fn := Try.f4) (nt := 104) (T := (Ta4 VL4_6 VJ4_12 VL4_13 VL4_20)) [PaL4_6, PaJ4_12, PaL4_13, PaL4_20] rfl PaJ4_12 e st rfl)).trans (J4_12g VL4_6 VJ4_12 VL4_13 VL4_20 up3 last4 i5 t25z t25 t26 t27 m8_0 m8_1 m8_2 m8_3z m8_3 m9_0 m9_1 m9_2 m9_3 m9_4 m10z m10)
noncomputable def RL4_13 (L4_6 : YL4_6) (J4_12 : YJ4_12) (L4_13 : YL4_13) (L4_20 : YL4_20) (up3 last4 : Bool) (i5 : Int) (t25z : Bool) (t25 : List T) (t26 t27 t45 t46 m8_0 m8_1 m8_2 : Int) (m8_3z : Bool) (m8_3 : List T) (m9_0 m9_1 m9_2 m9_3 m9_4 : Int) (m10z : Bool) (m10 : List T) : Option Res :=
(bif (decide (t46 < t45)) then
 needC (decide (0 ≤ t46) && decide (t46 < (m10.length : Int))) fun _ =>
 getT m10 ((t46).toNat) fun e_1 =>
 asI .i64 e_1 fun x_2 =>
(bif (decide (x_2 < 0)) then
 some ((.t (.bool false)), ⟨[], []⟩)
else
(bif (decide (m8_0 ≤ x_2)) then
 some ((.t (.bool false)), ⟨[], []⟩)
else
(bif last4 then
 L4_13 (up3) (true) (i5) (t25z) (t25) (t26) (t27) (t45) ((IntKind.i64.wrap (t46 + 1))) (m8_0) (m8_1) (m8_2) (m8_3z) (m8_3) (m9_0) (m9_1) (m9_2) (m9_3) (m9_4) (m10z) (m10)
else
 L4_13 (up3) ((decide (x_2 = (IntKind.i64.wrap (m8_0 - 1))))) (i5) (t25z) (t25) (t26) (t27) (t45) ((IntKind.i64.wrap (t46 + 1))) (m8_0) (m8_1) (m8_2) (m8_3z) (m8_3) (m9_0) (m9_1) (m9_2) (m9_3) (m9_4) (m10z) (m10))))
else
 callK (vr 17 0 [(.t (.agg [(.int .i64 m9_0), (.int .i64 m9_1), (.int .i64 m9_2), (.int .i64 m9_3), (.int .i64 m9_4)])), (.t (.int .i64 i5))] ⟨[], []⟩) fun v_3 b_4 =>
 isBuf 500 v_3 <|
 consB 500 b_4 fun k_5 b_6 =>
 asArr 1 k_5 fun nn_7 l_8 =>
 endB b_6 <|
 L4_20 (up3) (last4) (t25z) (t25) (t26) (t27) ((l_8.length : Int)) (0) (m8_0) (m8_1) (m8_2) (m8_3z) (m8_3) (nn_7) (l_8))
theorem L4_13g (KL4_6 KJ4_12 KL4_13 KL4_20 : Env → St → Option Res) (up3 last4 : Bool) (i5 : Int) (t25z : Bool) (t25 : List T) (t26 t27 t45 t46 m8_0 m8_1 m8_2 : Int) (m8_3z : Bool) (m8_3 : List T) (m9_0 m9_1 m9_2 m9_3 m9_4 : Int) (m10z : Bool) (m10 : List T) : WL4_13 (fun e st => codeT Try.prog hint 4 0 104 (Ta4 KL4_6 KJ4_12 KL4_13 KL4_20) (.lp :: PaL4_13) (ctxT Try.prog hint 4 0 104 (Ta4 KL4_6 KJ4_12 KL4_13 KL4_20) [] (List.reverse (.lp :: PaL4_13)) (bodyOf Try.f4) (resKV Try.prog Try.f4 (hint.own 4 0))) e st (nav (List.reverse (.lp :: PaL4_13)) (bodyOf Try.f4))) up3 last4 i5 t25z t25 t26 t27 t45 t46 m8_0 m8_1 m8_2 m8_3z m8_3 m9_0 m9_1 m9_2 m9_3 m9_4 m10z m10 = RL4_13 (WL4_6 KL4_6) (WJ4_12 KJ4_12) (WL4_13 KL4_13) (WL4_20 KL4_20) up3 last4 i5 t25z t25 t26 t27 t45 t46 m8_0 m8_1 m8_2 m8_3z m8_3 m9_0 m9_1 m9_2 m9_3 m9_4 m10z m10 := by kernel_rfl
theorem L4_13_eq (up3 last4 : Bool) (i5 : Int) (t25z : Bool) (t25 : List T) (t26 t27 t45 t46 m8_0 m8_1 m8_2 : Int) (m8_3z : Bool) (m8_3 : List T) (m9_0 m9_1 m9_2 m9_3 m9_4 : Int) (m10z : Bool) (m10 : List T) : L4_13 up3 last4 i5 t25z t25 t26 t27 t45 t46 m8_0 m8_1 m8_2 m8_3z m8_3 m9_0 m9_1 m9_2 m9_3 m9_4 m10z m10 = RL4_13 L4_6 J4_12 L4_13 L4_20 up3 last4 i5 t25z t25 t26 t27 t45 t46 m8_0 m8_1 m8_2 m8_3z m8_3 m9_0 m9_1 m9_2 m9_3 m9_4 m10z m10 :=
  (congrArg (fun k => WL4_13 k up3 last4 i5 t25z t25 t26 t27 t45 t46 m8_0 m8_1 m8_2 m8_3z m8_3 m9_0 m9_1 m9_2 m9_3 m9_4 m10z m10) (funext fun e => funext fun st => round_eq Try.prog hint (b := (nav (List.reverse (.lp :: PaL4_13)) (bodyOf Try.f4))) (fn := Try.f4) (nt := 104) (T := (Ta4 VL4_6 VJ4_12 VL4_13 VL4_20)) [PaL4_6, PaJ4_12, PaL4_13, PaL4_20] rfl PaL4_13 e st rfl rfl rfl)).trans (L4_13g VL4_6 VJ4_12 VL4_13 VL4_20 up3 last4 i5 t25z t25 t26 t27 t45 t46 m8_0 m8_1 m8_2 m8_3z m8_3 m9_0 m9_1 m9_2 m9_3 m9_4 m10z m10)
noncomputable def RL4_20 (L4_6 : YL4_6) (J4_12 : YJ4_12) (L4_13 : YL4_13) (L4_20 : YL4_20) (up3 last4 t25z : Bool) (t25 : List T) (t26 t27 t70 t71 m8_0 m8_1 m8_2 : Int) (m8_3z : Bool) (m8_3 : List T) (m9z : Bool) (m9 : List T) : Option Res :=
(bif (decide (t71 < t70)) then
 needC (decide (0 ≤ t71) && decide (t71 < (m9.length : Int))) fun _ =>
 getT m9 ((t71).toNat) fun e_1 =>
 asI .i64 e_1 fun x_2 =>
(bif (decide (x_2 < 0)) then
 some ((.t (.bool false)), ⟨[], []⟩)
else
(bif (decide ((m8_3.length : Int) ≤ x_2)) then
 some ((.t (.bool false)), ⟨[], []⟩)
else
 L4_20 (up3) (last4) (t25z) (t25) (t26) (t27) (t70) ((IntKind.i64.wrap (t71 + 1))) (m8_0) (m8_1) (m8_2) (m8_3z) (m8_3) (m9z) (m9)))
else
 L4_6 (up3) (last4) (t25z) (t25) (t26) ((IntKind.i64.wrap (t27 + 1))) (m8_0) (m8_1) (m8_2) (m8_3z) (m8_3))
theorem L4_20g (KL4_6 KJ4_12 KL4_13 KL4_20 : Env → St → Option Res) (up3 last4 t25z : Bool) (t25 : List T) (t26 t27 t70 t71 m8_0 m8_1 m8_2 : Int) (m8_3z : Bool) (m8_3 : List T) (m9z : Bool) (m9 : List T) : WL4_20 (fun e st => codeT Try.prog hint 4 0 104 (Ta4 KL4_6 KJ4_12 KL4_13 KL4_20) (.lp :: PaL4_20) (ctxT Try.prog hint 4 0 104 (Ta4 KL4_6 KJ4_12 KL4_13 KL4_20) [] (List.reverse (.lp :: PaL4_20)) (bodyOf Try.f4) (resKV Try.prog Try.f4 (hint.own 4 0))) e st (nav (List.reverse (.lp :: PaL4_20)) (bodyOf Try.f4))) up3 last4 t25z t25 t26 t27 t70 t71 m8_0 m8_1 m8_2 m8_3z m8_3 m9z m9 = RL4_20 (WL4_6 KL4_6) (WJ4_12 KJ4_12) (WL4_13 KL4_13) (WL4_20 KL4_20) up3 last4 t25z t25 t26 t27 t70 t71 m8_0 m8_1 m8_2 m8_3z m8_3 m9z m9 := by kernel_rfl
theorem L4_20_eq (up3 last4 t25z : Bool) (t25 : List T) (t26 t27 t70 t71 m8_0 m8_1 m8_2 : Int) (m8_3z : Bool) (m8_3 : List T) (m9z : Bool) (m9 : List T) : L4_20 up3 last4 t25z t25 t26 t27 t70 t71 m8_0 m8_1 m8_2 m8_3z m8_3 m9z m9 = RL4_20 L4_6 J4_12 L4_13 L4_20 up3 last4 t25z t25 t26 t27 t70 t71 m8_0 m8_1 m8_2 m8_3z m8_3 m9z m9 :=
  (congrArg (fun k => WL4_20 k up3 last4 t25z t25 t26 t27 t70 t71 m8_0 m8_1 m8_2 m8_3z m8_3 m9z m9) (funext fun e => funext fun st => round_eq Try.prog hint (b := (nav (List.reverse (.lp :: PaL4_20)) (bodyOf Try.f4))) (fn := Try.f4) (nt := 104) (T := (Ta4 VL4_6 VJ4_12 VL4_13 VL4_20)) [PaL4_6, PaJ4_12, PaL4_13, PaL4_20] rfl PaL4_20 e st rfl rfl rfl)).trans (L4_20g VL4_6 VJ4_12 VL4_13 VL4_20 up3 last4 t25z t25 t26 t27 t70 t71 m8_0 m8_1 m8_2 m8_3z m8_3 m9z m9)
noncomputable def R18 (L18_7 : YL18_7) (L18_12 : YL18_12) (a0_0 a0_1 a0_2 : Int) (a0_3z : Bool) (a0_3 : List T) (a1 : Int) : Option Res :=
 callK (vr 14 0 [(.t (.agg [(.int .i64 a0_0), (.int .i64 a0_1), (.int .i64 a0_2), (.list 5 a0_3z a0_3)]))] ⟨[], []⟩) fun v_1 b_2 =>
 asT v_1 fun x_3 =>
 asI .i64 x_3 fun x_4 =>
 endB b_2 <|
(bif (!decide (x_4 = 0)) then
 some ((.tup [(.t (.agg [(.int .i64 0), (.int .i64 0), (.int .i64 0), (.list 5 false [])])), (.t (.int .i64 1))]), ⟨[], []⟩)
else
(bif (decide (a1 < 0)) then
 some ((.tup [(.t (.agg [(.int .i64 0), (.int .i64 0), (.int .i64 0), (.list 5 false [])])), (.t (.int .i64 1))]), ⟨[], []⟩)
else
(bif (decide (4096 < a1)) then
 some ((.tup [(.t (.agg [(.int .i64 0), (.int .i64 0), (.int .i64 0), (.list 5 false [])])), (.t (.int .i64 1))]), ⟨[], []⟩)
else
(bif (decide (4096 < (IntKind.i64.wrap ((a0_3.length : Int) + a1)))) then
 some ((.tup [(.t (.agg [(.int .i64 0), (.int .i64 0), (.int .i64 0), (.list 5 false [])])), (.t (.int .i64 2))]), ⟨[], []⟩)
else
 needC (decide (0 ≤ a1) && decide (a1 ≤ (IntKind.i64.wrap (a1 + (a0_3.length : Int)))) && decide ((IntKind.i64.wrap (a1 + (a0_3.length : Int))) * (40 + 1) ≤ 70368744177664)) fun _ =>
 L18_7 (a1) ((((List.replicate (a1).toNat ((.agg [(.int .i64 0), (.int .i64 0), (.int .i64 0), (.int .i64 0), (.int .i64 0)]) : T))).length : Int)) (0) (a0_0) (a0_1) (a0_2) (a0_3z) (a0_3) (0) (0) (0) (false) ([]) (true) ((List.replicate (a1).toNat ((.agg [(.int .i64 0), (.int .i64 0), (.int .i64 0), (.int .i64 0), (.int .i64 0)]) : T)))))))
theorem eq18g (KL18_7 KL18_12 : Env → St → Option Res) (a0_0 a0_1 a0_2 : Int) (a0_3z : Bool) (a0_3 : List T) (a1 : Int) : codeT Try.prog hint 18 0 92 (Ta18 KL18_7 KL18_12) [] (resKV Try.prog Try.f18 (hint.own 18 0)) (nrm hint 18 0 (bodyOf Try.f18) (envV [(.t (.agg [(.int .i64 a0_0), (.int .i64 a0_1), (.int .i64 a0_2), (.list 5 a0_3z a0_3)])), (.t (.int .i64 a1))] 0) ⟨[], []⟩).1 (nrm hint 18 0 (bodyOf Try.f18) (envV [(.t (.agg [(.int .i64 a0_0), (.int .i64 a0_1), (.int .i64 a0_2), (.list 5 a0_3z a0_3)])), (.t (.int .i64 a1))] 0) ⟨[], []⟩).2 (bodyOf Try.f18) = R18 (WL18_7 KL18_7) (WL18_12 KL18_12) a0_0 a0_1 a0_2 a0_3z a0_3 a1 := by kernel_rfl
/-- purfle/code.Shift -/
theorem eq18 (a0_0 a0_1 a0_2 : Int) (a0_3z : Bool) (a0_3 : List T) (a1 : Int) : vr 18 0 [(.t (.agg [(.int .i64 a0_0), (.int .i64 a0_1), (.int .i64 a0_2), (.list 5 a0_3z a0_3)])), (.t (.int .i64 a1))] ⟨[], []⟩ = R18 L18_7 L18_12 a0_0 a0_1 a0_2 a0_3z a0_3 a1 :=
  (call_eq Try.prog hint (fn := Try.f18) (nt := 92) (T := (Ta18 VL18_7 VL18_12)) [PaL18_7, PaL18_12] rfl [(.t (.agg [(.int .i64 a0_0), (.int .i64 a0_1), (.int .i64 a0_2), (.list 5 a0_3z a0_3)])), (.t (.int .i64 a1))] ⟨[], []⟩ rfl rfl rfl rfl rfl).trans (eq18g VL18_7 VL18_12 a0_0 a0_1 a0_2 a0_3z a0_3 a1)
noncomputable def RL18_7 (L18_7 : YL18_7) (L18_12 : YL18_12) (by1 t43 t44 m8_0 m8_1 m8_2 : Int) (m8_3z : Bool) (m8_3 : List T) (m9_0 m9_1 m9_2 : Int) (m9_3z : Bool) (m9_3 : List T) (m10z : Bool) (m10 : List T) : Option Res :=
(bif (decide (t44 < t43)) then
 needC (decide (0 ≤ t44) && decide (t44 < (m10.length : Int))) fun _ =>
 needC (m10z && true) fun _ =>
 setT m10 ((t44).toNat) (.agg [(.int .i64 10), (.int .i64 (IntKind.i64.wrap (t44 + 1))), (.int .i64 0), (.int .i64 0), (.int .i64 0)]) fun l_1 =>
 L18_7 (by1) (t43) ((IntKind.i64.wrap (t44 + 1))) (m8_0) (m8_1) (m8_2) (m8_3z) (m8_3) (m9_0) (m9_1) (m9_2) (m9_3z) (m9_3) (m10z) (l_1)
else
 L18_12 (by1) (m8_3z) (m8_3) ((m8_3.length : Int)) (0) (m8_0) (m8_1) (m8_2) (m8_3z) (m8_3) (m9_0) (m9_1) (m9_2) (m9_3z) (m9_3) (m10z) (m10))
theorem L18_7g (KL18_7 KL18_12 : Env → St → Option Res) (by1 t43 t44 m8_0 m8_1 m8_2 : Int) (m8_3z : Bool) (m8_3 : List T) (m9_0 m9_1 m9_2 : Int) (m9_3z : Bool) (m9_3 : List T) (m10z : Bool) (m10 : List T) : WL18_7 (fun e st => codeT Try.prog hint 18 0 92 (Ta18 KL18_7 KL18_12) (.lp :: PaL18_7) (ctxT Try.prog hint 18 0 92 (Ta18 KL18_7 KL18_12) [] (List.reverse (.lp :: PaL18_7)) (bodyOf Try.f18) (resKV Try.prog Try.f18 (hint.own 18 0))) e st (nav (List.reverse (.lp :: PaL18_7)) (bodyOf Try.f18))) by1 t43 t44 m8_0 m8_1 m8_2 m8_3z m8_3 m9_0 m9_1 m9_2 m9_3z m9_3 m10z m10 = RL18_7 (WL18_7 KL18_7) (WL18_12 KL18_12) by1 t43 t44 m8_0 m8_1 m8_2 m8_3z m8_3 m9_0 m9_1 m9_2 m9_3z m9_3 m10z m10 := by kernel_rfl
theorem L18_7_eq (by1 t43 t44 m8_0 m8_1 m8_2 : Int) (m8_3z : Bool) (m8_3 : List T) (m9_0 m9_1 m9_2 : Int) (m9_3z : Bool) (m9_3 : List T) (m10z : Bool) (m10 : List T) : L18_7 by1 t43 t44 m8_0 m8_1 m8_2 m8_3z m8_3 m9_0 m9_1 m9_2 m9_3z m9_3 m10z m10 = RL18_7 L18_7 L18_12 by1 t43 t44 m8_0 m8_1 m8_2 m8_3z m8_3 m9_0 m9_1 m9_2 m9_3z m9_3 m10z m10 :=
  (congrArg (fun k => WL18_7 k by1 t43 t44 m8_0 m8_1 m8_2 m8_3z m8_3 m9_0 m9_1 m9_2 m9_3z m9_3 m10z m10) (funext fun e => funext fun st => round_eq Try.prog hint (b := (nav (List.reverse (.lp :: PaL18_7)) (bodyOf Try.f18))) (fn := Try.f18) (nt := 92) (T := (Ta18 VL18_7 VL18_12)) [PaL18_7, PaL18_12] rfl PaL18_7 e st rfl rfl rfl)).trans (L18_7g VL18_7 VL18_12 by1 t43 t44 m8_0 m8_1 m8_2 m8_3z m8_3 m9_0 m9_1 m9_2 m9_3z m9_3 m10z m10)
noncomputable def RL18_12 (L18_7 : YL18_7) (L18_12 : YL18_12) (by1 : Int) (t55z : Bool) (t55 : List T) (t56 t57 m8_0 m8_1 m8_2 : Int) (m8_3z : Bool) (m8_3 : List T) (m9_0 m9_1 m9_2 : Int) (m9_3z : Bool) (m9_3 : List T) (m10z : Bool) (m10 : List T) : Option Res :=
(bif (decide (t57 < t56)) then
 needC (decide (0 ≤ t57)) fun _ =>
 getT t55 (t57).toNat fun e_1 =>
 asA e_1 fun l_2 =>
 consT l_2 fun v_3 l_4 =>
 asI .i64 v_3 fun x_5 =>
 consT l_4 fun v_6 l_7 =>
 asI .i64 v_6 fun x_8 =>
 consT l_7 fun v_9 l_10 =>
 asI .i64 v_9 fun x_11 =>
 consT l_10 fun v_12 l_13 =>
 asI .i64 v_12 fun x_14 =>
 consT l_13 fun v_15 l_16 =>
 asI .i64 v_15 fun x_17 =>
 endT l_16 <|
 callK (vr 38 0 [(.t (.int .i64 x_5))] ⟨[], []⟩) fun v_18 b_19 =>
 asTup v_18 fun l_20 =>
 consV l_20 fun v_21 l_22 =>
 asT v_21 fun x_23 =>
 asA x_23 fun l_24 =>
 consT l_24 fun v_25 l_26 =>
 asS v_25 fun s_27 =>
 consT l_26 fun v_28 l_29 =>
 asI .i64 v_28 fun x_30 =>
 consT l_29 fun v_31 l_32 =>
 asI .i64 v_31 fun x_33 =>
 consT l_32 fun v_34 l_35 =>
 asI .i64 v_34 fun x_36 =>
 endT l_35 <|
 consV l_22 fun v_37 l_38 =>
 asT v_37 fun x_39 =>
 asB x_39 fun b_40 =>
 endV l_38 <|
 endB b_19 <|
 callK (vr 39 0 [(.ptr 0 0 0)] ⟨[(0, (.var [(.t (.int .i64 x_5)), (.t (.int .i64 x_8)), (.t (.int .i64 x_11)), (.t (.int .i64 x_14)), (.t (.int .i64 x_17))]))], []⟩) fun v_41 b_42 =>
 asG v_41 fun l_43 =>
 consV l_43 fun v_44 l_45 =>
 isPtr 0 0 1 v_44 <|
 consV l_45 fun v_46 l_47 =>
 isPtr 0 0 2 v_46 <|
 consV l_47 fun v_48 l_49 =>
 isPtr 0 0 3 v_48 <|
 endV l_49 <|
 consB 0 b_42 fun k_50 b_51 =>
 asVar k_50 fun l_52 =>
 consV l_52 fun v_53 l_54 =>
 asT v_53 fun x_55 =>
 asI .i64 x_55 fun x_56 =>
 consV l_54 fun v_57 l_58 =>
 asT v_57 fun x_59 =>
 asI .i64 x_59 fun x_60 =>
 consV l_58 fun v_61 l_62 =>
 asT v_61 fun x_63 =>
 asI .i64 x_63 fun x_64 =>
 consV l_62 fun v_65 l_66 =>
 asT v_65 fun x_67 =>
 asI .i64 x_67 fun x_68 =>
 consV l_66 fun v_69 l_70 =>
 asT v_69 fun x_71 =>
 asI .i64 x_71 fun x_72 =>
 endV l_70 <|
 endB b_51 <|
(bif (decide (x_30 = 4)) then
(bif (decide (x_33 = 4)) then
(bif (decide (x_36 = 4)) then
 needC (decide ((m10.length + 1) * (40 + 1) ≤ 70368744177664) && decide (40 ≤ 1048576)) fun _ =>
 L18_12 (by1) (t55z) (t55) (t56) ((IntKind.i64.wrap (t57 + 1))) (m8_0) (m8_1) (m8_2) (m8_3z) (m8_3) (m9_0) (m9_1) (m9_2) (m9_3z) (m9_3) ((m10z || true)) ((m10 ++ ([(.agg [(.int .i64 x_56), (.int .i64 (IntKind.i64.wrap (x_60 + by1))), (.int .i64 (IntKind.i64.wrap (x_64 + by1))), (.int .i64 (IntKind.i64.wrap (x_68 + by1))), (.int .i64 x_72)])] : List T)))
else
 needC (decide ((m10.length + 1) * (40 + 1) ≤ 70368744177664) && decide (40 ≤ 1048576)) fun _ =>
 L18_12 (by1) (t55z) (t55) (t56) ((IntKind.i64.wrap (t57 + 1))) (m8_0) (m8_1) (m8_2) (m8_3z) (m8_3) (m9_0) (m9_1) (m9_2) (m9_3z) (m9_3) ((m10z || true)) ((m10 ++ ([(.agg [(.int .i64 x_56), (.int .i64 (IntKind.i64.wrap (x_60 + by1))), (.int .i64 (IntKind.i64.wrap (x_64 + by1))), (.int .i64 x_68), (.int .i64 x_72)])] : List T))))
else
(bif (decide (x_36 = 4)) then
 needC (decide ((m10.length + 1) * (40 + 1) ≤ 70368744177664) && decide (40 ≤ 1048576)) fun _ =>
 L18_12 (by1) (t55z) (t55) (t56) ((IntKind.i64.wrap (t57 + 1))) (m8_0) (m8_1) (m8_2) (m8_3z) (m8_3) (m9_0) (m9_1) (m9_2) (m9_3z) (m9_3) ((m10z || true)) ((m10 ++ ([(.agg [(.int .i64 x_56), (.int .i64 (IntKind.i64.wrap (x_60 + by1))), (.int .i64 x_64), (.int .i64 (IntKind.i64.wrap (x_68 + by1))), (.int .i64 x_72)])] : List T)))
else
 needC (decide ((m10.length + 1) * (40 + 1) ≤ 70368744177664) && decide (40 ≤ 1048576)) fun _ =>
 L18_12 (by1) (t55z) (t55) (t56) ((IntKind.i64.wrap (t57 + 1))) (m8_0) (m8_1) (m8_2) (m8_3z) (m8_3) (m9_0) (m9_1) (m9_2) (m9_3z) (m9_3) ((m10z || true)) ((m10 ++ ([(.agg [(.int .i64 x_56), (.int .i64 (IntKind.i64.wrap (x_60 + by1))), (.int .i64 x_64), (.int .i64 x_68), (.int .i64 x_72)])] : List T)))))
else
(bif (decide (x_33 = 4)) then
(bif (decide (x_36 = 4)) then
 needC (decide ((m10.length + 1) * (40 + 1) ≤ 70368744177664) && decide (40 ≤ 1048576)) fun _ =>
 L18_12 (by1) (t55z) (t55) (t56) ((IntKind.i64.wrap (t57 + 1))) (m8_0) (m8_1) (m8_2) (m8_3z) (m8_3) (m9_0) (m9_1) (m9_2) (m9_3z) (m9_3) ((m10z || true)) ((m10 ++ ([(.agg [(.int .i64 x_56), (.int .i64 x_60), (.int .i64 (IntKind.i64.wrap (x_64 + by1))), (.int .i64 (IntKind.i64.wrap (x_68 + by1))), (.int .i64 x_72)])] : List T)))
else
 needC (decide ((m10.length + 1) * (40 + 1) ≤ 70368744177664) && decide (40 ≤ 1048576)) fun _ =>
 L18_12 (by1) (t55z) (t55) (t56) ((IntKind.i64.wrap (t57 + 1))) (m8_0) (m8_1) (m8_2) (m8_3z) (m8_3) (m9_0) (m9_1) (m9_2) (m9_3z) (m9_3) ((m10z || true)) ((m10 ++ ([(.agg [(.int .i64 x_56), (.int .i64 x_60), (.int .i64 (IntKind.i64.wrap (x_64 + by1))), (.int .i64 x_68), (.int .i64 x_72)])] : List T))))
else
(bif (decide (x_36 = 4)) then
 needC (decide ((m10.length + 1) * (40 + 1) ≤ 70368744177664) && decide (40 ≤ 1048576)) fun _ =>
 L18_12 (by1) (t55z) (t55) (t56) ((IntKind.i64.wrap (t57 + 1))) (m8_0) (m8_1) (m8_2) (m8_3z) (m8_3) (m9_0) (m9_1) (m9_2) (m9_3z) (m9_3) ((m10z || true)) ((m10 ++ ([(.agg [(.int .i64 x_56), (.int .i64 x_60), (.int .i64 x_64), (.int .i64 (IntKind.i64.wrap (x_68 + by1))), (.int .i64 x_72)])] : List T)))
else
 needC (decide ((m10.length + 1) * (40 + 1) ≤ 70368744177664) && decide (40 ≤ 1048576)) fun _ =>
 L18_12 (by1) (t55z) (t55) (t56) ((IntKind.i64.wrap (t57 + 1))) (m8_0) (m8_1) (m8_2) (m8_3z) (m8_3) (m9_0) (m9_1) (m9_2) (m9_3z) (m9_3) ((m10z || true)) ((m10 ++ ([(.agg [(.int .i64 x_56), (.int .i64 x_60), (.int .i64 x_64), (.int .i64 x_68), (.int .i64 x_72)])] : List T))))))
else
 some ((.tup [(.t (.agg [(.int .i64 m8_0), (.int .i64 m8_1), (.int .i64 m8_2), (.list 5 m10z m10)])), (.t (.int .i64 0))]), ⟨[], []⟩))
theorem L18_12g (KL18_7 KL18_12 : Env → St → Option Res) (by1 : Int) (t55z : Bool) (t55 : List T) (t56 t57 m8_0 m8_1 m8_2 : Int) (m8_3z : Bool) (m8_3 : List T) (m9_0 m9_1 m9_2 : Int) (m9_3z : Bool) (m9_3 : List T) (m10z : Bool) (m10 : List T) : WL18_12 (fun e st => codeT Try.prog hint 18 0 92 (Ta18 KL18_7 KL18_12) (.lp :: PaL18_12) (ctxT Try.prog hint 18 0 92 (Ta18 KL18_7 KL18_12) [] (List.reverse (.lp :: PaL18_12)) (bodyOf Try.f18) (resKV Try.prog Try.f18 (hint.own 18 0))) e st (nav (List.reverse (.lp :: PaL18_12)) (bodyOf Try.f18))) by1 t55z t55 t56 t57 m8_0 m8_1 m8_2 m8_3z m8_3 m9_0 m9_1 m9_2 m9_3z m9_3 m10z m10 = RL18_12 (WL18_7 KL18_7) (WL18_12 KL18_12) by1 t55z t55 t56 t57 m8_0 m8_1 m8_2 m8_3z m8_3 m9_0 m9_1 m9_2 m9_3z m9_3 m10z m10 := by kernel_rfl
theorem L18_12_eq (by1 : Int) (t55z : Bool) (t55 : List T) (t56 t57 m8_0 m8_1 m8_2 : Int) (m8_3z : Bool) (m8_3 : List T) (m9_0 m9_1 m9_2 : Int) (m9_3z : Bool) (m9_3 : List T) (m10z : Bool) (m10 : List T) : L18_12 by1 t55z t55 t56 t57 m8_0 m8_1 m8_2 m8_3z m8_3 m9_0 m9_1 m9_2 m9_3z m9_3 m10z m10 = RL18_12 L18_7 L18_12 by1 t55z t55 t56 t57 m8_0 m8_1 m8_2 m8_3z m8_3 m9_0 m9_1 m9_2 m9_3z m9_3 m10z m10 :=
  (congrArg (fun k => WL18_12 k by1 t55z t55 t56 t57 m8_0 m8_1 m8_2 m8_3z m8_3 m9_0 m9_1 m9_2 m9_3z m9_3 m10z m10) (funext fun e => funext fun st => round_eq Try.prog hint (b := (nav (List.reverse (.lp :: PaL18_12)) (bodyOf Try.f18))) (fn := Try.f18) (nt := 92) (T := (Ta18 VL18_7 VL18_12)) [PaL18_7, PaL18_12] rfl PaL18_12 e st rfl rfl rfl)).trans (L18_12g VL18_7 VL18_12 by1 t55z t55 t56 t57 m8_0 m8_1 m8_2 m8_3z m8_3 m9_0 m9_1 m9_2 m9_3z m9_3 m10z m10)
noncomputable def R40 (L40_4 : YL40_4) (a0z : Bool) (a0 : List T) (a1z : Bool) (a1 : List T) : Option Res :=
(bif (!decide ((a0.length : Int) = (a1.length : Int))) then
 some ((.t (.bool false)), ⟨[], []⟩)
else
 L40_4 (a0z) (a0) (a1z) (a1) ((a0.length : Int)) (0))
theorem eq40g (KL40_4 : Env → St → Option Res) (a0z : Bool) (a0 : List T) (a1z : Bool) (a1 : List T) : codeT Try.prog hint 40 0 26 (Ta40 KL40_4) [] (resKV Try.prog Try.f40 (hint.own 40 0)) (nrm hint 40 0 (bodyOf Try.f40) (envV [(.t (.list 5 a0z a0)), (.t (.list 5 a1z a1))] 0) ⟨[], []⟩).1 (nrm hint 40 0 (bodyOf Try.f40) (envV [(.t (.list 5 a0z a0)), (.t (.list 5 a1z a1))] 0) ⟨[], []⟩).2 (bodyOf Try.f40) = R40 (WL40_4 KL40_4) a0z a0 a1z a1 := by kernel_rfl
/-- slices.Equal[[]purfle/api.Ins,purfle/api.Ins] -/
theorem eq40 (a0z : Bool) (a0 : List T) (a1z : Bool) (a1 : List T) : vr 40 0 [(.t (.list 5 a0z a0)), (.t (.list 5 a1z a1))] ⟨[], []⟩ = R40 L40_4 a0z a0 a1z a1 :=
  (call_eq Try.prog hint (fn := Try.f40) (nt := 26) (T := (Ta40 VL40_4)) [PaL40_4] rfl [(.t (.list 5 a0z a0)), (.t (.list 5 a1z a1))] ⟨[], []⟩ rfl rfl rfl rfl rfl).trans (eq40g VL40_4 a0z a0 a1z a1)
noncomputable def RL40_4 (L40_4 : YL40_4) (s10z : Bool) (s10 : List T) (s21z : Bool) (s21 : List T) (t12 t13 : Int) : Option Res :=
(bif (decide (t13 < t12)) then
 needC (decide (0 ≤ t13)) fun _ =>
 getT s10 (t13).toNat fun e_1 =>
 asA e_1 fun l_2 =>
 consT l_2 fun v_3 l_4 =>
 asI .i64 v_3 fun x_5 =>
 consT l_4 fun v_6 l_7 =>
 asI .i64 v_6 fun x_8 =>
 consT l_7 fun v_9 l_10 =>
 asI .i64 v_9 fun x_11 =>
 consT l_10 fun v_12 l_13 =>
 asI .i64 v_12 fun x_14 =>
 consT l_13 fun v_15 l_16 =>
 asI .i64 v_15 fun x_17 =>
 endT l_16 <|
 needC (decide (0 ≤ t13)) fun _ =>
 getT s21 (t13).toNat fun e_18 =>
 asA e_18 fun l_19 =>
 consT l_19 fun v_20 l_21 =>
 asI .i64 v_20 fun x_22 =>
 consT l_21 fun v_23 l_24 =>
 asI .i64 v_23 fun x_25 =>
 consT l_24 fun v_26 l_27 =>
 asI .i64 v_26 fun x_28 =>
 consT l_27 fun v_29 l_30 =>
 asI .i64 v_29 fun x_31 =>
 consT l_30 fun v_32 l_33 =>
 asI .i64 v_32 fun x_34 =>
 endT l_33 <|
(bif (!(decide (x_5 = x_22) && (decide (x_8 = x_25) && (decide (x_11 = x_28) && (decide (x_14 = x_31) && (decide (x_17 = x_34) && true)))))) then
 some ((.t (.bool false)), ⟨[], []⟩)
else
 L40_4 (s10z) (s10) (s21z) (s21) (t12) ((IntKind.i64.wrap (t13 + 1))))
else
 some ((.t (.bool true)), ⟨[], []⟩))
theorem L40_4g (KL40_4 : Env → St → Option Res) (s10z : Bool) (s10 : List T) (s21z : Bool) (s21 : List T) (t12 t13 : Int) : WL40_4 (fun e st => codeT Try.prog hint 40 0 26 (Ta40 KL40_4) (.lp :: PaL40_4) (ctxT Try.prog hint 40 0 26 (Ta40 KL40_4) [] (List.reverse (.lp :: PaL40_4)) (bodyOf Try.f40) (resKV Try.prog Try.f40 (hint.own 40 0))) e st (nav (List.reverse (.lp :: PaL40_4)) (bodyOf Try.f40))) s10z s10 s21z s21 t12 t13 = RL40_4 (WL40_4 KL40_4) s10z s10 s21z s21 t12 t13 := by kernel_rfl
theorem L40_4_eq (s10z : Bool) (s10 : List T) (s21z : Bool) (s21 : List T) (t12 t13 : Int) : L40_4 s10z s10 s21z s21 t12 t13 = RL40_4 L40_4 s10z s10 s21z s21 t12 t13 :=
  (congrArg (fun k => WL40_4 k s10z s10 s21z s21 t12 t13) (funext fun e => funext fun st => round_eq Try.prog hint (b := (nav (List.reverse (.lp :: PaL40_4)) (bodyOf Try.f40))) (fn := Try.f40) (nt := 26) (T := (Ta40 VL40_4)) [PaL40_4] rfl PaL40_4 e st rfl rfl rfl)).trans (L40_4g VL40_4 s10z s10 s21z s21 t12 t13)
noncomputable def R19  (a0_0 a0_1 a0_2 : Int) (a0_3z : Bool) (a0_3 : List T) (a1_0 a1_1 a1_2 : Int) (a1_3z : Bool) (a1_3 : List T) : Option Res :=
(bif (decide (a0_0 = a1_0) && (decide (a0_1 = a1_1) && (decide (a0_2 = a1_2) && true))) then
 callK (vr 40 0 [(.t (.list 5 a0_3z a0_3)), (.t (.list 5 a1_3z a1_3))] ⟨[], []⟩) fun v_1 b_2 =>
 asT v_1 fun x_3 =>
 asB x_3 fun b_4 =>
 endB b_2 <|
 some ((.t (.bool b_4)), ⟨[], []⟩)
else
 some ((.t (.bool false)), ⟨[], []⟩))
theorem eq19g  (a0_0 a0_1 a0_2 : Int) (a0_3z : Bool) (a0_3 : List T) (a1_0 a1_1 a1_2 : Int) (a1_3z : Bool) (a1_3 : List T) : codeT Try.prog hint 19 0 27 [] [] (resKV Try.prog Try.f19 (hint.own 19 0)) (nrm hint 19 0 (bodyOf Try.f19) (envV [(.t (.agg [(.int .i64 a0_0), (.int .i64 a0_1), (.int .i64 a0_2), (.list 5 a0_3z a0_3)])), (.t (.agg [(.int .i64 a1_0), (.int .i64 a1_1), (.int .i64 a1_2), (.list 5 a1_3z a1_3)]))] 0) ⟨[], []⟩).1 (nrm hint 19 0 (bodyOf Try.f19) (envV [(.t (.agg [(.int .i64 a0_0), (.int .i64 a0_1), (.int .i64 a0_2), (.list 5 a0_3z a0_3)])), (.t (.agg [(.int .i64 a1_0), (.int .i64 a1_1), (.int .i64 a1_2), (.list 5 a1_3z a1_3)]))] 0) ⟨[], []⟩).2 (bodyOf Try.f19) = R19  a0_0 a0_1 a0_2 a0_3z a0_3 a1_0 a1_1 a1_2 a1_3z a1_3 := by kernel_rfl
/-- purfle/code.Same -/
theorem eq19 (a0_0 a0_1 a0_2 : Int) (a0_3z : Bool) (a0_3 : List T) (a1_0 a1_1 a1_2 : Int) (a1_3z : Bool) (a1_3 : List T) : vr 19 0 [(.t (.agg [(.int .i64 a0_0), (.int .i64 a0_1), (.int .i64 a0_2), (.list 5 a0_3z a0_3)])), (.t (.agg [(.int .i64 a1_0), (.int .i64 a1_1), (.int .i64 a1_2), (.list 5 a1_3z a1_3)]))] ⟨[], []⟩ = R19  a0_0 a0_1 a0_2 a0_3z a0_3 a1_0 a1_1 a1_2 a1_3z a1_3 :=
  (call_eq Try.prog hint (fn := Try.f19) (nt := 27) (T := []) [] rfl [(.t (.agg [(.int .i64 a0_0), (.int .i64 a0_1), (.int .i64 a0_2), (.list 5 a0_3z a0_3)])), (.t (.agg [(.int .i64 a1_0), (.int .i64 a1_1), (.int .i64 a1_2), (.list 5 a1_3z a1_3)]))] ⟨[], []⟩ rfl rfl rfl rfl rfl).trans (eq19g  a0_0 a0_1 a0_2 a0_3z a0_3 a1_0 a1_1 a1_2 a1_3z a1_3)
noncomputable def R20 (L20_4 : YL20_4) (a0z : Bool) (a0 : List T) (a1z : Bool) (a1 : List T) : Option Res :=
(bif (!decide ((a0.length : Int) = (a1.length : Int))) then
 some ((.t (.bool false)), ⟨[], []⟩)
else
 L20_4 (a0z) (a0) (a1z) (a1) ((a0.length : Int)) (0))
theorem eq20g (KL20_4 : Env → St → Option Res) (a0z : Bool) (a0 : List T) (a1z : Bool) (a1 : List T) : codeT Try.prog hint 20 0 26 (Ta20 KL20_4) [] (resKV Try.prog Try.f20 (hint.own 20 0)) (nrm hint 20 0 (bodyOf Try.f20) (envV [(.t (.list 1 a0z a0)), (.t (.list 1 a1z a1))] 0) ⟨[], []⟩).1 (nrm hint 20 0 (bodyOf Try.f20) (envV [(.t (.list 1 a0z a0)), (.t (.list 1 a1z a1))] 0) ⟨[], []⟩).2 (bodyOf Try.f20) = R20 (WL20_4 KL20_4) a0z a0 a1z a1 := by kernel_rfl
/-- purfle/purfleref01.Equal -/
theorem eq20 (a0z : Bool) (a0 : List T) (a1z : Bool) (a1 : List T) : vr 20 0 [(.t (.list 1 a0z a0)), (.t (.list 1 a1z a1))] ⟨[], []⟩ = R20 L20_4 a0z a0 a1z a1 :=
  (call_eq Try.prog hint (fn := Try.f20) (nt := 26) (T := (Ta20 VL20_4)) [PaL20_4] rfl [(.t (.list 1 a0z a0)), (.t (.list 1 a1z a1))] ⟨[], []⟩ rfl rfl rfl rfl rfl).trans (eq20g VL20_4 a0z a0 a1z a1)
noncomputable def RL20_4 (L20_4 : YL20_4) (a0z : Bool) (a0 : List T) (b1z : Bool) (b1 : List T) (t12 t13 : Int) : Option Res :=
(bif (decide (t13 < t12)) then
 needC (decide (0 ≤ t13)) fun _ =>
 getT a0 (t13).toNat fun e_1 =>
 asI .i64 e_1 fun x_2 =>
 needC (decide (0 ≤ t13)) fun _ =>
 getT b1 (t13).toNat fun e_3 =>
 asI .i64 e_3 fun x_4 =>
(bif (!decide (x_2 = x_4)) then
 some ((.t (.bool false)), ⟨[], []⟩)
else
 L20_4 (a0z) (a0) (b1z) (b1) (t12) ((IntKind.i64.wrap (t13 + 1))))
else
 some ((.t (.bool true)), ⟨[], []⟩))
theorem L20_4g (KL20_4 : Env → St → Option Res) (a0z : Bool) (a0 : List T) (b1z : Bool) (b1 : List T) (t12 t13 : Int) : WL20_4 (fun e st => codeT Try.prog hint 20 0 26 (Ta20 KL20_4) (.lp :: PaL20_4) (ctxT Try.prog hint 20 0 26 (Ta20 KL20_4) [] (List.reverse (.lp :: PaL20_4)) (bodyOf Try.f20) (resKV Try.prog Try.f20 (hint.own 20 0))) e st (nav (List.reverse (.lp :: PaL20_4)) (bodyOf Try.f20))) a0z a0 b1z b1 t12 t13 = RL20_4 (WL20_4 KL20_4) a0z a0 b1z b1 t12 t13 := by kernel_rfl
theorem L20_4_eq (a0z : Bool) (a0 : List T) (b1z : Bool) (b1 : List T) (t12 t13 : Int) : L20_4 a0z a0 b1z b1 t12 t13 = RL20_4 L20_4 a0z a0 b1z b1 t12 t13 :=
  (congrArg (fun k => WL20_4 k a0z a0 b1z b1 t12 t13) (funext fun e => funext fun st => round_eq Try.prog hint (b := (nav (List.reverse (.lp :: PaL20_4)) (bodyOf Try.f20))) (fn := Try.f20) (nt := 26) (T := (Ta20 VL20_4)) [PaL20_4] rfl PaL20_4 e st rfl rfl rfl)).trans (L20_4g VL20_4 a0z a0 b1z b1 t12 t13)
noncomputable def R5 (L5_12 : YL5_12) (L5_21 : YL5_21) (a0_0 a0_1 a0_2 : Int) (a0_3z : Bool) (a0_3 : List T) (a1 a2 : Int) : Option Res :=
 callK (vr 9 0 [] ⟨[], []⟩) fun v_1 b_2 =>
 asT v_1 fun x_3 =>
 asB x_3 fun b_4 =>
 endB b_2 <|
 callK (vr 13 0 [(.t (.agg [(.int .i64 a0_0), (.int .i64 a0_1), (.int .i64 a0_2), (.list 5 a0_3z a0_3)]))] ⟨[], []⟩) fun v_5 b_6 =>
 asT v_5 fun x_7 =>
 asB x_7 fun b_8 =>
 endB b_6 <|
(bif (!b_8) then
 some ((.t (.bool b_4)), ⟨[], []⟩)
else
 callK (vr 14 0 [(.t (.agg [(.int .i64 a0_0), (.int .i64 a0_1), (.int .i64 a0_2), (.list 5 a0_3z a0_3)]))] ⟨[], []⟩) fun v_9 b_10 =>
 asT v_9 fun x_11 =>
 asI .i64 x_11 fun x_12 =>
 endB b_10 <|
(bif (!decide (x_12 = 0)) then
 some ((.t (.bool b_4)), ⟨[], []⟩)
else
 callK (vr 18 0 [(.t (.agg [(.int .i64 a0_0), (.int .i64 a0_1), (.int .i64 a0_2), (.list 5 a0_3z a0_3)])), (.t (.int .i64 (Int.tmod (IntKind.i64.wrap ((Int.tmod a1 50) + 50)) 50)))] ⟨[], []⟩) fun v_13 b_14 =>
 asTup v_13 fun l_15 =>
 consV l_15 fun v_16 l_17 =>
 asT v_16 fun x_18 =>
 asA x_18 fun l_19 =>
 consT l_19 fun v_20 l_21 =>
 asI .i64 v_20 fun x_22 =>
 consT l_21 fun v_23 l_24 =>
 asI .i64 v_23 fun x_25 =>
 consT l_24 fun v_26 l_27 =>
 asI .i64 v_26 fun x_28 =>
 consT l_27 fun v_29 l_30 =>
 asL 5 v_29 fun nn_31 l_32 =>
 endT l_30 <|
 consV l_17 fun v_33 l_34 =>
 asT v_33 fun x_35 =>
 asI .i64 x_35 fun x_36 =>
 endV l_34 <|
 endB b_14 <|
 callK (vr 18 0 [(.t (.agg [(.int .i64 x_22), (.int .i64 x_25), (.int .i64 x_28), (.list 5 nn_31 l_32)])), (.t (.int .i64 (Int.tmod (IntKind.i64.wrap ((Int.tmod a2 50) + 50)) 50)))] ⟨[], []⟩) fun v_37 b_38 =>
 asTup v_37 fun l_39 =>
 consV l_39 fun v_40 l_41 =>
 asT v_40 fun x_42 =>
 asA x_42 fun l_43 =>
 consT l_43 fun v_44 l_45 =>
 asI .i64 v_44 fun x_46 =>
 consT l_45 fun v_47 l_48 =>
 asI .i64 v_47 fun x_49 =>
 consT l_48 fun v_50 l_51 =>
 asI .i64 v_50 fun x_52 =>
 consT l_51 fun v_53 l_54 =>
 asL 5 v_53 fun nn_55 l_56 =>
 endT l_54 <|
 consV l_41 fun v_57 l_58 =>
 asT v_57 fun x_59 =>
 asI .i64 x_59 fun x_60 =>
 endV l_58 <|
 endB b_38 <|
 callK (vr 18 0 [(.t (.agg [(.int .i64 a0_0), (.int .i64 a0_1), (.int .i64 a0_2), (.list 5 a0_3z a0_3)])), (.t (.int .i64 (IntKind.i64.wrap ((Int.tmod (IntKind.i64.wrap ((Int.tmod a1 50) + 50)) 50) + (Int.tmod (IntKind.i64.wrap ((Int.tmod a2 50) + 50)) 50)))))] ⟨[], []⟩) fun v_61 b_62 =>
 asTup v_61 fun l_63 =>
 consV l_63 fun v_64 l_65 =>
 asT v_64 fun x_66 =>
 asA x_66 fun l_67 =>
 consT l_67 fun v_68 l_69 =>
 asI .i64 v_68 fun x_70 =>
 consT l_69 fun v_71 l_72 =>
 asI .i64 v_71 fun x_73 =>
 consT l_72 fun v_74 l_75 =>
 asI .i64 v_74 fun x_76 =>
 consT l_75 fun v_77 l_78 =>
 asL 5 v_77 fun nn_79 l_80 =>
 endT l_78 <|
 consV l_65 fun v_81 l_82 =>
 asT v_81 fun x_83 =>
 asI .i64 x_83 fun x_84 =>
 endV l_82 <|
 endB b_62 <|
(bif (!decide (x_36 = 0)) then
 some ((.t (.bool false)), ⟨[], []⟩)
else
(bif (!decide (x_60 = 0)) then
 some ((.t (.bool false)), ⟨[], []⟩)
else
(bif (!decide (x_84 = 0)) then
 some ((.t (.bool false)), ⟨[], []⟩)
else
 callK (vr 19 0 [(.t (.agg [(.int .i64 x_46), (.int .i64 x_49), (.int .i64 x_52), (.list 5 nn_55 l_56)])), (.t (.agg [(.int .i64 x_70), (.int .i64 x_73), (.int .i64 x_76), (.list 5 nn_79 l_80)]))] ⟨[], []⟩) fun v_85 b_86 =>
 asT v_85 fun x_87 =>
 asB x_87 fun b_88 =>
 endB b_86 <|
(bif (!b_88) then
 some ((.t (.bool false)), ⟨[], []⟩)
else
 callK (vr 14 0 [(.t (.agg [(.int .i64 x_70), (.int .i64 x_73), (.int .i64 x_76), (.list 5 nn_79 l_80)]))] ⟨[], []⟩) fun v_89 b_90 =>
 asT v_89 fun x_91 =>
 asI .i64 x_91 fun x_92 =>
 endB b_90 <|
(bif (!decide (x_92 = 0)) then
 some ((.t (.bool false)), ⟨[], []⟩)
else
(bif (!decide ((l_80.length : Int) = (IntKind.i64.wrap ((IntKind.i64.wrap ((Int.tmod (IntKind.i64.wrap ((Int.tmod a1 50) + 50)) 50) + (Int.tmod (IntKind.i64.wrap ((Int.tmod a2 50) + 50)) 50))) + (a0_3.length : Int))))) then
 some ((.t (.bool false)), ⟨[], []⟩)
else
 L5_12 ((Int.tmod (IntKind.i64.wrap ((Int.tmod a1 50) + 50)) 50)) ((Int.tmod (IntKind.i64.wrap ((Int.tmod a2 50) + 50)) 50)) (b_4) (a0_3z) (a0_3) ((a0_3.length : Int)) (0) (x_70) (x_73) (x_76) (nn_79) (l_80)))))))))
theorem eq5g (KL5_12 KL5_21 : Env → St → Option Res) (a0_0 a0_1 a0_2 : Int) (a0_3z : Bool) (a0_3 : List T) (a1 a2 : Int) : codeT Try.prog hint 5 0 168 (Ta5 KL5_12 KL5_21) [] (resKV Try.prog Try.f5 (hint.own 5 0)) (nrm hint 5 0 (bodyOf Try.f5) (envV [(.t (.agg [(.int .i64 a0_0), (.int .i64 a0_1), (.int .i64 a0_2), (.list 5 a0_3z a0_3)])), (.t (.int .i64 a1)), (.t (.int .i64 a2))] 0) ⟨[], []⟩).1 (nrm hint 5 0 (bodyOf Try.f5) (envV [(.t (.agg [(.int .i64 a0_0), (.int .i64 a0_1), (.int .i64 a0_2), (.list 5 a0_3z a0_3)])), (.t (.int .i64 a1)), (.t (.int .i64 a2))] 0) ⟨[], []⟩).2 (bodyOf Try.f5) = R5 (WL5_12 KL5_12) (WL5_21 KL5_21) a0_0 a0_1 a0_2 a0_3z a0_3 a1 a2 := by kernel_rfl
/-- purfle/purflelaw14.CodeShifts -/
theorem eq5 (a0_0 a0_1 a0_2 : Int) (a0_3z : Bool) (a0_3 : List T) (a1 a2 : Int) : vr 5 0 [(.t (.agg [(.int .i64 a0_0), (.int .i64 a0_1), (.int .i64 a0_2), (.list 5 a0_3z a0_3)])), (.t (.int .i64 a1)), (.t (.int .i64 a2))] ⟨[], []⟩ = R5 L5_12 L5_21 a0_0 a0_1 a0_2 a0_3z a0_3 a1 a2 :=
  (call_eq Try.prog hint (fn := Try.f5) (nt := 168) (T := (Ta5 VL5_12 VL5_21)) [PaL5_12, PaL5_21] rfl [(.t (.agg [(.int .i64 a0_0), (.int .i64 a0_1), (.int .i64 a0_2), (.list 5 a0_3z a0_3)])), (.t (.int .i64 a1)), (.t (.int .i64 a2))] ⟨[], []⟩ rfl rfl rfl rfl rfl).trans (eq5g VL5_12 VL5_21 a0_0 a0_1 a0_2 a0_3z a0_3 a1 a2)
noncomputable def RL5_12 (L5_12 : YL5_12) (L5_21 : YL5_21) (a1 b2 : Int) (up7 t96z : Bool) (t96 : List T) (t97 t98 m8_0 m8_1 m8_2 : Int) (m8_3z : Bool) (m8_3 : List T) : Option Res :=
(bif (decide (t98 < t97)) then
 needC (decide (0 ≤ t98)) fun _ =>
 getT t96 (t98).toNat fun e_1 =>
 asA e_1 fun l_2 =>
 consT l_2 fun v_3 l_4 =>
 asI .i64 v_3 fun x_5 =>
 consT l_4 fun v_6 l_7 =>
 asI .i64 v_6 fun x_8 =>
 consT l_7 fun v_9 l_10 =>
 asI .i64 v_9 fun x_11 =>
 consT l_10 fun v_12 l_13 =>
 asI .i64 v_12 fun x_14 =>
 consT l_13 fun v_15 l_16 =>
 asI .i64 v_15 fun x_17 =>
 endT l_16 <|
 needC (decide (0 ≤ (IntKind.i64.wrap ((IntKind.i64.wrap (a1 + b2)) + t98)))) fun _ =>
 getT m8_3 ((IntKind.i64.wrap ((IntKind.i64.wrap (a1 + b2)) + t98))).toNat fun e_18 =>
 asA e_18 fun l_19 =>
 consT l_19 fun v_20 l_21 =>
 asI .i64 v_20 fun x_22 =>
 consT l_21 fun v_23 l_24 =>
 asI .i64 v_23 fun x_25 =>
 consT l_24 fun v_26 l_27 =>
 asI .i64 v_26 fun x_28 =>
 consT l_27 fun v_29 l_30 =>
 asI .i64 v_29 fun x_31 =>
 consT l_30 fun v_32 l_33 =>
 asI .i64 v_32 fun x_34 =>
 endT l_33 <|
 callK (vr 16 0 [(.t (.agg [(.int .i64 x_5), (.int .i64 x_8), (.int .i64 x_11), (.int .i64 x_14), (.int .i64 x_17)]))] ⟨[], []⟩) fun v_35 b_36 =>
 asTup v_35 fun l_37 =>
 consV l_37 fun v_38 l_39 =>
 asT v_38 fun x_40 =>
 asI .i64 x_40 fun x_41 =>
 consV l_39 fun v_42 l_43 =>
 asT v_42 fun x_44 =>
 asB x_44 fun b_45 =>
 endV l_43 <|
 endB b_36 <|
 callK (vr 16 0 [(.t (.agg [(.int .i64 x_22), (.int .i64 x_25), (.int .i64 x_28), (.int .i64 x_31), (.int .i64 x_34)]))] ⟨[], []⟩) fun v_46 b_47 =>
 asTup v_46 fun l_48 =>
 consV l_48 fun v_49 l_50 =>
 asT v_49 fun x_51 =>
 asI .i64 x_51 fun x_52 =>
 consV l_50 fun v_53 l_54 =>
 asT v_53 fun x_55 =>
 asB x_55 fun b_56 =>
 endV l_54 <|
 endB b_47 <|
(bif (!decide (x_41 = x_52)) then
 some ((.t (.bool false)), ⟨[], []⟩)
else
(bif (!(b_45 == b_56)) then
 some ((.t (.bool false)), ⟨[], []⟩)
else
 callK (vr 15 0 [(.t (.agg [(.int .i64 x_5), (.int .i64 x_8), (.int .i64 x_11), (.int .i64 x_14), (.int .i64 x_17)]))] ⟨[], []⟩) fun v_57 b_58 =>
 isBuf 500 v_57 <|
 consB 500 b_58 fun k_59 b_60 =>
 asArr 1 k_59 fun nn_61 l_62 =>
 endB b_60 <|
 callK (vr 15 0 [(.t (.agg [(.int .i64 x_22), (.int .i64 x_25), (.int .i64 x_28), (.int .i64 x_31), (.int .i64 x_34)]))] ⟨[], []⟩) fun v_63 b_64 =>
 isBuf 500 v_63 <|
 consB 500 b_64 fun k_65 b_66 =>
 asArr 1 k_65 fun nn_67 l_68 =>
 endB b_66 <|
 callK (vr 20 0 [(.t (.list 1 nn_61 l_62)), (.t (.list 1 nn_67 l_68))] ⟨[], []⟩) fun v_69 b_70 =>
 asT v_69 fun x_71 =>
 asB x_71 fun b_72 =>
 endB b_70 <|
(bif (!b_72) then
 some ((.t (.bool false)), ⟨[], []⟩)
else
 callK (vr 17 0 [(.t (.agg [(.int .i64 x_5), (.int .i64 x_8), (.int .i64 x_11), (.int .i64 x_14), (.int .i64 x_17)])), (.t (.int .i64 t98))] ⟨[], []⟩) fun v_73 b_74 =>
 isBuf 500 v_73 <|
 consB 500 b_74 fun k_75 b_76 =>
 asArr 1 k_75 fun nn_77 l_78 =>
 endB b_76 <|
 L5_21 (a1) (b2) (up7) (t98) (t96z) (t96) (t97) (t98) ((l_78.length : Int)) (0) (m8_0) (m8_1) (m8_2) (m8_3z) (m8_3) (x_22) (x_25) (x_28) (x_31) (x_34) (nn_77) (l_78))))
else
 some ((.t (.bool up7)), ⟨[], []⟩))
theorem L5_12g (KL5_12 KL5_21 : Env → St → Option Res) (a1 b2 : Int) (up7 t96z : Bool) (t96 : List T) (t97 t98 m8_0 m8_1 m8_2 : Int) (m8_3z : Bool) (m8_3 : List T) : WL5_12 (fun e st => codeT Try.prog hint 5 0 168 (Ta5 KL5_12 KL5_21) (.lp :: PaL5_12) (ctxT Try.prog hint 5 0 168 (Ta5 KL5_12 KL5_21) [] (List.reverse (.lp :: PaL5_12)) (bodyOf Try.f5) (resKV Try.prog Try.f5 (hint.own 5 0))) e st (nav (List.reverse (.lp :: PaL5_12)) (bodyOf Try.f5))) a1 b2 up7 t96z t96 t97 t98 m8_0 m8_1 m8_2 m8_3z m8_3 = RL5_12 (WL5_12 KL5_12) (WL5_21 KL5_21) a1 b2 up7 t96z t96 t97 t98 m8_0 m8_1 m8_2 m8_3z m8_3 := by kernel_rfl
theorem L5_12_eq (a1 b2 : Int) (up7 t96z : Bool) (t96 : List T) (t97 t98 m8_0 m8_1 m8_2 : Int) (m8_3z : Bool) (m8_3 : List T) : L5_12 a1 b2 up7 t96z t96 t97 t98 m8_0 m8_1 m8_2 m8_3z m8_3 = RL5_12 L5_12 L5_21 a1 b2 up7 t96z t96 t97 t98 m8_0 m8_1 m8_2 m8_3z m8_3 :=
  (congrArg (fun k => WL5_12 k a1 b2 up7 t96z t96 t97 t98 m8_0 m8_1 m8_2 m8_3z m8_3) (funext fun e => funext fun st => round_eq Try.prog hint (b := (nav (List.reverse (.lp :: PaL5_12)) (bodyOf Try.f5))) (fn := Try.f5) (nt := 168) (T := (Ta5 VL5_12 VL5_21)) [PaL5_12, PaL5_21] rfl PaL5_12 e st rfl rfl rfl)).trans (L5_12g VL5_12 VL5_21 a1 b2 up7 t96z t96 t97 t98 m8_0 m8_1 m8_2 m8_3z m8_3)
noncomputable def RL5_21 (L5_12 : YL5_12) (L5_21 : YL5_21) (a1 b2 : Int) (up7 : Bool) (i14 : Int) (t96z : Bool) (t96 : List T) (t97 t98 t142 t143 m8_0 m8_1 m8_2 : Int) (m8_3z : Bool) (m8_3 : List T) (m9_0 m9_1 m9_2 m9_3 m9_4 : Int) (m10z : Bool) (m10 : List T) : Option Res :=
(bif (decide (t143 < t142)) then
 needC (decide (0 ≤ t143) && decide (t143 < (m10.length : Int))) fun _ =>
 getT m10 ((t143).toNat) fun e_1 =>
 asI .i64 e_1 fun x_2 =>
 needC (decide (0 ≤ t143) && decide (t143 < (m10.length : Int))) fun _ =>
 needC (m10z && true) fun _ =>
 setT m10 ((t143).toNat) (.int .i64 (IntKind.i64.wrap (x_2 + (IntKind.i64.wrap (a1 + b2))))) fun l_3 =>
 L5_21 (a1) (b2) (up7) (i14) (t96z) (t96) (t97) (t98) (t142) ((IntKind.i64.wrap (t143 + 1))) (m8_0) (m8_1) (m8_2) (m8_3z) (m8_3) (m9_0) (m9_1) (m9_2) (m9_3) (m9_4) (m10z) (l_3)
else
 callK (vr 17 0 [(.t (.agg [(.int .i64 m9_0), (.int .i64 m9_1), (.int .i64 m9_2), (.int .i64 m9_3), (.int .i64 m9_4)])), (.t (.int .i64 (IntKind.i64.wrap ((IntKind.i64.wrap (a1 + b2)) + i14))))] ⟨[], []⟩) fun v_4 b_5 =>
 isBuf 500 v_4 <|
 consB 500 b_5 fun k_6 b_7 =>
 asArr 1 k_6 fun nn_8 l_9 =>
 endB b_7 <|
 callK (vr 20 0 [(.t (.list 1 m10z m10)), (.t (.list 1 nn_8 l_9))] ⟨[], []⟩) fun v_10 b_11 =>
 asT v_10 fun x_12 =>
 asB x_12 fun b_13 =>
 endB b_11 <|
(bif (!b_13) then
 some ((.t (.bool false)), ⟨[], []⟩)
else
 L5_12 (a1) (b2) (up7) (t96z) (t96) (t97) ((IntKind.i64.wrap (t98 + 1))) (m8_0) (m8_1) (m8_2) (m8_3z) (m8_3)))
theorem L5_21g (KL5_12 KL5_21 : Env → St → Option Res) (a1 b2 : Int) (up7 : Bool) (i14 : Int) (t96z : Bool) (t96 : List T) (t97 t98 t142 t143 m8_0 m8_1 m8_2 : Int) (m8_3z : Bool) (m8_3 : List T) (m9_0 m9_1 m9_2 m9_3 m9_4 : Int) (m10z : Bool) (m10 : List T) : WL5_21 (fun e st => codeT Try.prog hint 5 0 168 (Ta5 KL5_12 KL5_21) (.lp :: PaL5_21) (ctxT Try.prog hint 5 0 168 (Ta5 KL5_12 KL5_21) [] (List.reverse (.lp :: PaL5_21)) (bodyOf Try.f5) (resKV Try.prog Try.f5 (hint.own 5 0))) e st (nav (List.reverse (.lp :: PaL5_21)) (bodyOf Try.f5))) a1 b2 up7 i14 t96z t96 t97 t98 t142 t143 m8_0 m8_1 m8_2 m8_3z m8_3 m9_0 m9_1 m9_2 m9_3 m9_4 m10z m10 = RL5_21 (WL5_12 KL5_12) (WL5_21 KL5_21) a1 b2 up7 i14 t96z t96 t97 t98 t142 t143 m8_0 m8_1 m8_2 m8_3z m8_3 m9_0 m9_1 m9_2 m9_3 m9_4 m10z m10 := by kernel_rfl
theorem L5_21_eq (a1 b2 : Int) (up7 : Bool) (i14 : Int) (t96z : Bool) (t96 : List T) (t97 t98 t142 t143 m8_0 m8_1 m8_2 : Int) (m8_3z : Bool) (m8_3 : List T) (m9_0 m9_1 m9_2 m9_3 m9_4 : Int) (m10z : Bool) (m10 : List T) : L5_21 a1 b2 up7 i14 t96z t96 t97 t98 t142 t143 m8_0 m8_1 m8_2 m8_3z m8_3 m9_0 m9_1 m9_2 m9_3 m9_4 m10z m10 = RL5_21 L5_12 L5_21 a1 b2 up7 i14 t96z t96 t97 t98 t142 t143 m8_0 m8_1 m8_2 m8_3z m8_3 m9_0 m9_1 m9_2 m9_3 m9_4 m10z m10 :=
  (congrArg (fun k => WL5_21 k a1 b2 up7 i14 t96z t96 t97 t98 t142 t143 m8_0 m8_1 m8_2 m8_3z m8_3 m9_0 m9_1 m9_2 m9_3 m9_4 m10z m10) (funext fun e => funext fun st => round_eq Try.prog hint (b := (nav (List.reverse (.lp :: PaL5_21)) (bodyOf Try.f5))) (fn := Try.f5) (nt := 168) (T := (Ta5 VL5_12 VL5_21)) [PaL5_12, PaL5_21] rfl PaL5_21 e st rfl rfl rfl)).trans (L5_21g VL5_12 VL5_21 a1 b2 up7 i14 t96z t96 t97 t98 t142 t143 m8_0 m8_1 m8_2 m8_3z m8_3 m9_0 m9_1 m9_2 m9_3 m9_4 m10z m10)
end Go.Proofs.Ytifkgdmiojnllaa.VM
