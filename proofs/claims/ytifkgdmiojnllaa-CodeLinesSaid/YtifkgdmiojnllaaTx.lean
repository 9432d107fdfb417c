/- Merged: Tx1. Conditions: none. -/
import Derived.Test.YtifkgdmiojnllaaJd
import Derived.Test.YtifkgdmiojnllaaRd
set_option linter.all false
section
namespace Go.Proofs.Ytifkgdmiojnllaa.VM
set_option linter.unusedSectionVars false
set_option linter.unusedVariables false
open Go AM
def numT (n : Int) : List T := bif decide (n < 0) then [tokT ⟨#[45]⟩ 3 0, tokT ⟨⟨digL (0 - n)⟩⟩ 2 (0 - n)] else [tokT ⟨⟨digL n⟩⟩ 2 n]
def fldW (k f n : Int) : List T :=
 if k = 1 ∨ k = 2 then [tokT ⟨⟨114 :: digL f⟩⟩ 1 0] else if k = 3 then [tokT ⟨⟨97 :: digL f⟩⟩ 1 0] else if k = 4 then numT f else if k = 5 then numT n else []
def insW (x : Ins) : List T := tokT ⟨⟨(shOf x.op).w⟩⟩ 1 0 :: (fldW (shOf x.op).k0 x.a x.n ++ (fldW (shOf x.op).k1 x.b x.n ++ fldW (shOf x.op).k2 x.c x.n))
def codeW (r a i : Int) (l : List Ins) : List T := tokT ⟨#[99, 111, 100, 101]⟩ 1 0 :: (numT r ++ (numT a ++ numT i)) ++ l.flatMap fun x => lineT :: insW x
theorem fldW_1 (f n : Int) : fldW 1 f n = [tokT ⟨⟨114 :: digL f⟩⟩ 1 0] := by unfold fldW; simp
theorem fldW_2 (f n : Int) : fldW 2 f n = [tokT ⟨⟨114 :: digL f⟩⟩ 1 0] := by unfold fldW; simp
theorem fldW_3 (f n : Int) : fldW 3 f n = [tokT ⟨⟨97 :: digL f⟩⟩ 1 0] := by unfold fldW; simp
theorem fldW_4 (f n : Int) : fldW 4 f n = numT f := by unfold fldW; simp
theorem fldW_5 (f n : Int) : fldW 5 f n = numT n := by unfold fldW; simp
theorem fldW_o {k : Int} (h1 : ¬ k = 1) (h2 : ¬ k = 2) (h3 : ¬ k = 3) (h4 : ¬ k = 4) (h5 : ¬ k = 5) (f n : Int) : fldW k f n = [] := by unfold fldW; rw [if_neg (by omega), if_neg h3, if_neg h4, if_neg h5]
def I64 (n : Int) : Prop := -9223372036854775807 ≤ n ∧ n < 9223372036854775808
theorem room3 {n : Nat} (h : n ≤ 1000000) : (decide ((n + 1) * (32 + 1) ≤ 70368744177664) && decide (32 ≤ 1048576)) = true := by
 rw [decide_eq_true (by omega)]
 rfl
theorem number41 (n : Int) (hn : I64 n) (z : Bool) (m : List T) (hm : m.length ≤ 900000) : vr 41 0 [.buf 0, .t (.int .i64 n)] ⟨[(0, .arr true 3 z m)], []⟩ = some (.buf 500, ⟨[(500, .arr true 3 true (m ++ numT n))], [500]⟩) := by
 obtain ⟨h1, h2⟩ := hn
 rw [eq41, R41]
 unfold numT
 by_cases h : n < 0
 ·have hw : IntKind.i64.wrap (0 - n) = 0 - n := wrap64 (by omega) (by omega)
  rw [decide_eq_true h, ct, ct, needC_true (room3 (by omega)), hw, digits17 _ (by omega) (by omega), callK_some, asT_t, asS_str, endB_nil, needC_true (room3 (by rw [List.length_append]; simp; omega)), Bool.or_true, List.append_assoc]
  rfl
 ·rw [decide_eq_false h, cf, cf, digits17 _ (by omega) (by omega), callK_some, asT_t, asS_str, endB_nil, needC_true (room3 (by omega)), Bool.or_true]
  rfl
theorem dig_size (n : Int) (hn : I64 n) : (⟨⟨digL n⟩⟩ : ByteArray).size ≤ 40 := by
 have h : (digL n).length ≤ 40 := by
  obtain ⟨h1, h2⟩ := hn
  have h3 := revD_len 29 n.natAbs (by omega)
  unfold digL digs
  rw [List.length_append, List.length_reverse]
  cases decide (n < 0) <;> simp <;> omega
 exact h
theorem cat_pre (c : UInt8) (n : Int) (hn : I64 n) {R : Type} (K : ByteArray → Option R) : catC ⟨#[c]⟩ ⟨⟨digL n⟩⟩ K = K ⟨⟨c :: digL n⟩⟩ := by
 have h1 := dig_size n hn
 have h2 : (⟨#[c]⟩ : ByteArray).size = 1 := rfl
 rw [cat_some (by omega)]
 have e : (⟨#[c]⟩ : ByteArray) ++ ⟨⟨digL n⟩⟩ = ⟨⟨c :: digL n⟩⟩ := by
  have := app_list ⟨#[c]⟩ ⟨⟨digL n⟩⟩
  have h3 : ((⟨#[c]⟩ : ByteArray) ++ ⟨⟨digL n⟩⟩).data.toList = c :: digL n := this
  generalize (⟨#[c]⟩ : ByteArray) ++ ⟨⟨digL n⟩⟩ = s at h3
  obtain ⟨⟨l⟩⟩ := s
  have : l = c :: digL n := h3
  rw [this]
 rw [e]
theorem RT_4 (z : Bool) (l : List T) (t t2 : Int) (m : List T) (hm : m.length ≤ 800000) (x0 x1 x2 x3 x4 : Int) (hf : I64 x1) (h4 : I64 x4) (w : ByteArray) (k0 k1 k2 : Int) :
  RH21_16_4 L21_11 z l t t2 true m x0 x1 x2 x3 x4 w k0 k1 k2 = RH21_16_3 L21_11 z l t t2 true (m ++ fldW k0 x1 x4) x0 x1 x2 x3 x4 w k0 k1 k2 := by
 rw [RH21_16_4]
 by_cases g1 : k0 = 1
 ·rw [decide_eq_true g1, ct]
  subst g1
  rw [fldW_1, digits17 _ (by have := hf.1; omega) hf.2, callK_some, asT_t, asS_str, endB_nil, cat_pre _ _ hf, needC_true (room3 (by omega)), Bool.true_or]
  rfl
 by_cases g2 : k0 = 2
 ·rw [decide_eq_false g1, cf, decide_eq_true g2, ct]
  subst g2
  rw [fldW_2, digits17 _ (by have := hf.1; omega) hf.2, callK_some, asT_t, asS_str, endB_nil, cat_pre _ _ hf, needC_true (room3 (by omega)), Bool.true_or]
  rfl
 by_cases g3 : k0 = 3
 ·rw [decide_eq_false g1, cf, decide_eq_false g2, cf, decide_eq_true g3, ct]
  subst g3
  rw [fldW_3, digits17 _ (by have := hf.1; omega) hf.2, callK_some, asT_t, asS_str, endB_nil, cat_pre _ _ hf, needC_true (room3 (by omega)), Bool.true_or]
  rfl
 by_cases g4 : k0 = 4
 ·rw [decide_eq_false g1, cf, decide_eq_false g2, cf, decide_eq_false g3, cf, decide_eq_true g4, ct]
  subst g4
  rw [fldW_4, number41 _ hf true m (by omega), callK_some, isBuf_buf, consB_cons, asArr_arr, endB_nil]
 by_cases g5 : k0 = 5
 ·rw [decide_eq_false g1, cf, decide_eq_false g2, cf, decide_eq_false g3, cf, decide_eq_false g4, cf, decide_eq_true g5, ct]
  subst g5
  rw [fldW_5, number41 _ h4 true m (by omega), callK_some, isBuf_buf, consB_cons, asArr_arr, endB_nil]
 rw [decide_eq_false g1, cf, decide_eq_false g2, cf, decide_eq_false g3, cf, decide_eq_false g4, cf, decide_eq_false g5, cf, fldW_o g1 g2 g3 g4 g5, List.append_nil]
theorem RT_3 (z : Bool) (l : List T) (t t2 : Int) (m : List T) (hm : m.length ≤ 800000) (x0 x1 x2 x3 x4 : Int) (hf : I64 x2) (h4 : I64 x4) (w : ByteArray) (k0 k1 k2 : Int) :
  RH21_16_3 L21_11 z l t t2 true m x0 x1 x2 x3 x4 w k0 k1 k2 = RH21_16_2 L21_11 z l t t2 true (m ++ fldW k1 x2 x4) x0 x1 x2 x3 x4 w k0 k1 k2 := by
 rw [RH21_16_3]
 by_cases g1 : k1 = 1
 ·rw [decide_eq_true g1, ct]
  subst g1
  rw [fldW_1, digits17 _ (by have := hf.1; omega) hf.2, callK_some, asT_t, asS_str, endB_nil, cat_pre _ _ hf, needC_true (room3 (by omega)), Bool.true_or]
  rfl
 by_cases g2 : k1 = 2
 ·rw [decide_eq_false g1, cf, decide_eq_true g2, ct]
  subst g2
  rw [fldW_2, digits17 _ (by have := hf.1; omega) hf.2, callK_some, asT_t, asS_str, endB_nil, cat_pre _ _ hf, needC_true (room3 (by omega)), Bool.true_or]
  rfl
 by_cases g3 : k1 = 3
 ·rw [decide_eq_false g1, cf, decide_eq_false g2, cf, decide_eq_true g3, ct]
  subst g3
  rw [fldW_3, digits17 _ (by have := hf.1; omega) hf.2, callK_some, asT_t, asS_str, endB_nil, cat_pre _ _ hf, needC_true (room3 (by omega)), Bool.true_or]
  rfl
 by_cases g4 : k1 = 4
 ·rw [decide_eq_false g1, cf, decide_eq_false g2, cf, decide_eq_false g3, cf, decide_eq_true g4, ct]
  subst g4
  rw [fldW_4, number41 _ hf true m (by omega), callK_some, isBuf_buf, consB_cons, asArr_arr, endB_nil]
 by_cases g5 : k1 = 5
 ·rw [decide_eq_false g1, cf, decide_eq_false g2, cf, decide_eq_false g3, cf, decide_eq_false g4, cf, decide_eq_true g5, ct]
  subst g5
  rw [fldW_5, number41 _ h4 true m (by omega), callK_some, isBuf_buf, consB_cons, asArr_arr, endB_nil]
 rw [decide_eq_false g1, cf, decide_eq_false g2, cf, decide_eq_false g3, cf, decide_eq_false g4, cf, decide_eq_false g5, cf, fldW_o g1 g2 g3 g4 g5, List.append_nil]
theorem RT_2 (z : Bool) (l : List T) (t t2 : Int) (m : List T) (hm : m.length ≤ 800000) (x0 x1 x2 x3 x4 : Int) (hf : I64 x3) (h4 : I64 x4) (w : ByteArray) (k0 k1 k2 : Int) :
  RH21_16_2 L21_11 z l t t2 true m x0 x1 x2 x3 x4 w k0 k1 k2 = RH21_16_1 L21_11 z l t t2 true (m ++ fldW k2 x3 x4) x0 x1 x2 x3 x4 w k0 k1 k2 := by
 rw [RH21_16_2]
 by_cases g1 : k2 = 1
 ·rw [decide_eq_true g1, ct]
  subst g1
  rw [fldW_1, digits17 _ (by have := hf.1; omega) hf.2, callK_some, asT_t, asS_str, endB_nil, cat_pre _ _ hf, needC_true (room3 (by omega)), Bool.true_or]
  rfl
 by_cases g2 : k2 = 2
 ·rw [decide_eq_false g1, cf, decide_eq_true g2, ct]
  subst g2
  rw [fldW_2, digits17 _ (by have := hf.1; omega) hf.2, callK_some, asT_t, asS_str, endB_nil, cat_pre _ _ hf, needC_true (room3 (by omega)), Bool.true_or]
  rfl
 by_cases g3 : k2 = 3
 ·rw [decide_eq_false g1, cf, decide_eq_false g2, cf, decide_eq_true g3, ct]
  subst g3
  rw [fldW_3, digits17 _ (by have := hf.1; omega) hf.2, callK_some, asT_t, asS_str, endB_nil, cat_pre _ _ hf, needC_true (room3 (by omega)), Bool.true_or]
  rfl
 by_cases g4 : k2 = 4
 ·rw [decide_eq_false g1, cf, decide_eq_false g2, cf, decide_eq_false g3, cf, decide_eq_true g4, ct]
  subst g4
  rw [fldW_4, number41 _ hf true m (by omega), callK_some, isBuf_buf, consB_cons, asArr_arr, endB_nil]
 by_cases g5 : k2 = 5
 ·rw [decide_eq_false g1, cf, decide_eq_false g2, cf, decide_eq_false g3, cf, decide_eq_false g4, cf, decide_eq_true g5, ct]
  subst g5
  rw [fldW_5, number41 _ h4 true m (by omega), callK_some, isBuf_buf, consB_cons, asArr_arr, endB_nil]
 rw [decide_eq_false g1, cf, decide_eq_false g2, cf, decide_eq_false g3, cf, decide_eq_false g4, cf, decide_eq_false g5, cf, fldW_o g1 g2 g3 g4 g5, List.append_nil]
def InsI (x : Ins) : Prop := I64 x.a ∧ I64 x.b ∧ I64 x.c ∧ I64 x.n
theorem fldW_len (k f n : Int) : (fldW k f n).length ≤ 2 := by
 unfold fldW numT
 split
 ·simp
 ·split
  ·simp
  ·split
   ·cases decide (f < 0) <;> simp
   ·split
    ·cases decide (n < 0) <;> simp
    ·simp
theorem insW_len (x : Ins) : (insW x).length ≤ 7 := by
 have a := fldW_len (shOf x.op).k0 x.a x.n
 have b := fldW_len (shOf x.op).k1 x.b x.n
 have c := fldW_len (shOf x.op).k2 x.c x.n
 unfold insW
 simp only [List.length_cons, List.length_append]
 omega
theorem fldW_tok (k f n : Int) : ∀ y ∈ fldW k f n, IsTok y := by
 intro y hy
 have num : ∀ m : Int, y ∈ numT m → IsTok y := by
  intro m hm
  unfold numT at hm
  cases hd : decide (m < 0) <;> rw [hd] at hm <;> simp at hm
  ·exact ⟨_, _, _, hm⟩
  ·rcases hm with h | h <;> exact ⟨_, _, _, h⟩
 unfold fldW at hy
 split at hy
 ·exact ⟨_, _, _, by simpa using hy⟩
 ·split at hy
  ·exact ⟨_, _, _, by simpa using hy⟩
  ·split at hy
   ·exact num _ hy
   ·split at hy
    ·exact num _ hy
    ·cases hy
theorem insW_tok (x : Ins) : ∀ y ∈ insW x, IsTok y := by
 intro y hy
 unfold insW at hy
 rcases List.mem_cons.1 hy with rfl | hy
 ·exact ⟨_, _, _, rfl⟩
 ·rcases List.mem_append.1 hy with hy | hy
  ·exact fldW_tok _ _ _ y hy
  ·rcases List.mem_append.1 hy with hy | hy
   ·exact fldW_tok _ _ _ y hy
   ·exact fldW_tok _ _ _ y hy
theorem L21_spec (z : Bool) (l : List Ins) (hi : ∀ x ∈ l, InsI x) (hb : l.length ≤ 50000) : ∀ (k i : Nat) (m : List T), k + i = l.length → m.length ≤ 100 + 8 * i → (∀ y ∈ m, IsTok y) →
  L21_11 z (l.map insT) (l.length : Int) (i : Int) true m = callK (vr 43 0 [.t (.list 3 true (m ++ (l.drop i).flatMap fun x => lineT :: insW x))] e0) fun V B => asTup V fun L => consV L fun V L => asT V fun X => asS X fun S => consV L fun V L => asT V fun X => asI .i64 X fun X => endV L <| endB B <| some (.tup [.t (.str S), .t (.int .i64 X)], e0)
 | 0, i, m, h, hm, ht => by
  have d : decide ((i : Int) < (l.length : Int)) = false := decide_eq_false (by omega)
  rw [L21_11_eq, RL21_11, d, cf, List.drop_of_length_le (by omega), List.flatMap_nil, List.append_nil]
 | k + 1, i, m, h, hm, ht => by
  have d : decide ((i : Int) < (l.length : Int)) = true := decide_eq_true (by omega)
  have n0 : decide ((0 : Int) ≤ (i : Int)) = true := decide_eq_true (by omega)
  have hw : IntKind.i64.wrap ((i : Int) + 1) = ((i + 1 : Nat) : Int) := by rw [wrap64 (by omega) (by omega)]; simp
  have hlt : i < l.length := by omega
  obtain ⟨x, hx⟩ : ∃ x, l[i]? = some x := ⟨l[i], List.getElem?_eq_getElem hlt⟩
  have hg : (l.map insT)[i]? = some (.agg [.int .i64 x.op, .int .i64 x.a, .int .i64 x.b, .int .i64 x.c, .int .i64 x.n]) := by rw [List.getElem?_map, hx]; rfl
  obtain ⟨ia, ib, ic, iN⟩ := hi x (List.mem_of_getElem? hx)
  have n1 : (decide ((m.length + 2) * (32 + 1) ≤ 70368744177664) && decide (32 ≤ 1048576)) = true := by rw [decide_eq_true (by omega)]; rfl
  have w0 := fldW_len (shOf x.op).k0 x.a x.n
  have w1 := fldW_len (shOf x.op).k1 x.b x.n
  rw [L21_11_eq, RL21_11, d, ct, needC_true n0, Int.toNat_natCast, getT_at hg, drop_at hx]
  rw [asA_agg, consT_cons, asI_int, consT_cons, asI_int, consT_cons, asI_int, consT_cons, asI_int, consT_cons, asI_int, endT_nil, of38, callK_some]
  generalize hs : shOf x.op = s
  unfold shT
  rw [asTup_tup, consV_cons, asT_t, asA_agg, consT_cons, asS_str, consT_cons, asI_int, consT_cons, asI_int, consT_cons, asI_int, endT_nil, consV_cons, asT_t, asB_bool, endV_nil, endB_nil, needC_true n1, eq39, R39, callK_some, asG_agg, consV_cons, isPtr_ptr, consV_cons, isPtr_ptr, consV_cons, isPtr_ptr, endV_nil, consB_cons, asVar_var]
  rw [consV_cons, asT_t, asI_int, consV_cons, asT_t, asI_int, consV_cons, asT_t, asI_int, consV_cons, asT_t, asI_int, consV_cons, asT_t, asI_int, endV_nil, endB_nil, Bool.true_or]
  rw [hs] at w0 w1
  have e0 : (m ++ ([.agg [.int .i64 4, .str ByteArray.empty, .int .i64 0], .agg [.int .i64 1, .str ⟨⟨s.w⟩⟩, .int .i64 0]] : List T)) = m ++ [lineT, tokT ⟨⟨s.w⟩⟩ 1 0] := rfl
  rw [e0, RT_4 _ _ _ _ _ (by simp; omega) _ _ _ _ _ ia iN, RT_3 _ _ _ _ _ (by simp; omega) _ _ _ _ _ ib iN, RT_2 _ _ _ _ _ (by simp; omega) _ _ _ _ _ ic iN, RH21_16_1, hw]
  have e1 : m ++ [lineT, tokT ⟨⟨s.w⟩⟩ 1 0] ++ fldW s.k0 x.a x.n ++ fldW s.k1 x.b x.n ++ fldW s.k2 x.c x.n = m ++ (lineT :: insW x) := by unfold insW; rw [hs]; simp
  rw [e1, L21_spec z l hi hb k (i + 1) (m ++ (lineT :: insW x)) (by omega) (by have := insW_len x; simp; omega) (fun y hy => by
   rcases List.mem_append.1 hy with hy | hy
   ·exact ht y hy
   ·rcases List.mem_cons.1 hy with rfl | hy
    ·exact ⟨_, _, _, rfl⟩
    ·exact insW_tok x y hy)]
  rw [List.flatMap_cons, List.append_assoc]
structure Okb (r a i : Int) (l : List Ins) : Prop where
 r0 : 0 ≤ r ∧ r ≤ 128
 a0 : 0 ≤ a ∧ a ≤ 128
 i0 : 0 ≤ i ∧ i ≤ 128
 len : 0 < l.length ∧ l.length ≤ 4096
 may : ∀ x ∈ l, mayB r a (l.length : Int) x = true
theorem okb_of {r a i : Int} {l : List Ins} (h : checkB r a i l = true) : Okb r a i l := by
 unfold checkB at h
 simp only [Bool.and_eq_true, decide_eq_true_eq, Bool.not_eq_true', decide_eq_false_iff_not, List.all_eq_true] at h
 obtain ⟨h1, h2, h3, h4, h5, h6, h7, h8, h9, _⟩ := h
 exact ⟨⟨h1, h2⟩, ⟨h3, h4⟩, ⟨h5, by omega⟩, ⟨by omega, h8⟩, h9⟩
theorem lim_le {r a n k : Int} (hr : r ≤ 128) (ha : a ≤ 128) (hn : n ≤ 4096) : lim r a n k ≤ 4096 := by
 unfold lim
 split
 ·omega
 ·split
  ·omega
  ·split <;> omega
theorem may_fld {r a n : Int} {x : Ins} (h : mayB r a n x = true) : isOp x.op = true ∧ (0 ≤ x.a ∧ x.a < lim r a n (shOf x.op).k0) ∧ (0 ≤ x.b ∧ x.b < lim r a n (shOf x.op).k1) ∧ (0 ≤ x.c ∧ x.c < lim r a n (shOf x.op).k2) ∧
  (((shOf x.op).k1 = 5 ∧ -1000000000000000000 < x.n ∧ x.n < 1000000000000000000) ∨ ((shOf x.op).k1 ≠ 5 ∧ x.n = 0)) := by
 unfold mayB fldOk at h
 simp only [Bool.and_eq_true, decide_eq_true_eq] at h
 obtain ⟨h1, h2, h3, h4, h5⟩ := h
 refine ⟨h1, h2, h3, h4, ?_⟩
 by_cases hk : (shOf x.op).k1 = 5
 ·rw [decide_eq_true hk] at h5
  simp only [cond_true, Bool.and_eq_true, decide_eq_true_eq] at h5
  exact .inl ⟨hk, h5.1, h5.2⟩
 ·rw [decide_eq_false hk] at h5
  simp only [cond_false, decide_eq_true_eq] at h5
  exact .inr ⟨hk, h5⟩
theorem may_ins {r a n : Int} {x : Ins} (hr : r ≤ 128) (ha : a ≤ 128) (hn : n ≤ 4096) (h : mayB r a n x = true) : InsI x := by
 obtain ⟨_, ⟨h1, h2⟩, ⟨h3, h4⟩, ⟨h5, h6⟩, h7⟩ := may_fld h
 have l0 := lim_le (k := (shOf x.op).k0) hr ha hn
 have l1 := lim_le (k := (shOf x.op).k1) hr ha hn
 have l2 := lim_le (k := (shOf x.op).k2) hr ha hn
 exact ⟨⟨by omega, by omega⟩, ⟨by omega, by omega⟩, ⟨by omega, by omega⟩, ⟨by rcases h7 with h | h <;> omega, by rcases h7 with h | h <;> omega⟩⟩
theorem text21 (r a i : Int) (z : Bool) (l : List Ins) (hk : checkB r a i l = true → joinOk ((codeW r a i l).map tkOf) = true) :
  vr 21 0 [.t (cdT r a i z l)] e0 = some (bif checkB r a i l then .tup [.t (.str ⟨(joinE ((codeW r a i l).map tkOf)).1.toArray⟩), .t (.int .i64 (joinE ((codeW r a i l).map tkOf)).2)] else .tup [.t (.str ByteArray.empty), .t (.int .i64 1)], e0) := by
 have hc := check14 r a i z l
 unfold cdT at hc ⊢
 rw [eq21, R21, hc, callK_some, asT_t, asI_int, endB_nil]
 cases hcb : checkB r a i l with
 | false => rfl
 | true =>
  have d0 : decide ((0 : Int) < (3 : Int)) = true := rfl
  have d1 : decide ((1 : Int) < (3 : Int)) = true := rfl
  have d2 : decide ((2 : Int) < (3 : Int)) = true := rfl
  have d3 : decide ((3 : Int) < (3 : Int)) = false := rfl
  have dk : decide ((0 : Int) = 0) = true := rfl
  have l3 : (l.map insT).length = l.length := by simp
  have ok := okb_of hcb
  have hr : I64 r := ⟨by have := ok.r0; omega, by have := ok.r0; omega⟩
  have ha : I64 a := ⟨by have := ok.a0; omega, by have := ok.a0; omega⟩
  have hi : I64 i := ⟨by have := ok.i0; omega, by have := ok.i0; omega⟩
  have hl : ∀ x ∈ l, InsI x := fun x hx => may_ins ok.r0.2 ok.a0.2 (by have := ok.len.2; omega) (ok.may x hx)
  have hb : l.length ≤ 50000 := by have := ok.len.2; omega
  rw [ct, dk, bNT, cf, d0, ct, number41 r hr true _ (by simp), callK_some, isBuf_buf, consB_cons, asArr_arr, endB_nil]
  have n3 : ∀ n : Int, (numT n).length ≤ 2 := fun n => by unfold numT; cases decide (n < 0) <;> simp
  have q1 := n3 r
  have q2 := n3 a
  have q3 := n3 i
  rw [d1, ct, number41 a ha true _ (by simp; omega), callK_some, isBuf_buf, consB_cons, asArr_arr, endB_nil]
  rw [d2, ct, number41 i hi true _ (by simp; omega), callK_some, isBuf_buf, consB_cons, asArr_arr, endB_nil]
  have tks : ∀ y ∈ tokT ⟨#[99, 111, 100, 101]⟩ 1 0 :: (numT r ++ (numT a ++ numT i)), IsTok y := by
   intro y hy
   have num : ∀ n : Int, y ∈ numT n → IsTok y := fun n hn => fldW_tok 5 0 n y (by rw [fldW_5]; exact hn)
   rcases List.mem_cons.1 hy with rfl | hy
   ·exact ⟨_, _, _, rfl⟩
   ·rcases List.mem_append.1 hy with hy | hy
    ·exact num _ hy
    ·rcases List.mem_append.1 hy with hy | hy
     ·exact num _ hy
     ·exact num _ hy
  have e1 : ([.agg [.int .i64 1, .str ⟨#[99, 111, 100, 101]⟩, .int .i64 0]] : List T) ++ numT r ++ numT a ++ numT i = tokT ⟨#[99, 111, 100, 101]⟩ 1 0 :: (numT r ++ (numT a ++ numT i)) := by rw [List.append_assoc, List.append_assoc]; rfl
  have hL := L21_spec z l hl hb l.length 0 (tokT ⟨#[99, 111, 100, 101]⟩ 1 0 :: (numT r ++ (numT a ++ numT i))) (by omega) (by simp; omega) tks
  rw [d3, cf, e1, l3]
  refine hL.trans ?_
  have hall : ∀ y ∈ codeW r a i l, IsTok y := by
   intro y hy
   unfold codeW at hy
   rcases List.mem_append.1 hy with hy | hy
   ·exact tks y hy
   ·obtain ⟨x, _, hy⟩ := List.mem_flatMap.1 hy
    rcases List.mem_cons.1 hy with rfl | hy
    ·exact ⟨_, _, _, rfl⟩
    ·exact insW_tok x y hy
  have e2 : (tokT ⟨#[99, 111, 100, 101]⟩ 1 0 :: (numT r ++ (numT a ++ numT i))) ++ (l.drop 0).flatMap (fun x => lineT :: insW x) = codeW r a i l := rfl
  rw [e2, join23 true _ hall (hk hcb), callK_some, asTup_tup, consV_cons, asT_t, asS_str, consV_cons, asT_t, asI_int, endV_nil, endB_nil, ct]
end Go.Proofs.Ytifkgdmiojnllaa.VM
end
