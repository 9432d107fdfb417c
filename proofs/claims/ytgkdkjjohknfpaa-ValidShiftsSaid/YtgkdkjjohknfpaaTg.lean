/- Merged: Th1 Th2. Conditions: none. -/
import Derived.Test.YtgkdkjjohknfpaaTe
set_option linter.all false
section
namespace Go.Proofs.Ytgkdkjjohknfpaa.VM
set_option linter.unusedSectionVars false
set_option linter.unusedVariables false
open Go AM
def backIx (i : Int) : List Int → Nat → Int
 | [], _ => -1
 | k :: l, j => bif decide (k ≤ i) then (j : Int) else backIx i l (j + 1)
theorem back_any (i : Int) : ∀ (l : List Int) (j : Nat), decide (0 ≤ backIx i l j) = l.any fun k => decide (k ≤ i)
 | [], _ => rfl
 | k :: l, j => by
  rw [List.any_cons, backIx]
  cases decide (k ≤ i) with
  | true => exact decide_eq_true (Int.natCast_nonneg j)
  | false => rw [cf, bFO]; exact back_any i l (j + 1)
theorem L57v1_spec (i : Int) (z : Bool) (ks : List Int) (hb : ks.length ≤ 1000) : ∀ (m j : Nat), m + j = ks.length →
  L57v1_2 z (ints ks) ((ks.length : Nat) : Int) (j : Int) i = some (.t (.int .i64 (backIx i (ks.drop j) j)), ⟨[(0, .var [.t (.int .i64 i)])], [500]⟩)
 | 0, j, h => by
  have d : decide ((j : Int) < ((ks.length : Nat) : Int)) = false := decide_eq_false (by omega)
  rw [L57v1_2_eq, RL57v1_2, d, cf, List.drop_of_length_le (by omega)]
  rfl
 | m + 1, j, h => by
  have d : decide ((j : Int) < ((ks.length : Nat) : Int)) = true := decide_eq_true (by omega)
  have n0 : decide ((0 : Int) ≤ (j : Int)) = true := decide_eq_true (by omega)
  have hw : IntKind.i64.wrap ((j : Int) + 1) = ((j + 1 : Nat) : Int) := by rw [wrap64 (by omega) (by omega)]; simp
  have hlt : j < ks.length := by omega
  rw [L57v1_2_eq, RL57v1_2, d, ct, needC_true n0, Int.toNat_natCast, getT_at (ints_at hlt), asI_int, eq37, R37, callK_some, asT_t, asB_bool, consB_cons, asVar_var, consV_cons, asT_t, asI_int, endV_nil, endB_nil, hw, L57v1_spec i z ks hb m (j + 1) (by omega), List.drop_eq_getElem_cons hlt, backIx]
  cases decide (ks[j] ≤ i) <;> rfl
def backsB (x : Ins) (i : Int) : Bool := (nextL x i).any fun k => decide (k ≤ i)
theorem loops35 (x : Ins) (i : Int) : vr 35 0 [.t (.int .i64 i), .t (insT x)] e0 = some (.t (.bool (backsB x i)), e0) := by
 have hx := next17 x i
 have hl := next_len x i
 have h57 := L57v1_spec i (!(nextL x i).isEmpty) (nextL x i) (by omega) (nextL x i).length 0 (by omega)
 rw [List.drop_zero] at h57
 unfold backsB
 rw [← back_any i _ 0]
 unfold insT at hx ⊢
 rw [eq35, R35, hx, callK_some]
 unfold numsV
 rw [asT_t, asL_list, endB_nil, eq36v1, R36v1, eq57v1, R57v1, ints_len]
 have h0 : L57v1_2 (!(nextL x i).isEmpty) (ints (nextL x i)) ((nextL x i).length : Int) 0 i = L57v1_2 (!(nextL x i).isEmpty) (ints (nextL x i)) ((nextL x i).length : Int) ((0 : Nat) : Int) i := rfl
 rw [h0, h57]
 rfl
def placeL (p : Ins → Int → Bool) : List Ins → Fl → Nat → List Int
 | x :: L, o :: F, j => (bif o.isSome && p x (j : Int) then [(j : Int)] else []) ++ placeL p L F (j + 1)
 | _, _, _ => []
theorem places_cons (p : Ins → Int → Bool) (x : Ins) (L : List Ins) (o : Option Bt) (F : Fl) (j : Nat) : placeL p (x :: L) (o :: F) j = (bif o.isSome && p x (j : Int) then [(j : Int)] else []) ++ placeL p L F (j + 1) := rfl
theorem L34v1_spec (r a i : Int) (z : Bool) (L : List Ins) (F : Fl) (hF : F.length = L.length) (hb : L.length ≤ 400) : ∀ (m j : Nat) (oz : Bool) (out : List Int), m + j = L.length → out.length ≤ j → oz = !out.isEmpty →
  L34v1_2 z (L.map insT) ((L.length : Nat) : Int) (j : Int) r a i z (L.map insT) true (bitsL F) true (rchL F) oz (ints out) =
   some (numsV (out ++ placeL backsB (L.drop j) (F.drop j) j), ⟨flow0 r a i z (L.map insT) F, [500, 501, 502]⟩)
 | 0, j, oz, out, h, ho, hz => by
  have d : decide ((j : Int) < ((L.length : Nat) : Int)) = false := decide_eq_false (by omega)
  rw [L34v1_2_eq, RL34v1_2, d, cf, List.drop_of_length_le (by omega)]
  have : placeL backsB [] (F.drop j) j = [] := by unfold placeL; rfl
  rw [this, List.append_nil, hz]
 | m + 1, j, oz, out, h, ho, hz => by
  have d : decide ((j : Int) < ((L.length : Nat) : Int)) = true := decide_eq_true (by omega)
  have n0 : decide ((0 : Int) ≤ (j : Int)) = true := decide_eq_true (by omega)
  have n1 : decide ((j : Int) < ((rchL F).length : Int)) = true := decide_eq_true (by rw [rch_len]; omega)
  have hw : IntKind.i64.wrap ((j : Int) + 1) = ((j + 1 : Nat) : Int) := by rw [wrap64 (by omega) (by omega)]; simp
  have hlt : j < L.length := by omega
  have hltF : j < F.length := by omega
  have hg : (L.map insT)[j]? = some (insT L[j]) := by rw [List.getElem?_map, List.getElem?_eq_getElem hlt]; rfl
  have hx := loops35 L[j] (j : Int)
  have ih := fun oz' out' => L34v1_spec r a i z L F hF hb m (j + 1) oz' out' (by omega)
  rw [L34v1_2_eq, RL34v1_2, d, ct, needC_true n0, Int.toNat_natCast, getT_at hg, List.drop_eq_getElem_cons hlt, List.drop_eq_getElem_cons hltF, places_cons]
  unfold insT at hx ⊢
  rw [asA_agg, consT_cons, asI_int, consT_cons, asI_int, consT_cons, asI_int, consT_cons, asI_int, consT_cons, asI_int, endT_nil, n0, n1, bTA, needC_t, getT_at (rch_at (List.getElem?_eq_getElem hltF)), asB_bool, hw]
  cases (F[j]).isSome with
  | false =>
   rw [cf, bFA, cf, List.nil_append]
   exact ih oz out (by omega) hz
  | true =>
   rw [ct, bTA, hx, callK_some, asT_t, asB_bool, endB_nil]
   cases backsB L[j] (j : Int) with
   | false =>
    rw [cf, cf, List.nil_append]
    exact ih oz out (by omega) hz
   | true =>
    have hi : ints out ++ [T.int .i64 (j : Int)] = ints (out ++ [(j : Int)]) := by unfold ints; rw [List.map_append]; rfl
    rw [ct, ct, needC_true (app_ok (by rw [ints_len]; omega)), hi]
    have hh := ih (oz || true) (out ++ [(j : Int)]) (by rw [List.length_append]; simp only [List.length_cons, List.length_nil]; omega) (by rw [bOT]; cases out <;> rfl)
    rw [List.append_assoc] at hh
    exact hh
theorem places34 (r a i : Int) (z : Bool) (L : List Ins) (F : Fl) (hF : F.length = L.length) (hb : L.length ≤ 400) :
  vr 34 1 [.ptr 0 0 0, .fn 35 [] []] ⟨flow0 r a i z (L.map insT) F, []⟩ = some (numsV (placeL backsB L F 0), ⟨flow0 r a i z (L.map insT) F, [500, 501, 502]⟩) := by
 have h := L34v1_spec r a i z L F hF hb L.length 0 false [] (by omega) (Nat.le_refl _) rfl
 rw [List.drop_zero, List.drop_zero, List.nil_append] at h
 rw [eq34v1, R34v1, ← h, List.length_map]
 rfl
theorem loops10 (r a i : Int) (z : Bool) (L : List Ins) (hl : L.length ≤ 400) :
  (checkB r a i L = false ∧ vr 10 0 [.t (cdT r a i z L)] e0 = some (.tup [.t (.list 1 false []), .t (.int .i64 1)], e0)) ∨
  (checkB r a i L = true ∧ ∃ F, FlowOf L F ∧ vr 10 0 [.t (cdT r a i z L)] e0 = some (.tup [numsV (placeL backsB L F 0), .t (.int .i64 0)], e0)) := by
 rcases start33 r a i z L hl with ⟨h1, h2⟩ | ⟨h1, F, h2, h3⟩
 ·left
  refine ⟨h1, ?_⟩
  unfold cdT at h2 ⊢
  rw [eq10, R10, h2, callK_some]
  rfl
 ·right
  refine ⟨h1, F, h2, ?_⟩
  have hok := (check_iff r a i L).1 h1
  have hF := (FlowOf.closed (fine_of hok hl) (Nat.pos_of_ne_zero hok.len0) h2).1
  have hp := places34 r a i z L F hF hl
  have hf : fitsH (.tup [.nilp, (.t (.one (.int .i64)))]) [] (.tup [.ptr 500 0 0, .t (.int .i64 0)]) (flowS r a i z (L.map insT) F).blks = false := by rfl
  have hz : (!decide ((0 : Int) = 0)) = false := rfl
  unfold cdT at h3 ⊢
  rw [eq10, R10, h3, callK_some, hf, cf, asTup_tup, consV_cons, isPtr_ptr, consV_cons, asT_t, asI_int, endV_nil, consB_cons, asVar_var, consV_cons, asT_t, asI_int, consV_cons, asT_t, asI_int, consV_cons, asT_t, asI_int, consV_cons, asT_t, asL_list, consV_cons, isBuf_buf, consV_cons, isBuf_buf, endV_nil, consB_cons, asArr_arr, consB_cons, asArr_arr, endB_nil, hz, cf, hp, callK_some]
  unfold numsV
  rw [asT_t, asL_list, consB_cons, asVar_var, consV_cons, asT_t, asI_int, consV_cons, asT_t, asI_int, consV_cons, asT_t, asI_int, consV_cons, asT_t, asL_list, consV_cons, isBuf_buf, consV_cons, isBuf_buf, endV_nil, consB_cons, asArr_arr, consB_cons, asArr_arr, endB_nil]
end Go.Proofs.Ytgkdkjjohknfpaa.VM
end

section
namespace Go.Proofs.Ytgkdkjjohknfpaa.VM
set_option linter.unusedSectionVars false
set_option linter.unusedVariables false
open Go AM
def shI (by_ : Int) (x : Ins) : Ins :=
 ⟨x.op, bif decide ((shOf x.op).k0 = 4) then IntKind.i64.wrap (x.a + by_) else x.a, bif decide ((shOf x.op).k1 = 4) then IntKind.i64.wrap (x.b + by_) else x.b, bif decide ((shOf x.op).k2 = 4) then IntKind.i64.wrap (x.c + by_) else x.c, x.n⟩
def jumps (n : Nat) : List Ins := (List.range n).map fun j => ⟨10, ((j + 1 : Nat) : Int), 0, 0, 0⟩
theorem L18_12_spec (by_ : Int) (z : Bool) (l : List Ins) (hb : l.length ≤ 100000) (r a i : Int) (z8 : Bool) (l8 : List T) (x0 x1 x2 : Int) (z9 : Bool) (l9 : List T) : ∀ (m k : Nat) (acc : List Ins), m + k = l.length → acc.length ≤ 100000 + k →
  L21_12 by_ z (l.map insT) ((l.map insT).length : Int) (k : Int) r a i z8 l8 x0 x1 x2 z9 l9 true (acc.map insT) = some (.tup [.t (cdT r a i true (acc ++ (l.drop k).map (shI by_))), .t (.int .i64 0)], e0)
 | 0, k, acc, h, ha => by
  have d : decide ((k : Int) < ((l.map insT).length : Int)) = false := decide_eq_false (by rw [List.length_map]; omega)
  rw [L21_12_eq, RL21_12, d, cf, List.drop_of_length_le (by omega), List.map_nil, List.append_nil]
  rfl
 | m + 1, k, acc, h, ha => by
  have hk : k < l.length := by omega
  have d : decide ((k : Int) < ((l.map insT).length : Int)) = true := decide_eq_true (by rw [List.length_map]; omega)
  have n0 : decide ((0 : Int) ≤ (k : Int)) = true := decide_eq_true (by omega)
  have hw : IntKind.i64.wrap ((k : Int) + 1) = ((k + 1 : Nat) : Int) := by rw [wrap64 (by omega) (by omega)]; simp
  have n1 : (decide (((acc.map insT).length + 1) * (40 + 1) ≤ 70368744177664) && decide (40 ≤ 1048576)) = true := by rw [decide_eq_true (by rw [List.length_map]; omega)]; rfl
  have e : insT l[k] = .agg [.int .i64 l[k].op, .int .i64 l[k].a, .int .i64 l[k].b, .int .i64 l[k].c, .int .i64 l[k].n] := rfl
  have ih := L18_12_spec by_ z l hb r a i z8 l8 x0 x1 x2 z9 l9 m (k + 1) (acc ++ [shI by_ l[k]]) (by omega) (by simp; omega)
  rw [List.append_assoc, List.singleton_append, ← List.map_cons (f := shI by_), ← List.drop_eq_getElem_cons hk, List.map_append] at ih
  rw [L21_12_eq, RL21_12, d, ct, needC_true n0, Int.toNat_natCast, ins_at hk, e, asA_agg, consT_cons, asI_int, consT_cons, asI_int, consT_cons, asI_int, consT_cons, asI_int, consT_cons, asI_int, endT_nil, of38, callK_some, ← ih]
  unfold shI shT
  dsimp only [List.map_cons, List.map_nil, insT]
  rw [asTup_tup, consV_cons, asT_t, asA_agg, consT_cons, asS_str, consT_cons, asI_int, consT_cons, asI_int, consT_cons, asI_int, endT_nil, consV_cons, asT_t, asB_bool, endV_nil, endB_nil]
  rw [eq42, R42, callK_some, asG_agg, consV_cons, isPtr_ptr, consV_cons, isPtr_ptr, consV_cons, isPtr_ptr, endV_nil, consB_cons, asVar_var, consV_cons, asT_t, asI_int, consV_cons, asT_t, asI_int, consV_cons, asT_t, asI_int, consV_cons, asT_t, asI_int, consV_cons, asT_t, asI_int, endV_nil, endB_nil]
  simp only [needC_true n1, hw, bOT]
  cases decide ((shOf l[k].op).k0 = 4) <;> cases decide ((shOf l[k].op).k1 = 4) <;> cases decide ((shOf l[k].op).k2 = 4) <;> rfl
theorem jumps_succ (n : Nat) : jumps (n + 1) = jumps n ++ [⟨10, ((n + 1 : Nat) : Int), 0, 0, 0⟩] := by
 unfold jumps; rw [List.range_succ, List.map_append]; rfl
theorem jumps_len (n : Nat) : (jumps n).length = n := by unfold jumps; simp
theorem L18_7_spec (n : Nat) (hn : n ≤ 4096) (z : Bool) (l : List Ins) (hb : l.length ≤ 100000) (r a i : Int) (x0 x1 x2 : Int) (z9 : Bool) (l9 : List T) : ∀ (m k : Nat), m + k = n →
  L21_7 (n : Int) (n : Int) (k : Int) r a i z (l.map insT) x0 x1 x2 z9 l9 true ((jumps k).map insT ++ List.replicate m (.agg [.int .i64 0, .int .i64 0, .int .i64 0, .int .i64 0, .int .i64 0])) =
   some (.tup [.t (cdT r a i true (jumps n ++ l.map (shI (n : Int)))), .t (.int .i64 0)], e0)
 | 0, k, h => by
  have : k = n := by omega
  subst this
  have d : decide ((k : Int) < (k : Int)) = false := decide_eq_false (by omega)
  have hs := L18_12_spec (k : Int) z l hb r a i z (l.map insT) x0 x1 x2 z9 l9 l.length 0 (jumps k) (by omega) (by rw [jumps_len]; omega)
  have h00 : ((0 : Nat) : Int) = 0 := rfl
  rw [h00, List.drop_zero] at hs
  rw [L21_7_eq, RL21_7, d, cf, List.replicate_zero, List.append_nil]
  exact hs
 | m + 1, k, h => by
  have d : decide ((k : Int) < (n : Int)) = true := decide_eq_true (by omega)
  have hlen : ((jumps k).map insT ++ List.replicate (m + 1) (T.agg [.int .i64 0, .int .i64 0, .int .i64 0, .int .i64 0, .int .i64 0])).length = n := by rw [List.length_append, List.length_map, jumps_len, List.length_replicate]; omega
  have n0 : (decide (0 ≤ (k : Int)) && decide ((k : Int) < (((jumps k).map insT ++ List.replicate (m + 1) (T.agg [.int .i64 0, .int .i64 0, .int .i64 0, .int .i64 0, .int .i64 0])).length : Int))) = true := by rw [hlen, decide_eq_true (by omega), decide_eq_true (by omega)]; rfl
  have hw : IntKind.i64.wrap ((k : Int) + 1) = ((k + 1 : Nat) : Int) := by rw [wrap64 (by omega) (by omega)]; simp
  have hset : ((jumps k).map insT ++ List.replicate (m + 1) (T.agg [.int .i64 0, .int .i64 0, .int .i64 0, .int .i64 0, .int .i64 0])).set k (.agg [.int .i64 10, .int .i64 ((k + 1 : Nat) : Int), .int .i64 0, .int .i64 0, .int .i64 0]) = (jumps (k + 1)).map insT ++ List.replicate m (T.agg [.int .i64 0, .int .i64 0, .int .i64 0, .int .i64 0, .int .i64 0]) := by
   rw [List.set_append_right _ _ (by rw [List.length_map, jumps_len]; omega), List.length_map, jumps_len, Nat.sub_self, List.replicate_succ, List.set_cons_zero, jumps_succ, List.map_append, List.append_assoc]
   rfl
  rw [L21_7_eq, RL21_7, d, ct, needC_true n0, bTA, needC_t, hw, Int.toNat_natCast, setT_at _ (by rw [hlen]; omega), hset]
  exact L18_7_spec n hn z l hb r a i x0 x1 x2 z9 l9 m (k + 1) (by omega)
def shiftV (r a i : Int) (l : List Ins) (by_ : Int) : V :=
 bif !checkB r a i l || (decide (by_ < 0) || decide (4096 < by_)) then .tup [.t code0, .t (.int .i64 1)] else
 bif decide (4096 < (l.length : Int) + by_) then .tup [.t code0, .t (.int .i64 2)] else .tup [.t (cdT r a i true (jumps by_.toNat ++ l.map (shI by_))), .t (.int .i64 0)]
theorem shift18 (r a i : Int) (z : Bool) (l : List Ins) (by_ : Int) : vr 21 0 [.t (cdT r a i z l), .t (.int .i64 by_)] e0 = some (shiftV r a i l by_, e0) := by
 have hc := check14 r a i z l
 unfold cdT at hc ⊢
 rw [eq21, R21, hc, callK_some, asT_t, asI_int, endB_nil]
 unfold shiftV
 cases hcb : checkB r a i l with
 | false => rfl
 | true =>
  have h := (check_iff r a i l).1 hcb
  have d0 : decide ((bif true then (0 : Int) else 1) = 0) = true := rfl
  rw [d0, bNT, cf, bFO]
  by_cases h1 : by_ < 0
  ·rw [decide_eq_true h1, ct, bTO, ct]
  ·rw [decide_eq_false h1, cf, bFO]
   by_cases h2 : 4096 < by_
   ·rw [decide_eq_true h2, ct, ct]
   ·have hlen := h.len
    have hl : ((l.map insT).length : Int) = (l.length : Int) := by rw [List.length_map]
    have w1 : IntKind.i64.wrap ((l.length : Int) + by_) = (l.length : Int) + by_ := wrap64 (by omega) (by omega)
    have w2 : IntKind.i64.wrap (by_ + (l.length : Int)) = by_ + (l.length : Int) := wrap64 (by omega) (by omega)
    rw [decide_eq_false h2, cf, cf, hl, w1, w2]
    by_cases h3 : 4096 < (l.length : Int) + by_
    ·rw [decide_eq_true h3, ct, ct]
    ·rw [decide_eq_false h3, cf, cf, needC_true (by rw [decide_eq_true (by omega), decide_eq_true (by omega), decide_eq_true (by omega)]; rfl)]
     obtain ⟨n, rfl⟩ := Int.eq_ofNat_of_zero_le (by omega : 0 ≤ by_)
     have hs := L18_7_spec n (by omega) z l (by omega) r a i 0 0 0 false [] n 0 (by omega)
     rw [List.length_replicate, Int.toNat_natCast]
     exact hs
theorem lim_grow {r a n m k : Int} (h : n ≤ m) : lim r a n k ≤ lim r a m k := by
 unfold lim
 split
 ·omega
 ·split
  ·omega
  ·split <;> omega
theorem wrap_small {v b : Int} (h1 : 0 ≤ v) (h2 : v < 5000) (h3 : 0 ≤ b) (h4 : b ≤ 5000) : IntKind.i64.wrap (v + b) = v + b := wrap64 (by omega) (by omega)
theorem lim4 (r a n : Int) : lim r a n 4 = n := rfl
theorem fld_shift {r a n m v b k : Int} (hn : n ≤ 4096) (hb0 : 0 ≤ b) (hb1 : b ≤ 4096) (hm : m = n + b) (h : fldOk v (lim r a n k) = true) : fldOk (bif decide (k = 4) then IntKind.i64.wrap (v + b) else v) (lim r a m k) = true := by
 rw [fldOk_iff] at h ⊢
 by_cases h4 : k = 4
 ·subst h4
  rw [lim4] at h ⊢
  rw [decide_eq_true rfl, ct, wrap_small h.1 (by omega) hb0 (by omega)]
  omega
 ·rw [decide_eq_false h4, cf]
  have := lim_grow (r := r) (a := a) (n := n) (m := m) (k := k) (by omega)
  omega
theorem may_shift {r a n m b : Int} {x : Ins} (hn : n ≤ 4096) (hb0 : 0 ≤ b) (hb1 : b ≤ 4096) (hm : m = n + b) (h : mayB r a n x = true) : mayB r a m (shI b x) = true := by
 unfold mayB at h ⊢
 simp only [Bool.and_eq_true] at h ⊢
 exact ⟨h.1, fld_shift hn hb0 hb1 hm h.2.1, fld_shift hn hb0 hb1 hm h.2.2.1, fld_shift hn hb0 hb1 hm h.2.2.2.1, h.2.2.2.2⟩
theorem may_jump {r a n : Int} {j : Nat} (h : ((j + 1 : Nat) : Int) < n) : mayB r a n ⟨10, ((j + 1 : Nat) : Int), 0, 0, 0⟩ = true := by
 unfold mayB
 have e1 : (shOf 10).k0 = 4 := rfl
 have e2 : (shOf 10).k1 = 0 := rfl
 have e3 : (shOf 10).k2 = 0 := rfl
 have e4 : isOp 10 = true := rfl
 simp only [Bool.and_eq_true]
 refine ⟨e4, ?_, ?_, ?_, ?_⟩
 ·rw [e1, fldOk_iff, lim4]; omega
 ·rw [e2, fldOk_iff]; show (0 : Int) ≤ 0 ∧ (0 : Int) < 1; omega
 ·rw [e3, fldOk_iff]; show (0 : Int) ≤ 0 ∧ (0 : Int) < 1; omega
 ·rw [e2]; rfl
theorem okc_shift {r a i : Int} {l : List Ins} (h : Okc r a i l) (n : Nat) (hn : l.length + n ≤ 4096) : Okc r a i (jumps n ++ l.map (shI (n : Int))) := by
 have hlen : (jumps n ++ l.map (shI (n : Int))).length = n + l.length := by rw [List.length_append, jumps_len, List.length_map]
 have hl0 := h.len0
 refine ⟨h.r0, h.r1, h.a0, h.a1, h.i0, h.i1, by omega, by omega, fun x hx => ?_, fun x hx => ?_⟩
 ·rw [hlen]
  rcases List.mem_append.1 hx with hx | hx
  ·unfold jumps at hx
   obtain ⟨j, hj, rfl⟩ := List.mem_map.1 hx
   have := List.mem_range.1 hj
   exact may_jump (by omega)
  ·obtain ⟨y, hy, rfl⟩ := List.mem_map.1 hx
   exact may_shift (n := (l.length : Int)) (by have := h.len; omega) (by omega) (by omega) (by omega) (h.may y hy)
 ·cases hl : l.getLast? with
  | none => rw [List.getLast?_eq_none_iff] at hl; subst hl; simp at hl0
  | some y =>
   rw [List.getLast?_append, List.getLast?_map, hl] at hx
   have hx : shI (n : Int) y = x := by simpa using hx
   subst hx
   exact h.last y hl
theorem reads_shift (b : Int) (x : Ins) : readsL (shI b x) = readsL x := by
 unfold readsL
 have e : (shI b x).op = x.op := rfl
 rw [e]
 have one : ∀ k v : Int, cond1 (decide (k = 2)) (bif decide (k = 4) then IntKind.i64.wrap (v + b) else v) = cond1 (decide (k = 2)) v := by
  intro k v
  by_cases h2 : k = 2
  ·subst h2; rfl
  ·rw [decide_eq_false h2]; rfl
 show cond1 (decide ((shOf x.op).k0 = 2)) (bif decide ((shOf x.op).k0 = 4) then IntKind.i64.wrap (x.a + b) else x.a) ++ (cond1 (decide ((shOf x.op).k1 = 2)) (bif decide ((shOf x.op).k1 = 4) then IntKind.i64.wrap (x.b + b) else x.b) ++ cond1 (decide ((shOf x.op).k2 = 2)) (bif decide ((shOf x.op).k2 = 4) then IntKind.i64.wrap (x.c + b) else x.c)) = _
 rw [one, one, one]
theorem writes_shift (b : Int) (x : Ins) : writesB (shI b x) = writesB x ∧ (bif writesB x then (shI b x).a else 0) = bif writesB x then x.a else 0 := by
 refine ⟨rfl, ?_⟩
 unfold writesB
 by_cases h1 : (shOf x.op).k0 = 1
 ·rw [decide_eq_true h1, ct, ct]
  show (bif decide ((shOf x.op).k0 = 4) then IntKind.i64.wrap (x.a + b) else x.a) = x.a
  rw [h1]
  rfl
 ·rw [decide_eq_false h1, cf, cf]
theorem next_shift {r a n : Int} {x : Ins} (h : mayB r a n x = true) (hn : n ≤ 4096) {b at_ : Int} (hb0 : 0 ≤ b) (hb1 : b ≤ 5000) (ha0 : 0 ≤ at_) (ha1 : at_ ≤ 5000) : (nextL x at_).map (fun v => IntKind.i64.wrap (v + b)) = nextL (shI b x) (b + at_) := by
 obtain ⟨h0, h1, h2, h3⟩ := fld_split r a n x h
 rw [fldOk_iff] at h1 h3
 have w1 : IntKind.i64.wrap (IntKind.i64.wrap (at_ + 1) + b) = IntKind.i64.wrap (b + at_ + 1) := by rw [wrap64 (n := at_ + 1) (by omega) (by omega), wrap64 (by omega) (by omega), wrap64 (by omega) (by omega)]; omega
 unfold nextL
 have e : (shI b x).op = x.op := rfl
 rw [e, h0, bNT, bFO]
 by_cases e0 : x.op = 0
 ·rw [decide_eq_true e0, ct, ct]; rfl
 ·rw [decide_eq_false e0, cf, cf]
  by_cases e10 : x.op = 10
  ·rw [decide_eq_true e10, ct, ct]
   have : (shI b x).a = IntKind.i64.wrap (x.a + b) := by
    show (bif decide ((shOf x.op).k0 = 4) then IntKind.i64.wrap (x.a + b) else x.a) = _
    rw [e10]
    rfl
   rw [this]
   rfl
  ·rw [decide_eq_false e10, cf, cf]
   by_cases e11 : x.op = 11 ∨ x.op = 12
   ·have hd : (decide (x.op = 11) || decide (x.op = 12)) = true := by simpa using e11
    rw [hd, ct, ct]
    have : (shI b x).c = IntKind.i64.wrap (x.c + b) := by
     show (bif decide ((shOf x.op).k2 = 4) then IntKind.i64.wrap (x.c + b) else x.c) = _
     rcases e11 with e | e <;> rw [e] <;> rfl
    rw [this, List.map_cons, List.map_cons, List.map_nil, w1]
   ·have hd : (decide (x.op = 11) || decide (x.op = 12)) = false := by simpa [not_or] using e11
    rw [hd, cf, cf, List.map_cons, List.map_nil, w1]
end Go.Proofs.Ytgkdkjjohknfpaa.VM
end
