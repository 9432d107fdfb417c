/- Merged: Sb1 Sb2. Conditions: none. -/
import Derived.Test.YtifkgdmiojnllaaSa
set_option linter.all false
section
namespace Go.Proofs.Ytifkgdmiojnllaa.VM
set_option linter.unusedSectionVars false
open Go AM
def eqIns (x y : Ins) : Bool := decide (x.op = y.op) && (decide (x.a = y.a) && (decide (x.b = y.b) && (decide (x.c = y.c) && (decide (x.n = y.n) && true))))
theorem eqIns_iff (x y : Ins) : eqIns x y = true ↔ x = y := by
  obtain ⟨a, b, c, d, e⟩ := x
  obtain ⟨a', b', c', d', e'⟩ := y
  unfold eqIns
  simp [Ins.mk.injEq]
def eqLs : List Ins → List Ins → Bool
  | x :: xs, y :: ys => eqIns x y && eqLs xs ys
  | _, _ => true
def sameL (l m : List Ins) : Bool := decide (l.length = m.length) && eqLs l m
theorem eqLs_iff : ∀ (l m : List Ins), l.length = m.length → (eqLs l m = true ↔ l = m)
  | [], [], _ => by simp [eqLs]
  | [], _ :: _, h => by simp at h
  | _ :: _, [], h => by simp at h
  | x :: xs, y :: ys, h => by
    have ih := eqLs_iff xs ys (by simpa using h)
    unfold eqLs
    rw [Bool.and_eq_true, eqIns_iff, ih, List.cons.injEq]
theorem sameL_iff (l m : List Ins) : sameL l m = true ↔ l = m := by
  unfold sameL
  rw [Bool.and_eq_true, decide_eq_true_eq]
  constructor
  · rintro ⟨h1, h2⟩; exact (eqLs_iff l m h1).1 h2
  · rintro rfl; exact ⟨rfl, (eqLs_iff l l rfl).2 rfl⟩
theorem L40_spec (z1 z2 : Bool) (a b : List Ins) (hl : a.length = b.length) (hb : a.length ≤ 9223372036854775806) : ∀ (m k : Nat), m + k = a.length →
    L40_4 z1 (a.map insT) z2 (b.map insT) ((a.map insT).length : Int) (k : Int) = some (.t (.bool (eqLs (a.drop k) (b.drop k))), e0)
  | 0, k, h => by
    have d : decide ((k : Int) < ((a.map insT).length : Int)) = false := decide_eq_false (by rw [List.length_map]; omega)
    rw [L40_4_eq, RL40_4, d, cf, List.drop_of_length_le (by omega)]
    rfl
  | m + 1, k, h => by
    have hk : k < a.length := by omega
    have hk2 : k < b.length := by omega
    have d : decide ((k : Int) < ((a.map insT).length : Int)) = true := decide_eq_true (by rw [List.length_map]; omega)
    have n0 : decide ((0 : Int) ≤ (k : Int)) = true := decide_eq_true (by omega)
    have hw : IntKind.i64.wrap ((k : Int) + 1) = ((k + 1 : Nat) : Int) := by rw [wrap64 (by omega) (by omega)]; simp
    rw [L40_4_eq, RL40_4, d, ct, needC_true n0, Int.toNat_natCast, ins_at hk]
    unfold insT
    rw [asA_agg, consT_cons, asI_int, consT_cons, asI_int, consT_cons, asI_int, consT_cons, asI_int, consT_cons, asI_int, endT_nil, needC_true n0]
    have hg := ins_at (R := V × St) hk2
    unfold insT at hg
    have ih := L40_spec z1 z2 a b hl hb m (k + 1) (by omega)
    unfold insT at ih
    rw [hg, asA_agg, consT_cons, asI_int, consT_cons, asI_int, consT_cons, asI_int, consT_cons, asI_int, consT_cons, asI_int, endT_nil, hw, ih, List.drop_eq_getElem_cons hk, List.drop_eq_getElem_cons hk2]
    have e : eqLs (a[k] :: a.drop (k + 1)) (b[k] :: b.drop (k + 1)) = (eqIns a[k] b[k] && eqLs (a.drop (k + 1)) (b.drop (k + 1))) := rfl
    rw [e]
    unfold eqIns
    cases (decide (a[k].op = b[k].op) && (decide (a[k].a = b[k].a) && (decide (a[k].b = b[k].b) && (decide (a[k].c = b[k].c) && (decide (a[k].n = b[k].n) && true))))) with
    | true => rw [bNT, cf, bTA]
    | false => rw [bNF, ct, bFA]
theorem same19 (r a i r' a' i' : Int) (z z' : Bool) (l l' : List Ins) (hb : l.length ≤ 9223372036854775806) (hb' : l'.length ≤ 9223372036854775806) : vr 19 0 [.t (cdT r a i z l), .t (cdT r' a' i' z' l')] e0 = some (.t (.bool ((decide (r = r') && (decide (a = a') && (decide (i = i') && true))) && sameL l l')), e0) := by
  unfold cdT
  rw [eq19, R19]
  cases (decide (r = r') && (decide (a = a') && (decide (i = i') && true))) with
  | false => rfl
  | true =>
    have e1 : decide (((l.map insT).length : Int) = ((l'.map insT).length : Int)) = decide (l.length = l'.length) := decide_eq_decide.2 (by rw [List.length_map, List.length_map]; omega)
    rw [ct, bTA, eq40, R40, e1]
    unfold sameL
    by_cases h : l.length = l'.length
    · have hs := L40_spec z z' l l' h hb l.length 0 (by omega)
      have h00 : ((0 : Nat) : Int) = 0 := rfl
      rw [h00, List.drop_zero, List.drop_zero] at hs
      rw [decide_eq_true h, bNT, cf, hs, callK_some, asT_t, asB_bool, endB_nil, bTA]
    · rw [decide_eq_false h, bNF, ct, callK_some, asT_t, asB_bool, endB_nil, bFA]
theorem L20_self (z1 z2 : Bool) (a : List Int) (hb : a.length ≤ 9223372036854775806) : ∀ (m k : Nat), m + k = a.length →
    L20_4 z1 (ints a) z2 (ints a) ((ints a).length : Int) (k : Int) = some (.t (.bool true), e0)
  | 0, k, h => by
    have d : decide ((k : Int) < ((ints a).length : Int)) = false := decide_eq_false (by rw [List.length_map]; omega)
    rw [L20_4_eq, RL20_4, d, cf]
  | m + 1, k, h => by
    have hk : k < a.length := by omega
    have d : decide ((k : Int) < ((ints a).length : Int)) = true := decide_eq_true (by rw [List.length_map]; omega)
    have n0 : decide ((0 : Int) ≤ (k : Int)) = true := decide_eq_true (by omega)
    have hw : IntKind.i64.wrap ((k : Int) + 1) = ((k + 1 : Nat) : Int) := by rw [wrap64 (by omega) (by omega)]; simp
    have hg : (ints a)[k]? = some (.int .i64 a[k]) := by rw [List.getElem?_map, List.getElem?_eq_getElem hk]; rfl
    rw [L20_4_eq, RL20_4, d, ct, needC_true n0, Int.toNat_natCast, getT_at hg, asI_int, needC_true n0, getT_at hg, asI_int, decide_eq_true rfl, bNT, cf, hw]
    exact L20_self z1 z2 a hb m (k + 1) (by omega)
theorem equal20 (z1 z2 : Bool) (a : List Int) (hb : a.length ≤ 9223372036854775806) : vr 20 0 [.t (.list 1 z1 (ints a)), .t (.list 1 z2 (ints a))] e0 = some (.t (.bool true), e0) := by
  rw [eq20, R20, decide_eq_true rfl, bNT, cf]
  exact L20_self z1 z2 a hb a.length 0 (by omega)
/-- An instruction, put further on. -/
def shI (by_ : Int) (x : Ins) : Ins :=
  ⟨x.op, bif decide ((shOf x.op).k0 = 4) then IntKind.i64.wrap (x.a + by_) else x.a, bif decide ((shOf x.op).k1 = 4) then IntKind.i64.wrap (x.b + by_) else x.b, bif decide ((shOf x.op).k2 = 4) then IntKind.i64.wrap (x.c + by_) else x.c, x.n⟩
def jumps (n : Nat) : List Ins := (List.range n).map fun j => ⟨10, ((j + 1 : Nat) : Int), 0, 0, 0⟩
theorem L18_12_spec (by_ : Int) (z : Bool) (l : List Ins) (hb : l.length ≤ 100000) (r a i : Int) (z8 : Bool) (l8 : List T) (x0 x1 x2 : Int) (z9 : Bool) (l9 : List T) : ∀ (m k : Nat) (acc : List Ins), m + k = l.length → acc.length ≤ 100000 + k →
    L18_12 by_ z (l.map insT) ((l.map insT).length : Int) (k : Int) r a i z8 l8 x0 x1 x2 z9 l9 true (acc.map insT) = some (.tup [.t (cdT r a i true (acc ++ (l.drop k).map (shI by_))), .t (.int .i64 0)], e0)
  | 0, k, acc, h, ha => by
    have d : decide ((k : Int) < ((l.map insT).length : Int)) = false := decide_eq_false (by rw [List.length_map]; omega)
    rw [L18_12_eq, RL18_12, d, cf, List.drop_of_length_le (by omega), List.map_nil, List.append_nil]
    rfl
  | m + 1, k, acc, h, ha => by
    have hk : k < l.length := by omega
    have d : decide ((k : Int) < ((l.map insT).length : Int)) = true := decide_eq_true (by rw [List.length_map]; omega)
    have n0 : decide ((0 : Int) ≤ (k : Int)) = true := decide_eq_true (by omega)
    have hw : IntKind.i64.wrap ((k : Int) + 1) = ((k + 1 : Nat) : Int) := by rw [wrap64 (by omega) (by omega)]; simp
    have n1 : (decide (((acc.map insT).length + 1) * (40 + 1) ≤ 70368744177664) && decide (40 ≤ 1048576)) = true := by rw [decide_eq_true (by rw [List.length_map]; omega)]; rfl
    have e : insT l[k] = .agg [.int .i64 l[k].op, .int .i64 l[k].a, .int .i64 l[k].b, .int .i64 l[k].c, .int .i64 l[k].n] := rfl
    have ih := L18_12_spec by_ z l hb r a i z8 l8 x0 x1 x2 z9 l9 m (k + 1) (acc ++ [shI by_ l[k]]) (by omega) (by simp; omega)
    rw [List.append_assoc, List.singleton_append, ← List.map_cons (f := shI by_), ← List.drop_eq_getElem_cons hk, List.map_append] at ih
    rw [L18_12_eq, RL18_12, d, ct, needC_true n0, Int.toNat_natCast, ins_at hk, e, asA_agg, consT_cons, asI_int, consT_cons, asI_int, consT_cons, asI_int, consT_cons, asI_int, consT_cons, asI_int, endT_nil, of38, callK_some, ← ih]
    unfold shI shT
    dsimp only [List.map_cons, List.map_nil, insT]
    rw [asTup_tup, consV_cons, asT_t, asA_agg, consT_cons, asS_str, consT_cons, asI_int, consT_cons, asI_int, consT_cons, asI_int, endT_nil, consV_cons, asT_t, asB_bool, endV_nil, endB_nil]
    rw [eq39, R39, callK_some, asG_agg, consV_cons, isPtr_ptr, consV_cons, isPtr_ptr, consV_cons, isPtr_ptr, endV_nil, consB_cons, asVar_var, consV_cons, asT_t, asI_int, consV_cons, asT_t, asI_int, consV_cons, asT_t, asI_int, consV_cons, asT_t, asI_int, consV_cons, asT_t, asI_int, endV_nil, endB_nil]
    simp only [needC_true n1, hw, bOT]
    cases decide ((shOf l[k].op).k0 = 4) <;> cases decide ((shOf l[k].op).k1 = 4) <;> cases decide ((shOf l[k].op).k2 = 4) <;> rfl
theorem jumps_succ (n : Nat) : jumps (n + 1) = jumps n ++ [⟨10, ((n + 1 : Nat) : Int), 0, 0, 0⟩] := by
  unfold jumps; rw [List.range_succ, List.map_append]; rfl
theorem jumps_len (n : Nat) : (jumps n).length = n := by unfold jumps; simp
theorem L18_7_spec (n : Nat) (hn : n ≤ 4096) (z : Bool) (l : List Ins) (hb : l.length ≤ 100000) (r a i : Int) (x0 x1 x2 : Int) (z9 : Bool) (l9 : List T) : ∀ (m k : Nat), m + k = n →
    L18_7 (n : Int) (n : Int) (k : Int) r a i z (l.map insT) x0 x1 x2 z9 l9 true ((jumps k).map insT ++ List.replicate m (.agg [.int .i64 0, .int .i64 0, .int .i64 0, .int .i64 0, .int .i64 0])) =
      some (.tup [.t (cdT r a i true (jumps n ++ l.map (shI (n : Int)))), .t (.int .i64 0)], e0)
  | 0, k, h => by
    have : k = n := by omega
    subst this
    have d : decide ((k : Int) < (k : Int)) = false := decide_eq_false (by omega)
    have hs := L18_12_spec (k : Int) z l hb r a i z (l.map insT) x0 x1 x2 z9 l9 l.length 0 (jumps k) (by omega) (by rw [jumps_len]; omega)
    have h00 : ((0 : Nat) : Int) = 0 := rfl
    rw [h00, List.drop_zero] at hs
    rw [L18_7_eq, RL18_7, d, cf, List.replicate_zero, List.append_nil]
    exact hs
  | m + 1, k, h => by
    have d : decide ((k : Int) < (n : Int)) = true := decide_eq_true (by omega)
    have hlen : ((jumps k).map insT ++ List.replicate (m + 1) (T.agg [.int .i64 0, .int .i64 0, .int .i64 0, .int .i64 0, .int .i64 0])).length = n := by rw [List.length_append, List.length_map, jumps_len, List.length_replicate]; omega
    have n0 : (decide (0 ≤ (k : Int)) && decide ((k : Int) < (((jumps k).map insT ++ List.replicate (m + 1) (T.agg [.int .i64 0, .int .i64 0, .int .i64 0, .int .i64 0, .int .i64 0])).length : Int))) = true := by rw [hlen, decide_eq_true (by omega), decide_eq_true (by omega)]; rfl
    have hw : IntKind.i64.wrap ((k : Int) + 1) = ((k + 1 : Nat) : Int) := by rw [wrap64 (by omega) (by omega)]; simp
    have hset : ((jumps k).map insT ++ List.replicate (m + 1) (T.agg [.int .i64 0, .int .i64 0, .int .i64 0, .int .i64 0, .int .i64 0])).set k (.agg [.int .i64 10, .int .i64 ((k + 1 : Nat) : Int), .int .i64 0, .int .i64 0, .int .i64 0]) = (jumps (k + 1)).map insT ++ List.replicate m (T.agg [.int .i64 0, .int .i64 0, .int .i64 0, .int .i64 0, .int .i64 0]) := by
      rw [List.set_append_right _ _ (by rw [List.length_map, jumps_len]; omega), List.length_map, jumps_len, Nat.sub_self, List.replicate_succ, List.set_cons_zero, jumps_succ, List.map_append, List.append_assoc]
      rfl
    rw [L18_7_eq, RL18_7, d, ct, needC_true n0, bTA, needC_t, hw, Int.toNat_natCast, setT_at _ (by rw [hlen]; omega), hset]
    exact L18_7_spec n hn z l hb r a i x0 x1 x2 z9 l9 m (k + 1) (by omega)
/-- What code.Shift comes to. -/
def shiftV (r a i : Int) (l : List Ins) (by_ : Int) : V :=
  bif !checkB r a i l || (decide (by_ < 0) || decide (4096 < by_)) then .tup [.t code0, .t (.int .i64 1)] else
  bif decide (4096 < (l.length : Int) + by_) then .tup [.t code0, .t (.int .i64 2)] else .tup [.t (cdT r a i true (jumps by_.toNat ++ l.map (shI by_))), .t (.int .i64 0)]
theorem shift18 (r a i : Int) (z : Bool) (l : List Ins) (by_ : Int) : vr 18 0 [.t (cdT r a i z l), .t (.int .i64 by_)] e0 = some (shiftV r a i l by_, e0) := by
  have hc := check14 r a i z l
  unfold cdT at hc ⊢
  rw [eq18, R18, hc, callK_some, asT_t, asI_int, endB_nil]
  unfold shiftV
  cases hcb : checkB r a i l with
  | false => rfl
  | true =>
    have h := (check_iff r a i l).1 hcb
    have d0 : decide ((bif true then (0 : Int) else 1) = 0) = true := rfl
    rw [d0, bNT, cf, bFO]
    by_cases h1 : by_ < 0
    · rw [decide_eq_true h1, ct, bTO, ct]
    · rw [decide_eq_false h1, cf, bFO]
      by_cases h2 : 4096 < by_
      · rw [decide_eq_true h2, ct, ct]
      · have hlen := h.len
        have hl : ((l.map insT).length : Int) = (l.length : Int) := by rw [List.length_map]
        have w1 : IntKind.i64.wrap ((l.length : Int) + by_) = (l.length : Int) + by_ := wrap64 (by omega) (by omega)
        have w2 : IntKind.i64.wrap (by_ + (l.length : Int)) = by_ + (l.length : Int) := wrap64 (by omega) (by omega)
        rw [decide_eq_false h2, cf, cf, hl, w1, w2]
        by_cases h3 : 4096 < (l.length : Int) + by_
        · rw [decide_eq_true h3, ct, ct]
        · rw [decide_eq_false h3, cf, cf, needC_true (by rw [decide_eq_true (by omega), decide_eq_true (by omega), decide_eq_true (by omega)]; rfl)]
          obtain ⟨n, rfl⟩ := Int.eq_ofNat_of_zero_le (by omega : 0 ≤ by_)
          have hs := L18_7_spec n (by omega) z l (by omega) r a i 0 0 0 false [] n 0 (by omega)
          rw [List.length_replicate, Int.toNat_natCast]
          exact hs
end Go.Proofs.Ytifkgdmiojnllaa.VM
end

section
namespace Go.Proofs.Ytifkgdmiojnllaa.VM
set_option linter.unusedSectionVars false
open Go AM
theorem lim_grow {r a n m k : Int} (h : n ≤ m) : lim r a n k ≤ lim r a m k := by
  unfold lim
  split
  · omega
  · split
    · omega
    · split <;> omega
/-- A place in code that may be, put further on. -/
theorem wrap_small {v b : Int} (h1 : 0 ≤ v) (h2 : v < 5000) (h3 : 0 ≤ b) (h4 : b ≤ 5000) : IntKind.i64.wrap (v + b) = v + b := wrap64 (by omega) (by omega)
theorem lim4 (r a n : Int) : lim r a n 4 = n := rfl
theorem fld_shift {r a n m v b k : Int} (hn : n ≤ 4096) (hb0 : 0 ≤ b) (hb1 : b ≤ 4096) (hm : m = n + b) (h : fldOk v (lim r a n k) = true) : fldOk (bif decide (k = 4) then IntKind.i64.wrap (v + b) else v) (lim r a m k) = true := by
  rw [fldOk_iff] at h ⊢
  by_cases h4 : k = 4
  · subst h4
    rw [lim4] at h ⊢
    rw [decide_eq_true rfl, ct, wrap_small h.1 (by omega) hb0 (by omega)]
    omega
  · rw [decide_eq_false h4, cf]
    have := lim_grow (r := r) (a := a) (n := n) (m := m) (k := k) (by omega)
    omega
theorem may_shift {r a n m b : Int} {x : Ins} (hn : n ≤ 4096) (hb0 : 0 ≤ b) (hb1 : b ≤ 4096) (hm : m = n + b) (h : mayB r a n x = true) : mayB r a m (shI b x) = true := by
  unfold mayB at h ⊢
  simp only [Bool.and_eq_true] at h ⊢
  exact ⟨h.1, fld_shift hn hb0 hb1 hm h.2.1, fld_shift hn hb0 hb1 hm h.2.2.1, fld_shift hn hb0 hb1 hm h.2.2.2.1, h.2.2.2.2⟩
theorem may_jump {r a n : Int} {j : Nat} (h : ((j + 1 : Nat) : Int) < n) : mayB r a n ⟨10, ((j + 1 : Nat) : Int), 0, 0, 0⟩ = true := by
  unfold mayB
  have e1 : (shOf 10).k0 = 4 := rfl
  have e2 : (shOf 10).k1 = 0 := rfl
  have e3 : (shOf 10).k2 = 0 := rfl
  have e4 : isOp 10 = true := rfl
  simp only [Bool.and_eq_true]
  refine ⟨e4, ?_, ?_, ?_, ?_⟩
  · rw [e1, fldOk_iff, lim4]; omega
  · rw [e2, fldOk_iff]; show (0 : Int) ≤ 0 ∧ (0 : Int) < 1; omega
  · rw [e3, fldOk_iff]; show (0 : Int) ≤ 0 ∧ (0 : Int) < 1; omega
  · rw [e2]; rfl
theorem okc_shift {r a i : Int} {l : List Ins} (h : Okc r a i l) (n : Nat) (hn : l.length + n ≤ 4096) : Okc r a i (jumps n ++ l.map (shI (n : Int))) := by
  have hlen : (jumps n ++ l.map (shI (n : Int))).length = n + l.length := by rw [List.length_append, jumps_len, List.length_map]
  have hl0 := h.len0
  refine ⟨h.r0, h.r1, h.a0, h.a1, h.i0, h.i1, by omega, by omega, fun x hx => ?_, fun x hx => ?_⟩
  · rw [hlen]
    rcases List.mem_append.1 hx with hx | hx
    · unfold jumps at hx
      obtain ⟨j, hj, rfl⟩ := List.mem_map.1 hx
      have := List.mem_range.1 hj
      exact may_jump (by omega)
    · obtain ⟨y, hy, rfl⟩ := List.mem_map.1 hx
      exact may_shift (n := (l.length : Int)) (by have := h.len; omega) (by omega) (by omega) (by omega) (h.may y hy)
  · cases hl : l.getLast? with
    | none => rw [List.getLast?_eq_none_iff] at hl; subst hl; simp at hl0
    | some y =>
      rw [List.getLast?_append, List.getLast?_map, hl] at hx
      have hx : shI (n : Int) y = x := by simpa using hx
      subst hx
      exact h.last y hl
theorem shI_shI {r a n : Int} {x : Ins} (h : mayB r a n x = true) (hn : n ≤ 4096) {b c : Int} (hb0 : 0 ≤ b) (hb1 : b ≤ 1000) (hc0 : 0 ≤ c) (hc1 : c ≤ 1000) : shI c (shI b x) = shI (b + c) x := by
  obtain ⟨_, h1, h2, h3⟩ := fld_split r a n x h
  rw [fldOk_iff] at h1 h2 h3
  have one : ∀ k v : Int, 0 ≤ v → v < lim r a n k → (bif decide (k = 4) then IntKind.i64.wrap ((bif decide (k = 4) then IntKind.i64.wrap (v + b) else v) + c) else (bif decide (k = 4) then IntKind.i64.wrap (v + b) else v)) = bif decide (k = 4) then IntKind.i64.wrap (v + (b + c)) else v := by
    intro k v hv0 hv1
    by_cases h4 : k = 4
    · subst h4
      rw [lim4] at hv1
      rw [decide_eq_true rfl, ct, ct, ct, wrap_small hv0 (by omega) hb0 (by omega), wrap64 (by omega) (by omega), wrap64 (by omega) (by omega)]
      omega
    · rw [decide_eq_false h4, cf, cf, cf]
  unfold shI
  dsimp only
  rw [one _ _ h1.1 h1.2, one _ _ h2.1 h2.2, one _ _ h3.1 h3.2]
theorem jumps_add (n m : Nat) (hn : n ≤ 1000) (hm : m ≤ 1000) : jumps m ++ (jumps n).map (shI (m : Int)) = jumps (n + m) := by
  have e : (jumps n).map (shI (m : Int)) = (List.range n).map fun j => (⟨10, ((m + j + 1 : Nat) : Int), 0, 0, 0⟩ : Ins) := by
    unfold jumps
    rw [List.map_map]
    refine List.map_congr_left fun j hj => ?_
    have := List.mem_range.1 hj
    have hw : IntKind.i64.wrap (((j + 1 : Nat) : Int) + (m : Int)) = ((m + j + 1 : Nat) : Int) := by rw [wrap64 (by omega) (by omega)]; omega
    show (⟨10, IntKind.i64.wrap (((j + 1 : Nat) : Int) + (m : Int)), 0, 0, 0⟩ : Ins) = _
    rw [hw]
  rw [e, Nat.add_comm n m]
  unfold jumps
  rw [List.range_add, List.map_append, List.map_map]
  rfl
theorem shift_shift {r a i : Int} {l : List Ins} (h : Okc r a i l) (n m : Nat) (hn : n ≤ 1000) (hm : m ≤ 1000) : jumps m ++ (jumps n ++ l.map (shI (n : Int))).map (shI (m : Int)) = jumps (n + m) ++ l.map (shI ((n + m : Nat) : Int)) := by
  rw [List.map_append, ← List.append_assoc, jumps_add n m hn hm, List.map_map]
  congr 1
  refine List.map_congr_left fun x hx => ?_
  have := shI_shI (h.may x hx) (by have := h.len; omega) (b := (n : Int)) (c := (m : Int)) (by omega) (by omega) (by omega) (by omega)
  rw [Int.natCast_add]
  exact this
theorem k_ne4 (op : Int) : True := trivial
theorem reads_shift (b : Int) (x : Ins) : readsL (shI b x) = readsL x := by
  unfold readsL
  have e : (shI b x).op = x.op := rfl
  rw [e]
  have one : ∀ k v : Int, cond1 (decide (k = 2)) (bif decide (k = 4) then IntKind.i64.wrap (v + b) else v) = cond1 (decide (k = 2)) v := by
    intro k v
    by_cases h2 : k = 2
    · subst h2; rfl
    · rw [decide_eq_false h2]; rfl
  show cond1 (decide ((shOf x.op).k0 = 2)) (bif decide ((shOf x.op).k0 = 4) then IntKind.i64.wrap (x.a + b) else x.a) ++ (cond1 (decide ((shOf x.op).k1 = 2)) (bif decide ((shOf x.op).k1 = 4) then IntKind.i64.wrap (x.b + b) else x.b) ++ cond1 (decide ((shOf x.op).k2 = 2)) (bif decide ((shOf x.op).k2 = 4) then IntKind.i64.wrap (x.c + b) else x.c)) = _
  rw [one, one, one]
theorem writes_shift (b : Int) (x : Ins) : writesB (shI b x) = writesB x ∧ (bif writesB x then (shI b x).a else 0) = bif writesB x then x.a else 0 := by
  refine ⟨rfl, ?_⟩
  unfold writesB
  by_cases h1 : (shOf x.op).k0 = 1
  · rw [decide_eq_true h1, ct, ct]
    show (bif decide ((shOf x.op).k0 = 4) then IntKind.i64.wrap (x.a + b) else x.a) = x.a
    rw [h1]
    rfl
  · rw [decide_eq_false h1, cf, cf]
theorem next_shift {r a n : Int} {x : Ins} (h : mayB r a n x = true) (hn : n ≤ 4096) {b at_ : Int} (hb0 : 0 ≤ b) (hb1 : b ≤ 5000) (ha0 : 0 ≤ at_) (ha1 : at_ ≤ 5000) : (nextL x at_).map (fun v => IntKind.i64.wrap (v + b)) = nextL (shI b x) (b + at_) := by
  obtain ⟨h0, h1, h2, h3⟩ := fld_split r a n x h
  rw [fldOk_iff] at h1 h3
  have w1 : IntKind.i64.wrap (IntKind.i64.wrap (at_ + 1) + b) = IntKind.i64.wrap (b + at_ + 1) := by rw [wrap64 (n := at_ + 1) (by omega) (by omega), wrap64 (by omega) (by omega), wrap64 (by omega) (by omega)]; omega
  unfold nextL
  have e : (shI b x).op = x.op := rfl
  rw [e, h0, bNT, bFO]
  by_cases e0 : x.op = 0
  · rw [decide_eq_true e0, ct, ct]; rfl
  · rw [decide_eq_false e0, cf, cf]
    by_cases e10 : x.op = 10
    · rw [decide_eq_true e10, ct, ct]
      have : (shI b x).a = IntKind.i64.wrap (x.a + b) := by
        show (bif decide ((shOf x.op).k0 = 4) then IntKind.i64.wrap (x.a + b) else x.a) = _
        rw [e10]
        rfl
      rw [this]
      rfl
    · rw [decide_eq_false e10, cf, cf]
      by_cases e11 : x.op = 11 ∨ x.op = 12
      · have hd : (decide (x.op = 11) || decide (x.op = 12)) = true := by simpa using e11
        rw [hd, ct, ct]
        have : (shI b x).c = IntKind.i64.wrap (x.c + b) := by
          show (bif decide ((shOf x.op).k2 = 4) then IntKind.i64.wrap (x.c + b) else x.c) = _
          rcases e11 with e | e <;> rw [e] <;> rfl
        rw [this, List.map_cons, List.map_cons, List.map_nil, w1]
      · have hd : (decide (x.op = 11) || decide (x.op = 12)) = false := by simpa [not_or] using e11
        rw [hd, cf, cf, List.map_cons, List.map_nil, w1]
theorem reads_len (x : Ins) : (readsL x).length ≤ 4 := by have := regs_len x; unfold regsL at this; simp at this; omega
theorem next_len (x : Ins) (k : Int) : (nextL x k).length ≤ 4 := by
  unfold nextL
  cases !isOp x.op || decide (x.op = 0) <;> cases decide (x.op = 10) <;> cases decide (x.op = 11) || decide (x.op = 12) <;> simp
/-- All that follows is put further on. -/
theorem L5_21_spec (va vb : Nat) (ha : va ≤ 1000) (hb : vb ≤ 1000) (k : Int) (tz : Bool) (t : List T) (t97 t98 : Int) (r a i : Int) (z : Bool) (l : List T) (y : Ins) (m : List Int) (hm : m.length ≤ 1000) : ∀ (f j : Nat), f + j = m.length → ∀ nz, (nz = false → m = []) →
    L5_21 (va : Int) (vb : Int) true k tz t t97 t98 (m.length : Int) (j : Int) r a i z l y.op y.a y.b y.c y.n nz (ints ((m.take j).map (fun v => IntKind.i64.wrap (v + ((va + vb : Nat) : Int))) ++ m.drop j)) =
    L5_21 (va : Int) (vb : Int) true k tz t t97 t98 (m.length : Int) (m.length : Int) r a i z l y.op y.a y.b y.c y.n nz (ints (m.map (fun v => IntKind.i64.wrap (v + ((va + vb : Nat) : Int)))))
  | 0, j, h, nz, hz => by
    have : j = m.length := by omega
    subst this
    rw [List.take_length, List.drop_length, List.append_nil]
  | f + 1, j, h, nz, hz => by
    have hlt : j < m.length := by omega
    have hnz : nz = true := by
      cases nz with
      | true => rfl
      | false => rw [hz rfl] at hlt; simp at hlt
    have d : decide ((j : Int) < (m.length : Int)) = true := decide_eq_true (by omega)
    have hmid : ((m.take j).map (fun v => IntKind.i64.wrap (v + ((va + vb : Nat) : Int))) ++ m.drop j).length = m.length := by rw [List.length_append, List.length_map, List.length_take, List.length_drop]; omega
    have n0 : (decide (0 ≤ (j : Int)) && decide ((j : Int) < ((ints ((m.take j).map (fun v => IntKind.i64.wrap (v + ((va + vb : Nat) : Int))) ++ m.drop j)).length : Int))) = true := by rw [List.length_map, hmid, decide_eq_true (by omega), decide_eq_true (by omega)]; rfl
    have hw : IntKind.i64.wrap ((j : Int) + 1) = ((j + 1 : Nat) : Int) := by rw [wrap64 (by omega) (by omega)]; simp
    have hwab : IntKind.i64.wrap ((va : Int) + (vb : Int)) = ((va + vb : Nat) : Int) := by rw [wrap64 (by omega) (by omega)]; simp
    have hgm : ((m.take j).map (fun v => IntKind.i64.wrap (v + ((va + vb : Nat) : Int))) ++ m.drop j)[j]? = some m[j] := by
      rw [List.getElem?_append_right (by rw [List.length_map, List.length_take]; omega), List.length_map, List.length_take, Nat.min_eq_left (by omega), Nat.sub_self, List.getElem?_drop, Nat.add_zero, List.getElem?_eq_getElem hlt]
    have hg : (ints ((m.take j).map (fun v => IntKind.i64.wrap (v + ((va + vb : Nat) : Int))) ++ m.drop j))[j]? = some (.int .i64 m[j]) := by rw [List.getElem?_map, hgm]; rfl
    have hin : ((m.take j).map (fun v => IntKind.i64.wrap (v + ((va + vb : Nat) : Int))) ++ m.drop j).set j (IntKind.i64.wrap (m[j] + ((va + vb : Nat) : Int))) = (m.take (j + 1)).map (fun v => IntKind.i64.wrap (v + ((va + vb : Nat) : Int))) ++ m.drop (j + 1) := by
      rw [List.set_append_right _ _ (by rw [List.length_map, List.length_take]; omega), List.length_map, List.length_take, Nat.min_eq_left (by omega), Nat.sub_self, List.drop_eq_getElem_cons hlt, List.set_cons_zero, List.take_succ_eq_append_getElem hlt, List.map_append, List.append_assoc]
      rfl
    have hset : (ints ((m.take j).map (fun v => IntKind.i64.wrap (v + ((va + vb : Nat) : Int))) ++ m.drop j)).set j (.int .i64 (IntKind.i64.wrap (m[j] + ((va + vb : Nat) : Int)))) = ints ((m.take (j + 1)).map (fun v => IntKind.i64.wrap (v + ((va + vb : Nat) : Int))) ++ m.drop (j + 1)) := by
      rw [← hin]
      exact (List.map_set (f := fun x : Int => T.int .i64 x)).symm
    rw [L5_21_eq, RL5_21, d, ct, needC_true n0, Int.toNat_natCast, getT_at hg, asI_int, needC_true n0, hnz, bTA, needC_t, hwab, setT_at _ (by rw [List.length_map, hmid]; omega), hset, hw]
    have ih := L5_21_spec va vb ha hb k tz t t97 t98 r a i z l y m hm f (j + 1) (by omega) nz hz
    rw [hnz] at ih
    exact ih
theorem L5_12_spec (va vb : Nat) (ha : va ≤ 1000) (hb : vb ≤ 1000) (z zz : Bool) (l : List Ins) (r a i : Int) (h : Okc r a i l) : ∀ (f k : Nat), f + k = l.length →
    L5_12 (va : Int) (vb : Int) true z (l.map insT) ((l.map insT).length : Int) (k : Int) r a i zz ((jumps (va + vb) ++ l.map (shI ((va + vb : Nat) : Int))).map insT) = some (.t (.bool true), e0)
  | 0, k, hf => by
    have d : decide ((k : Int) < ((l.map insT).length : Int)) = false := decide_eq_false (by rw [List.length_map]; omega)
    rw [L5_12_eq, RL5_12, d, cf]
  | f + 1, k, hf => by
    have hk : k < l.length := by omega
    have hlen := h.len
    have d : decide ((k : Int) < ((l.map insT).length : Int)) = true := decide_eq_true (by rw [List.length_map]; omega)
    have n0 : decide ((0 : Int) ≤ (k : Int)) = true := decide_eq_true (by omega)
    have hw : IntKind.i64.wrap ((k : Int) + 1) = ((k + 1 : Nat) : Int) := by rw [wrap64 (by omega) (by omega)]; simp
    have hwab : IntKind.i64.wrap ((va : Int) + (vb : Int)) = ((va + vb : Nat) : Int) := by rw [wrap64 (by omega) (by omega)]; simp
    have hwk : IntKind.i64.wrap (((va + vb : Nat) : Int) + (k : Int)) = ((va + vb + k : Nat) : Int) := by rw [wrap64 (by omega) (by omega)]; simp
    have n2 : decide ((0 : Int) ≤ ((va + vb + k : Nat) : Int)) = true := decide_eq_true (by omega)
    have hgz : ((jumps (va + vb) ++ l.map (shI ((va + vb : Nat) : Int))).map insT)[va + vb + k]? = some (insT (shI ((va + vb : Nat) : Int) l[k])) := by
      rw [List.getElem?_map, List.getElem?_append_right (by rw [jumps_len]; omega), jumps_len, Nat.add_sub_cancel_left, List.getElem?_map, List.getElem?_eq_getElem hk]
      rfl
    have hm := h.may l[k] (List.getElem_mem hk)
    have e : insT l[k] = .agg [.int .i64 l[k].op, .int .i64 l[k].a, .int .i64 l[k].b, .int .i64 l[k].c, .int .i64 l[k].n] := rfl
    generalize hq : shI ((va + vb : Nat) : Int) l[k] = q at hgz
    have eq_ : insT q = .agg [.int .i64 q.op, .int .i64 q.a, .int .i64 q.b, .int .i64 q.c, .int .i64 q.n] := rfl
    obtain ⟨hw1, hw2⟩ := writes_shift ((va + vb : Nat) : Int) l[k]
    rw [hq] at hw1 hw2
    have hrq : readsL q = readsL l[k] := by rw [← hq]; exact reads_shift _ _
    rw [L5_12_eq, RL5_12, d, ct, needC_true n0, Int.toNat_natCast, ins_at hk, e, asA_agg, consT_cons, asI_int, consT_cons, asI_int, consT_cons, asI_int, consT_cons, asI_int, consT_cons, asI_int, endT_nil, hwab, hwk, needC_true n2, Int.toNat_natCast, getT_at hgz, eq_, asA_agg, consT_cons, asI_int, consT_cons, asI_int, consT_cons, asI_int, consT_cons, asI_int, consT_cons, asI_int, endT_nil, ← e, ← eq_]
    rw [writes16, callK_some, asTup_tup, consV_cons, asT_t, asI_int, consV_cons, asT_t, asB_bool, endV_nil, endB_nil, writes16, callK_some, asTup_tup, consV_cons, asT_t, asI_int, consV_cons, asT_t, asB_bool, endV_nil, endB_nil, hw1, hw2, decide_eq_true rfl, bNT, cf]
    have hbb : (writesB l[k] == writesB l[k]) = true := by simp
    have he := equal20 (!(readsL l[k]).isEmpty) (!(readsL l[k]).isEmpty) (readsL l[k]) (by have := reads_len l[k]; omega)
    rw [hbb, bNT, cf, reads15, callK_some, isBuf_buf, consB_cons, asArr_arr, endB_nil, reads15, callK_some, isBuf_buf, consB_cons, asArr_arr, endB_nil, hrq, he, callK_some, asT_t, asB_bool, endB_nil, bNT, cf]
    have hn := next_shift hm (by omega) (b := ((va + vb : Nat) : Int)) (at_ := (k : Int)) (by omega) (by omega) (by omega) (by omega)
    rw [hq] at hn
    have hnl := next_len l[k] (k : Int)
    have hlen2 : ((ints (nextL l[k] (k : Int))).length : Int) = ((nextL l[k] (k : Int)).length : Int) := by rw [List.length_map]
    rw [next17, callK_some, isBuf_buf, consB_cons, asArr_arr, endB_nil, hlen2]
    have hs := L5_21_spec va vb ha hb (k : Int) z (l.map insT) ((l.map insT).length : Int) (k : Int) r a i zz ((jumps (va + vb) ++ l.map (shI ((va + vb : Nat) : Int))).map insT) q (nextL l[k] (k : Int)) (by omega) (nextL l[k] (k : Int)).length 0 (by omega) (!(nextL l[k] (k : Int)).isEmpty) (fun h0 => by cases hc : nextL l[k] (k : Int) with | nil => rfl | cons _ _ => rw [hc] at h0; cases h0)
    have h00 : ((0 : Nat) : Int) = 0 := rfl
    rw [h00, List.take_zero, List.map_nil, List.nil_append, List.drop_zero] at hs
    rw [hs]
    have d2 : decide (((nextL l[k] (k : Int)).length : Int) < ((nextL l[k] (k : Int)).length : Int)) = false := decide_eq_false (by omega)
    have he2 := equal20 (!(nextL l[k] (k : Int)).isEmpty) (!(nextL q (((va + vb : Nat) : Int) + (k : Int))).isEmpty) (nextL q (((va + vb : Nat) : Int) + (k : Int))) (by have := next_len q (((va + vb : Nat) : Int) + (k : Int)); omega)
    have hcast : ((va + vb + k : Nat) : Int) = ((va + vb : Nat) : Int) + (k : Int) := by omega
    rw [L5_21_eq, RL5_21, d2, cf, hwab, hwk, ← eq_, next17, callK_some, isBuf_buf, consB_cons, asArr_arr, endB_nil, hn, hcast, he2, callK_some, asT_t, asB_bool, endB_nil, bNT, cf, hw]
    exact L5_12_spec va vb ha hb z zz l r a i h f (k + 1) (by omega)
theorem shiftV_ok {r a i : Int} {l : List Ins} (h : Okc r a i l) (n : Nat) (hn : l.length + n ≤ 4096) : shiftV r a i l (n : Int) = .tup [.t (cdT r a i true (jumps n ++ l.map (shI (n : Int)))), .t (.int .i64 0)] := by
  unfold shiftV
  rw [(check_iff r a i l).2 h, bNT, bFO, decide_eq_false (by omega), decide_eq_false (by omega), bFO, cf, decide_eq_false (by omega), cf]
  rfl
/-- Any number, brought below 50. -/
theorem mod50 (n : Int) (h : -9223372036854775808 ≤ n ∧ n < 9223372036854775808) : ∃ k : Nat, k < 50 ∧ Int.tmod (IntKind.i64.wrap (Int.tmod n 50 + 50)) 50 = (k : Int) := by
  have h1 : -50 < Int.tmod n 50 ∧ Int.tmod n 50 < 50 := by
    have a1 := Int.lt_tmod_of_pos n (by omega : (0 : Int) < 50)
    have a2 := Int.tmod_lt_of_pos n (by omega : (0 : Int) < 50)
    omega
  rw [wrap64 (by omega) (by omega)]
  have h2 : 0 ≤ Int.tmod (Int.tmod n 50 + 50) 50 := Int.tmod_nonneg _ (by omega)
  have h3 : Int.tmod (Int.tmod n 50 + 50) 50 < 50 := Int.tmod_lt_of_pos _ (by omega)
  exact ⟨(Int.tmod (Int.tmod n 50 + 50) 50).toNat, by omega, by omega⟩
theorem shifts_spec (x0 : T) (f0 : FitT codeTy true x0) (a1 : Int) (w1 : (Lit.int .i64 a1).wf = true) (a2 : Int) (w2 : (Lit.int .i64 a2).wf = true) : ∃ st, vr 5 0 [.t x0, .t (.int .i64 a1), .t (.int .i64 a2)] ⟨[], []⟩ = some (.t (.bool true), st) := by
  obtain ⟨r, a, i, z, l, rfl, _, _, _, _⟩ := code_of f0
  refine ⟨e0, ?_⟩
  have hf := few13 r a i z l
  have hc := check14 r a i z l
  obtain ⟨n, hn, en⟩ := mod50 a1 (wf64 w1)
  obtain ⟨m, hm, em⟩ := mod50 a2 (wf64 w2)
  have hwnm : IntKind.i64.wrap ((n : Int) + (m : Int)) = ((n + m : Nat) : Int) := by rw [wrap64 (by omega) (by omega)]; simp
  have sh1 := shift18 r a i z l (n : Int)
  have sh3 := shift18 r a i z l ((n + m : Nat) : Int)
  unfold cdT at hf hc sh1 sh3 ⊢
  rw [eq5, R5, live9, callK_some, asT_t, asB_bool, endB_nil, hf, callK_some, asT_t, asB_bool, endB_nil]
  by_cases h300 : l.length ≤ 300
  · rw [decide_eq_true h300, bNT, cf, hc, callK_some, asT_t, asI_int, endB_nil]
    cases hcb : checkB r a i l with
    | false => rfl
    | true =>
      have h := (check_iff r a i l).1 hcb
      have d0 : decide ((bif true then (0 : Int) else 1) = 0) = true := rfl
      have d1 : decide ((0 : Int) = 0) = true := rfl
      have h1 := okc_shift h n (by omega)
      have hl1 : (jumps n ++ l.map (shI (n : Int))).length = n + l.length := by rw [List.length_append, jumps_len, List.length_map]
      have sh2 := shift18 r a i true (jumps n ++ l.map (shI (n : Int))) (m : Int)
      have h3 := okc_shift h (n + m) (by omega)
      have hl3 : (jumps (n + m) ++ l.map (shI ((n + m : Nat) : Int))).length = n + m + l.length := by rw [List.length_append, jumps_len, List.length_map]
      have hsame := same19 r a i r a i true true (jumps (n + m) ++ l.map (shI ((n + m : Nat) : Int))) (jumps (n + m) ++ l.map (shI ((n + m : Nat) : Int))) (by omega) (by omega)
      have hc3 := check14 r a i true (jumps (n + m) ++ l.map (shI ((n + m : Nat) : Int)))
      rw [shiftV_ok h1 m (by omega), shift_shift h n m (by omega) (by omega)] at sh2
      rw [shiftV_ok h n (by omega)] at sh1
      rw [shiftV_ok h (n + m) (by omega)] at sh3
      rw [(check_iff _ _ _ _).2 h3] at hc3
      rw [(sameL_iff _ _).2 rfl, decide_eq_true rfl, decide_eq_true rfl, decide_eq_true rfl] at hsame
      unfold cdT at sh1 sh2 sh3 hsame hc3
      have hlz : (((jumps (n + m) ++ l.map (shI ((n + m : Nat) : Int))).map insT).length : Int) = ((n + m + l.length : Nat) : Int) := by rw [List.length_map, hl3]
      have hll : ((l.map insT).length : Int) = (l.length : Int) := by rw [List.length_map]
      have hwl : IntKind.i64.wrap (((n + m : Nat) : Int) + (l.length : Int)) = ((n + m + l.length : Nat) : Int) := by rw [wrap64 (by omega) (by omega)]; omega
      have hlast := L5_12_spec n m (by omega) (by omega) z true l r a i h l.length 0 (by omega)
      have h00 : ((0 : Nat) : Int) = 0 := rfl
      rw [h00, hll] at hlast
      rw [d0, bNT, cf, en, em, hwnm, sh1, callK_some, asTup_tup, consV_cons, asT_t, asA_agg, consT_cons, asI_int, consT_cons, asI_int, consT_cons, asI_int, consT_cons, asL_list, endT_nil, consV_cons, asT_t, asI_int, endV_nil, endB_nil]
      rw [sh2, callK_some, asTup_tup, consV_cons, asT_t, asA_agg, consT_cons, asI_int, consT_cons, asI_int, consT_cons, asI_int, consT_cons, asL_list, endT_nil, consV_cons, asT_t, asI_int, endV_nil, endB_nil]
      rw [sh3, callK_some, asTup_tup, consV_cons, asT_t, asA_agg, consT_cons, asI_int, consT_cons, asI_int, consT_cons, asI_int, consT_cons, asL_list, endT_nil, consV_cons, asT_t, asI_int, endV_nil, endB_nil]
      rw [d1, bNT, cf, cf, cf, hsame, callK_some, asT_t, asB_bool, endB_nil]
      have b1 : ((true && (true && (true && true))) && true) = true := rfl
      rw [b1, bNT, cf, hc3, callK_some, asT_t, asI_int, endB_nil, d0, bNT, cf, hlz, hll, hwl, decide_eq_true rfl, bNT, cf]
      exact hlast
  · rw [decide_eq_false h300]; rfl
end Go.Proofs.Ytifkgdmiojnllaa.VM
end
