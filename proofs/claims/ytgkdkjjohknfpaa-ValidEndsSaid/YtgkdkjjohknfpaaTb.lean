/- Merged: Ta7 Ta8 Ta9. Conditions: none. -/
import Derived.Test.YtgkdkjjohknfpaaTa
set_option linter.all false
section
namespace Go.Proofs.Ytgkdkjjohknfpaa.VM
set_option linter.unusedSectionVars false
open Go AM
def backIx (i : Int) : List Int → Nat → Int
  | [], _ => -1
  | k :: l, j => bif decide (k ≤ i) then (j : Int) else backIx i l (j + 1)
theorem back_any (i : Int) : ∀ (l : List Int) (j : Nat), decide (0 ≤ backIx i l j) = l.any fun k => decide (k ≤ i)
  | [], _ => rfl
  | k :: l, j => by
    rw [List.any_cons, backIx]
    cases decide (k ≤ i) with
    | true => exact decide_eq_true (Int.natCast_nonneg j)
    | false => rw [cf, bFO]; exact back_any i l (j + 1)
theorem L57v1_spec (i : Int) (z : Bool) (ks : List Int) (hb : ks.length ≤ 1000) : ∀ (m j : Nat), m + j = ks.length →
    L57v1_2 z (ints ks) ((ks.length : Nat) : Int) (j : Int) i = some (.t (.int .i64 (backIx i (ks.drop j) j)), ⟨[(0, .var [.t (.int .i64 i)])], [500]⟩)
  | 0, j, h => by
    have d : decide ((j : Int) < ((ks.length : Nat) : Int)) = false := decide_eq_false (by omega)
    rw [L57v1_2_eq, RL57v1_2, d, cf, List.drop_of_length_le (by omega)]
    rfl
  | m + 1, j, h => by
    have d : decide ((j : Int) < ((ks.length : Nat) : Int)) = true := decide_eq_true (by omega)
    have n0 : decide ((0 : Int) ≤ (j : Int)) = true := decide_eq_true (by omega)
    have hw : IntKind.i64.wrap ((j : Int) + 1) = ((j + 1 : Nat) : Int) := by rw [wrap64 (by omega) (by omega)]; simp
    have hlt : j < ks.length := by omega
    rw [L57v1_2_eq, RL57v1_2, d, ct, needC_true n0, Int.toNat_natCast, getT_at (ints_at hlt), asI_int, eq37, R37, callK_some, asT_t, asB_bool, consB_cons, asVar_var, consV_cons, asT_t, asI_int, endV_nil, endB_nil, hw, L57v1_spec i z ks hb m (j + 1) (by omega), List.drop_eq_getElem_cons hlt, backIx]
    cases decide (ks[j] ≤ i) <;> rfl
def backsB (x : Ins) (i : Int) : Bool := (nextL x i).any fun k => decide (k ≤ i)
theorem loops35 (x : Ins) (i : Int) : vr 35 0 [.t (.int .i64 i), .t (insT x)] e0 = some (.t (.bool (backsB x i)), e0) := by
  have hx := next17 x i
  have hl := next_len x i
  have h57 := L57v1_spec i (!(nextL x i).isEmpty) (nextL x i) (by omega) (nextL x i).length 0 (by omega)
  rw [List.drop_zero] at h57
  unfold backsB
  rw [← back_any i _ 0]
  unfold insT at hx ⊢
  rw [eq35, R35, hx, callK_some]
  unfold numsV
  rw [asT_t, asL_list, endB_nil, eq36v1, R36v1, eq57v1, R57v1, ints_len]
  have h0 : L57v1_2 (!(nextL x i).isEmpty) (ints (nextL x i)) ((nextL x i).length : Int) 0 i = L57v1_2 (!(nextL x i).isEmpty) (ints (nextL x i)) ((nextL x i).length : Int) ((0 : Nat) : Int) i := rfl
  rw [h0, h57]
  rfl
def placeL (p : Ins → Int → Bool) : List Ins → Fl → Nat → List Int
  | x :: L, o :: F, j => (bif o.isSome && p x (j : Int) then [(j : Int)] else []) ++ placeL p L F (j + 1)
  | _, _, _ => []
theorem places_cons (p : Ins → Int → Bool) (x : Ins) (L : List Ins) (o : Option Bt) (F : Fl) (j : Nat) : placeL p (x :: L) (o :: F) j = (bif o.isSome && p x (j : Int) then [(j : Int)] else []) ++ placeL p L F (j + 1) := rfl
abbrev flow0 (r a i : Int) (z : Bool) (l : List T) (F : Fl) : Bs := [(0, .var (headC r a i z l 1 2)), (1, .arr true 2 true (bitsL F)), (2, .arr true 1 true (rchL F))]
theorem app_ok {n : Nat} (h : n ≤ 1000000) : (decide ((n + 1) * (8 + 1) ≤ 70368744177664) && decide (8 ≤ 1048576)) = true := by
  rw [decide_eq_true (by omega : (n + 1) * (8 + 1) ≤ 70368744177664)]
  rfl
theorem L34v1_spec (r a i : Int) (z : Bool) (L : List Ins) (F : Fl) (hF : F.length = L.length) (hb : L.length ≤ 300) : ∀ (m j : Nat) (oz : Bool) (out : List Int), m + j = L.length → out.length ≤ j → oz = !out.isEmpty →
    L34v1_2 z (L.map insT) ((L.length : Nat) : Int) (j : Int) r a i z (L.map insT) true (bitsL F) true (rchL F) oz (ints out) =
      some (numsV (out ++ placeL backsB (L.drop j) (F.drop j) j), ⟨flow0 r a i z (L.map insT) F, [500, 501, 502]⟩)
  | 0, j, oz, out, h, ho, hz => by
    have d : decide ((j : Int) < ((L.length : Nat) : Int)) = false := decide_eq_false (by omega)
    rw [L34v1_2_eq, RL34v1_2, d, cf, List.drop_of_length_le (by omega)]
    have : placeL backsB [] (F.drop j) j = [] := by unfold placeL; rfl
    rw [this, List.append_nil, hz]
  | m + 1, j, oz, out, h, ho, hz => by
    have d : decide ((j : Int) < ((L.length : Nat) : Int)) = true := decide_eq_true (by omega)
    have n0 : decide ((0 : Int) ≤ (j : Int)) = true := decide_eq_true (by omega)
    have n1 : decide ((j : Int) < ((rchL F).length : Int)) = true := decide_eq_true (by rw [rch_len]; omega)
    have hw : IntKind.i64.wrap ((j : Int) + 1) = ((j + 1 : Nat) : Int) := by rw [wrap64 (by omega) (by omega)]; simp
    have hlt : j < L.length := by omega
    have hltF : j < F.length := by omega
    have hg : (L.map insT)[j]? = some (insT L[j]) := by rw [List.getElem?_map, List.getElem?_eq_getElem hlt]; rfl
    have hx := loops35 L[j] (j : Int)
    have ih := fun oz' out' => L34v1_spec r a i z L F hF hb m (j + 1) oz' out' (by omega)
    rw [L34v1_2_eq, RL34v1_2, d, ct, needC_true n0, Int.toNat_natCast, getT_at hg, List.drop_eq_getElem_cons hlt, List.drop_eq_getElem_cons hltF, places_cons]
    unfold insT at hx ⊢
    rw [asA_agg, consT_cons, asI_int, consT_cons, asI_int, consT_cons, asI_int, consT_cons, asI_int, consT_cons, asI_int, endT_nil, n0, n1, bTA, needC_t, getT_at (rch_at (List.getElem?_eq_getElem hltF)), asB_bool, hw]
    cases (F[j]).isSome with
    | false =>
      rw [cf, bFA, cf, List.nil_append]
      exact ih oz out (by omega) hz
    | true =>
      rw [ct, bTA, hx, callK_some, asT_t, asB_bool, endB_nil]
      cases backsB L[j] (j : Int) with
      | false =>
        rw [cf, cf, List.nil_append]
        exact ih oz out (by omega) hz
      | true =>
        have hi : ints out ++ [T.int .i64 (j : Int)] = ints (out ++ [(j : Int)]) := by unfold ints; rw [List.map_append]; rfl
        rw [ct, ct, needC_true (app_ok (by rw [ints_len]; omega)), hi]
        have hh := ih (oz || true) (out ++ [(j : Int)]) (by rw [List.length_append]; simp only [List.length_cons, List.length_nil]; omega) (by rw [bOT]; cases out <;> rfl)
        rw [List.append_assoc] at hh
        exact hh
theorem places34 (r a i : Int) (z : Bool) (L : List Ins) (F : Fl) (hF : F.length = L.length) (hb : L.length ≤ 300) :
    vr 34 1 [.ptr 0 0 0, .fn 35 [] []] ⟨flow0 r a i z (L.map insT) F, []⟩ = some (numsV (placeL backsB L F 0), ⟨flow0 r a i z (L.map insT) F, [500, 501, 502]⟩) := by
  have h := L34v1_spec r a i z L F hF hb L.length 0 false [] (by omega) (Nat.le_refl _) rfl
  rw [List.drop_zero, List.drop_zero, List.nil_append] at h
  rw [eq34v1, R34v1, ← h, List.length_map]
  rfl
theorem loops10 (r a i : Int) (z : Bool) (L : List Ins) (hl : L.length ≤ 300) :
    (checkB r a i L = false ∧ vr 10 0 [.t (cdT r a i z L)] e0 = some (.tup [.t (.list 1 false []), .t (.int .i64 1)], e0)) ∨
    (checkB r a i L = true ∧ ∃ F, FlowOf L F ∧ vr 10 0 [.t (cdT r a i z L)] e0 = some (.tup [numsV (placeL backsB L F 0), .t (.int .i64 0)], e0)) := by
  rcases start33 r a i z L hl with ⟨h1, h2⟩ | ⟨h1, F, h2, h3⟩
  · left
    refine ⟨h1, ?_⟩
    unfold cdT at h2 ⊢
    rw [eq10, R10, h2, callK_some]
    rfl
  · right
    refine ⟨h1, F, h2, ?_⟩
    have hok := (check_iff r a i L).1 h1
    have hF := (FlowOf.closed (fine_of hok hl) (Nat.pos_of_ne_zero hok.len0) h2).1
    have hp := places34 r a i z L F hF hl
    have hf : fitsH (.tup [.nilp, (.t (.one (.int .i64)))]) [] (.tup [.ptr 500 0 0, .t (.int .i64 0)]) (flowS r a i z (L.map insT) F).blks = false := by rfl
    have hz : (!decide ((0 : Int) = 0)) = false := rfl
    unfold cdT at h3 ⊢
    rw [eq10, R10, h3, callK_some, hf, cf, asTup_tup, consV_cons, isPtr_ptr, consV_cons, asT_t, asI_int, endV_nil, consB_cons, asVar_var, consV_cons, asT_t, asI_int, consV_cons, asT_t, asI_int, consV_cons, asT_t, asI_int, consV_cons, asT_t, asL_list, consV_cons, isBuf_buf, consV_cons, isBuf_buf, endV_nil, consB_cons, asArr_arr, consB_cons, asArr_arr, endB_nil, hz, cf, hp, callK_some]
    unfold numsV
    rw [asT_t, asL_list, consB_cons, asVar_var, consV_cons, asT_t, asI_int, consV_cons, asT_t, asI_int, consV_cons, asT_t, asI_int, consV_cons, asT_t, asL_list, consV_cons, isBuf_buf, consV_cons, isBuf_buf, endV_nil, consB_cons, asArr_arr, consB_cons, asArr_arr, endB_nil]
end Go.Proofs.Ytgkdkjjohknfpaa.VM
end

section
namespace Go.Proofs.Ytgkdkjjohknfpaa.VM
set_option linter.unusedSectionVars false
open Go AM
def askIx (b : Bt) : List Int → Nat → Int
  | [], _ => -1
  | k :: l, j => bif !hasB b k.toNat then (j : Int) else askIx b l (j + 1)
theorem ask_any (b : Bt) : ∀ (l : List Int) (j : Nat), decide (0 ≤ askIx b l j) = l.any fun k => !hasB b k.toNat
  | [], _ => rfl
  | k :: l, j => by
    rw [List.any_cons, askIx]
    cases !hasB b k.toNat with
    | true => exact decide_eq_true (Int.natCast_nonneg j)
    | false => rw [cf, bFO]; exact ask_any b l (j + 1)
abbrev stA (r a i : Int) (z : Bool) (l : List T) (F : Fl) (n : Int) : Bs := [(0, .var [.ptr 1 0 0]), (1, .var (headC r a i z l 2 3)), (2, .arr true 2 true (bitsL F)), (3, .arr true 1 true (rchL F)), (4, .var [.t (.int .i64 n)])]
theorem ask62 (r a i : Int) (z : Bool) (l : List T) (F : Fl) (n : Nat) (o : Option Bt) (hn : F[n]? = some o) (k : Int) (h0 : 0 ≤ k) (h1 : k < 128) :
    vr 62 0 [.t (.int .i64 k), .ptr 0 0 0, .ptr 4 0 0] ⟨stA r a i z l F (n : Int), []⟩ = some (.t (.bool (!hasB (o.getD (0, 0)) k.toNat)), ⟨stA r a i z l F (n : Int), [500, 501, 502, 503, 504]⟩) := by
  have hlt : n < F.length := by
    rcases Nat.lt_or_ge n F.length with h | h
    · exact h
    · rw [List.getElem?_eq_none h] at hn; cases hn
  have n0 : decide ((0 : Int) ≤ (n : Int)) = true := decide_eq_true (by omega)
  have n1 : decide ((n : Int) < ((bitsL F).length : Int)) = true := decide_eq_true (by rw [bits_len]; omega)
  have h39 := has39 (o.getD (0, 0)) k.toNat (by omega)
  have hk : ((k.toNat : Nat) : Int) = k := by omega
  rw [hk] at h39
  rw [eq62, R62, n0, n1, bTA, needC_t, Int.toNat_natCast, getT_at (bits_at hn)]
  unfold btT at h39 ⊢
  rw [asA_agg, consT_cons, asI_int, consT_cons, asI_int, endT_nil, h39, callK_some, asT_t, asB_bool, endB_nil]
theorem L57_spec (r a i : Int) (z : Bool) (l : List T) (F : Fl) (n : Nat) (o : Option Bt) (hn : F[n]? = some o) (nz : Bool) (ks : List Int) (hk : ∀ k ∈ ks, 0 ≤ k ∧ k < 128) (hb : ks.length ≤ 1000) : ∀ (m j : Nat), m + j = ks.length →
    L57_2 nz (ints ks) ((ks.length : Nat) : Int) (j : Int) r a i z l true (bitsL F) true (rchL F) (n : Int) = some (.t (.int .i64 (askIx (o.getD (0, 0)) (ks.drop j) j)), ⟨stA r a i z l F (n : Int), [500, 501, 502, 503, 504]⟩)
  | 0, j, h => by
    have d : decide ((j : Int) < ((ks.length : Nat) : Int)) = false := decide_eq_false (by omega)
    rw [L57_2_eq, RL57_2, d, cf, List.drop_of_length_le (by omega)]
    rfl
  | m + 1, j, h => by
    have d : decide ((j : Int) < ((ks.length : Nat) : Int)) = true := decide_eq_true (by omega)
    have n0 : decide ((0 : Int) ≤ (j : Int)) = true := decide_eq_true (by omega)
    have hw : IntKind.i64.wrap ((j : Int) + 1) = ((j + 1 : Nat) : Int) := by rw [wrap64 (by omega) (by omega)]; simp
    have hlt : j < ks.length := by omega
    obtain ⟨k0, k1⟩ := hk ks[j] (List.getElem_mem hlt)
    have h62 := ask62 r a i z l F n o hn ks[j] k0 k1
    rw [L57_2_eq, RL57_2, d, ct, needC_true n0, Int.toNat_natCast, getT_at (ints_at hlt), asI_int, h62, callK_some, asT_t, asB_bool, consB_cons, asVar_var, consV_cons, isPtr_ptr, endV_nil, consB_cons, asVar_var, consV_cons, asT_t, asI_int, consV_cons, asT_t, asI_int, consV_cons, asT_t, asI_int, consV_cons, asT_t, asL_list, consV_cons, isBuf_buf, consV_cons, isBuf_buf, endV_nil, consB_cons, asArr_arr, consB_cons, asArr_arr, consB_cons, asVar_var, consV_cons, asT_t, asI_int, endV_nil, endB_nil, hw, L57_spec r a i z l F n o hn nz ks hk hb m (j + 1) (by omega), List.drop_eq_getElem_cons hlt, askIx]
    cases hasB (o.getD (0, 0)) (ks[j]).toNat <;> rfl
def asksB (x : Ins) (b : Bt) : Bool := (readsL x).any fun k => !hasB b k.toNat
theorem reads_len (x : Ins) : (readsL x).length ≤ 3 := by
  unfold readsL cond1
  cases decide ((shOf x.op).k0 = 2) <;> cases decide ((shOf x.op).k1 = 2) <;> cases decide ((shOf x.op).k2 = 2) <;> simp
theorem asks48 (r a i : Int) (z : Bool) (l : List T) (F : Fl) (n : Nat) (o : Option Bt) (hn : F[n]? = some o) (x : Ins) (hk : ∀ k ∈ readsL x, 0 ≤ k ∧ k < 128) :
    vr 48 0 [.ptr 0 0 0, .t (.int .i64 (n : Int)), .t (insT x)] ⟨flow0 r a i z l F, []⟩ = some (.t (.bool (asksB x (o.getD (0, 0)))), ⟨flow0 r a i z l F, [500, 501, 502]⟩) := by
  have hx := reads15 x
  have hl := reads_len x
  have h57 := L57_spec r a i z l F n o hn (!(readsL x).isEmpty) (readsL x) hk (by omega) (readsL x).length 0 (by omega)
  rw [List.drop_zero] at h57
  unfold asksB
  rw [← ask_any _ _ 0]
  unfold insT at hx ⊢
  rw [eq48, R48, hx, callK_some]
  unfold numsV
  rw [asT_t, asL_list, endB_nil, eq36, R36, eq57, R57, ints_len]
  have h0 : L57_2 (!(readsL x).isEmpty) (ints (readsL x)) ((readsL x).length : Int) 0 r a i z l true (bitsL F) true (rchL F) (n : Int) = L57_2 (!(readsL x).isEmpty) (ints (readsL x)) ((readsL x).length : Int) ((0 : Nat) : Int) r a i z l true (bitsL F) true (rchL F) (n : Int) := rfl
  rw [h0, h57, callK_some, asT_t, asI_int, consB_cons, asVar_var, consV_cons, isPtr_ptr, endV_nil, consB_cons, asVar_var, consV_cons, asT_t, asI_int, consV_cons, asT_t, asI_int, consV_cons, asT_t, asI_int, consV_cons, asT_t, asL_list, consV_cons, isBuf_buf, consV_cons, isBuf_buf, endV_nil, consB_cons, asArr_arr, consB_cons, asArr_arr, consB_cons, asVar_var, consV_cons, asT_t, asI_int, endV_nil, endB_nil]
  rw [callK_some, asT_t, asB_bool, consB_cons, asVar_var, consV_cons, isPtr_ptr, endV_nil, consB_cons, asVar_var, consV_cons, asT_t, asI_int, consV_cons, asT_t, asI_int, consV_cons, asT_t, asI_int, consV_cons, asT_t, asL_list, consV_cons, isBuf_buf, consV_cons, isBuf_buf, endV_nil, consB_cons, asArr_arr, consB_cons, asArr_arr, consB_cons, asVar_var, consV_cons, asT_t, asI_int, endV_nil, endB_nil]
def askL : List Ins → Fl → Nat → List Int
  | x :: L, o :: F, j => (bif o.isSome && asksB x (o.getD (0, 0)) then [(j : Int)] else []) ++ askL L F (j + 1)
  | _, _, _ => []
theorem askL_cons (x : Ins) (L : List Ins) (o : Option Bt) (F : Fl) (j : Nat) : askL (x :: L) (o :: F) j = (bif o.isSome && asksB x (o.getD (0, 0)) then [(j : Int)] else []) ++ askL L F (j + 1) := rfl
theorem L34_spec (r a i : Int) (z : Bool) (L : List Ins) (F : Fl) (hF : F.length = L.length) (hb : L.length ≤ 300) (hk : ∀ x ∈ L, ∀ k ∈ readsL x, 0 ≤ k ∧ k < 128) : ∀ (m j : Nat) (oz : Bool) (out : List Int), m + j = L.length → out.length ≤ j → oz = !out.isEmpty →
    L34_2 z (L.map insT) ((L.length : Nat) : Int) (j : Int) r a i z (L.map insT) true (bitsL F) true (rchL F) oz (ints out) =
      some (numsV (out ++ askL (L.drop j) (F.drop j) j), ⟨flow0 r a i z (L.map insT) F, [500, 501, 502]⟩)
  | 0, j, oz, out, h, ho, hz => by
    have d : decide ((j : Int) < ((L.length : Nat) : Int)) = false := decide_eq_false (by omega)
    rw [L34_2_eq, RL34_2, d, cf, List.drop_of_length_le (by omega)]
    have : askL [] (F.drop j) j = [] := by unfold askL; rfl
    rw [this, List.append_nil, hz]
  | m + 1, j, oz, out, h, ho, hz => by
    have d : decide ((j : Int) < ((L.length : Nat) : Int)) = true := decide_eq_true (by omega)
    have n0 : decide ((0 : Int) ≤ (j : Int)) = true := decide_eq_true (by omega)
    have n1 : decide ((j : Int) < ((rchL F).length : Int)) = true := decide_eq_true (by rw [rch_len]; omega)
    have hw : IntKind.i64.wrap ((j : Int) + 1) = ((j + 1 : Nat) : Int) := by rw [wrap64 (by omega) (by omega)]; simp
    have hlt : j < L.length := by omega
    have hltF : j < F.length := by omega
    have hg : (L.map insT)[j]? = some (insT L[j]) := by rw [List.getElem?_map, List.getElem?_eq_getElem hlt]; rfl
    have hx := asks48 r a i z (L.map insT) F j F[j] (List.getElem?_eq_getElem hltF) L[j] (hk _ (List.getElem_mem hlt))
    have ih := fun oz' out' => L34_spec r a i z L F hF hb hk m (j + 1) oz' out' (by omega)
    rw [L34_2_eq, RL34_2, d, ct, needC_true n0, Int.toNat_natCast, getT_at hg, List.drop_eq_getElem_cons hlt, List.drop_eq_getElem_cons hltF, askL_cons]
    have hi2 : insT L[j] = .agg [.int .i64 (L[j]).op, .int .i64 (L[j]).a, .int .i64 (L[j]).b, .int .i64 (L[j]).c, .int .i64 (L[j]).n] := rfl
    rw [hi2] at hx ⊢
    rw [asA_agg, consT_cons, asI_int, consT_cons, asI_int, consT_cons, asI_int, consT_cons, asI_int, consT_cons, asI_int, endT_nil, n0, n1, bTA, needC_t, getT_at (rch_at (List.getElem?_eq_getElem hltF)), asB_bool, hw]
    cases (F[j]).isSome with
    | false =>
      rw [cf, bFA, cf, List.nil_append]
      exact ih oz out (by omega) hz
    | true =>
      rw [ct, bTA, hx, callK_some, asT_t, asB_bool, consB_cons, asVar_var, consV_cons, asT_t, asI_int, consV_cons, asT_t, asI_int, consV_cons, asT_t, asI_int, consV_cons, asT_t, asL_list, consV_cons, isBuf_buf, consV_cons, isBuf_buf, endV_nil, consB_cons, asArr_arr, consB_cons, asArr_arr, endB_nil]
      cases asksB L[j] ((F[j]).getD (0, 0)) with
      | false =>
        rw [cf, cf, List.nil_append]
        exact ih oz out (by omega) hz
      | true =>
        have hi : ints out ++ [T.int .i64 (j : Int)] = ints (out ++ [(j : Int)]) := by unfold ints; rw [List.map_append]; rfl
        rw [ct, ct, needC_true (app_ok (by rw [ints_len]; omega)), hi]
        have hh := ih (oz || true) (out ++ [(j : Int)]) (by rw [List.length_append]; simp only [List.length_cons, List.length_nil]; omega) (by rw [bOT]; cases out <;> rfl)
        rw [List.append_assoc] at hh
        exact hh
theorem places34v0 (r a i : Int) (z : Bool) (L : List Ins) (F : Fl) (hF : F.length = L.length) (hb : L.length ≤ 300) (hk : ∀ x ∈ L, ∀ k ∈ readsL x, 0 ≤ k ∧ k < 128) :
    vr 34 0 [.ptr 0 0 0, .fn 48 [.ptr 0 0 0] []] ⟨flow0 r a i z (L.map insT) F, []⟩ = some (numsV (askL L F 0), ⟨flow0 r a i z (L.map insT) F, [500, 501, 502]⟩) := by
  have h := L34_spec r a i z L F hF hb hk L.length 0 false [] (by omega) (Nat.le_refl _) rfl
  rw [List.drop_zero, List.drop_zero, List.nil_append] at h
  rw [eq34, R34, ← h, List.length_map]
  rfl
theorem unset25 (r a i : Int) (z : Bool) (L : List Ins) (hl : L.length ≤ 300) :
    (checkB r a i L = false ∧ vr 25 0 [.t (cdT r a i z L)] e0 = some (.tup [.t (.list 1 false []), .t (.int .i64 1)], e0)) ∨
    (checkB r a i L = true ∧ ∃ F, FlowOf L F ∧ vr 25 0 [.t (cdT r a i z L)] e0 = some (.tup [numsV (askL L F 0), .t (.int .i64 0)], e0)) := by
  rcases start33 r a i z L hl with ⟨h1, h2⟩ | ⟨h1, F, h2, h3⟩
  · left
    refine ⟨h1, ?_⟩
    unfold cdT at h2 ⊢
    rw [eq25, R25, h2, callK_some]
    rfl
  · right
    refine ⟨h1, F, h2, ?_⟩
    have hok := (check_iff r a i L).1 h1
    have hF := (FlowOf.closed (fine_of hok hl) (Nat.pos_of_ne_zero hok.len0) h2).1
    have hr1 := hok.r1
    have hp := places34v0 r a i z L F hF hl fun x hx k hk => by
      have := regs_in (hok.may x hx) k (List.mem_append_left _ hk)
      omega
    have hf : fitsH (.tup [.nilp, (.t (.one (.int .i64)))]) [] (.tup [.ptr 500 0 0, .t (.int .i64 0)]) (flowS r a i z (L.map insT) F).blks = false := by rfl
    have hz : (!decide ((0 : Int) = 0)) = false := rfl
    unfold cdT at h3 ⊢
    rw [eq25, R25, h3, callK_some, hf, cf, asTup_tup, consV_cons, isPtr_ptr, consV_cons, asT_t, asI_int, endV_nil, consB_cons, asVar_var, consV_cons, asT_t, asI_int, consV_cons, asT_t, asI_int, consV_cons, asT_t, asI_int, consV_cons, asT_t, asL_list, consV_cons, isBuf_buf, consV_cons, isBuf_buf, endV_nil, consB_cons, asArr_arr, consB_cons, asArr_arr, endB_nil, hz, cf, hp, callK_some]
    unfold numsV
    rw [asT_t, asL_list, consB_cons, asVar_var, consV_cons, asT_t, asI_int, consV_cons, asT_t, asI_int, consV_cons, asT_t, asI_int, consV_cons, asT_t, asL_list, consV_cons, isBuf_buf, consV_cons, isBuf_buf, endV_nil, consB_cons, asArr_arr, consB_cons, asArr_arr, endB_nil]
end Go.Proofs.Ytgkdkjjohknfpaa.VM
end

section
namespace Go.Proofs.Ytgkdkjjohknfpaa.VM
set_option linter.unusedSectionVars false
open Go AM
theorem L20_self (z1 z2 : Bool) (a : List Int) (hb : a.length ≤ 9223372036854775806) : ∀ (m k : Nat), m + k = a.length →
    L20_4 z1 (ints a) z2 (ints a) ((ints a).length : Int) (k : Int) = some (.t (.bool true), e0)
  | 0, k, h => by
    have d : decide ((k : Int) < ((ints a).length : Int)) = false := decide_eq_false (by rw [List.length_map]; omega)
    rw [L20_4_eq, RL20_4, d, cf]
  | m + 1, k, h => by
    have hk : k < a.length := by omega
    have d : decide ((k : Int) < ((ints a).length : Int)) = true := decide_eq_true (by rw [List.length_map]; omega)
    have n0 : decide ((0 : Int) ≤ (k : Int)) = true := decide_eq_true (by omega)
    have hw : IntKind.i64.wrap ((k : Int) + 1) = ((k + 1 : Nat) : Int) := by rw [wrap64 (by omega) (by omega)]; simp
    have hg : (ints a)[k]? = some (.int .i64 a[k]) := by rw [List.getElem?_map, List.getElem?_eq_getElem hk]; rfl
    rw [L20_4_eq, RL20_4, d, ct, needC_true n0, Int.toNat_natCast, getT_at hg, asI_int, needC_true n0, getT_at hg, asI_int, decide_eq_true rfl, bNT, cf, hw]
    exact L20_self z1 z2 a hb m (k + 1) (by omega)
theorem equal20 (z1 z2 : Bool) (a : List Int) (hb : a.length ≤ 9223372036854775806) : vr 20 0 [.t (.list 1 z1 (ints a)), .t (.list 1 z2 (ints a))] e0 = some (.t (.bool true), e0) := by
  rw [eq20, R20, decide_eq_true rfl, bNT, cf]
  exact L20_self z1 z2 a hb a.length 0 (by omega)
theorem Runs.inv {L : List Ins} {F F' : Fl} {td ts : List Int} {t : Nat} (h : Runs L F td F') (e : td = ts ++ [(t : Int)]) : ∃ (ht : t < L.length) (b : Bt), F[t]? = some (some b) ∧ Runs L ((nextL L[t] (t : Int)).foldl (comeF (outB L[t] b)) (F, ts)).1 ((nextL L[t] (t : Int)).foldl (comeF (outB L[t] b)) (F, ts)).2 F' := by
  cases h with
  | done => simp at e
  | step ht hb hr =>
    rename_i ts2 t2 b
    obtain ⟨e1, e2⟩ := List.append_inj' e rfl
    have e4 : (t2 : Int) = (t : Int) := by simpa using e2
    have e3 : t2 = t := by omega
    subst e1
    subst e3
    exact ⟨ht, b, hb, hr⟩
theorem Runs.end {L : List Ins} {F F' : Fl} (h : Runs L F [] F') : F' = F := by
  generalize e : ([] : List Int) = td at h
  cases h with
  | done => rfl
  | step => simp at e
def exL : List Ins := [⟨1, 0, 0, 0, 1⟩, ⟨3, 0, 0, 1, 0⟩, ⟨0, 0, 0, 0, 0⟩]
def exF : Fl := [some (0, 0), some (withB (0, 0) 0), some (withB (withB (0, 0) 0) 0)]
theorem ex_flow {F : Fl} (h : FlowOf exL F) : F = exF := by
  unfold FlowOf at h
  obtain ⟨_, b, hb, h⟩ := h.inv (ts := []) (t := 0) rfl
  have e : b = (0, 0) := by
    have : (initF exL.length)[0]? = some (some ((0, 0) : Bt)) := rfl
    rw [this] at hb
    cases hb
    rfl
  subst e
  obtain ⟨_, b, hb, h⟩ := h.inv (ts := []) (t := 1) (by kernel_rfl)
  have e : b = withB (0, 0) 0 := by
    have : (((nextL exL[0] ((0 : Nat) : Int)).foldl (comeF (outB exL[0] (0, 0))) (initF exL.length, [])).1)[1]? = some (some (withB (0, 0) 0)) := by kernel_rfl
    rw [this] at hb
    cases hb
    rfl
  subst e
  obtain ⟨_, b, hb, h⟩ := h.inv (ts := []) (t := 2) (by kernel_rfl)
  have h := Runs.end (h : Runs exL _ [] F)
  rw [h]
  rfl
theorem live_parse : parseOf ⟨#[99, 111, 100, 101, 32, 50, 32, 48, 32, 48, 10, 115, 101, 116, 32, 114, 48, 32, 49, 10, 97, 100, 100, 32, 114, 48, 32, 114, 48, 32, 114, 49, 10, 104, 97, 108, 116]⟩ = .tup [.t (cdT 2 0 0 true exL), .t (.int .i64 4), .t (.int .i64 0)] := by kernel_rfl
theorem ex_unset : vr 25 0 [.t (cdT 2 0 0 true exL)] e0 = some (.tup [.t (.list 1 true (ints [1])), .t (.int .i64 0)], e0) := by
  have hc : checkB 2 0 0 exL = true := by kernel_rfl
  rcases unset25 2 0 0 true exL (by decide) with ⟨h1, _⟩ | ⟨_, F, h2, h3⟩
  · rw [hc] at h1; cases h1
  · rw [ex_flow h2] at h3
    rw [h3]
    have : askL exL exF 0 = [1] := by kernel_rfl
    rw [this]
    rfl
theorem ex_check : vr 14 0 [.t (cdT 2 0 0 true exL)] e0 = some (.t (.int .i64 7), e0) := by
  have h := ex_unset
  unfold cdT at h ⊢
  rw [eq14, R14, h, callK_some]
  rfl
theorem live8 : vr 8 0 [] e0 = some (.t (.bool true), e0) := by
  have h := ex_unset
  have h2 := ex_check
  have h3 := equal20 true true [1] (by decide)
  rw [eq8, R8, parse10, live_parse, callK_some]
  unfold cdT at h h2 ⊢
  rw [asTup_tup, consV_cons, asT_t, asA_agg, consT_cons, asI_int, consT_cons, asI_int, consT_cons, asI_int, consT_cons, asL_list, endT_nil, consV_cons, asT_t, asI_int, consV_cons, asT_t, asI_int, endV_nil, endB_nil, h, callK_some, asTup_tup, consV_cons, asT_t, asL_list, consV_cons, asT_t, asI_int, endV_nil, endB_nil, decide_eq_true rfl, ct, ct]
  show callK (vr _ 0 [.t (.list 1 true (ints [1])), .t (.list 1 true (ints [1]))] ⟨[], []⟩) _ = _
  rw [h3, callK_some, asT_t, asB_bool, endB_nil, ct, h2, callK_some, asT_t, asI_int, endB_nil]
  rfl
theorem place_nil {p : Ins → Int → Bool} : ∀ {L : List Ins} {F : Fl} {j : Nat}, placeL p L F j = [] → ∀ i (h : i < L.length) b, F[i]? = some (some b) → p L[i] ((j + i : Nat) : Int) = false
  | [], _, _, _, i, h, _, _ => absurd h (Nat.not_lt_zero _)
  | x :: L, [], _, _, i, _, b, hb => by simp at hb
  | x :: L, o :: F, j, hp, i, h, b, hb => by
    rw [places_cons, List.append_eq_nil_iff] at hp
    cases i with
    | zero =>
      have : o = some b := by simpa using hb
      subst this
      have hp := hp.1
      rw [Option.isSome_some, bTA] at hp
      cases hx : p x (j : Int) with
      | true => rw [hx] at hp; cases hp
      | false => exact hx
    | succ i =>
      have := place_nil hp.2 i (by simpa using h) b (by simpa using hb)
      have e : j + (i + 1) = j + 1 + i := by omega
      rw [e]
      exact this
theorem L3_spec (pz : Bool) (ps : List Bool) (r a i : Int) (z : Bool) (L : List Ins) (hl : L.length ≤ 300) (hp : ps.length ≤ maxLen) (F : Fl) (hF : F.length = L.length) (hc : ClosedT L F []) (hb : ∀ j (h : j < L.length) b, F[j]? = some (some b) → backsB L[j] (j : Int) = false)
    (hn : ∀ j (h : j < L.length), ∀ k ∈ nextL L[j] (j : Int), 0 ≤ k ∧ k < (L.length : Int)) : ∀ (m k p : Nat), m + k = L.length → p < L.length → k ≤ p → (∃ b, F[p]? = some (some b)) →
    L3_9 pz (ps.map T.bool) true (p : Int) ((L.map insT).length : Int) (k : Int) r a i z (L.map insT) = some (.t (.bool true), e0)
  | 0, k, p, h, h1, h2, _ => by omega
  | m + 1, k, p, h, h1, h2, hr => by
    obtain ⟨b, hr⟩ := hr
    have d : decide ((k : Int) < ((L.map insT).length : Int)) = true := decide_eq_true (by rw [List.length_map]; omega)
    have d1 : decide ((p : Int) < 0) = false := decide_eq_false (by omega)
    have d2 : decide (((L.map insT).length : Int) ≤ (p : Int)) = false := decide_eq_false (by rw [List.length_map]; omega)
    have n0 : decide ((0 : Int) ≤ (p : Int)) = true := decide_eq_true (by omega)
    have nk : decide ((0 : Int) ≤ (k : Int)) = true := decide_eq_true (by omega)
    have hw : IntKind.i64.wrap ((k : Int) + 1) = ((k + 1 : Nat) : Int) := by rw [wrap64 (by omega) (by omega)]; simp
    have hg : (L.map insT)[p]? = some (insT L[p]) := by rw [List.getElem?_map, List.getElem?_eq_getElem h1]; rfl
    have hx := next17 L[p] (p : Int)
    have hback := hb p h1 b hr
    have hgo : ∀ q, q ∈ nextL L[p] (p : Int) → L3_9 pz (ps.map T.bool) true q ((L.map insT).length : Int) ((k + 1 : Nat) : Int) r a i z (L.map insT) = some (.t (.bool true), e0) := by
      intro q hq
      obtain ⟨q0, q1⟩ := hn p h1 q hq
      have hnb : ¬ q ≤ (p : Int) := by
        intro hle
        unfold backsB at hback
        rw [List.any_eq_false] at hback
        exact hback q hq (decide_eq_true hle)
      rcases hc p h1 b hr with h3 | h3
      · cases h3
      · obtain ⟨c, h4, _⟩ := h3 q hq
        obtain ⟨n, rfl⟩ : ∃ n : Nat, q = (n : Int) := ⟨q.toNat, by omega⟩
        exact L3_spec pz ps r a i z L hl hp F hF hc hb hn m (k + 1) n (by omega) (by omega) (by omega) ⟨c, by simpa using h4⟩
    rw [L3_9_eq, RL3_9, d, ct, d1, cf, d2, cf, needC_true n0, Int.toNat_natCast, getT_at hg]
    have hi2 : insT L[p] = .agg [.int .i64 (L[p]).op, .int .i64 (L[p]).a, .int .i64 (L[p]).b, .int .i64 (L[p]).c, .int .i64 (L[p]).n] := rfl
    rw [hi2] at hx ⊢
    rw [asA_agg, consT_cons, asI_int, consT_cons, asI_int, consT_cons, asI_int, consT_cons, asI_int, consT_cons, asI_int, endT_nil, hx, callK_some]
    unfold numsV
    rw [asT_t, asL_list, endB_nil, ints_len]
    cases hns : nextL L[p] (p : Int) with
    | nil => rfl
    | cons q0 qs =>
      rw [hns] at hgo
      have e0' : decide ((((q0 :: qs).length : Nat) : Int) = 0) = false := decide_eq_false (by rw [List.length_cons]; omega)
      have g0 : (ints (q0 :: qs))[((0 : Int)).toNat]? = some (.int .i64 q0) := rfl
      rw [e0', cf, needC_true (b := decide ((0 : Nat) ≤ 0)) rfl, getT_at g0, asI_int, hw]
      have hg0 := hgo q0 (by simp)
      by_cases hk : k < ps.length
      · have dk : decide ((k : Int) < ((ps.map T.bool).length : Int)) = true := decide_eq_true (by rw [List.length_map]; omega)
        have gk : (ps.map T.bool)[k]? = some (.bool ps[k]) := by rw [List.getElem?_map, List.getElem?_eq_getElem hk]; rfl
        rw [dk, ct, needC_true nk, Int.toNat_natCast, getT_at gk, asB_bool]
        cases ps[k] with
        | false => rw [cf]; exact hg0
        | true =>
          rw [ct]
          cases qs with
          | nil => exact hg0
          | cons q1 qs =>
            have e1' : decide ((1 : Int) < (((q0 :: q1 :: qs).length : Nat) : Int)) = true := decide_eq_true (by simp only [List.length_cons]; omega)
            have g1 : (ints (q0 :: q1 :: qs))[((1 : Int)).toNat]? = some (.int .i64 q1) := rfl
            rw [e1', ct, needC_true (b := decide ((0 : Nat) ≤ 1)) rfl, getT_at g1, asI_int]
            exact hgo q1 (by simp)
      · have dk : decide ((k : Int) < ((ps.map T.bool).length : Int)) = false := decide_eq_false (by rw [List.length_map]; omega)
        rw [dk, cf]
        exact hg0
theorem picks_of {x : T} (h : FitT [.list [.bool] false] false x) : ∃ z ps, x = .list 1 z (List.map T.bool ps) ∧ ps.length ≤ maxLen := by
  obtain ⟨ts, rfl, h⟩ := h
  unfold fits at h
  obtain ⟨t, r, rfl, ht, h⟩ := h
  unfold fits at h
  subst h
  unfold fit1 at ht
  obtain ⟨z, l, rfl, h1, h2, h3⟩ := ht
  have hl : ∀ l : List T, (∀ y ∈ l, ∃ ts, y = packT false ts ∧ fits [.bool] ts) → ∃ ps : List Bool, l = ps.map T.bool := by
    intro l
    induction l with
    | nil => exact fun _ => ⟨[], rfl⟩
    | cons y l ih =>
      intro hy
      obtain ⟨ts, rfl, h4⟩ := hy y (by simp)
      unfold fits at h4
      obtain ⟨t, r, rfl, ht, h4⟩ := h4
      unfold fits at h4
      subst h4
      unfold fit1 at ht
      obtain ⟨b, rfl⟩ := ht
      obtain ⟨ps, rfl⟩ := ih fun q hq => hy q (List.mem_cons_of_mem _ hq)
      exact ⟨b :: ps, rfl⟩
  obtain ⟨ps, rfl⟩ := hl l h3
  exact ⟨z, ps, rfl, by simpa using h1⟩
theorem ends_spec (x0 : T) (f0 : FitT codeTy true x0) (x1 : T) (f1 : FitT [.list [.bool] false] false x1) : ∃ st, vr 3 0 [.t x0, .t x1] ⟨[], []⟩ = some (.t (.bool true), st) := by
  obtain ⟨r, a, i, z, L, rfl, _, _, _⟩ := code_of f0
  obtain ⟨pz, ps, rfl, hp⟩ := picks_of f1
  refine ⟨e0, ?_⟩
  have h8 := live8
  have hf := few13 r a i z L
  have hu : cdT r a i z L = .agg [.int .i64 r, .int .i64 a, .int .i64 i, .list 5 z (L.map insT)] := rfl
  rw [hu] at hf ⊢
  rw [eq3, R3, h8, callK_some, asT_t, asB_bool, endB_nil, hf, callK_some, asT_t, asB_bool, endB_nil]
  by_cases hl : L.length ≤ 300
  · rw [decide_eq_true hl, bNT, cf]
    rcases loops10 r a i z L hl with ⟨h1, h2⟩ | ⟨h1, F, h2, h3⟩
    · rw [hu] at h2
      rw [h2, callK_some]
      rfl
    · rw [hu] at h3
      rw [h3, callK_some]
      unfold numsV
      rw [asTup_tup, consV_cons, asT_t, asL_list, consV_cons, asT_t, asI_int, endV_nil, endB_nil, ints_len]
      have hz : (!decide ((0 : Int) = 0)) = false := rfl
      rw [hz, cf]
      by_cases hn : placeL backsB L F 0 = []
      · have hok := (check_iff r a i L).1 h1
        have fl := fine_of hok hl
        have h0 : 0 < L.length := Nat.pos_of_ne_zero hok.len0
        obtain ⟨c1, c2, c3⟩ := FlowOf.closed fl h0 h2
        rw [hn]
        have hd : decide ((0 : Int) < (([] : List Int).length : Int)) = false := rfl
        rw [hd, cf]
        have := L3_spec pz ps r a i z L hl hp F c1 c2 (fun j hj b hb => by have := place_nil hn j hj b hb; rwa [Nat.zero_add] at this) fl.next L.length 0 0 (by omega) h0 (Nat.le_refl _) c3
        exact this
      · have hd : decide ((0 : Int) < ((placeL backsB L F 0).length : Int)) = true := decide_eq_true (by
          have := List.length_pos_iff.2 hn
          omega)
        rw [hd, ct]
  · rw [decide_eq_false hl, bNF, ct]
end Go.Proofs.Ytgkdkjjohknfpaa.VM
end
