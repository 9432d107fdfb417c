/- Merged: Jf1. Conditions: none. -/
import Derived.Test.YtemdhiejbncafaaJe
set_option linter.all false
section
namespace Go.Proofs.Ytemdhiejbncafaa.VM
set_option linter.unusedSectionVars false
open Go AM
set_option linter.unusedVariables false
set_option linter.unusedSimpArgs false
theorem jline_tok {l : Bool} {x : Tk × Int} (h : x.2 = 0) (h4 : x.1.1 ≠ 4) : jline l [x] = some false := by
  rw [jline, if_pos ⟨h, fun e => h4 e.2⟩, decide_eq_false h4]
  rfl
theorem jline_line : jline false [tkOf lineT] = some true := rfl
structure Cutd (pos : Nat) (line : Bool) (out : List T) : Prop where
  tks : ∀ x ∈ out, IsTok x
  ln : out ≠ [] → jline true (out.map tkOf) = some false
  wt : wtJ (out.map tkOf) + (if line then 1 else 0) ≤ 2 * pos
theorem Cutd.add {pos n : Nat} {line : Bool} {out : List T} (h : Cutd pos line out) {s : List UInt8} {k v : Int} (hs : tok s = some (k, v)) (hn : s.length = n) :
    Cutd (pos + n) false ((bif line && !out.isEmpty then out ++ [lineT] else out) ++ [tokT ⟨⟨s⟩⟩ k v]) := by
  obtain ⟨h4, b, t, hb, _⟩ := tok_kinds hs
  have hpos : 0 < n := by rw [← hn, hb]; simp
  have hchk : (tkOf (tokT ⟨⟨s⟩⟩ k v)).2 = 0 := by
    show chkE (k, ⟨⟨s⟩⟩, v) = 0
    unfold chkE
    have : decide (tok s = some (k, v)) = true := decide_eq_true hs
    show (bif (decide (k = 4) && _) || decide (tok s = some (k, v)) then (0 : Int) else 1) = 0
    rw [this, Bool.or_true]
    rfl
  have hsz : (⟨⟨s⟩⟩ : ByteArray).size = n := hn
  have w1 : ∀ a : List T, wtJ ((a ++ [tokT ⟨⟨s⟩⟩ k v]).map tkOf) = wtJ (a.map tkOf) + (n + 1) := by
    intro a
    unfold wtJ
    simp [tkOf_tok, hsz]
  have w2 : ∀ a : List T, wtJ ((a ++ [lineT]).map tkOf) = wtJ (a.map tkOf) + 1 := by
    intro a
    unfold wtJ
    simp [tkOf, lineT]
  have hw := h.wt
  refine ⟨fun x hx => ?_, fun _ => ?_, ?_⟩
  · rcases List.mem_append.1 hx with hx | hx
    · cases hl : line && !out.isEmpty <;> rw [hl] at hx <;> simp only [cond_true, cond_false] at hx
      · exact h.tks x hx
      · rcases List.mem_append.1 hx with hx | hx
        · exact h.tks x hx
        · exact ⟨_, _, _, by simpa [lineT, tokT] using hx⟩
    · exact ⟨_, _, _, by simpa using hx⟩
  · have h5 : (tkOf (tokT ⟨⟨s⟩⟩ k v)).1.1 ≠ 4 := h4
    cases out with
    | nil =>
      have : (bif line && !([] : List T).isEmpty then [] ++ [lineT] else ([] : List T)) = [] := by cases line <;> rfl
      rw [this]
      exact jline_tok hchk h5
    | cons x out =>
      have hj := h.ln (by simp)
      cases line with
      | false =>
        rw [List.map_append, jline_app]
        show (jline true ((x :: out).map tkOf)).bind _ = _
        rw [hj]
        exact jline_tok hchk h5
      | true =>
        rw [List.map_append, jline_app]
        show (jline true ((x :: out ++ [lineT]).map tkOf)).bind _ = _
        rw [List.map_append, jline_app, hj]
        show (jline false [tkOf lineT]).bind _ = _
        rw [jline_line]
        exact jline_tok hchk h5
  · rw [w1]
    cases hl : line && !out.isEmpty with
    | false => simp only [cond_false]; simp; split at hw <;> omega
    | true =>
      have : line = true := by cases line; cases hl; rfl
      subst this
      simp only [cond_true]
      rw [w2]
      simp at hw ⊢
      omega
theorem cut_cutd : ∀ (f : Nat) (l : List UInt8) (pos : Nat) (line : Bool) (out : List T), Cutd pos line out → ∀ {ln : Bool} {o : List T}, cutE f l pos line out = .ok ln o → Cutd (pos + l.length) ln o
  | 0, l, pos, line, out, h, ln, o, he => by cases he
  | f + 1, [], pos, line, out, h, ln, o, he => by cases he; exact h
  | f + 1, b :: t, pos, line, out, h, ln, o, he => by
    rw [cutE] at he
    have hle := stepN_le (b :: t)
    have hp := stepN_pos b t
    split at he
    · cases he
    · rename_i l' o' hs
      have h2 : Cutd (pos + stepN (b :: t)) l' o' := by
        unfold stepO at hs
        dsimp only at hs
        revert hs
        have blank : ∀ l2, (l2 = true ∨ l2 = line) → Cutd (pos + stepN (b :: t)) l2 out := fun l2 h2 => ⟨h.tks, h.ln, by
          have := h.wt
          rcases h2 with rfl | rfl <;> split <;> (try split at this) <;> omega⟩
        cases decide (b = 10) with
        | true => intro hs; cases hs; exact blank true (.inl rfl)
        | false =>
          cases decide (b = 32) || decide (b = 9) with
          | true => intro hs; cases hs; exact blank _ (.inr rfl)
          | false =>
            cases decide (b = 35) with
            | true => intro hs; cases hs; exact blank _ (.inr rfl)
            | false =>
              intro hs
              simp only [cond_false] at hs
              split at hs
              · cases hs
              · rename_i k v ht
                cases hs
                exact h.add ht (by rw [List.length_take]; omega)
      have := cut_cutd f _ _ _ _ h2 he
      have e : pos + stepN (b :: t) + ((b :: t).drop (stepN (b :: t))).length = pos + (b :: t).length := by rw [List.length_drop]; omega
      rwa [e] at this
abbrev tokTy : List Ty1 := [.list [.int .i64, .str, .int .i64] true]
theorem toks_of {x : T} (h : FitT tokTy false x) : ∃ z l, x = .list 3 z l ∧ (z = false → l = []) ∧ (∀ y ∈ l, IsTok y) ∧ l.length ≤ maxLen := by
  obtain ⟨ts, rfl, h⟩ := h
  unfold fits at h
  obtain ⟨t, r, rfl, h1, h2⟩ := h
  unfold fits at h2
  subst h2
  unfold fit1 at h1
  obtain ⟨z, l, rfl, h3, h4, h5⟩ := h1
  refine ⟨z, l, rfl, h4, fun y hy => ?_, h3⟩
  obtain ⟨ts, rfl, h6⟩ := h5 y hy
  unfold fits at h6
  obtain ⟨a, r1, rfl, ha, h6⟩ := h6
  unfold fits at h6
  obtain ⟨b, r2, rfl, hb, h6⟩ := h6
  unfold fits at h6
  obtain ⟨c, r3, rfl, hc, h6⟩ := h6
  unfold fits at h6
  subst h6
  unfold fit1 at ha hb hc
  obtain ⟨n, rfl, _⟩ := ha
  obtain ⟨s, rfl, _⟩ := hb
  obtain ⟨m, rfl, _⟩ := hc
  exact ⟨s, n, m, rfl⟩
def fewB (l : List T) : Bool := (l.all fun t => decide ((tkS t).size ≤ 1000)) && decide (l.length ≤ 5000)
theorem L21_spec (z z2 : Bool) (l : List T) (hl : ∀ y ∈ l, IsTok y) (hb : l.length ≤ 9223372036854775807) : ∀ (m i : Nat), m + i = l.length → L21_2 z l z2 l (l.length : Int) (i : Int) = some (.t (.bool (((l.drop i).all fun t => decide ((tkS t).size ≤ 1000)) && decide (l.length ≤ 5000))), e0)
  | 0, i, h => by
    have h1 : decide ((i : Int) < (l.length : Int)) = false := decide_eq_false (by omega)
    have h2 : decide ((l.length : Int) ≤ 5000) = decide (l.length ≤ 5000) := by simp; omega
    rw [L21_2_eq, RL21_2, h1, cf, h2, List.drop_of_length_le (by omega)]
    rfl
  | m + 1, i, h => by
    have h1 : decide ((i : Int) < (l.length : Int)) = true := decide_eq_true (by omega)
    have h2 : decide ((0 : Int) ≤ (i : Int)) = true := decide_eq_true (by omega)
    have hw : IntKind.i64.wrap ((i : Int) + 1) = ((i + 1 : Nat) : Int) := by rw [wrap64 (by omega) (by omega)]; simp
    rw [L21_2_eq, RL21_2, h1, ct, h2, needC_t, Int.toNat_natCast, hw]
    obtain ⟨s, k, v, g1, g2, g3⟩ := getT_tok (R := V × St) (l := l) (i := i) (by omega) hl _
    rw [g3, drop_at g1, List.all_cons]
    unfold tokT
    rw [asA_agg, consT_cons, asI_int, consT_cons, asS_str, consT_cons, asI_int, endT_nil]
    have e1 : decide ((tkS (.agg [.int .i64 k, .str s, .int .i64 v])).size ≤ 1000) = !decide (1000 < (s.size : Int)) := by
      show decide (s.size ≤ 1000) = _
      rw [← decide_not]
      exact decide_eq_decide.2 (by omega)
    rw [e1]
    cases decide (1000 < (s.size : Int)) with
    | true => rfl
    | false => rw [cf, L21_spec z z2 l hl hb m (i + 1) (by omega)]; rfl
theorem few21 (z : Bool) (l : List T) (hl : ∀ y ∈ l, IsTok y) (hb : l.length ≤ 9223372036854775807) : vr 21 0 [.t (.list 3 z l)] e0 = some (.t (.bool (fewB l)), e0) := by
  rw [eq21, R21]
  exact L21_spec z z l hl hb l.length 0 (by omega)
theorem L14_self (z1 z2 : Bool) (l : List T) (hl : ∀ x ∈ l, IsTok x) (hs : l.length ≤ 9223372036854775806) : ∀ (m i : Nat), m + i = l.length → L14_4 z1 l z2 l (l.length : Int) (i : Int) = some (.t (.bool true), e0)
  | 0, i, h => by
    have h1 : decide ((i : Int) < (l.length : Int)) = false := decide_eq_false (by omega)
    rw [L14_4_eq, RL14_4, h1, cf]
  | m + 1, i, h => by
    have h1 : decide ((i : Int) < (l.length : Int)) = true := decide_eq_true (by omega)
    have h2 : decide ((0 : Int) ≤ (i : Int)) = true := decide_eq_true (by omega)
    have hto : ((i : Int)).toNat = i := by omega
    have hw : IntKind.i64.wrap ((i : Int) + 1) = ((i + 1 : Nat) : Int) := by rw [wrap64 (by omega) (by omega)]; simp
    obtain ⟨s, k, v, hx⟩ := hl _ (List.getElem_mem (l := l) (n := i) (by omega))
    have hg : l[i]? = some (tokT s k v) := by rw [List.getElem?_eq_getElem (by omega), hx]
    rw [L14_4_eq, RL14_4, h1, ct, h2, needC_t, hto, hw, L14_self z1 z2 l hl hs m (i + 1) (by omega)]
    unfold getT
    rw [hg]
    simp [tokT, asA, consT, asI, asS, endT, needC]
theorem same14 (z1 z2 : Bool) (l : List T) (hl : ∀ x ∈ l, IsTok x) (hs : l.length ≤ 9223372036854775806) : vr 14 0 [.t (.list 3 z1 l), .t (.list 3 z2 l)] e0 = some (.t (.bool true), e0) := by
  rw [eq14, R14]
  have h1 : decide ((l.length : Int) = (l.length : Int)) = true := decide_eq_true rfl
  rw [h1, Bool.not_true, cf]
  exact L14_self z1 z2 l hl hs l.length 0 (by omega)
theorem live_cut : cutOf ⟨#[65, 91, 105, 93, 32, 61, 32, 50]⟩ = .tup [.t (.list 3 true [tokT ⟨#[65]⟩ 1 0, tokT ⟨#[91]⟩ 3 0, tokT ⟨#[105]⟩ 1 0, tokT ⟨#[93]⟩ 3 0, tokT ⟨#[61]⟩ 3 0, tokT ⟨#[50]⟩ 2 2]), .t (.int .i64 8), .t (.int .i64 0)] := by kernel_rfl
theorem live11 : vr 11 0 [] e0 = some (.t (.bool true), e0) := by
  rw [eq11, R11, cut12, live_cut]
  kernel_rfl
theorem un_tk {l : List T} (h : ∀ x ∈ l, IsTok x) : (l.map tkOf).map unTk = l := by
  induction l with
  | nil => rfl
  | cons x l ih =>
    obtain ⟨s, k, v, rfl⟩ := h x (List.mem_cons_self ..)
    rw [List.map_cons, List.map_cons, ih fun y hy => h y (List.mem_cons_of_mem _ hy)]
    rfl
theorem chk_of (l : List T) (h : ∀ x ∈ l, IsTok x) : ChkOk (l.map tkOf) := fun y hy => by
  obtain ⟨x, hx, rfl⟩ := List.mem_map.1 hy
  obtain ⟨s, k, v, rfl⟩ := h x hx
  rfl
theorem cut_of_join {l : List T} (h : ∀ x ∈ l, IsTok x) (hj : (joinE (l.map tkOf)).2 = 0) (hs : (joinE (l.map tkOf)).1.length ≤ 65536) :
    cutOf ⟨(joinE (l.map tkOf)).1.toArray⟩ = .tup [.t (.list 3 (!l.isEmpty) l), .t (.int .i64 ((joinE (l.map tkOf)).1.length : Int)), .t (.int .i64 0)] := by
  obtain ⟨h1, h2, h3⟩ := cut_join (l.map tkOf) (chk_of l h) hj ((joinE (l.map tkOf)).1.length + 1) (by
    obtain ⟨_, h2, _⟩ := cut_join (l.map tkOf) (chk_of l h) hj _ (Nat.lt_succ_self _)
    rw [h2]; omega)
  rw [List.length_map] at h3
  rw [un_tk h, ← h2] at h1
  have hz : (⟨(joinE (l.map tkOf)).1.toArray⟩ : ByteArray).size = (joinE (l.map tkOf)).1.length := by simp [ByteArray.size]
  have hd : (⟨(joinE (l.map tkOf)).1.toArray⟩ : ByteArray).data.toList = (joinE (l.map tkOf)).1 := by simp
  unfold cutOf
  rw [hz, hd, decide_eq_false (by omega), cf, cutE_toR, h1]
  unfold CutE.toR cutV
  dsimp only
  rw [decide_eq_false (by omega), cf]
theorem joinE_small {l : List (Tk × Int)} (h : (joinE l).2 = 0) : (joinE l).1 = jtext [] l := by
  unfold joinE at h ⊢
  split
  · rename_i e; rw [e] at h; cases h
  · rename_i b e
    rw [e] at h
    dsimp only at h ⊢
    split at h
    · cases h
    · rename_i h1
      split at h
      · cases h
      · rename_i h2
        rw [if_neg h1, if_neg h2]
theorem joinOk_of {l : List (Tk × Int)} (h1 : l.length ≤ 140737488355328) (h2 : wtJ l ≤ 140737488355328) : joinOk l = true := by
  unfold joinOk
  have := jtext_len l [] (by simp)
  rw [decide_eq_true h1, decide_eq_true (p := (jtext [] l).length ≤ 140737488355328) (by simp at this; omega), Bool.or_true]
  rfl
theorem few_wt : ∀ (l : List T), (l.all fun t => decide ((tkS t).size ≤ 1000)) = true → (∀ x ∈ l, IsTok x) → wtJ (l.map tkOf) ≤ 1001 * l.length
  | [], _, _ => by simp [wtJ]
  | x :: l, h, ht => by
    obtain ⟨s, k, v, rfl⟩ := ht x (List.mem_cons_self ..)
    rw [List.all_cons, Bool.and_eq_true] at h
    have h1 : s.size ≤ 1000 := of_decide_eq_true h.1
    have ih := few_wt l h.2 fun y hy => ht y (List.mem_cons_of_mem _ hy)
    have e : wtJ ((tokT s k v :: l).map tkOf) = s.size + 1 + wtJ (l.map tkOf) := by simp [wtJ, tkOf_tok]
    rw [e, List.length_cons]
    omega
theorem cutE_errpos : ∀ (f : Nat) (l : List UInt8) (pos : Nat) (line : Bool) (out : List T) {p : Nat}, cutE f l pos line out = .err p → l.length < f → p ≤ pos + l.length
  | 0, l, pos, line, out, p, h, hf => by omega
  | f + 1, [], pos, line, out, p, h, hf => by cases h
  | f + 1, b :: t, pos, line, out, p, h, hf => by
    rw [cutE] at h
    have hle := stepN_le (b :: t)
    have hp := stepN_pos b t
    split at h
    · cases h; omega
    · have := cutE_errpos f _ _ _ _ h (by rw [List.length_drop]; omega)
      rw [List.length_drop] at this
      omega
theorem cut_form (s : ByteArray) (hs : s.size ≤ 65536) : (∃ p, cutOf s = .tup [.t (.list 3 false []), .t (.int .i64 (p : Int)), .t (.int .i64 6)] ∧ p ≤ s.size) ∨ cutOf s = .tup [.t (.list 3 false []), .t (.int .i64 0), .t (.int .i64 2)] ∨
    ∃ l ln, cutOf s = .tup [.t (.list 3 (!l.isEmpty) l), .t (.int .i64 (s.size : Int)), .t (.int .i64 0)] ∧ l.length ≤ 4096 ∧ Cutd s.size ln l := by
  unfold cutOf
  rw [decide_eq_false (by omega), cf, cutE_toR]
  cases h : cutE (s.size + 1) s.data.toList 0 false [] with
  | err p => exact .inl ⟨p, rfl, by have := cutE_errpos _ _ _ _ _ h (by rw [size_list]; omega); rw [size_list] at this; omega⟩
  | ok ln o =>
    have hc := cut_cutd _ _ _ _ _ ⟨fun x hx => (by cases hx), fun h => absurd rfl h, by simp [wtJ]⟩ h
    rw [size_list, Nat.zero_add] at hc
    show _ ∨ cutV s.size (.ok o) = _ ∨ ∃ l ln, cutV s.size (.ok o) = _ ∧ _
    unfold cutV
    dsimp only
    cases h4 : decide (4096 < o.length) with
    | true => exact .inr (.inl rfl)
    | false => exact .inr (.inr ⟨o, ln, rfl, by have := of_decide_eq_false h4; omega, hc⟩)
theorem back_tail (s : ByteArray) (hs : s.size ≤ 20000) : J9_11 s true = some (.t (.bool true), e0) := by
  rw [J9_11_eq, RJ9_11, cut12]
  rcases cut_form s (by omega) with ⟨p, h, hp⟩ | h | ⟨l, ln, h, hl, hc⟩
  · rw [h]
    simp only [callK_some, asT_t, asI_int, asB_bool, asS_str, asL_list, asA_agg, consT_cons, endT_nil, asG_agg, asTup_tup, consV_cons, endV_nil, endB_nil, consB_cons, asArr_arr, asAv_av, asMp_map, asVar_var, isBuf_buf, isPtr_ptr, needC_t, ct, cf, bNT, bNF, bTA, bAT, bFA, bAF, bTO, bOT, bFO, bOF, dT, dF, asL_list, asI_int]
    simp
    omega
  · rw [h]
    simp only [callK_some, asT_t, asI_int, asB_bool, asS_str, asL_list, asA_agg, consT_cons, endT_nil, asG_agg, asTup_tup, consV_cons, endV_nil, endB_nil, consB_cons, asArr_arr, asAv_av, asMp_map, asVar_var, isBuf_buf, isPtr_ptr, needC_t, ct, cf, bNT, bNF, bTA, bAT, bFA, bAF, bTO, bOT, bFO, bOF, dT, dF, asL_list, asI_int]
    simp
  · have hw := hc.wt
    have hk : joinOk (l.map tkOf) = true := joinOk_of (by simp; omega) (by omega)
    have hj : (joinE (l.map tkOf)).2 = 0 := by
      unfold joinE
      by_cases h0 : l = []
      · subst h0; rfl
      · rw [hc.ln h0]
        dsimp only
        rw [if_neg (by simp), if_neg (by simp; omega)]
    have hlen : (joinE (l.map tkOf)).1.length ≤ 65536 := by
      rw [joinE_small hj]
      have := jtext_len (l.map tkOf) [] (by simp)
      simp at this
      omega
    rw [h]
    simp only [callK_some, asTup_tup, consV_cons, asT_t, asL_list, asI_int, endV_nil, endB_nil]
    rw [join23 _ l hc.tks hk]
    simp only [callK_some, asTup_tup, consV_cons, asT_t, asS_str, asI_int, endV_nil, endB_nil]
    rw [cut12, cut_of_join hc.tks hj hlen]
    simp only [callK_some, asTup_tup, consV_cons, asT_t, asL_list, asI_int, endV_nil, endB_nil]
    rw [same14 _ _ l hc.tks (by omega), hj]
    simp [callK_some, asT_t, asB_bool, endB_nil]
theorem back_spec (x0 : T) (f0 : FitT tokTy false x0) (s : ByteArray) (ws : s.size ≤ 140737488351232) : ∃ st, vr 9 0 [.t x0, .t (.str s)] ⟨[], []⟩ = some (.t (.bool true), st) := by
  refine ⟨e0, ?_⟩
  obtain ⟨z, l, rfl, hz, hl, hb⟩ := toks_of f0
  have hmax : maxLen ≤ 9223372036854775807 := by unfold maxLen; decide
  rw [eq9, R9, live11, few21 z l hl (by omega)]
  simp only [callK_some, asT_t, asB_bool, endB_nil]
  cases hf : fewB l with
  | false => rw [bNF, ct]
  | true =>
    rw [bNT, cf]
    by_cases hs : s.size ≤ 20000
    · rw [decide_eq_false (by omega), cf]
      unfold fewB at hf
      rw [Bool.and_eq_true] at hf
      have hl5 : l.length ≤ 5000 := of_decide_eq_true hf.2
      have hw := few_wt l hf.1 hl
      have hk : joinOk (l.map tkOf) = true := joinOk_of (by simp; omega) (by omega)
      rw [join23 z l hl hk]
      simp only [callK_some, asTup_tup, consV_cons, asT_t, asS_str, asI_int, endV_nil, endB_nil]
      by_cases hj : (joinE (l.map tkOf)).2 = 0
      · rw [decide_eq_true hj, ct]
        have hz2 : (⟨(joinE (l.map tkOf)).1.toArray⟩ : ByteArray).size = (joinE (l.map tkOf)).1.length := by simp [ByteArray.size]
        rw [hz2]
        by_cases h6 : (joinE (l.map tkOf)).1.length ≤ 60000
        · rw [decide_eq_false (by omega), cf, cut12, cut_of_join hl hj (by omega)]
          simp only [callK_some, asTup_tup, consV_cons, asT_t, asL_list, asI_int, endV_nil, endB_nil]
          rw [same14 _ _ l hl (by omega)]
          simp only [callK_some, asT_t, asB_bool, endB_nil, decide_true, Bool.not_true, cf]
          exact back_tail s hs
        · rw [decide_eq_true (by omega), ct]
      · rw [decide_eq_false hj, cf]
        exact back_tail s hs
    · rw [decide_eq_true (by omega), ct]
end Go.Proofs.Ytemdhiejbncafaa.VM
end
