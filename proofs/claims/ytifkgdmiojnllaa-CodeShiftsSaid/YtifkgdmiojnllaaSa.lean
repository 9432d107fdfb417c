/- Merged: Sa1 Sa2. Conditions: none. -/
import Derived.Test.YtifkgdmiojnllaaRd
set_option linter.all false
section
namespace Go.Proofs.Ytifkgdmiojnllaa.VM
set_option linter.unusedSectionVars false
open Go AM
abbrev ints (l : List Int) : List T := l.map (.int .i64 ·)
def cond1 (c : Bool) (v : Int) : List Int := bif c then [v] else []
def readsL (x : Ins) : List Int := cond1 (decide ((shOf x.op).k0 = 2)) x.a ++ (cond1 (decide ((shOf x.op).k1 = 2)) x.b ++ cond1 (decide ((shOf x.op).k2 = 2)) x.c)
/-- Numbers that a call makes. -/
abbrev bufSt (l : List Int) : St := ⟨[(500, .arr true 1 (!l.isEmpty) (ints l))], [500]⟩
theorem reads15 (x : Ins) : vr 15 0 [.t (insT x)] e0 = some (.buf 500, bufSt (readsL x)) := by
  unfold insT
  rw [eq15, R15, of38, callK_some]
  unfold readsL
  generalize shOf x.op = s
  unfold shT
  rw [asTup_tup, consV_cons, asT_t, asA_agg, consT_cons, asS_str, consT_cons, asI_int, consT_cons, asI_int, consT_cons, asI_int, endT_nil, consV_cons, asT_t, asB_bool, endV_nil, endB_nil]
  rw [eq39, R39, callK_some, asG_agg, consV_cons, isPtr_ptr, consV_cons, isPtr_ptr, consV_cons, isPtr_ptr, endV_nil, consB_cons, asVar_var, consV_cons, asT_t, asI_int, consV_cons, asT_t, asI_int, consV_cons, asT_t, asI_int, consV_cons, asT_t, asI_int, consV_cons, asT_t, asI_int, endV_nil, endB_nil]
  cases decide (s.k0 = 2) <;> cases decide (s.k1 = 2) <;> cases decide (s.k2 = 2) <;> rfl
def writesB (x : Ins) : Bool := decide ((shOf x.op).k0 = 1)
theorem writes16 (x : Ins) : vr 16 0 [.t (insT x)] e0 = some (.tup [.t (.int .i64 (bif writesB x then x.a else 0)), .t (.bool (writesB x))], e0) := by
  unfold insT
  rw [eq16, R16, of38, callK_some]
  unfold writesB
  generalize shOf x.op = s
  unfold shT
  rw [asTup_tup, consV_cons, asT_t, asA_agg, consT_cons, asS_str, consT_cons, asI_int, consT_cons, asI_int, consT_cons, asI_int, endT_nil, consV_cons, asT_t, asB_bool, endV_nil, endB_nil]
  cases decide (s.k0 = 1) <;> rfl
def nextL (x : Ins) (at_ : Int) : List Int :=
  bif !isOp x.op || decide (x.op = 0) then [] else bif decide (x.op = 10) then [x.a] else bif decide (x.op = 11) || decide (x.op = 12) then [IntKind.i64.wrap (at_ + 1), x.c] else [IntKind.i64.wrap (at_ + 1)]
theorem next17 (x : Ins) (at_ : Int) : vr 17 0 [.t (insT x), .t (.int .i64 at_)] e0 = some (.buf 500, bufSt (nextL x at_)) := by
  unfold insT
  rw [eq17, R17, of38, callK_some]
  unfold nextL
  generalize shOf x.op = s
  unfold shT
  rw [asTup_tup, consV_cons, asT_t, asA_agg, consT_cons, asS_str, consT_cons, asI_int, consT_cons, asI_int, consT_cons, asI_int, endT_nil, consV_cons, asT_t, asB_bool, endV_nil, endB_nil]
  cases isOp x.op <;> cases decide (x.op = 0) <;> cases decide (x.op = 10) <;> cases decide (x.op = 11) <;> cases decide (x.op = 12) <;> rfl
/-- The registers that an instruction asks for, and sets. -/
def regsL (x : Ins) : List Int := readsL x ++ cond1 (writesB x) x.a
theorem shape_cases (op : Int) : ((shOf op).k0, (shOf op).k1, (shOf op).k2) ∈ [((0 : Int), (0 : Int), (0 : Int)), (1, 5, 0), (1, 2, 0), (1, 2, 2), (1, 3, 2), (3, 2, 2), (1, 3, 0), (3, 2, 0), (4, 0, 0), (2, 2, 4)] := by
  rcases sh_cases op with h | h
  · rw [h.2]; simp [sh0]
  · have h := h.2
    generalize shOf op = s at h ⊢
    simp only [shL, List.mem_cons, List.not_mem_nil, or_false] at h
    rcases h with rfl | rfl | rfl | rfl | rfl | rfl | rfl | rfl | rfl | rfl | rfl | rfl | rfl <;> simp
abbrev codeTy : List Ty1 := [.int .i64, .int .i64, .int .i64, .list [.int .i64, .int .i64, .int .i64, .int .i64, .int .i64] true]
theorem ins_of {x : T} {ts : List T} (h : fits [.int .i64, .int .i64, .int .i64, .int .i64, .int .i64] ts) : ∃ y : Ins, T.agg ts = insT y ∧ (Lit.int .i64 y.op).wf = true ∧ (Lit.int .i64 y.a).wf = true ∧ (Lit.int .i64 y.b).wf = true ∧ (Lit.int .i64 y.c).wf = true ∧ (Lit.int .i64 y.n).wf = true := by
  unfold fits at h
  obtain ⟨a, r, rfl, ha, h⟩ := h
  unfold fits at h
  obtain ⟨b, r, rfl, hb, h⟩ := h
  unfold fits at h
  obtain ⟨c, r, rfl, hc, h⟩ := h
  unfold fits at h
  obtain ⟨d, r, rfl, hd, h⟩ := h
  unfold fits at h
  obtain ⟨e, r, rfl, he, h⟩ := h
  unfold fits at h
  subst h
  unfold fit1 at ha hb hc hd he
  obtain ⟨a, rfl, wa⟩ := ha
  obtain ⟨b, rfl, wb⟩ := hb
  obtain ⟨c, rfl, wc⟩ := hc
  obtain ⟨d, rfl, wd⟩ := hd
  obtain ⟨e, rfl, we⟩ := he
  exact ⟨⟨a, b, c, d, e⟩, rfl, wa, wb, wc, wd, we⟩
theorem list_ins : ∀ (l : List T), (∀ y ∈ l, ∃ x : Ins, y = insT x) → ∃ m : List Ins, l = m.map insT
  | [], _ => ⟨[], rfl⟩
  | y :: l, h => by
    obtain ⟨x, rfl⟩ := h y (by simp)
    obtain ⟨m, rfl⟩ := list_ins l fun z hz => h z (List.mem_cons_of_mem _ hz)
    exact ⟨x :: m, rfl⟩
theorem wf64 {n : Int} (w1 : (Lit.int .i64 n).wf = true) : -9223372036854775808 ≤ n ∧ n < 9223372036854775808 := by
  simp [Lit.wf, IntKind.min, IntKind.max, IntKind.signed, IntKind.bits] at w1
  omega
/-- Code, as it is handed over. -/
theorem code_of {x : T} (h : FitT codeTy true x) : ∃ r a i z l, x = cdT r a i z l ∧ l.length ≤ maxLen ∧ (z = false → l = []) ∧ (-9223372036854775808 ≤ r ∧ r < 9223372036854775808) := by
  obtain ⟨ts, rfl, h⟩ := h
  unfold fits at h
  obtain ⟨r, t, rfl, hr, h⟩ := h
  unfold fits at h
  obtain ⟨a, t, rfl, ha, h⟩ := h
  unfold fits at h
  obtain ⟨i, t, rfl, hi, h⟩ := h
  unfold fits at h
  obtain ⟨l, t, rfl, hl, h⟩ := h
  unfold fits at h
  subst h
  unfold fit1 at hr ha hi hl
  obtain ⟨r, rfl, wr⟩ := hr
  obtain ⟨a, rfl, wa⟩ := ha
  obtain ⟨i, rfl, wi⟩ := hi
  obtain ⟨z, l, rfl, h1, h2, h3⟩ := hl
  obtain ⟨m, rfl⟩ := list_ins l fun y hy => by
    obtain ⟨ts, rfl, h4⟩ := h3 y hy
    obtain ⟨x, hx, _⟩ := ins_of (x := packT true ts) h4
    exact ⟨x, hx⟩
  exact ⟨r, a, i, z, m, rfl, by simpa using h1, fun hz => by simpa using h2 hz, wf64 wr⟩
theorem few13 (r a i : Int) (z : Bool) (l : List Ins) : vr 13 0 [.t (cdT r a i z l)] e0 = some (.t (.bool (decide (l.length ≤ 300))), e0) := by
  unfold cdT
  rw [eq13, R13]
  have : decide (((l.map insT).length : Int) ≤ 300) = decide (l.length ≤ 300) := decide_eq_decide.2 (by rw [List.length_map]; omega)
  rw [this]
theorem live_parse : parseOf ⟨#[99, 111, 100, 101, 32, 49, 32, 48, 32, 48, 10, 104, 97, 108, 116]⟩ = .tup [.t (cdT 1 0 0 true [⟨0, 0, 0, 0, 0⟩]), .t (.int .i64 2), .t (.int .i64 0)] := by kernel_rfl
theorem live9 : vr 9 0 [] e0 = some (.t (.bool true), e0) := by
  have h := check14 1 0 0 true [⟨0, 0, 0, 0, 0⟩]
  have h2 : checkB 1 0 0 [⟨0, 0, 0, 0, 0⟩] = true := by kernel_rfl
  rw [h2] at h
  rw [eq9, R9, parse10, live_parse, callK_some]
  unfold cdT at h ⊢
  rw [asTup_tup, consV_cons, asT_t, asA_agg, consT_cons, asI_int, consT_cons, asI_int, consT_cons, asI_int, consT_cons, asL_list, endT_nil, consV_cons, asT_t, asI_int, consV_cons, asT_t, asI_int, endV_nil, endB_nil, h]
  rfl
end Go.Proofs.Ytifkgdmiojnllaa.VM
end

section
namespace Go.Proofs.Ytifkgdmiojnllaa.VM
set_option linter.unusedSectionVars false
open Go AM
theorem fld_split (r a n : Int) (x : Ins) (h : mayB r a n x = true) : isOp x.op = true ∧ fldOk x.a (lim r a n (shOf x.op).k0) = true ∧ fldOk x.b (lim r a n (shOf x.op).k1) = true ∧ fldOk x.c (lim r a n (shOf x.op).k2) = true := by
  unfold mayB at h
  simp only [Bool.and_eq_true] at h
  exact ⟨h.1, h.2.1, h.2.2.1, h.2.2.2.1⟩
theorem mem_cond1 {c : Bool} {v w : Int} : w ∈ cond1 c v ↔ c = true ∧ w = v := by
  unfold cond1
  cases c <;> simp
theorem mem_regs {x : Ins} {v : Int} : v ∈ regsL x ↔ ((shOf x.op).k0 = 2 ∧ v = x.a) ∨ ((shOf x.op).k1 = 2 ∧ v = x.b) ∨ ((shOf x.op).k2 = 2 ∧ v = x.c) ∨ ((shOf x.op).k0 = 1 ∧ v = x.a) := by
  unfold regsL readsL writesB
  simp only [List.mem_append, mem_cond1, decide_eq_true_eq]
  constructor
  · rintro ((h | h | h) | h)
    · exact .inl h
    · exact .inr (.inl h)
    · exact .inr (.inr (.inl h))
    · exact .inr (.inr (.inr h))
  · rintro (h | h | h | h)
    · exact .inl (.inl h)
    · exact .inl (.inr (.inl h))
    · exact .inl (.inr (.inr h))
    · exact .inr h
theorem lim_reg {r a n k : Int} (h : k = 1 ∨ k = 2) : lim r a n k = r := if_pos h
theorem fldOk_iff {v m : Int} : fldOk v m = true ↔ 0 ≤ v ∧ v < m := by unfold fldOk; simp
theorem regs_in {r a n : Int} {x : Ins} (h : mayB r a n x = true) : ∀ v ∈ regsL x, 0 ≤ v ∧ v < r := by
  obtain ⟨_, h1, h2, h3⟩ := fld_split r a n x h
  intro v hv
  rw [fldOk_iff] at h1 h2 h3
  rcases mem_regs.1 hv with ⟨hk, rfl⟩ | ⟨hk, rfl⟩ | ⟨hk, rfl⟩ | ⟨hk, rfl⟩
  · rwa [lim_reg (.inr hk)] at h1
  · rwa [lim_reg (.inr hk)] at h2
  · rwa [lim_reg (.inr hk)] at h3
  · rwa [lim_reg (.inl hk)] at h1
theorem lim_less (r a n k : Int) (h : ¬ (k = 1 ∨ k = 2)) : lim (r - 1) a n k = lim r a n k := by unfold lim; rw [if_neg h, if_neg h]
theorem may_less {r a n : Int} {x : Ins} (h : mayB r a n x = true) : mayB (r - 1) a n x = true ↔ ∀ v ∈ regsL x, v ≠ r - 1 := by
  constructor
  · intro h2 v hv e
    have := (regs_in h2 v hv).2
    omega
  · intro hne
    have hr := regs_in h
    obtain ⟨h0, h1, h2, h3⟩ := fld_split r a n x h
    have sc := shape_cases x.op
    have one : ∀ (k v : Int), fldOk v (lim r a n k) = true → ((k = 1 ∨ k = 2) → v ∈ regsL x) → fldOk v (lim (r - 1) a n k) = true := by
      intro k v hv hm
      by_cases hk : k = 1 ∨ k = 2
      · have h4 := hr v (hm hk)
        have h5 := hne v (hm hk)
        rw [lim_reg hk, fldOk_iff]
        omega
      · rw [lim_less r a n k hk]; exact hv
    have m0 : ((shOf x.op).k0 = 1 ∨ (shOf x.op).k0 = 2) → x.a ∈ regsL x := fun hk => mem_regs.2 (by
      rcases hk with hk | hk
      · exact .inr (.inr (.inr ⟨hk, rfl⟩))
      · exact .inl ⟨hk, rfl⟩)
    have n1 : (shOf x.op).k1 ≠ 1 ∧ (shOf x.op).k2 ≠ 1 := by
      simp only [List.mem_cons, Prod.mk.injEq, List.not_mem_nil, or_false] at sc
      omega
    have m1 : ((shOf x.op).k1 = 1 ∨ (shOf x.op).k1 = 2) → x.b ∈ regsL x := fun hk => mem_regs.2 (.inr (.inl ⟨by rcases hk with hk | hk; exact absurd hk n1.1; exact hk, rfl⟩))
    have m2 : ((shOf x.op).k2 = 1 ∨ (shOf x.op).k2 = 2) → x.c ∈ regsL x := fun hk => mem_regs.2 (.inr (.inr (.inl ⟨by rcases hk with hk | hk; exact absurd hk n1.2; exact hk, rfl⟩)))
    unfold mayB at h ⊢
    simp only [Bool.and_eq_true] at h ⊢
    exact ⟨h.1, one _ _ h.2.1 m0, one _ _ h.2.2.1 m1, one _ _ h.2.2.2.1 m2, h.2.2.2.2⟩
/-- What is told of code that may be. -/
structure Okc (r a i : Int) (l : List Ins) : Prop where
  r0 : 0 ≤ r
  r1 : r ≤ 128
  a0 : 0 ≤ a
  a1 : a ≤ 128
  i0 : 0 ≤ i
  i1 : i ≤ a
  len0 : l.length ≠ 0
  len : l.length ≤ 4096
  may : ∀ x ∈ l, mayB r a (l.length : Int) x = true
  last : ∀ x, l.getLast? = some x → x.op = 0 ∨ x.op = 10
theorem check_iff (r a i : Int) (l : List Ins) : checkB r a i l = true ↔ Okc r a i l := by
  unfold checkB
  simp only [Bool.and_eq_true, decide_eq_true_eq, Bool.not_eq_true', decide_eq_false_iff_not, List.all_eq_true]
  constructor
  · rintro ⟨h1, h2, h3, h4, h5, h6, h7, h8, h9, h10⟩
    refine ⟨h1, h2, h3, h4, h5, h6, h7, h8, h9, fun x hx => ?_⟩
    rw [hx] at h10
    simpa using h10
  · rintro ⟨h1, h2, h3, h4, h5, h6, h7, h8, h9, h10⟩
    refine ⟨h1, h2, h3, h4, h5, h6, h7, h8, h9, ?_⟩
    cases hl : l.getLast? with
    | none => rw [List.getLast?_eq_none_iff] at hl; subst hl; simp at h7
    | some x => simpa using h10 x hl
theorem next_in {r a i : Int} {l : List Ins} (h : Okc r a i l) {k : Nat} {x : Ins} (hx : l[k]? = some x) : ∀ v ∈ nextL x (k : Int), 0 ≤ v ∧ v < (l.length : Int) := by
  obtain ⟨hk, hx2⟩ := List.getElem?_eq_some_iff.1 hx
  have hlen := h.len
  have hm := h.may x (List.mem_of_getElem? hx)
  obtain ⟨h0, h1, h2, h3⟩ := fld_split r a _ x hm
  have hw : IntKind.i64.wrap ((k : Int) + 1) = ((k + 1 : Nat) : Int) := by rw [wrap64 (by omega) (by omega)]; simp
  -- behind the last one there is none
  have hlast : x.op ≠ 0 → x.op ≠ 10 → k + 1 < l.length := by
    intro e1 e2
    rcases Nat.lt_or_ge (k + 1) l.length with hlt | hge
    · exact hlt
    · have : k = l.length - 1 := by omega
      have hg : l.getLast? = some x := by rw [List.getLast?_eq_getElem?, ← this]; exact hx
      rcases h.last x hg with e | e
      · exact absurd e e1
      · exact absurd e e2
  intro v hv
  unfold nextL at hv
  rw [h0, bNT, bFO] at hv
  by_cases e0 : x.op = 0
  · rw [decide_eq_true e0, ct] at hv; cases hv
  · rw [decide_eq_false e0, cf] at hv
    by_cases e10 : x.op = 10
    · rw [decide_eq_true e10, ct] at hv
      have : v = x.a := by simpa using hv
      subst this
      rw [fldOk_iff, e10] at h1
      exact h1
    · have hk2 := hlast e0 e10
      rw [decide_eq_false e10, cf, hw] at hv
      by_cases e11 : x.op = 11 ∨ x.op = 12
      · have hd : (decide (x.op = 11) || decide (x.op = 12)) = true := by simpa using e11
        rw [hd, ct] at hv
        simp only [List.mem_cons, List.not_mem_nil, or_false] at hv
        rcases hv with rfl | rfl
        · omega
        · rw [fldOk_iff] at h3
          rcases e11 with e | e
          · rw [e] at h3; exact h3
          · rw [e] at h3; exact h3
      · have hd : (decide (x.op = 11) || decide (x.op = 12)) = false := by simpa [not_or] using e11
        rw [hd, cf] at hv
        have : v = ((k + 1 : Nat) : Int) := by simpa using hv
        omega
theorem L4_20_spec (last : Bool) (tz : Bool) (t : List T) (t26 t27 r a i : Int) (z : Bool) (l : List Ins) (nz : Bool) (m : List Int) (hb : m.length ≤ 1000) (hm : ∀ v ∈ m, 0 ≤ v ∧ v < (l.length : Int)) : ∀ (f j : Nat), f + j = m.length →
    L4_20 true last tz t t26 t27 (m.length : Int) (j : Int) r a i z (l.map insT) nz (ints m) = L4_6 true last tz t t26 (IntKind.i64.wrap (t27 + 1)) r a i z (l.map insT)
  | 0, j, h => by
    have d : decide ((j : Int) < (m.length : Int)) = false := decide_eq_false (by omega)
    rw [L4_20_eq, RL4_20, d, cf]
  | f + 1, j, h => by
    have hlt : j < m.length := by omega
    have d : decide ((j : Int) < (m.length : Int)) = true := decide_eq_true (by omega)
    have n0 : (decide (0 ≤ (j : Int)) && decide ((j : Int) < ((ints m).length : Int))) = true := by rw [decide_eq_true (by omega), decide_eq_true (by rw [List.length_map]; omega)]; rfl
    have hw : IntKind.i64.wrap ((j : Int) + 1) = ((j + 1 : Nat) : Int) := by rw [wrap64 (by omega) (by omega)]; simp
    have hg : (ints m)[j]? = some (.int .i64 m[j]) := by rw [List.getElem?_map, List.getElem?_eq_getElem hlt]; rfl
    obtain ⟨v1, v2⟩ := hm m[j] (List.getElem_mem hlt)
    have hl : ((l.map insT).length : Int) = (l.length : Int) := by rw [List.length_map]
    rw [L4_20_eq, RL4_20, d, ct, needC_true n0, Int.toNat_natCast, getT_at hg, asI_int, decide_eq_false (by omega), cf, hl, decide_eq_false (by omega), cf, hw]
    exact L4_20_spec last tz t t26 t27 r a i z l nz m hb hm f (j + 1) (by omega)
theorem L4_13_spec (k : Nat) (tz : Bool) (t : List T) (t26 r a i : Int) (z : Bool) (l : List Ins) (x : Ins) (nz : Bool) (m : List Int) (hb : m.length ≤ 1000) (hr : 0 ≤ r ∧ r ≤ 128) (hm : ∀ v ∈ m, 0 ≤ v ∧ v < r) (hn : ∀ v ∈ nextL x (k : Int), 0 ≤ v ∧ v < (l.length : Int)) : ∀ (f j : Nat) (last : Bool), f + j = m.length →
    L4_13 true last (k : Int) tz t t26 (k : Int) (m.length : Int) (j : Int) r a i z (l.map insT) x.op x.a x.b x.c x.n nz (ints m) = L4_6 true (last || (m.drop j).any fun v => decide (v = r - 1)) tz t t26 (IntKind.i64.wrap ((k : Int) + 1)) r a i z (l.map insT)
  | 0, j, last, h => by
    have d : decide ((j : Int) < (m.length : Int)) = false := decide_eq_false (by omega)
    have hx := next17 x (k : Int)
    unfold insT at hx
    have hl : ((ints (nextL x (k : Int))).length : Int) = ((nextL x (k : Int)).length : Int) := by rw [List.length_map]
    rw [L4_13_eq, RL4_13, d, cf, hx, callK_some, isBuf_buf, consB_cons, asArr_arr, endB_nil, hl, List.drop_of_length_le (by omega)]
    have hnl : (nextL x (k : Int)).length ≤ 1000 := by
      unfold nextL
      cases !isOp x.op || decide (x.op = 0) <;> cases decide (x.op = 10) <;> cases decide (x.op = 11) || decide (x.op = 12) <;> simp
    have := L4_20_spec last tz t t26 (k : Int) r a i z l (!(nextL x (k : Int)).isEmpty) (nextL x (k : Int)) hnl hn (nextL x (k : Int)).length 0 (by omega)
    rw [List.any_nil, bOF]
    exact this
  | f + 1, j, last, h => by
    have hlt : j < m.length := by omega
    have d : decide ((j : Int) < (m.length : Int)) = true := decide_eq_true (by omega)
    have n0 : (decide (0 ≤ (j : Int)) && decide ((j : Int) < ((ints m).length : Int))) = true := by rw [decide_eq_true (by omega), decide_eq_true (by rw [List.length_map]; omega)]; rfl
    have hw : IntKind.i64.wrap ((j : Int) + 1) = ((j + 1 : Nat) : Int) := by rw [wrap64 (by omega) (by omega)]; simp
    have hwr : IntKind.i64.wrap (r - 1) = r - 1 := wrap64 (by omega) (by omega)
    have hg : (ints m)[j]? = some (.int .i64 m[j]) := by rw [List.getElem?_map, List.getElem?_eq_getElem hlt]; rfl
    obtain ⟨v1, v2⟩ := hm m[j] (List.getElem_mem hlt)
    rw [L4_13_eq, RL4_13, d, ct, needC_true n0, Int.toNat_natCast, getT_at hg, asI_int, decide_eq_false (by omega), cf, decide_eq_false (by omega), cf, hw, hwr, List.drop_eq_getElem_cons hlt, List.any_cons]
    cases last with
    | true =>
      rw [ct, L4_13_spec k tz t t26 r a i z l x nz m hb hr hm hn f (j + 1) true (by omega), bTO, bTO]
    | false =>
      rw [cf, L4_13_spec k tz t t26 r a i z l x nz m hb hr hm hn f (j + 1) _ (by omega), bFO]
theorem regs_len (x : Ins) : (regsL x).length ≤ 4 := by
  unfold regsL readsL cond1
  cases decide ((shOf x.op).k0 = 2) <;> cases decide ((shOf x.op).k1 = 2) <;> cases decide ((shOf x.op).k2 = 2) <;> cases writesB x <;> simp
theorem L4_6_spec (r a i : Int) (z : Bool) (l : List Ins) (h : Okc r a i l) : ∀ (f k : Nat) (last : Bool), f + k = l.length →
    L4_6 true last z (l.map insT) ((l.map insT).length : Int) (k : Int) r a i z (l.map insT) =
      some (.t (.bool (checkB (r - 1) a i l == (bif last || (l.drop k).any (fun x => (regsL x).any fun v => decide (v = r - 1)) then false else decide (0 ≤ r - 1)))), e0)
  | 0, k, last, hf => by
    have hr := h.r1
    have hr0 := h.r0
    have hwr : IntKind.i64.wrap (r - 1) = r - 1 := wrap64 (by omega) (by omega)
    have d : decide ((k : Int) < ((l.map insT).length : Int)) = false := decide_eq_false (by rw [List.length_map]; omega)
    have hc := check14 (r - 1) a i z l
    unfold cdT at hc
    rw [L4_6_eq, RL4_6, d, cf, ct, hwr, hc, callK_some, asT_t, asI_int, endB_nil, List.drop_of_length_le (by omega), List.any_nil, bOF]
    cases checkB (r - 1) a i l <;> cases last <;> rfl
  | f + 1, k, last, hf => by
    have hlt : k < l.length := by omega
    have hlen := h.len
    have d : decide ((k : Int) < ((l.map insT).length : Int)) = true := decide_eq_true (by rw [List.length_map]; omega)
    have n0 : decide ((0 : Int) ≤ (k : Int)) = true := decide_eq_true (by omega)
    have hw : IntKind.i64.wrap ((k : Int) + 1) = ((k + 1 : Nat) : Int) := by rw [wrap64 (by omega) (by omega)]; simp
    have hx : l[k]? = some l[k] := List.getElem?_eq_getElem hlt
    have hm := h.may l[k] (List.getElem_mem hlt)
    have hr := reads15 l[k]
    have hwt := writes16 l[k]
    have e : insT l[k] = .agg [.int .i64 l[k].op, .int .i64 l[k].a, .int .i64 l[k].b, .int .i64 l[k].c, .int .i64 l[k].n] := rfl
    have ih := L4_6_spec r a i z l h f (k + 1) (last || (regsL l[k]).any fun v => decide (v = r - 1)) (by omega)
    have hin := L4_13_spec k z (l.map insT) ((l.map insT).length : Int) r a i z l l[k]
    have hgo : ∀ nz m, m = regsL l[k] → L4_13 true last (k : Int) z (l.map insT) ((l.map insT).length : Int) (k : Int) ((ints m).length : Int) 0 r a i z (l.map insT) l[k].op l[k].a l[k].b l[k].c l[k].n nz (ints m) = some (.t (.bool (checkB (r - 1) a i l == (bif (last || (regsL l[k]).any fun v => decide (v = r - 1)) || (l.drop (k + 1)).any (fun x => (regsL x).any fun v => decide (v = r - 1)) then false else decide (0 ≤ r - 1)))), e0) := by
      intro nz m hmm
      subst hmm
      have hlr : ((ints (regsL l[k])).length : Int) = ((regsL l[k]).length : Int) := by rw [List.length_map]
      have := hin nz (regsL l[k]) (by have := regs_len l[k]; omega) ⟨h.r0, h.r1⟩ (regs_in hm) (next_in h hx) (regsL l[k]).length 0 last (by omega)
      have h00 : ((0 : Nat) : Int) = 0 := rfl
      rw [h00, hw, List.drop_zero, ih] at this
      rw [hlr]
      exact this
    rw [L4_6_eq, RL4_6, d, ct, needC_true n0, Int.toNat_natCast, ins_at hlt, e, asA_agg, consT_cons, asI_int, consT_cons, asI_int, consT_cons, asI_int, consT_cons, asI_int, consT_cons, asI_int, endT_nil, ← e, hr, callK_some, isBuf_buf, consB_cons, asArr_arr, endB_nil, hwt, callK_some, asTup_tup, consV_cons, asT_t, asI_int, consV_cons, asT_t, asB_bool, endV_nil, endB_nil]
    rw [List.drop_eq_getElem_cons hlt, List.any_cons, ← Bool.or_assoc]
    have hrl : (readsL l[k]).length ≤ 4 := by have := regs_len l[k]; unfold regsL at this; simp at this; omega
    cases hwb : writesB l[k] with
    | true =>
      have n1 : (decide (((ints (readsL l[k])).length + 1) * (8 + 1) ≤ 70368744177664) && decide (8 ≤ 1048576)) = true := by rw [decide_eq_true (by rw [List.length_map]; omega)]; rfl
      have hm2 : readsL l[k] ++ [l[k].a] = regsL l[k] := by unfold regsL; rw [hwb]; rfl
      rw [ct, needC_true n1, J4_12_eq, RJ4_12]
      have hi : ints (readsL l[k]) ++ ([T.int .i64 (bif true then l[k].a else 0)] : List T) = ints (readsL l[k] ++ [l[k].a]) := by simp
      rw [hi]
      exact hgo _ _ hm2
    | false =>
      have hm2 : readsL l[k] = regsL l[k] := by unfold regsL; rw [hwb]; simp [cond1]
      rw [cf, J4_12_eq, RJ4_12]
      exact hgo _ _ hm2
theorem bends_spec (x0 : T) (f0 : FitT codeTy true x0) : ∃ st, vr 4 0 [.t x0] ⟨[], []⟩ = some (.t (.bool true), st) := by
  obtain ⟨r, a, i, z, l, rfl, _, _, hw1, hw2⟩ := code_of f0
  refine ⟨e0, ?_⟩
  have hf := few13 r a i z l
  have hc := check14 r a i z l
  unfold cdT at hf hc ⊢
  rw [eq4, R4, live9, callK_some, asT_t, asB_bool, endB_nil, hf, callK_some, asT_t, asB_bool, endB_nil]
  cases decide (l.length ≤ 300) with
  | false => rfl
  | true =>
    rw [bNT, cf, hc, callK_some, asT_t, asI_int, endB_nil]
    cases hcb : checkB r a i l with
    | false => rfl
    | true =>
      have h := (check_iff r a i l).1 hcb
      have hs := L4_6_spec r a i z l h l.length 0 false (by omega)
      have h00 : ((0 : Nat) : Int) = 0 := rfl
      have d0 : decide ((bif true then (0 : Int) else 1) = 0) = true := rfl
      rw [h00, List.drop_zero, bFO] at hs
      rw [d0, bNT, cf, hs]
      have hr := h.r1
      have : checkB (r - 1) a i l = (bif l.any (fun x => (regsL x).any fun v => decide (v = r - 1)) then false else decide (0 ≤ r - 1)) := by
        by_cases h0 : 0 ≤ r - 1
        · rw [decide_eq_true h0]
          cases hany : l.any (fun x => (regsL x).any fun v => decide (v = r - 1)) with
          | true =>
            rw [ct]
            cases hcc : checkB (r - 1) a i l with
            | false => rfl
            | true =>
              have h2 := (check_iff _ _ _ _).1 hcc
              rw [List.any_eq_true] at hany
              obtain ⟨x, hx, hx2⟩ := hany
              rw [List.any_eq_true] at hx2
              obtain ⟨v, hv, hv2⟩ := hx2
              exact absurd (of_decide_eq_true hv2) ((may_less (h.may x hx)).1 (h2.may x hx) v hv)
          | false =>
            rw [cf]
            refine (check_iff _ _ _ _).2 ⟨h0, by omega, h.a0, h.a1, h.i0, h.i1, h.len0, h.len, fun x hx => (may_less (h.may x hx)).2 fun v hv e => ?_, h.last⟩
            rw [List.any_eq_false] at hany
            have := hany x hx
            rw [Bool.not_eq_true, List.any_eq_false] at this
            exact this v hv (decide_eq_true e)
        · rw [decide_eq_false h0]
          have : checkB (r - 1) a i l = false := by
            unfold checkB
            rw [decide_eq_false h0]
            rfl
          rw [this]
          cases l.any (fun x => (regsL x).any fun v => decide (v = r - 1)) <;> rfl
      rw [this]
      simp
end Go.Proofs.Ytifkgdmiojnllaa.VM
end
