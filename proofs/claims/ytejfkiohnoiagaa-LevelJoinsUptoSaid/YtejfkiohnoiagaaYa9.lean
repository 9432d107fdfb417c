/- Chapter 04: LevelJoins. Conditions: none. -/
import Derived.Test.YtejfkiohnoiagaaYa
set_option linter.all false
namespace Go.Proofs.Ytejfkiohnoiagaa.VM
set_option linter.unusedSectionVars false
open Go AM
section
variable {k s : Int} {ga gb : List (List Int)}
theorem Good.left (h : Good k s (ga ++ gb)) : Good k s ga := by
  have hl : (ga ++ gb).length = ga.length + gb.length := List.length_append
  refine ⟨by have := h.a1; omega, h.s0, h.s1, ?_, fun hw => ?_, fun hw => ?_, fun hw g hg => h.rng hw g (List.mem_append_left _ hg), fun hk g hg => h.rise hk g (List.mem_append_left _ hg)⟩
  · rcases h.kind with g | g | ⟨g, g'⟩ | g | g
    · exact .inl g
    · exact .inr (.inl g)
    · exact .inr (.inr (.inl ⟨g, fun x hx => g' x (List.mem_append_left _ hx)⟩))
    · exact .inr (.inr (.inr (.inl g)))
    · exact .inr (.inr (.inr (.inr g)))
  · have := h.wh hw
    rw [hl, Int.natCast_add, Int.add_mul] at this
    have := Int.mul_nonneg (by omega : 0 ≤ (gb.length : Int)) h.s0
    omega
  · have := h.many hw
    rw [total_app] at this
    omega
theorem Good.right (h : Good k s (ga ++ gb)) : Good k s gb := by
  have hl : (ga ++ gb).length = ga.length + gb.length := List.length_append
  refine ⟨by have := h.a1; omega, h.s0, h.s1, ?_, fun hw => ?_, fun hw => ?_, fun hw g hg => h.rng hw g (List.mem_append_right _ hg), fun hk g hg => h.rise hk g (List.mem_append_right _ hg)⟩
  · rcases h.kind with g | g | ⟨g, g'⟩ | g | g
    · exact .inl g
    · exact .inr (.inl g)
    · exact .inr (.inr (.inl ⟨g, fun x hx => g' x (List.mem_append_right _ hx)⟩))
    · exact .inr (.inr (.inr (.inl g)))
    · exact .inr (.inr (.inr (.inr g)))
  · have := h.wh hw
    rw [hl, Int.natCast_add, Int.add_mul] at this
    have := Int.mul_nonneg (by omega : 0 ≤ (ga.length : Int)) h.s0
    omega
  · have := h.many hw
    rw [total_app] at this
    omega
/-- How many children the first ones have. -/
def belowG (k s : Int) (gs : List (List Int)) : Nat := if whole k = true then gs.length * s.toNat else total gs
theorem below_made (h : Good k s ga) : belowN k s (mkCrd k ga) (ga.length : Int) = (belowG k s ga : Int) := by
  have hs := h.s0
  unfold belowN belowG
  cases hw : whole k with
  | true =>
    rw [if_pos rfl, if_pos rfl, Int.natCast_mul]
    congr 1; omega
  | false => rw [if_neg (by simp), if_neg (by simp), crd_flat hw, total_flatten]
theorem below_app : belowG k s (ga ++ gb) = belowG k s ga + belowG k s gb := by
  unfold belowG
  rw [total_app, List.length_append, Nat.add_mul]
  split <;> rfl
theorem below_small (h : Good k s ga) : (belowG k s ga : Int) ≤ 1048576 := by
  rw [← below_made h]
  exact (make_good.2 h).2.below
theorem seg_app (h : Good k s (ga ++ gb)) (p : Nat) (hp : p ≤ gb.length) : segA k s (mkPos k (ga ++ gb)) (ga.length + p) = segA k s (mkPos k gb) p + (belowG k s ga : Int) := by
  have hs := h.s0
  cases hw : whole k with
  | true =>
    unfold belowG
    rw [segA_whole hw, segA_whole hw, hw, if_pos rfl, Int.natCast_add, Int.add_mul, Int.natCast_mul]
    have : ((s.toNat : Nat) : Int) = s := by omega
    rw [this]; omega
  | false =>
    unfold belowG
    rw [made_seg h hw _ (by rw [List.length_append]; omega), made_seg h.right hw p hp, hw, if_neg (by simp), List.take_length_add_append, total_app]
    omega
/-- The others stand behind the first, numbered on. -/
theorem kids_app (h : Good k s (ga ++ gb)) (p : Nat) (hp : p < gb.length) : kidL k s (mkPos k (ga ++ gb)) (mkCrd k (ga ++ gb)) (ga.length + p) = (kidL k s (mkPos k gb) (mkCrd k gb) p).map fun q => (q.1, q.2 + (belowG k s ga : Int)) := by
  have v := (make_good.2 h.right).2
  obtain ⟨a, b, ha, hb, hab, hbb, hcb, _⟩ := v.segNat gb.length p hp
  have sa := seg_app h p (by omega)
  have sb := seg_app h (p + 1) (by omega)
  rw [ha, ← Int.natCast_add] at sa
  rw [hb, ← Int.natCast_add, ← Nat.add_assoc] at sb
  have l1 := kidL_len (crd := mkCrd k (ga ++ gb)) (ga.length + p) _ _ sa sb
  have l2 := kidL_len (crd := mkCrd k gb) p a b ha hb
  apply List.ext_getElem?
  intro i
  by_cases hi : i < b - a
  · rw [kidL_at _ _ _ sa sb (by omega), List.getElem?_map, kidL_at p a b ha hb hi]
    have e : ((a + belowG k s ga + i : Nat) : Int) = ((a + i : Nat) : Int) + (belowG k s ga : Int) := by omega
    show some (_, _) = some (_, _)
    rw [← e]
    congr 2
    unfold atOf
    cases hw : whole k with
    | true => rw [if_pos rfl, if_pos rfl]; omega
    | false =>
      rw [if_neg (by simp), if_neg (by simp), Int.toNat_natCast, Int.toNat_natCast, crd_flat hw, crd_flat hw, List.flatten_append]
      have e2 : a + belowG k s ga + i = ga.flatten.length + (a + i) := by
        unfold belowG
        rw [hw, if_neg (by simp), total_flatten]; omega
      rw [e2, nth_app2]
  · rw [List.getElem?_eq_none (by omega), List.getElem?_eq_none (by rw [List.length_map]; omega)]
theorem L424_spec (az : Bool) (A : List T) (bz : Bool) (B : List T) (up cz dz : Bool) (n : Nat) (pl : List (Int × Int)) (hpl : pl.length ≤ 1048576) (hr : ∀ q ∈ pl, 0 ≤ q.2 + (n : Int) ∧ q.2 + (n : Int) ≤ 4611686018427387904) (t132 t133 : Int) (m80 m81 : Int) (m8z : Bool) (m82 : List T) (m83z : Bool) (m83 : List T) (m90 m91 : Int) (m9z : Bool) (m92 : List T) (m93z : Bool) (m93 : List T) : ∀ (m i : Nat), m + i = pl.length →
    L4_24 az A bz B up (n : Int) cz (pl.map fun q => kidT q.1 q.2) dz ((pl.map fun q => (q.1, q.2 + (n : Int))).map fun q => kidT q.1 q.2) t132 t133 (pl.length : Int) (i : Int) m80 m81 m8z m82 m83z m83 m90 m91 m9z m92 m93z m93 = L4_17 az A bz B up (n : Int) t132 (IntKind.i64.wrap (t133 + 1)) m80 m81 m8z m82 m83z m83 m90 m91 m9z m92 m93z m93
  | 0, i, h => by
    have d : decide ((i : Int) < (pl.length : Int)) = false := decide_eq_false (by omega)
    rw [L4_24_eq, RL4_24, d, cf]
  | m + 1, i, h => by
    have d : decide ((i : Int) < (pl.length : Int)) = true := decide_eq_true (by omega)
    have hq : pl[i]? = some (pl[i]'(by omega)) := List.getElem?_eq_getElem (by omega)
    have hm : pl[i]'(by omega) ∈ pl := List.getElem_mem (by omega)
    generalize pl[i]'(by omega) = q at hq hm
    have hq2 : (pl.map fun q => (q.1, q.2 + (n : Int)))[i]? = some (q.1, q.2 + (n : Int)) := by rw [List.getElem?_map, hq]; rfl
    have hw := hr q hm
    have ih := L424_spec az A bz B up cz dz n pl hpl hr t132 t133 m80 m81 m8z m82 m83z m83 m90 m91 m9z m92 m93z m93 m (i + 1) (by omega)
    rw [L4_24_eq, RL4_24, d, ct, needNat, Int.toNat_natCast, getK hq2]
    simp only [callK_some, asT_t, asI_int, asB_bool, asS_str, asL_list, asA_agg, consT_cons, endT_nil, asTup_tup, consV_cons, endV_nil, endB_nil, consB_cons, asArr_arr, asAv_av, asMp_map, asVar_var, isBuf_buf, isPtr_ptr, needC_t, ct, cf, bNT, bNF, bTA, bAT, bFA, bAF, bTO, bOT, bFO, bOF, dT, dF]
    rw [needNat, getK hq]
    simp only [callK_some, asT_t, asI_int, asB_bool, asS_str, asL_list, asA_agg, consT_cons, endT_nil, asTup_tup, consV_cons, endV_nil, endB_nil, consB_cons, asArr_arr, asAv_av, asMp_map, asVar_var, isBuf_buf, isPtr_ptr, needC_t, ct, cf, bNT, bNF, bTA, bAT, bFA, bAF, bTO, bOT, bFO, bOF, dT, dF]
    rw [needNat, getK hq2]
    simp only [callK_some, asT_t, asI_int, asB_bool, asS_str, asL_list, asA_agg, consT_cons, endT_nil, asTup_tup, consV_cons, endV_nil, endB_nil, consB_cons, asArr_arr, asAv_av, asMp_map, asVar_var, isBuf_buf, isPtr_ptr, needC_t, ct, cf, bNT, bNF, bTA, bAT, bFA, bAF, bTO, bOT, bFO, bOF, dT, dF]
    rw [needNat, getK hq]
    simp only [callK_some, asT_t, asI_int, asB_bool, asS_str, asL_list, asA_agg, consT_cons, endT_nil, asTup_tup, consV_cons, endV_nil, endB_nil, consB_cons, asArr_arr, asAv_av, asMp_map, asVar_var, isBuf_buf, isPtr_ptr, needC_t, ct, cf, bNT, bNF, bTA, bAT, bFA, bAF, bTO, bOT, bFO, bOF, dT, dF]
    rw [wrap64 (by omega) (by omega), decide_eq_true rfl, bNT, cf, natWrap (by omega)]
    exact ih
theorem L417_spec (h : Good k s (ga ++ gb)) (hn : ga.length + gb.length ≤ 100) (az : Bool) (A : List T) (bz : Bool) (B : List T) (hA : IsG A ga) (hB : IsG B gb) (hp1 : (mkPos k gb).length ≤ 1000000) (hp2 : (mkPos k (ga ++ gb)).length ≤ 1000000) (pz cz pz2 cz2 : Bool) : ∀ (m p : Nat), m + p = gb.length →
    L4_17 az A bz B true (belowG k s ga : Int) (B.length : Int) (p : Int) k s pz (ints (mkPos k gb)) cz (ints (mkCrd k gb)) k s pz2 (ints (mkPos k (ga ++ gb))) cz2 (ints (mkCrd k (ga ++ gb))) = some (.t (.bool true), e0)
  | 0, p, hm => by
    have hlb := hB.length
    have d : decide ((p : Int) < (B.length : Int)) = false := decide_eq_false (by omega)
    rw [L4_17_eq, RL4_17, d, cf]
  | m + 1, p, hm => by
    have hla := hA.length
    have hlb := hB.length
    have d : decide ((p : Int) < (B.length : Int)) = true := decide_eq_true (by omega)
    have v1 := (make_good.2 h.right).2
    have v2 := (make_good.2 h).2
    have hbs := below_small h.left
    obtain ⟨zz, c1⟩ := children15 (pz := pz) (cz := cz) gb.length v1 (by omega) p (by omega)
    obtain ⟨zz2, c2⟩ := children15 (pz := pz2) (cz := cz2) (ga ++ gb).length v2 (by omega) (ga.length + p) (by rw [List.length_append]; omega)
    obtain ⟨a, b, ha, hb, hab, hbb, hcb, _⟩ := v1.segNat gb.length p (by omega)
    have hkl := kidL_len (crd := mkCrd k gb) p a b ha hb
    have e1 : (B.length : Int) = (gb.length : Int) := by omega
    have e2 : IntKind.i64.wrap ((A.length : Int) + (gb.length : Int)) = ((ga ++ gb).length : Int) := by rw [wrap64 (by omega) (by omega), List.length_append]; omega
    have e3 : IntKind.i64.wrap ((A.length : Int) + (p : Int)) = ((ga.length + p : Nat) : Int) := by rw [wrap64 (by omega) (by omega)]; omega
    have ih := L417_spec h hn az A bz B hA hB hp1 hp2 pz cz pz2 cz2 m (p + 1) (by omega)
    rw [L4_17_eq, RL4_17, d, ct, e1, c1, kids_kidL, callK_some]
    simp only [callK_some, asT_t, asI_int, asB_bool, asS_str, asL_list, asA_agg, consT_cons, endT_nil, asTup_tup, consV_cons, endV_nil, endB_nil, consB_cons, asArr_arr, asAv_av, asMp_map, asVar_var, isBuf_buf, isPtr_ptr, needC_t, ct, cf, bNT, bNF, bTA, bAT, bFA, bAF, bTO, bOT, bFO, bOF, dT, dF]
    rw [e2, e3, c2, kids_kidL, kids_app h p (by omega), callK_some]
    simp only [callK_some, asT_t, asI_int, asB_bool, asS_str, asL_list, asA_agg, consT_cons, endT_nil, asTup_tup, consV_cons, endV_nil, endB_nil, consB_cons, asArr_arr, asAv_av, asMp_map, asVar_var, isBuf_buf, isPtr_ptr, needC_t, ct, cf, bNT, bNF, bTA, bAT, bFA, bAF, bTO, bOT, bFO, bOF, dT, dF]
    rw [List.length_map, List.length_map, List.length_map, decide_eq_true rfl, bNT, cf]
    have hr : ∀ q ∈ kidL k s (mkPos k gb) (mkCrd k gb) p, 0 ≤ q.2 + (belowG k s ga : Int) ∧ q.2 + (belowG k s ga : Int) ≤ 4611686018427387904 := fun q hq => by
      obtain ⟨i, hi, he⟩ := List.mem_iff_getElem.1 hq
      have := kidL_at (crd := mkCrd k gb) p a b ha hb (i := i) (by omega)
      rw [List.getElem?_eq_getElem hi, he] at this
      rw [Option.some.inj this]
      show 0 ≤ ((a + i : Nat) : Int) + _ ∧ ((a + i : Nat) : Int) + _ ≤ _
      omega
    refine Eq.trans (L424_spec az A bz B true zz zz2 (belowG k s ga) (kidL k s (mkPos k gb) (mkCrd k gb) p) (by omega) hr (gb.length : Int) (p : Int) _ _ _ _ _ _ _ _ _ _ _ _ (kidL k s (mkPos k gb) (mkCrd k gb) p).length 0 (by omega)) ?_
    rw [natWrap (by omega), ← e1]
    exact ih
end
theorem pos_small (k : Int) (gs : List (List Int)) (h : gs.length ≤ 1000) : (mkPos k gs).length ≤ 1000000 := by
  by_cases hk : k = 1 ∨ k = 2
  · rw [pos_len hk]; omega
  · rw [pos_none hk]; simp
theorem joins_core (k s : Int) (az : Bool) (A : List T) (ga : List (List Int)) (hA : IsG A ga) (bz : Bool) (B : List T) (gb : List (List Int)) (hB : IsG B gb) (hta : total ga + total gb ≤ 2000000) (hla : ga.length ≤ 1048576) (hlb : gb.length ≤ 1048576) :
    vr 4 0 [.t (.int .i64 k), .t (.int .i64 s), .t (.list 1 az A), .t (.list 1 bz B)] e0 = some (.t (.bool true), e0) := by
  have hA' := hA.length
  have hB' := hB.length
  rw [eq4, R4, live9, callK_some, asT_t, asB_bool, endB_nil, wrap64 (by omega) (by omega)]
  by_cases h1 : 100 < (A.length : Int) + (B.length : Int)
  · rw [decide_eq_true h1, ct]
  rw [decide_eq_false h1, cf]
  have n1 : (decide (A.length * (24 + 1) ≤ 70368744177664) && decide (24 ≤ 1048576)) = true := by rw [decide_eq_true (by omega)]; rfl
  have n2 : (decide ((A.length + B.length) * (24 + 1) ≤ 70368744177664) && decide (24 ≤ 1048576)) = true := by rw [decide_eq_true (by omega)]; rfl
  have m1 := make10 k s az A ga hA (by omega) (by omega)
  have m2 := make10 k s bz B gb hB (by omega) (by omega)
  have m3 := make10 k s ((!A.isEmpty) || (!B.isEmpty)) (A ++ B) (ga ++ gb) (hA.app hB) (by rw [List.length_append]; omega) (by rw [total_app]; omega)
  rcases m1 with ⟨x1, hx1, r1, b1⟩ | ⟨p1, c1, r1, g1⟩ <;> rcases m2 with ⟨x2, hx2, r2, b2⟩ | ⟨p2, c2, r2, g2⟩ <;> rcases m3 with ⟨x3, hx3, r3, b3⟩ | ⟨p3, c3, r3, g3⟩
  case inl.inl.inl =>
    rw [r1, callK_some]; simp only [callK_some, asT_t, asI_int, asB_bool, asS_str, asL_list, asA_agg, consT_cons, endT_nil, asTup_tup, consV_cons, endV_nil, endB_nil, consB_cons, asArr_arr, asAv_av, asMp_map, asVar_var, isBuf_buf, isPtr_ptr, needC_t, ct, cf, bNT, bNF, bTA, bAT, bFA, bAF, bTO, bOT, bFO, bOF, dT, dF]; rw [r2, callK_some]; simp only [callK_some, asT_t, asI_int, asB_bool, asS_str, asL_list, asA_agg, consT_cons, endT_nil, asTup_tup, consV_cons, endV_nil, endB_nil, consB_cons, asArr_arr, asAv_av, asMp_map, asVar_var, isBuf_buf, isPtr_ptr, needC_t, ct, cf, bNT, bNF, bTA, bAT, bFA, bAF, bTO, bOT, bFO, bOF, dT, dF]; rw [needC_true n1, needC_true n2, r3, callK_some]; simp only [callK_some, asT_t, asI_int, asB_bool, asS_str, asL_list, asA_agg, consT_cons, endT_nil, asTup_tup, consV_cons, endV_nil, endB_nil, consB_cons, asArr_arr, asAv_av, asMp_map, asVar_var, isBuf_buf, isPtr_ptr, needC_t, ct, cf, bNT, bNF, bTA, bAT, bFA, bAF, bTO, bOT, bFO, bOF, dT, dF]
    rw [decide_eq_false hx1, decide_eq_false hx3]; rfl
  case inl.inr.inl =>
    rw [r1, callK_some]; simp only [callK_some, asT_t, asI_int, asB_bool, asS_str, asL_list, asA_agg, consT_cons, endT_nil, asTup_tup, consV_cons, endV_nil, endB_nil, consB_cons, asArr_arr, asAv_av, asMp_map, asVar_var, isBuf_buf, isPtr_ptr, needC_t, ct, cf, bNT, bNF, bTA, bAT, bFA, bAF, bTO, bOT, bFO, bOF, dT, dF]; rw [r2, callK_some]; simp only [callK_some, asT_t, asI_int, asB_bool, asS_str, asL_list, asA_agg, consT_cons, endT_nil, asTup_tup, consV_cons, endV_nil, endB_nil, consB_cons, asArr_arr, asAv_av, asMp_map, asVar_var, isBuf_buf, isPtr_ptr, needC_t, ct, cf, bNT, bNF, bTA, bAT, bFA, bAF, bTO, bOT, bFO, bOF, dT, dF]; rw [needC_true n1, needC_true n2, r3, callK_some]; simp only [callK_some, asT_t, asI_int, asB_bool, asS_str, asL_list, asA_agg, consT_cons, endT_nil, asTup_tup, consV_cons, endV_nil, endB_nil, consB_cons, asArr_arr, asAv_av, asMp_map, asVar_var, isBuf_buf, isPtr_ptr, needC_t, ct, cf, bNT, bNF, bTA, bAT, bFA, bAF, bTO, bOT, bFO, bOF, dT, dF]
    rw [decide_eq_false hx1, decide_eq_false hx3]; rfl
  case inr.inl.inl =>
    rw [r1, callK_some]; simp only [callK_some, asT_t, asI_int, asB_bool, asS_str, asL_list, asA_agg, consT_cons, endT_nil, asTup_tup, consV_cons, endV_nil, endB_nil, consB_cons, asArr_arr, asAv_av, asMp_map, asVar_var, isBuf_buf, isPtr_ptr, needC_t, ct, cf, bNT, bNF, bTA, bAT, bFA, bAF, bTO, bOT, bFO, bOF, dT, dF]; rw [r2, callK_some]; simp only [callK_some, asT_t, asI_int, asB_bool, asS_str, asL_list, asA_agg, consT_cons, endT_nil, asTup_tup, consV_cons, endV_nil, endB_nil, consB_cons, asArr_arr, asAv_av, asMp_map, asVar_var, isBuf_buf, isPtr_ptr, needC_t, ct, cf, bNT, bNF, bTA, bAT, bFA, bAF, bTO, bOT, bFO, bOF, dT, dF]; rw [needC_true n1, needC_true n2, r3, callK_some]; simp only [callK_some, asT_t, asI_int, asB_bool, asS_str, asL_list, asA_agg, consT_cons, endT_nil, asTup_tup, consV_cons, endV_nil, endB_nil, consB_cons, asArr_arr, asAv_av, asMp_map, asVar_var, isBuf_buf, isPtr_ptr, needC_t, ct, cf, bNT, bNF, bTA, bAT, bFA, bAF, bTO, bOT, bFO, bOF, dT, dF]
    rw [decide_eq_false hx2, decide_eq_false hx3]; rfl
  case inr.inr.inl =>
    rw [r1, callK_some]; simp only [callK_some, asT_t, asI_int, asB_bool, asS_str, asL_list, asA_agg, consT_cons, endT_nil, asTup_tup, consV_cons, endV_nil, endB_nil, consB_cons, asArr_arr, asAv_av, asMp_map, asVar_var, isBuf_buf, isPtr_ptr, needC_t, ct, cf, bNT, bNF, bTA, bAT, bFA, bAF, bTO, bOT, bFO, bOF, dT, dF]; rw [r2, callK_some]; simp only [callK_some, asT_t, asI_int, asB_bool, asS_str, asL_list, asA_agg, consT_cons, endT_nil, asTup_tup, consV_cons, endV_nil, endB_nil, consB_cons, asArr_arr, asAv_av, asMp_map, asVar_var, isBuf_buf, isPtr_ptr, needC_t, ct, cf, bNT, bNF, bTA, bAT, bFA, bAF, bTO, bOT, bFO, bOF, dT, dF]; rw [needC_true n1, needC_true n2, r3, callK_some]; simp only [callK_some, asT_t, asI_int, asB_bool, asS_str, asL_list, asA_agg, consT_cons, endT_nil, asTup_tup, consV_cons, endV_nil, endB_nil, consB_cons, asArr_arr, asAv_av, asMp_map, asVar_var, isBuf_buf, isPtr_ptr, needC_t, ct, cf, bNT, bNF, bTA, bAT, bFA, bAF, bTO, bOT, bFO, bOF, dT, dF]
    rw [decide_eq_false hx3]; rfl
  case inl.inl.inr => exact absurd (make_good.2 (make_good.1 g3).left) b1
  case inl.inr.inr => exact absurd (make_good.2 (make_good.1 g3).left) b1
  case inr.inl.inr => exact absurd (make_good.2 (make_good.1 g3).right) b2
  case inr.inr.inr =>
    have h := make_good.1 g3
    have q1 := below13 (pz := p1) (cz := c1) ga.length g1.2 (by have := pos_small k ga (by omega); omega)
    have q2 := below13 (pz := p2) (cz := c2) gb.length g2.2 (by have := pos_small k gb (by omega); omega)
    have hp3 := pos_small k (ga ++ gb) (by rw [List.length_append]; omega)
    have q3 := below13 (pz := p3) (cz := c3) (ga ++ gb).length g3.2 (by omega)
    rw [below_made h.left] at q1
    rw [below_made h.right] at q2
    rw [below_made h, below_app] at q3
    have s1 := below_small h.left
    have s2 := below_small h.right
    have e3 : (ga.length : Int) + (gb.length : Int) = ((ga ++ gb).length : Int) := by rw [List.length_append]; omega
    have e4 : ((belowG k s ga + belowG k s gb : Nat) : Int) = IntKind.i64.wrap ((belowG k s ga : Int) + (belowG k s gb : Int)) := by rw [wrap64 (by omega) (by omega)]; omega
    have fin := L417_spec h (by omega) az A bz B hA hB (pos_small k gb (by omega)) hp3 p2 c2 p3 c3 gb.length 0 (by omega)
    rw [r1, callK_some]; simp only [callK_some, asT_t, asI_int, asB_bool, asS_str, asL_list, asA_agg, consT_cons, endT_nil, asTup_tup, consV_cons, endV_nil, endB_nil, consB_cons, asArr_arr, asAv_av, asMp_map, asVar_var, isBuf_buf, isPtr_ptr, needC_t, ct, cf, bNT, bNF, bTA, bAT, bFA, bAF, bTO, bOT, bFO, bOF, dT, dF]; rw [r2, callK_some]; simp only [callK_some, asT_t, asI_int, asB_bool, asS_str, asL_list, asA_agg, consT_cons, endT_nil, asTup_tup, consV_cons, endV_nil, endB_nil, consB_cons, asArr_arr, asAv_av, asMp_map, asVar_var, isBuf_buf, isPtr_ptr, needC_t, ct, cf, bNT, bNF, bTA, bAT, bFA, bAF, bTO, bOT, bFO, bOF, dT, dF]; rw [needC_true n1, needC_true n2, r3, callK_some]; simp only [callK_some, asT_t, asI_int, asB_bool, asS_str, asL_list, asA_agg, consT_cons, endT_nil, asTup_tup, consV_cons, endV_nil, endB_nil, consB_cons, asArr_arr, asAv_av, asMp_map, asVar_var, isBuf_buf, isPtr_ptr, needC_t, ct, cf, bNT, bNF, bTA, bAT, bFA, bAF, bTO, bOT, bFO, bOF, dT, dF]
    rw [hA', q1, callK_some]
    simp only [callK_some, asT_t, asI_int, asB_bool, asS_str, asL_list, asA_agg, consT_cons, endT_nil, asTup_tup, consV_cons, endV_nil, endB_nil, consB_cons, asArr_arr, asAv_av, asMp_map, asVar_var, isBuf_buf, isPtr_ptr, needC_t, ct, cf, bNT, bNF, bTA, bAT, bFA, bAF, bTO, bOT, bFO, bOF, dT, dF]
    rw [hB', q2, callK_some]
    simp only [callK_some, asT_t, asI_int, asB_bool, asS_str, asL_list, asA_agg, consT_cons, endT_nil, asTup_tup, consV_cons, endV_nil, endB_nil, consB_cons, asArr_arr, asAv_av, asMp_map, asVar_var, isBuf_buf, isPtr_ptr, needC_t, ct, cf, bNT, bNF, bTA, bAT, bFA, bAF, bTO, bOT, bFO, bOF, dT, dF]
    rw [e3, q3, callK_some]
    simp only [callK_some, asT_t, asI_int, asB_bool, asS_str, asL_list, asA_agg, consT_cons, endT_nil, asTup_tup, consV_cons, endV_nil, endB_nil, consB_cons, asArr_arr, asAv_av, asMp_map, asVar_var, isBuf_buf, isPtr_ptr, needC_t, ct, cf, bNT, bNF, bTA, bAT, bFA, bAF, bTO, bOT, bFO, bOF, dT, dF]
    rw [decide_eq_true e4, bNT, cf, whole14, callK_some, asT_t, asB_bool, endB_nil]
    rw [hB'] at fin
    cases hw : whole k with
    | false => rw [cf]; exact fin
    | true =>
      rw [ct]
      by_cases hs : 200 < s
      · rw [decide_eq_true hs, ct]
      · rw [decide_eq_false hs, cf]; exact fin
theorem wts_ints : ∀ g : List Int, wts (ints g) = g.length
  | [] => by simp [wts]
  | x :: g => by
    show wts (.int .i64 x :: ints g) = _
    rw [wts, wt, wts_ints g, List.length_cons]; omega
theorem wts_groups {r : List T} {gs : List (List Int)} (h : IsG r gs) : total gs + gs.length ≤ wts r := by
  unfold IsG at h
  induction h with
  | nil => show 0 + 0 ≤ _; omega
  | cons a _ ih =>
    obtain ⟨z, rfl⟩ := a
    rw [wts, wt, wts_ints]
    show _ + total _ + (List.length _ + 1) ≤ _
    omega
theorem joins_upto (k s : Int) (x2 : T) (f2 : FitT grTy false x2) (x3 : T) (f3 : FitT grTy false x3) (hb : wt x2 + wt x3 ≤ 1048576) : ∃ st, vr 4 0 [.t (.int .i64 k), .t (.int .i64 s), .t x2, .t x3] ⟨[], []⟩ = some (.t (.bool true), st) := by
  obtain ⟨az, A, ga, rfl, hA, _⟩ := groups_of f2
  obtain ⟨bz, B, gb, rfl, hB, _⟩ := groups_of f3
  have h1 := wts_groups hA
  have h2 := wts_groups hB
  rw [wt, wt] at hb
  exact ⟨e0, joins_core k s az A ga hA bz B gb hB (by omega) (by omega) (by omega)⟩
end Go.Proofs.Ytejfkiohnoiagaa.VM
